import Derived.Test.YtmdocplknceilaaGreatNWAA
set_option linter.all false
namespace Go.Proofs.YtmdocplknceilaaGreat
section
open Go.RowKit
def mF(ops:Array Oper)(ld:Nat->Bool):Prop:=∀j o,ops[j]?=some o->ld j=true->bj ld o.after.toList
theorem kz{ld:Nat->Bool}{i:Nat}:∀(b:List Edge),bj ld b->bj (bY ld i) b
 | [],_=>trivial
 |e :: b,c=>by
  refine⟨?_,kz b c.2⟩;have d:=c.1;split
  ·rename_i f
   rw[yf f] at d;unfold bY;split
   ·rfl
   ·exact d
  ·trivial
theorem mF.step{ops:Array Oper}{ld:Nat->Bool}{i:Nat}{o:Oper}(d:mF ops ld)(g:ops[i]?=some o)(e:bj ld o.after.toList):mF ops (bY ld i):=by
 intro j k b f
 by_cases c:j=i
 ·subst c
  rw[g] at b;injection b with b;subst b;exact kz _ e
 ·refine kz _ (d j k b ?_)
  simpa[bY,c] using f
def Ex(P:Program)(ops:Array Oper)(Q:Exit->Act->World->Prop)(St:(Nat->Bool)->World->Prop)(V:List (Value->World->Prop))(a:Act)(i:Nat)(o:Oper):Prop:=
 ∀(ld:Nat->Bool) (u:Nat->Value) (w1:World),ld i=false->bj ld o.after.toList->mF ops ld->St ld w1->cL ops V u w1 o.after.toList->
  ∀K:Act->World->Prop,(∀v w2,St (bY ld i) w2->V.getD i (λ_ _=>True) (dN o.dst v) w2->K ((⟨ew ops u a.tmps,a.defers⟩ :Act).put o.dst v) w2)->
   if Region.wanted o (yielded ops (ew ops u a.tmps))=true then o.wp P ⟨ew ops u a.tmps,a.defers⟩ w1 K Q else St (bY ld i) w1/\V.getD i (λ_ _=>True) undef w1
def ls(P:Program)(ops:Array Oper)(Q:Exit->Act->World->Prop)(St:(Nat->Bool)->World->Prop)(V:List (Value->World->Prop))(a:Act):Nat->List Oper->Prop
 |_,[]=>True
 |i,o :: os=>Ex P ops Q St V a i o/\ls P ops Q St V a (i+1) os
section
variable {P:Program}{ops:Array Oper}{Q:Exit->Act->World->Prop}{St:(Nat->Bool)->World->Prop}{V:List (Value->World->Prop)}{a:Act}{w:World}
theorem ls.to:∀(l:List Oper) (k:Nat),(∀i o,l[i]?=some o->ops[k+i]?=some o)->ls P ops Q St V a k l->jN P ops Q (λld y=>mF ops ld/\St ld y) V a k l
 | [],_,_,_=>trivial
 |o :: l,k,g,j=>by
  have s:ops[k]?=some o:=by simpa using g 0 o rfl
  refine⟨λld u z r f c t m q=>?_,ls.to l (k+1) (λi x b=>by
   have:=g (i+1) x (by simpa using b)
   rwa [show k+1+i=k+(i+1) by omega]) j.2⟩
  have e:=c.1.step s f;have b:=j.1 ld u z r f c.1 c.2 t m (λv A n p=>q v A ⟨e,n⟩ p);split at b
  ·rename_i d
   rw[yf d];exact b
  ·rename_i d
   rw[yb d];exact⟨⟨e,b.1⟩,b.2⟩
theorem uE{id:Nat}(g:P.follows .mixedOrders=true)(St:(Nat->Bool)->World->Prop)(V:List (Value->World->Prop))(k:ny ops=true)
 (f:sM (λ_ _=>True) V) (m:St (λ_=>false) w.drew)
 (n:ls P ops Q St V a 0 ops.toList)
 (d:∀u c ld,(∀i,i<ops.size->ld i=true)->St ld c->dP V u c 0 ops.toList->Q .normal ⟨ew ops u a.tmps,a.defers⟩ c):(Code.region id ops true).wp P Q a w:=
 bc g (λld y=>mF ops ld/\St ld y) V k f ⟨(λj o _ b=>by cases b),m⟩ (ls.to ops.toList 0 (λi o b=>by rw[yq];simpa using b) n)
  (λu c ld b e l=>d u c ld b e.2 l)
end
def iI:World->List (Nat×World)->(Nat->Bool)->World->Prop
 |W,[],_,y=>y=W
 |W,(i,W1) :: r,ld,y=>if ld i=true then iI W1 r ld y else(y=W/\∀x∈r,ld x.1=false)
theorem iI.start:∀(W:World) (l:List (Nat×World)),iI W l (λ_=>false) W
 |W,[]=>rfl
 |W,(i,b) :: r=>by simp[iI]
theorem iI.mem:∀{l:List (Nat×World)} {W:World} {ld:Nat->Bool} {y:World},iI W l ld y->y=W\/∃x∈l,ld x.1=true/\y=x.2
 | [],W,ld,y,b=>.inl b
 |(i,g) :: r,W,ld,y,b=>by
  unfold iI at b;split at b
  ·rename_i e
   rcases iI.mem b with rfl|⟨x,f,c,d⟩
   ·exact .inr ⟨(i,y),by simp,e,rfl⟩
   ·exact .inr ⟨x,by simp[f],c,d⟩
  ·exact .inl b.1
theorem iI.skip:∀{l:List (Nat×World)} {W:World} {ld:Nat->Bool} {y:World} {i:Nat},iI W l ld y->(∀x∈l,x.1≠i)->iI W l (bY ld i) y
 | [],W,ld,y,i,b,_=>b
 |(j,f) :: r,W,ld,y,i,b,e=>by
  have k:j≠i:=e (j,f) (by simp);have g:bY ld i j=ld j:=by simp[bY,k]
  unfold iI at b ⊢;rw[g];split at b
  ·rename_i d
   rw[yf d];exact iI.skip b (λx c=>e x (by simp[c]))
  ·rename_i d
   rw[yb d];refine⟨b.1,λx c=>?_⟩;have m:x.1≠i:=e x (by simp[c]);simp[bY,m,b.2 x c]
end
end Go.Proofs.YtmdocplknceilaaGreat
