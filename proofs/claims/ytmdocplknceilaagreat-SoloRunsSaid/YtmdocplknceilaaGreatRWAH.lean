import Derived.Test.YtmdocplknceilaaGreatRWAF
import Derived.RegionTactic
import Derived.WalkKit
set_option linter.all false
namespace Go.Proofs.YtmdocplknceilaaGreat
section
set_option maxRecDepth 100000
open Go.RowKit
def gz(ds:List Nat)(u:Nat->Value):Nat->List Value->List Value
 |_,[]=>[]
 |s,x :: xs=>(if ds.contains s then u s else x) :: gz ds u (s+1) xs
def ed(u:Nat->Value)(t:Option Nat):Value:=match t with|some t=>u t|none=>undef
def ey(t:Option Nat)(v:Value):Value:=match t with|some _=>v|none=>undef
def qh(u:Nat->Value)(t:Option Nat)(v:Value):Nat->Value:=λs=>if t=some s then v else u s
theorem tR(ds:List Nat)(u:Nat->Value):∀(s:Nat) (xs:List Value),(gz ds u s xs).length=xs.length
 |_,[]=>rfl
 |s,_ :: xs=>by simp[gz,tR ds u (s+1) xs]
theorem rP(ds:List Nat)(u:Nat->Value):∀(xs:List Value) (s k:Nat),(gz ds u s xs)[k]?=(xs[k]?).map λx=>if ds.contains (s+k) then u (s+k) else x
 | [],s,k=>by simp[gz]
 |x :: xs,s,0=>by simp[gz]
 |x :: xs,s,k+1=>by
  simp only[gz,List.getElem?_cons_succ,rP ds u xs (s+1) k];rw[show s+1+k=s+(k+1) by omega]
theorem CL(ds:List Nat)(u:Nat->Value)(xs:List Value)(t:Nat)(v:Value)(d:t∈ds):
 (gz ds u 0 xs).toArray.setIfInBounds t v=(gz ds (qh u (some t) v) 0 xs).toArray:=by
 apply Array.ext_getElem?;intro k;rw[Array.getElem?_setIfInBounds];simp only[zi,List.size_toArray,tR,rP,yq]
 by_cases b:t=k
 ·subst b
  by_cases c:t<xs.length
  ·simp[c,qh,d]
  ·simp[c]
 ·rw[yb b]
  cases xs[k]? with
  |none=>rfl
  |some x=>
   simp only[yU,qh,yC,b,Yi]
def dj(ops:Array Oper)(V:List (Value->World->Prop))(u:Nat->Value)(w:World):List Edge->Prop
 | []=>True
 |e :: es=>(if Region.binds .any e=true then(match ops[e.on]? with|some o=>V.getD e.on (λ_ _=>True) (ed u o.dst) w|none=>True) else True)/\dj ops V u w es
def eD(V:List (Value->World->Prop))(u:Nat->Value)(w:World):Nat->List Oper->Prop
 |_,[]=>True
 |i,o :: os=>V.getD i (λ_ _=>True) (ed u o.dst) w/\eD V u w (i+1) os
def gw(ops:Array Oper):List Nat:=ops.toList.filterMap (·.dst)
def eM(ops:Array Oper)(u:Nat->Value)(tmps:Array Value):Array Value:=(gz (gw ops) u 0 tmps.toList).toArray
def nE(ops:Array Oper):Bool:=
 ops.toList.zipIdx.all (λ(o,i)=>o.after.toList.all (λe=>!Region.binds .any e||decide (e.on<i)))&&
 ops.toList.zipIdx.all (λ(o,i)=>ops.toList.zipIdx.all λ(o',j)=>i==j||o.dst.isNone||o.dst !=o'.dst)
section
variable {P:Program}{ops:Array Oper}{Q:Exit->Act->World->Prop}{R:World->World->Prop}{V:List (Value->World->Prop)}{a:Act}{w:World}
theorem qM{u:Nat->Value}{c:World}:∀(l:List Oper) (k:Nat),(∀i o,l[i]?=some o->V.getD (k+i) (λ_ _=>True) (ed u o.dst) c)->eD V u c k l
 | [],_,_=>trivial
 |x :: l,k,b=>⟨b 0 x rfl,qM l (k+1) λi o d=>by
    have:=b (i+1) o (by simpa using d)
    rwa [show k+(i+1)=k+1+i by omega] at this⟩
theorem oU{u:Nat->Value}{d:World}:∀(b:List Edge),(∀e∈b,Region.binds .any e=true->∀o,ops[e.on]?=some o->V.getD e.on (λ_ _=>True) (ed u o.dst) d)->dj ops V u d b
 | [],_=>trivial
 |e :: b,c=>⟨by
    split
    ·rename_i g
     split
     ·exact c e (by simp) g _ (by assumption)
     ·trivial
    ·trivial,oU b λf i=>c f (by simp[i])⟩
theorem w7(c:nE ops=true){i:Nat}{o:Oper}(j:ops[i]?=some o){b:Edge}(f:b∈o.after)(e:Region.binds .any b=true):b.on<i:=by
 simp only[nE,zm,List.all_eq_true] at c
 have g:(o,i)∈ops.toList.zipIdx:=by
  rw[List.mem_zipIdx_iff_getElem?]
  simpa using j
 have d:=c.1 (o,i) g b (by simpa using f)
 simpa[e] using d
theorem Bu(c:nE ops=true){i j:Nat}{o b:Oper}(l:ops[i]?=some o)(m:ops[j]?=some b)(f:i≠j){t:Nat}(n:o.dst=some t):b.dst≠some t:=by
 simp only[nE,zm,List.all_eq_true] at c
 have g:(o,i)∈ops.toList.zipIdx:=by
  rw[List.mem_zipIdx_iff_getElem?]
  simpa using l
 have k:(b,j)∈ops.toList.zipIdx:=by
  rw[List.mem_zipIdx_iff_getElem?]
  simpa using m
 have d:=c.2 (o,i) g (b,j) k;simp only[Bool.or_eq_true,beq_iff_eq,f,false_or,n,Option.isNone_some,zB,bne_iff_ne] at d;exact λe=>d e.symm
theorem tL{l:Array Bool}{i:Nat}{n:Nat}(d:l.getD i true=false)(c:(l.toList.filter (!·)).length<=n+1):
 ((l.setIfInBounds i true).toList.filter (!·)).length<=n:=by
 have f:i<l.size:=by
  rcases zO i l.size with e|e
  ·exact e
  ·simp[Array.getElem?_eq_none e] at d
 have b:l.toList[i]?=some false:=by
  simp[f] at d;simp[f,d]
 rw[zW];generalize l.toList=xs at*;clear d f
 induction xs generalizing i n with
 |nil=>simp at b
 |cons x xs g=>
  cases i with
  |zero=>
   simp at b;subst b;simp at c ⊢;exact c
  |succ i=>
   simp at b
   cases x with
   |true=>
    simp at c ⊢;exact g c b
   |false=>
    simp at c ⊢
    cases n with
    |zero=>
     exfalso;have:xs.filter (!·)= []:=yr (by omega);have j:false∈xs:=yh b;have:=List.filter_eq_nil_iff.1 this false j;simp at this
    |succ n=>exact Nat.succ_le_succ (g (by omega) b)
theorem qn(n:Nat):((Array.replicate n false).toList.filter (!·)).length<=n:=by simp
theorem AH(ops:Array Oper)(a:Act):(⟨eM ops (λs=>a.tmps.getD s undef) a.tmps,a.defers⟩ :Act)=a:=by
 have b:eM ops (λs=>a.tmps.getD s undef) a.tmps=a.tmps:=by
  unfold eM;apply Array.ext_getElem?;intro k;simp only[zi,rP,yq,zj]
  cases hk:a.tmps[k]? with
  |none=>rfl
  |some x=>simp[Array.getD_eq_getD_getElem?,hk]
 rw[b]
def tm(R:World->World->Prop):List (Value->World->Prop)->Prop
 | []=>True
 |p :: ps=>(∀v {x y},p v x->R x y->p v y)/\tm R ps
theorem uM:∀(V:List (Value->World->Prop)),tm R V->∀i v {x y},V.getD i (λ_ _=>True) v x->R x y->V.getD i (λ_ _=>True) v y
 | [],_,_,_,_,_,b,_=>by simp at b ⊢
 |p :: _,d,0,v,_,_,b,c=>d.1 v b c
 |_ :: ps,d,i+1,v,_,_,b,c=>by
  have:=uM ps d.2 i v (by simpa using b) c
  simpa using this
theorem ao{o:Oper}{y:Nat->Option Bool}{b Y:Prop}(d:o.guard=none)(c:b):if Region.wanted o y=true then b else Y:=by
 have e:Region.wanted o y=true:=by simp[Region.wanted,d]
 rw[yf e];exact c
def Is(x:Value):Value->World->Prop:=λv _=>v=x
abbrev ap(p o:Nat):=Is (.pointer (some ⟨p,o,none⟩))
theorem EG(R:World->World->Prop)(a:Value):∀v {x y:World},Is a v x->R x y->Is a v y:=λ_ _ _ b _=>b
theorem sT{R:World->World->Prop}{a:Value}:∀v {x y:World},Is a v x->R x y->Is a v y:=EG R a
end
set_option maxRecDepth 100000
def bY(ld:Nat->Bool)(i:Nat):Nat->Bool:=λj=>if j=i then true else ld j
def bu(ld:Nat->Bool):List Edge->Prop
 | []=>True
 |e :: es=>(if Region.binds .any e=true then ld e.on=true else True)/\bu ld es
def xX(P:Program)(ops:Array Oper)(Q:Exit->Act->World->Prop)(St:(Nat->Bool)->World->Prop)(V:List (Value->World->Prop))(a:Act)(i:Nat)(o:Oper):Prop:=
 ∀(ld:Nat->Bool) (u:Nat->Value) (w1:World),ld i=false->bu ld o.after.toList->St ld w1->dj ops V u w1 o.after.toList->
  ∀K:Act->World->Prop,(∀v w2,St (bY ld i) w2->V.getD i (λ_ _=>True) (ey o.dst v) w2->K ((⟨eM ops u a.tmps,a.defers⟩ :Act).put o.dst v) w2)->
   if Region.wanted o (yielded ops (eM ops u a.tmps))=true then o.wp P ⟨eM ops u a.tmps,a.defers⟩ w1 K Q else St (bY ld i) w1/\V.getD i (λ_ _=>True) undef w1
def jQ(P:Program)(ops:Array Oper)(Q:Exit->Act->World->Prop)(St:(Nat->Bool)->World->Prop)(V:List (Value->World->Prop))(a:Act):Nat->List Oper->Prop
 |_,[]=>True
 |i,o :: os=>xX P ops Q St V a i o/\jQ P ops Q St V a (i+1) os
section
variable {P:Program}{ops:Array Oper}{Q:Exit->Act->World->Prop}{St:(Nat->Bool)->World->Prop}{V:List (Value->World->Prop)}{a:Act}{w:World}
theorem jQ.at_:∀(l:List Oper) (k:Nat),jQ P ops Q St V a k l->∀i o,l[i]?=some o->xX P ops Q St V a (k+i) o
 | [],_,_,i,o,b=>by simp at b
 |x :: l,k,c,0,o,b=>by
  simp at b;subst b;exact c.1
 |x :: l,k,c,i+1,o,b=>by
  have:=jQ.at_ l (k+1) c.2 i o (by simpa using b)
  rwa [show k+1+i=k+(i+1) by omega] at this
theorem ov{ld:Nat->Bool}:∀(b:List Edge),(∀e∈b,Region.binds .any e=true->ld e.on=true)->bu ld b
 | [],_=>trivial
 |e :: b,c=>⟨by
    split
    ·rename_i f;exact c e (by simp) f
    ·trivial,ov b λd g=>c d (by simp[g])⟩
theorem EJ{l:Array Bool}{i:Nat}(c:i<l.size):(λj=>(l.setIfInBounds i true).getD j false)=bY (λj=>l.getD j false) i:=by
 funext j;unfold bY
 by_cases b:j=i
 ·subst b;simp[c]
 ·rw[yb b,getD_set_ne false (Ne.symm b)]
theorem D1(a5:nE ops=true)(a9:∀i v {x y:World},V.getD i (λ_ _=>True) v x->V.getD i (λ_ _=>True) v y)
 (av:jQ P ops Q St V a 0 ops.toList)
 (a7:∀u c ld,(∀i,i<ops.size->ld i=true)->St ld c->eD V u c 0 ops.toList->Q .normal ⟨eM ops u a.tmps,a.defers⟩ c):
 ∀(p:Nat) (b:Array Bool) (u:Nat->Value) (c:World),b.size=ops.size->(b.toList.filter (!·)).length<=p->St (λj=>b.getD j false) c->
  (∀i o,ops[i]?=some o->b.getD i false=true->V.getD i (λ_ _=>True) (ed u o.dst) c)->
  wpAny P .any ops Q p b ⟨eM ops u a.tmps,a.defers⟩ c:=by
 have a0:∀(b:Array Bool) (u:Nat->Value) (c:World),b.size=ops.size->St (λj=>b.getD j false) c->
  (∀i o,ops[i]?=some o->b.getD i false=true->V.getD i (λ_ _=>True) (ed u o.dst) c)->Region.ready .any ops b= []->Q .normal ⟨eM ops u a.tmps,a.defers⟩ c:=by
  intro b u c l r k E
  have a3:∀n,∀i,i<n->i<ops.size->b.getD i false=true:=by
   intro n
   induction n with
   |zero=>intro i A;omega
   |succ n G=>
    intro i A d
    rcases zO i n with Z|Z
    ·exact G i Z d
    ·obtain rfl:i=n:=by omega
     cases e:b.getD i false with
     |true=>rfl
     |false=>
      exfalso
      have C:i∈Region.ready .any ops b:=mem_ready.2 ⟨by simp[l,d] at e ⊢;exact e,ops[i],by simp[d],λm z e=>by
       have:=w7 a5 (i:=i) (o:=ops[i]) (by simp[d]) z e;exact G m.on this (by omega)⟩
      rw[E] at C
      cases C
  refine a7 u c _ (λi A=>a3 (i+1) i (by omega) A) r (qM _ 0 λi o g=>?_);rw[yq];have D:ops[i]?=some o:=by simpa using g
  have d:i<ops.size:=(yu.1 D).1;exact k i o D (a3 (i+1) i (by omega) d)
 intro p
 induction p with
 |zero=>
  intro b u c l T r k
  have E:Region.ready .any ops b= []:=by
   rw[List.eq_nil_iff_forall_not_mem];intro j f;have L:=(mem_ready.1 f).1
   have d:j<b.size:=by
    rcases zO j b.size with K|K
    ·exact K
    ·simp[Array.getElem?_eq_none K] at L
   have C:false∈b.toList:=by
    simp[d] at L;rw[<-L];simp
   have ad:=yr (Nat.le_zero.1 T);have:=List.filter_eq_nil_iff.1 ad false C;simp at this
  exact⟨E,a0 b u c l r k E⟩
 |succ p G=>
  intro b u c l T r k;refine⟨a0 b u c l r k,λi A=>?_⟩;obtain⟨F,o,g,a1⟩:=mem_ready.1 A;have d:i<b.size:=by rw[l];exact(yu.1 g).1
  have a6:=jQ.at_ ops.toList 0 av i o (by simpa using g);rw[yq] at a6
  have al:∀v,(⟨eM ops u a.tmps,a.defers⟩ :Act).put o.dst v=⟨eM ops (qh u o.dst v) a.tmps,a.defers⟩:=by
   intro v
   cases hd:o.dst with
   |none=>
    have:qh u none v=u:=by funext s;simp[qh]
    rw[this];rfl
   |some t=>
    have am:t∈gw ops:=List.mem_filterMap.2 ⟨o,by simpa using Array.mem_of_getElem? g,hd⟩;show(⟨_,_⟩ :Act)=_;simp only[eM];rw[CL _ _ _ _ _ am]
  have a4:∀v B,St (bY (λj=>b.getD j false) i) B->V.getD i (λ_ _=>True) (ey o.dst v) B->wpAny P .any ops Q p (b.setIfInBounds i true) ((⟨eM ops u a.tmps,a.defers⟩ :Act).put o.dst v) B:=by
   intro v B a8 hv;rw[al v];refine G _ _ _ (by simpa using l) (tL F T) (by rw[EJ d];exact a8) λj H f a2=>?_
   by_cases X:j=i
   ·subst X
    rw[g] at f;injection f with f;subst f;have N:ed (qh u o.dst v) o.dst=ey o.dst v:=by cases o.dst<;>simp[ed,qh,ey]
    rw[N];exact hv
   ·rw[getD_set_ne false (Ne.symm X)] at a2
    have q:=a9 j (y:=B) _ (k j H f a2)
    have N:ed (qh u o.dst v) H.dst=ed u H.dst:=by
     cases hd:H.dst with
     |none=>rfl
     |some t=>
      have:=Bu a5 f g X hd;simp[ed,qh,this]
    rw[N];exact q
  have ai:dj ops V u c o.after.toList:=oU _ λm z e ar D=>k m.on ar D (a1 m (by simpa using z) e)
  have an:(λj=>b.getD j false) i=false:=by
   simp only;simp only[Array.getD_eq_getD_getElem?] at F ⊢;rw[zM d] at F ⊢
   simpa using F
  have ab:bu (λj=>b.getD j false) o.after.toList:=ov _ λm z e=>a1 m (by simpa using z) e
  have q:=a6 (λj=>b.getD j false) u c an ab r ai _ a4;unfold wpOp;simp only[g];split at q
  ·rename_i Y
   rw[yf Y];exact .inl q
  ·rename_i Y
   rw[yb Y];exact a4 undef c q.1 (by cases o.dst<;>exact q.2)
theorem be{id:Nat}(k:P.follows .mixedOrders=true)(St:(Nat->Bool)->World->Prop)(V:List (Value->World->Prop))(l:nE ops=true)
 (g:tm (λ_ _=>True) V) (m:St (λ_=>false) w.drew)
 (n:jQ P ops Q St V a 0 ops.toList)
 (f:∀u c ld,(∀i,i<ops.size->ld i=true)->St ld c->eD V u c 0 ops.toList->Q .normal ⟨eM ops u a.tmps,a.defers⟩ c):(Code.region id ops true).wp P Q a w:=by
 refine wp_region_any k ?_;change wpAny P .any ops Q ops.size (Array.replicate ops.size false) a w.drew
 have e:∀j,(Array.replicate ops.size false).getD j false=false:=by
  intro j;simp only[Array.getD_eq_getD_getElem?,Array.getElem?_replicate];split<;>rfl
 have b:=D1 (Q:=Q) (V:=V) (a:=a) l (λi v x y b=>uM (R:=λ_ _=>True) V g i v b trivial) n f ops.size (Array.replicate ops.size false) (λs=>a.tmps.getD s undef) w.drew (by simp) (qn _) (by
  have:(λj=>(Array.replicate ops.size false).getD j false)=λ_=>false:=funext e
  rw[this];exact m) (λi o _ d=>by
  rw[e] at d;cases d)
 rwa [AH] at b
end
def eZ(S:Nat->Prop)(W:World)(b:Bool)(Q:World->Prop)(y:World):Prop:=aa S W y/\(if b=true then Q y else y=W)
theorem eZ.start{S:Nat->Prop}{W:World}{Q:World->Prop}:eZ S W false Q W:=⟨oR,by simp⟩
theorem eZ.was{S:Nat->Prop}{W y:World}{b:Bool}{Q:World->Prop}(c:eZ S W b Q y)(d:b=false):y=W:=by simpa[d] using c.2
theorem eZ.got{S:Nat->Prop}{W y:World}{b:Bool}{Q:World->Prop}(c:eZ S W b Q y)(d:b=true):Q y:=by simpa[d] using c.2
theorem eZ.put{S:Nat->Prop}{W y:World}{Q:World->Prop}(b:aa S W y)(c:Q y):eZ S W true Q y:=⟨b,by simpa using c⟩
def et(S:Nat->Prop)(W:World)(b0 b1 b2:Bool)(Q1 Q2:World->Prop)(y:World):Prop:=aa S W y/\(b2=true->b1=true/\b0=true)/\(if b2=true then Q2 y else if b1=true then Q1 y else y=W)
section
variable {S:Nat->Prop}{W y:World}{b0 b1 b2:Bool}{Q1 Q2:World->Prop}
theorem et.start{b0:Bool}:et S W b0 false false Q1 Q2 W:=⟨oR,by simp,by simp⟩
theorem et.was(c:et S W b0 b1 b2 Q1 Q2 y)(b:b1=false):y=W/\b2=false:=by
 obtain⟨_,d,e⟩:=c
 cases b2 with
 |false=>simpa[b] using e
 |true=>simp[b] at d
theorem et.mid(b:et S W b0 b1 b2 Q1 Q2 y)(c:b1=true)(d:b2=false):Q1 y:=by simpa[c,d] using b.2.2
theorem et.got(b:et S W b0 b1 b2 Q1 Q2 y)(c:b2=true):Q2 y:=by simpa[c] using b.2.2
theorem et.or(b:et S W b0 b1 b2 Q1 Q2 y):y=W\/Q1 y\/Q2 y:=by
 cases b2 with
 |true=>exact .inr (.inr (b.got rfl))
 |false=>
  cases b1 with
  |true=>exact .inr (.inl (b.mid rfl rfl))
  |false=>exact .inl (b.was rfl).1
theorem et.or0(c:et S W b0 b1 b2 Q1 Q2 y)(e:b0=false):y=W\/Q1 y:=by
 obtain⟨_,d,b⟩:=c
 cases b2 with
 |true=>have:=(d rfl).2;rw[e] at this;cases this
 |false=>
  cases b1 with
  |true=>exact .inr (by simpa using b)
  |false=>exact .inl (by simpa using b)
theorem et.put1{b:World}(c:et S W b0 b1 b2 Q1 Q2 y)(d:b1=false)(e:aa S W b)(f:Q1 b):et S W b0 true b2 Q1 Q2 b:=by
 have:=(c.was d).2;subst this;exact⟨e,by simp,by simpa using f⟩
theorem et.put2(c:b1=true)(b:b0=true)(d:aa S W y)(e:Q2 y):et S W b0 b1 true Q1 Q2 y:=⟨d,λ_=>⟨c,b⟩,by simpa using e⟩
theorem et.mo{b0':Bool}(b:et S W b0 b1 b2 Q1 Q2 y)(d:b0=true->b0'=true):et S W b0' b1 b2 Q1 Q2 y:=⟨b.1,λc=>⟨(b.2.1 c).1,d (b.2.1 c).2⟩,b.2.2⟩
end
def mN(ops:Array Oper)(ld:Nat->Bool):Prop:=∀j o,ops[j]?=some o->ld j=true->bu ld o.after.toList
theorem kB{ld:Nat->Bool}{i:Nat}:∀(b:List Edge),bu ld b->bu (bY ld i) b
 | [],_=>trivial
 |e :: b,c=>by
  refine⟨?_,kB b c.2⟩;have d:=c.1;split
  ·rename_i f
   rw[yf f] at d;unfold bY;split
   ·rfl
   ·exact d
  ·trivial
theorem mN.step{ops:Array Oper}{ld:Nat->Bool}{i:Nat}{o:Oper}(d:mN ops ld)(g:ops[i]?=some o)(e:bu ld o.after.toList):mN ops (bY ld i):=by
 intro j k b f
 by_cases c:j=i
 ·subst c
  rw[g] at b;injection b with b;subst b;exact kB _ e
 ·refine kB _ (d j k b ?_)
  simpa[bY,c] using f
def Fd(P:Program)(ops:Array Oper)(Q:Exit->Act->World->Prop)(St:(Nat->Bool)->World->Prop)(V:List (Value->World->Prop))(a:Act)(i:Nat)(o:Oper):Prop:=
 ∀(ld:Nat->Bool) (u:Nat->Value) (w1:World),ld i=false->bu ld o.after.toList->mN ops ld->St ld w1->dj ops V u w1 o.after.toList->
  ∀K:Act->World->Prop,(∀v w2,St (bY ld i) w2->V.getD i (λ_ _=>True) (ey o.dst v) w2->K ((⟨eM ops u a.tmps,a.defers⟩ :Act).put o.dst v) w2)->
   if Region.wanted o (yielded ops (eM ops u a.tmps))=true then o.wp P ⟨eM ops u a.tmps,a.defers⟩ w1 K Q else St (bY ld i) w1/\V.getD i (λ_ _=>True) undef w1
def lA(P:Program)(ops:Array Oper)(Q:Exit->Act->World->Prop)(St:(Nat->Bool)->World->Prop)(V:List (Value->World->Prop))(a:Act):Nat->List Oper->Prop
 |_,[]=>True
 |i,o :: os=>Fd P ops Q St V a i o/\lA P ops Q St V a (i+1) os
section
variable {P:Program}{ops:Array Oper}{Q:Exit->Act->World->Prop}{St:(Nat->Bool)->World->Prop}{V:List (Value->World->Prop)}{a:Act}{w:World}
theorem lA.to:∀(l:List Oper) (k:Nat),(∀i o,l[i]?=some o->ops[k+i]?=some o)->lA P ops Q St V a k l->jQ P ops Q (λld y=>mN ops ld/\St ld y) V a k l
 | [],_,_,_=>trivial
 |o :: l,k,g,j=>by
  have s:ops[k]?=some o:=by simpa using g 0 o rfl
  refine⟨λld u z r f c t m q=>?_,lA.to l (k+1) (λi x b=>by
   have:=g (i+1) x (by simpa using b)
   rwa [show k+1+i=k+(i+1) by omega]) j.2⟩
  have e:=c.1.step s f;have b:=j.1 ld u z r f c.1 c.2 t m (λv A n p=>q v A ⟨e,n⟩ p);split at b
  ·rename_i d
   rw[yf d];exact b
  ·rename_i d
   rw[yb d];exact⟨⟨e,b.1⟩,b.2⟩
theorem zu6{id:Nat}(g:P.follows .mixedOrders=true)(St:(Nat->Bool)->World->Prop)(V:List (Value->World->Prop))(k:nE ops=true)
 (f:tm (λ_ _=>True) V) (m:St (λ_=>false) w.drew)
 (n:lA P ops Q St V a 0 ops.toList)
 (d:∀u c ld,(∀i,i<ops.size->ld i=true)->St ld c->eD V u c 0 ops.toList->Q .normal ⟨eM ops u a.tmps,a.defers⟩ c):(Code.region id ops true).wp P Q a w:=
 be g (λld y=>mN ops ld/\St ld y) V k f ⟨(λj o _ b=>by cases b),m⟩ (lA.to ops.toList 0 (λi o b=>by rw[yq];simpa using b) n)
  (λu c ld b e l=>d u c ld b e.2 l)
end
def iO:World->List (Nat×World)->(Nat->Bool)->World->Prop
 |W,[],_,y=>y=W
 |W,(i,W1) :: r,ld,y=>if ld i=true then iO W1 r ld y else(y=W/\∀x∈r,ld x.1=false)
theorem iO.start:∀(W:World) (l:List (Nat×World)),iO W l (λ_=>false) W
 |W,[]=>rfl
 |W,(i,b) :: r=>by simp[iO]
theorem iO.mem:∀{l:List (Nat×World)} {W:World} {ld:Nat->Bool} {y:World},iO W l ld y->y=W\/∃x∈l,ld x.1=true/\y=x.2
 | [],W,ld,y,b=>.inl b
 |(i,g) :: r,W,ld,y,b=>by
  unfold iO at b;split at b
  ·rename_i e
   rcases iO.mem b with rfl|⟨x,f,c,d⟩
   ·exact .inr ⟨(i,y),by simp,e,rfl⟩
   ·exact .inr ⟨x,by simp[f],c,d⟩
  ·exact .inl b.1
theorem iO.skip:∀{l:List (Nat×World)} {W:World} {ld:Nat->Bool} {y:World} {i:Nat},iO W l ld y->(∀x∈l,x.1≠i)->iO W l (bY ld i) y
 | [],W,ld,y,i,b,_=>b
 |(j,f) :: r,W,ld,y,i,b,e=>by
  have k:j≠i:=e (j,f) (by simp);have g:bY ld i j=ld j:=by simp[bY,k]
  unfold iO at b ⊢;rw[g];split at b
  ·rename_i d
   rw[yf d];exact iO.skip b (λx c=>e x (by simp[c]))
  ·rename_i d
   rw[yb d];refine⟨b.1,λx c=>?_⟩;have m:x.1≠i:=e x (by simp[c]);simp[bY,m,b.2 x c]
end
end Go.Proofs.YtmdocplknceilaaGreat
