import Derived.Test.YtmdocplknceilaaGreatSWAD
import Derived.Sort.Statements
set_option linter.all false
namespace Go.Proofs.YtmdocplknceilaaGreat
section
open Go.Sort
theorem wL:∀(a:List UInt8) (c:UInt8) (b:List UInt8),a<a++c :: b
 | [],c,b=>List.nil_lt_cons _ _
 |x :: a,c,b=>List.cons_lt_cons_iff.2 (.inr ⟨rfl,wL a c b⟩)
theorem wK:∀(a:List UInt8) {c d:UInt8} (b e:List UInt8),c<d->a++c :: b<a++d :: e
 | [],c,d,b,e,f=>List.cons_lt_cons_iff.2 (.inl f)
 |x :: a,c,d,b,e,f=>List.cons_lt_cons_iff.2 (.inr ⟨rfl,wK a b e f⟩)
theorem ot{p:List aj}{t:aA}{x:mZ}(a:x∈bI p t):∃c,x.tk.M=t.M++c:=by
 obtain⟨l,u,b,rfl⟩:=(i7 _ _ (lR) _).1 a;exact⟨l,fX _ _ _ b⟩
theorem sh(p:List aj):∀(n:Nat) (t:aA),t.fuel<=n->(bI p t).Pairwise λu v=>u.tk.M<v.tk.M:=by
 intro n
 induction n with
 |zero=>
  intro t m;rw[dV]
  have:aW p t= []:=by
   cases h:aW p t with
   |nil=>rfl
   |cons k l=>
    have:=eN (p:=p) (t:=t) (k:=k) (by rw[h];simp);omega
  rw[this];simp
 |succ n r=>
  intro t m;rw[dV,List.pairwise_cons];refine⟨λv hv=>?_,List.pairwise_flatMap.2 ⟨λk c=>r k (by have:=eN c;omega),?_⟩⟩
  ·obtain⟨k,c,hv⟩:=List.mem_flatMap.1 hv
   obtain⟨i,b⟩:=yF c;obtain⟨s,a⟩:=ot hv;rw[a,(cY b).1,yY];exact wL _ _ _
  ·rw[List.pairwise_iff_getElem]
   intro i j b g w x o y q;have d:=cY (gG b);have e:=cY (gG g);obtain⟨s,a⟩:=ot o;obtain⟨z,f⟩:=ot q;rw[a,f,d.1,e.1,yY,yY];refine wK _ _ _ ?_;rw[UInt8.lt_iff_toNat_lt,d9 d.2.1,d9 e.2.1];omega
theorem mK{α β:Type}{f:α->β}:∀{l:List α},(l.map f).Nodup->∀{a b:α},a∈l->b∈l->f a=f b->a=b
 | [],_,a,b,c,_,_=>by cases c
 |x :: l,d,a,b,c,e,g=>by
  rw[zc,List.nodup_cons] at d
  rcases yG.1 c with i|c<;>rcases yG.1 e with j|e
  ·rw[i,j]
  ·exact absurd (yL.2 ⟨b,e,by rw[<-g,i]⟩) d.1
  ·exact absurd (yL.2 ⟨a,c,by rw[g,j]⟩) d.1
  ·exact mK d.2 c e g
theorem mL{α β:Type}(f:α->β){l:List α}(d:(l.map f).Nodup):l.Nodup:=by
 refine(List.pairwise_map.1 d).imp fun {a b} e c=>e (by rw[c])
def lN(j:Int)(u:mZ):Nm×Nat×aO:=(⟨j,u.tk.M⟩,u.kd,u.res)
theorem tw{got l:List (Nm×Nat×aO)}{p:List aj}{x:aA}{j:Int}(e:C3 got (bI p x) j λ_=>False)(o:l.Perm got)(A:l.Pairwise λa b=>¬b.1.M<a.1.M):l=(bI p x).map (lN j):=by
 have B:((bI p x).map (lN j)).Pairwise λa b=>¬b.1.M<a.1.M:=by
  rw[List.pairwise_map];refine(sh p _ x (lR)).imp fun {a b} q c=>?_
  exact absurd (List.lt_trans q c) (List.lt_irrefl _)
 have w:got.Nodup:=mL _ e.nodup
 have y:((bI p x).map (lN j)).Nodup:=by
  have:=lp p _ x (lR);refine mL (λg=>g.1.M) ?_;rw[List.map_map];exact this
 have r:l.Perm ((bI p x).map (lN j)):=o.trans ((List.perm_ext_iff_of_nodup w y).2 λg=>⟨λd=>?_,λd=>?_⟩)
 ·refine List.Perm.eq_of_pairwise (λa b s t m n=>?_) A B r
  obtain⟨u,f,rfl⟩:=yL.1 t;obtain⟨v,hv,c⟩:=e.sound a (o.mem_iff.1 s)
  have z:v.tk.M=u.tk.M:=by
   rw[c] at m n;exact List.le_antisymm (List.not_lt.1 m) (List.not_lt.1 n)
  have C:=(e.all u f).2 nF;obtain⟨g,d,F⟩:=yL.1 C;obtain⟨H,G,E⟩:=e.sound g d;have k:=lp p _ x (lR);have D:v=u:=mK k hv f z;rw[c,D];rfl
 ·obtain⟨u,f,c⟩:=e.sound g d
  exact yL.2 ⟨u,f,c.symm⟩
 ·obtain⟨u,f,rfl⟩:=yL.1 d
  obtain⟨g,d,c⟩:=yL.1 ((e.all u f).2 nF);obtain⟨v,hv,i⟩:=e.sound g d;have k:=lp p _ x (lR)
  have:v=u:=mK k hv f (by
   rw[i] at c;exact yl Nm.M c)
  rw[this] at i;show(⟨j,u.tk.M⟩,u.kd,u.res)∈got;rw[<-i];exact d
end
end Go.Proofs.YtmdocplknceilaaGreat
