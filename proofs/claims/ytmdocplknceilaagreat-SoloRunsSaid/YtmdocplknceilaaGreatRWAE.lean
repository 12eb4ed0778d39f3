import Derived.Test.YtmdocplknceilaaGreatRWAD
import Derived.Sort.Statements
set_option linter.all false
namespace Go.Proofs.YtmdocplknceilaaGreat
section
open Go.Sort
theorem Bf:∀(a:List UInt8) (c:UInt8) (b:List UInt8),a<a++c :: b
 | [],c,b=>List.nil_lt_cons _ _
 |x :: a,c,b=>List.cons_lt_cons_iff.2 (.inr ⟨rfl,Bf a c b⟩)
theorem Be:∀(a:List UInt8) {c d:UInt8} (b e:List UInt8),c<d->a++c :: b<a++d :: e
 | [],c,d,b,e,f=>List.cons_lt_cons_iff.2 (.inl f)
 |x :: a,c,d,b,e,f=>List.cons_lt_cons_iff.2 (.inr ⟨rfl,Be a b e f⟩)
theorem qu{p:List ah}{t:aj}{x:eC}(a:x∈aF p t):∃c,x.tk.M=t.M++c:=by
 obtain⟨l,u,b,rfl⟩:=(jT _ _ (lR) _).1 a;exact⟨l,io _ _ _ b⟩
theorem uo(p:List ah):∀(n:Nat) (t:aj),t.fuel<=n->(aF p t).Pairwise λu v=>u.tk.M<v.tk.M:=by
 intro n
 induction n with
 |zero=>
  intro t m;rw[ev]
  have:aR p t= []:=by
   cases h:aR p t with
   |nil=>rfl
   |cons k l=>
    have:=fG (p:=p) (t:=t) (k:=k) (by rw[h];simp);omega
  rw[this];simp
 |succ n r=>
  intro t m;rw[ev,List.pairwise_cons];refine⟨λv hv=>?_,List.pairwise_flatMap.2 ⟨λk c=>r k (by have:=fG c;omega),?_⟩⟩
  ·obtain⟨k,c,hv⟩:=List.mem_flatMap.1 hv
   obtain⟨i,b⟩:=yF c;obtain⟨s,a⟩:=qu hv;rw[a,(dJ b).1,yY];exact Bf _ _ _
  ·rw[List.pairwise_iff_getElem]
   intro i j b g w x o y q;have d:=dJ (gG b);have e:=dJ (gG g);obtain⟨s,a⟩:=qu o;obtain⟨z,f⟩:=qu q;rw[a,f,d.1,e.1,yY,yY];refine Be _ _ _ ?_;rw[UInt8.lt_iff_toNat_lt,eS d.2.1,eS e.2.1];omega
theorem oK{α β:Type}{f:α->β}:∀{l:List α},(l.map f).Nodup->∀{a b:α},a∈l->b∈l->f a=f b->a=b
 | [],_,a,b,c,_,_=>by cases c
 |x :: l,d,a,b,c,e,g=>by
  rw[zc,List.nodup_cons] at d
  rcases yG.1 c with i|c<;>rcases yG.1 e with j|e
  ·rw[i,j]
  ·exact absurd (yL.2 ⟨b,e,by rw[<-g,i]⟩) d.1
  ·exact absurd (yL.2 ⟨a,c,by rw[g,j]⟩) d.1
  ·exact oK d.2 c e g
theorem oL{α β:Type}(f:α->β){l:List α}(d:(l.map f).Nodup):l.Nodup:=by
 refine(List.pairwise_map.1 d).imp fun {a b} e c=>e (by rw[c])
def lV(j:Int)(u:eC):Nm×Nat×aL:=(⟨j,u.tk.M⟩,u.kd,u.res)
theorem vq{got l:List (Nm×Nat×aL)}{p:List ah}{x:aj}{j:Int}(e:Ff got (aF p x) j λ_=>False)(o:l.Perm got)(A:l.Pairwise λa b=>¬b.1.M<a.1.M):l=(aF p x).map (lV j):=by
 have B:((aF p x).map (lV j)).Pairwise λa b=>¬b.1.M<a.1.M:=by
  rw[List.pairwise_map];refine(uo p _ x (lR)).imp fun {a b} q c=>?_
  exact absurd (List.lt_trans q c) (List.lt_irrefl _)
 have w:got.Nodup:=oL _ e.nodup
 have y:((aF p x).map (lV j)).Nodup:=by
  have:=mJ p _ x (lR);refine oL (λg=>g.1.M) ?_;rw[List.map_map];exact this
 have r:l.Perm ((aF p x).map (lV j)):=o.trans ((List.perm_ext_iff_of_nodup w y).2 λg=>⟨λd=>?_,λd=>?_⟩)
 ·refine List.Perm.eq_of_pairwise (λa b s t m n=>?_) A B r
  obtain⟨u,f,rfl⟩:=yL.1 t;obtain⟨v,hv,c⟩:=e.sound a (o.mem_iff.1 s)
  have z:v.tk.M=u.tk.M:=by
   rw[c] at m n;exact List.le_antisymm (List.not_lt.1 m) (List.not_lt.1 n)
  have C:=(e.all u f).2 nF;obtain⟨g,d,F⟩:=yL.1 C;obtain⟨H,G,E⟩:=e.sound g d;have k:=mJ p _ x (lR);have D:v=u:=oK k hv f z;rw[c,D];rfl
 ·obtain⟨u,f,c⟩:=e.sound g d
  exact yL.2 ⟨u,f,c.symm⟩
 ·obtain⟨u,f,rfl⟩:=yL.1 d
  obtain⟨g,d,c⟩:=yL.1 ((e.all u f).2 nF);obtain⟨v,hv,i⟩:=e.sound g d;have k:=mJ p _ x (lR)
  have:v=u:=oK k hv f (by
   rw[i] at c;exact yl Nm.M c)
  rw[this] at i;show(⟨j,u.tk.M⟩,u.kd,u.res)∈got;rw[<-i];exact d
end
end Go.Proofs.YtmdocplknceilaaGreat
