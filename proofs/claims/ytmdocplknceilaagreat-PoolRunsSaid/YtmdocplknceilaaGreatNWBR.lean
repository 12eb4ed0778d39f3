import Derived.Test.YtmdocplknceilaaGreatNWBL
import Derived.Test.YtmdocplknceilaaGreatNWBQ
set_option linter.all false
namespace Go.Proofs.YtmdocplknceilaaGreat
section
open Go.RowKit Go.Maps
theorem kA:dY (λ_=>none)=λ_=>none:=by
 funext v;unfold dY;split<;>rfl
theorem zu9(kd:IntKind):gI kd (λ_=>none)=λ_=>none:=by
 funext v;unfold gI;split
 ·split<;>rfl
 ·rfl
theorem AP:iW [] =λ_=>none:=by
 funext n;unfold iW;rw[dif_neg];rintro ⟨v,a⟩;simp at a
theorem wg:iq [] =λ_=>none:=by
 funext v;unfold iq;split<;>simp
structure vy(w w':World)(thr most:Int)(k:Nat)(tag:Nat->Nat)(L:cP)(s:PS):Prop where
 h:aX w' tag L s
 fresh:iQ s
 progs:∀j,s.progs j=none
 known:∀n,s.known n=none
 away:∀n,s.away n=false
 U:ac w w'
 new:∀b,tag b≠0->w.heap.size<=b
 len:s.ths.length=k
 c0:∀x∈s.ds,x.c0<=256
 clen:s.C.length<=300*k
 most_:L.most=most
 thr_:L.thr=thr
 nn:L.n<=1000*k
 n0:0<=L.n
 fn:L.fn=0
 dn:L.dn= []
 on:L.on=0
 pn:L.pn=0
 qv:L.qv=.slice none 0 0
def Dz(thr lg most:Int)(pb tb mb gb nb mm fb kb ab ob m:Nat):cP:=
 ⟨pb,thr,lg,most,.slice none 0 0,[],tb,mb,λ_=>0,gb,λ_=>(none,0),0,.slice none 0 0,nb,mm,fb,λ_=>0,λ_=>⟨none,0,.slice none 0 0,0,0,0,.slice none 0 0,.pointer none,.pointer none⟩,0,kb,0,ab,0,ob,0,.slice none 0 0,[],m,0,.slice none 0 0,[],[]⟩
def Fj:PS:=⟨⟨λ_=>none,[],λ_=>none,[],λ_=>False⟩,[],[],[],[],[],λ_=>none,λ_=>none,λ_=>false,λ_=>none⟩
theorem aY.grown{w:World}{c:Nat->Nat}{L:cP}{s:PS}{hv' e:Value}{n':Int}{tps' d:List Nat}{ps':List (List Nat)}{C':List Int}{g:List aT}{ths':List Th}(a:aY [1,3,5,15] w c L s)
 (l:c L.pb=1/\ae w L.pb 123 (bB {L with hv:=hv',tps:=tps',n:=n',v:=e,dp:=d,ps:=ps'})) (q:DW w (λb=>c b=3) L.m n' e C' g d ps') (r:(∀b,hv'.ownBlock=some b->c b=5)/\w.ownsRow 0 124 1 hv' tps'.length (tps'.map ptr))
 (o:tps'.length=ths'.length/\(∀(k:Nat) (th:Th),ths'[k]?=some th->xC w c {L with hv:=hv',tps:=tps',n:=n',v:=e,dp:=d,ps:=ps'} k th)/\∀(i j tp:Nat),tps'[i]?=some tp->tps'[j]?=some tp->i=j):
 aX w c {L with hv:=hv',tps:=tps',n:=n',v:=e,dp:=d,ps:=ps'} {s with C:=C',ds:=g,ths:=ths'}:=
 ⟨a.tlt,λ_=>l,λ_=>a.p2 (by decide),λ_=>q,λ_ j p u=>a.p4 (by decide) j p u,λ_=>r,λ_=>a.p6 (by decide),λ_=>a.p7 (by decide),λ_=>a.p8 (by decide),λ_=>a.p9 (by decide),λ_=>a.p10 (by decide),λ_=>a.p11 (by decide),λ_=>a.p12 (by decide),λ_=>a.p13 (by decide),λ_=>a.p14 (by decide),λ_=>o,λn f t _=>a.p16 n f t (by simp;omega),a.p17⟩
def gd(z B b:Nat):Nat:=if b<z then 0 else if b<B then 2 else if b=B then 8 else if b=B+1 then 9 else if b=B+2 then 10 else if b=B+3 then 11 else if b=B+4 then 12 else if b=B+5 then 13 else if b=B+6 then 14 else if b=B+7 then 1 else if b=B+8 then 3 else 0
theorem Er{z B:Nat}(a:z<=B):gd z B B=8/\gd z B (B+1)=9/\gd z B (B+2)=10/\gd z B (B+3)=11/\gd z B (B+4)=12/\gd z B (B+5)=13/\gd z B (B+6)=14/\gd z B (B+7)=1/\gd z B (B+8)=3:=by
 refine⟨?_,?_,?_,?_,?_,?_,?_,?_,?_⟩
 ·unfold gd
  rw[yb (show ¬(B<z) by omega),yb (show ¬(B<B) by omega),yf rfl]
 ·unfold gd
  rw[yb (show ¬(B+1<z) by omega),yb (show ¬(B+1<B) by omega),yb (show ¬(B+1=B) by omega),yf rfl]
 ·unfold gd
  rw[yb (show ¬(B+2<z) by omega),yb (show ¬(B+2<B) by omega),yb (show ¬(B+2=B) by omega),yb (show ¬(B+2=B+1) by omega),yf rfl]
 ·unfold gd
  rw[yb (show ¬(B+3<z) by omega),yb (show ¬(B+3<B) by omega),yb (show ¬(B+3=B) by omega),yb (show ¬(B+3=B+1) by omega),yb (show ¬(B+3=B+2) by omega),yf rfl]
 ·unfold gd
  rw[yb (show ¬(B+4<z) by omega),yb (show ¬(B+4<B) by omega),yb (show ¬(B+4=B) by omega),yb (show ¬(B+4=B+1) by omega),yb (show ¬(B+4=B+2) by omega),yb (show ¬(B+4=B+3) by omega),yf rfl]
 ·unfold gd
  rw[yb (show ¬(B+5<z) by omega),yb (show ¬(B+5<B) by omega),yb (show ¬(B+5=B) by omega),yb (show ¬(B+5=B+1) by omega),yb (show ¬(B+5=B+2) by omega),yb (show ¬(B+5=B+3) by omega),yb (show ¬(B+5=B+4) by omega),yf rfl]
 ·unfold gd
  rw[yb (show ¬(B+6<z) by omega),yb (show ¬(B+6<B) by omega),yb (show ¬(B+6=B) by omega),yb (show ¬(B+6=B+1) by omega),yb (show ¬(B+6=B+2) by omega),yb (show ¬(B+6=B+3) by omega),yb (show ¬(B+6=B+4) by omega),yb (show ¬(B+6=B+5) by omega),yf rfl]
 ·unfold gd
  rw[yb (show ¬(B+7<z) by omega),yb (show ¬(B+7<B) by omega),yb (show ¬(B+7=B) by omega),yb (show ¬(B+7=B+1) by omega),yb (show ¬(B+7=B+2) by omega),yb (show ¬(B+7=B+3) by omega),yb (show ¬(B+7=B+4) by omega),yb (show ¬(B+7=B+5) by omega),yb (show ¬(B+7=B+6) by omega),yf rfl]
 ·unfold gd
  rw[yb (show ¬(B+8<z) by omega),yb (show ¬(B+8<B) by omega),yb (show ¬(B+8=B) by omega),yb (show ¬(B+8=B+1) by omega),yb (show ¬(B+8=B+2) by omega),yb (show ¬(B+8=B+3) by omega),yb (show ¬(B+8=B+4) by omega),yb (show ¬(B+8=B+5) by omega),yb (show ¬(B+8=B+6) by omega),yb (show ¬(B+8=B+7) by omega),yf rfl]
theorem vp{z B b:Nat}(c:gd z B b≠0):z<=b/\(b<B\/b<=B+8):=by
 by_cases a:b<z
 ·exact absurd (by unfold gd;rw[yf a]) c
 ·refine⟨yA a,?_⟩
  by_cases d:b<B
  ·exact .inl d
  ·refine .inr (yA λe=>c ?_)
   unfold gd;rw[yb a,yb d,yb (show ¬(b=B) by omega),yb (show ¬(b=B+1) by omega),yb (show ¬(b=B+2) by omega),yb (show ¬(b=B+3) by omega),yb (show ¬(b=B+4) by omega),yb (show ¬(b=B+5) by omega),yb (show ¬(b=B+6) by omega),yb (show ¬(b=B+7) by omega),yb (show ¬(b=B+8) by omega)]
theorem De{z B b:Nat}(a:z<=b/\b<B):gd z B b=2:=by
 unfold gd;rw[yb (by omega),yf a.2]
theorem AN{w c:World}{thr lg z:Int}{D C:Nat}(b1:bQ c (λb=>w.heap.size<=b/\b<c.heap.size) D C z (λ_=>none) 0 (λ_=>0))(ab:ac w c){m o q r s t u v e:World}
 (G:m=c.alloc (.map #[] 0)) (H:o=m.alloc (.map #[] 0)) (K:q=o.alloc (.map #[] 0)) (L:r=q.alloc (.map #[] 0)) (N:s=r.alloc (.map #[] 0)) (P:t=s.alloc (.map #[] 0)) (Q:u=t.alloc (.map #[] 0))
 (R:v=u.alloc (.cells (bB (Dz thr lg z u.heap.size D C c.heap.size m.heap.size o.heap.size q.heap.size r.heap.size s.heap.size t.heap.size v.heap.size)) 123)) (S:e=v.alloc (.cells #[.int .i64 0,.bool true,.slice none 0 0] 214)):
 ∃c3,vy w e thr z 0 c3 (Dz thr lg z u.heap.size D C c.heap.size m.heap.size o.heap.size q.heap.size r.heap.size s.heap.size t.heap.size v.heap.size) Fj:=by
 have a3:m.heap.size=c.heap.size+1:=by rw[G];simp
 have a4:o.heap.size=c.heap.size+2:=by rw[H];simp[a3]
 have a5:q.heap.size=c.heap.size+3:=by rw[K];simp[a4]
 have a6:r.heap.size=c.heap.size+4:=by rw[L];simp[a5]
 have a7:s.heap.size=c.heap.size+5:=by rw[N];simp[a6]
 have a8:t.heap.size=c.heap.size+6:=by rw[P];simp[a7]
 have b0:u.heap.size=c.heap.size+7:=by rw[Q];simp[a8]
 have a9:v.heap.size=c.heap.size+8:=by rw[R];simp[b0]
 have bp:e.heap.size=c.heap.size+9:=by rw[S];simp[a9]
 have b9:ac c m:=by rw[G];exact oR.alloc _
 have ba:ac m o:=by rw[H];exact oR.alloc _
 have bb:ac o q:=by rw[K];exact oR.alloc _
 have bf:ac q r:=by rw[L];exact oR.alloc _
 have bk:ac r s:=by rw[N];exact oR.alloc _
 have bm:ac s t:=by rw[P];exact oR.alloc _
 have bn:ac t u:=by rw[Q];exact oR.alloc _
 have bo:ac u v:=by rw[R];exact oR.alloc _
 have ai:ac v e:=by rw[S];exact oR.alloc _
 have aE:=bo.trans ai;have az:=bn.trans aE;have aw:=bm.trans az;have av:=bk.trans aw;have ar:=bf.trans av;have an:=bb.trans ar;have am:=ba.trans an;have al:=b9.trans am;have ad:aN Tryz.prog e 54 c.heap.size (λ_=>none) 0:=by have:=aN.made oi c;rw[<-G] at this;exact this.only am nF
 have X:aN Tryz.prog e 58 m.heap.size (λ_=>none) 0:=by have:=aN.made fF m;rw[<-H] at this;exact this.only an nF
 have Y:aN Tryz.prog e 2 o.heap.size (λ_=>none) 0:=by have:=aN.made tI o;rw[<-K] at this;exact this.only ar nF
 have Z:aN Tryz.prog e 58 q.heap.size (λ_=>none) 0:=by have:=aN.made fF q;rw[<-L] at this;exact this.only av nF
 have a0:aN Tryz.prog e 58 r.heap.size (λ_=>none) 0:=by have:=aN.made fF r;rw[<-N] at this;exact this.only aw nF
 have a1:aN Tryz.prog e 58 s.heap.size (λ_=>none) 0:=by have:=aN.made fF s;rw[<-P] at this;exact this.only az nF
 have a2:aN Tryz.prog e 58 t.heap.size (λ_=>none) 0:=by have:=aN.made fF t;rw[<-Q] at this;exact this.only aE nF
 have E:ae e u.heap.size 123 (bB (Dz thr lg z u.heap.size D C c.heap.size m.heap.size o.heap.size q.heap.size r.heap.size s.heap.size t.heap.size v.heap.size)):=by
  refine ai.J ?_ nF;have:=ae.new u 123 (bB (Dz thr lg z u.heap.size D C c.heap.size m.heap.size o.heap.size q.heap.size r.heap.size s.heap.size t.heap.size v.heap.size));rw[<-R] at this;exact this
 have F:cx e 0 v.heap.size 0 (.slice none 0 0) []:=by have:=cx.new v 0 (yx _);rw[<-S] at this;exact this
 obtain⟨B,T⟩:=eX c.heap.size;rw[a3] at X;rw[a4] at Y;rw[a5] at Z;rw[a6] at a0;rw[a7] at a1;rw[a8] at a2;rw[a3,a4,a5,a6,a7,a8,b0,a9] at E ⊢;rw[a9] at F;rw[<-T] at ad X Y Z a0 a1 a2 E F bp ⊢;have b6:∀b,(w.heap.size<=b/\b<c.heap.size)->b<B:=λb l=>by rw[T];exact l.2
 have b7:w.heap.size<=B:=by rw[T];exact ab.size
 obtain⟨c1,c2,br,bt,bv,bx,bz,bq,c0⟩:=Er b7;refine⟨gd w.heap.size B,?_,?_,λ_=>rfl,λ_=>rfl,λ_=>rfl,ab.trans al,λb l=>(vp l).1,rfl,λx g=>(by cases g),yx _,rfl,rfl,yE _,yE _,rfl,rfl,rfl,rfl,rfl⟩
 ·refine⟨λb l=>?_,λ_=>⟨bq,E⟩,λ_=>?_,λ_=>?_,λ_ j p W=>(by cases W),λ_=>⟨λb l=>(by cases l),⟨rfl,.inl ⟨rfl,rfl⟩⟩⟩,λ_=>⟨.inl ⟨rfl,rfl⟩,λn A=>(by cases A)⟩,λ_=>⟨λb l=>(by cases l),⟨rfl,.inl ⟨rfl,rfl⟩⟩⟩,λ_=>⟨c1,?_⟩,λ_=>⟨c2,?_⟩,λ_=>⟨br,?_,λn A=>(by cases A)⟩,λ_=>⟨bt,?_⟩,λ_=>⟨bv,?_⟩,λ_=>⟨bx,?_⟩,λ_=>⟨bz,?_⟩,λ_=>⟨rfl,λk th V=>(by cases V),λi j tp b4=>(by cases b4)⟩,λn f b3=>(by cases b3),λn b8 A=>absurd rfl A⟩
  ·have:=(vp l).2
   omega
  ·exact(b1.kp al nG).mo λb l=>De ⟨l.1,b6 b l⟩
  ·exact⟨c0,λk V=>(by cases V),F,rfl,rfl,λj x g=>(by cases g),λj i x a g=>(by cases g),λi j d c4 _ b2=>(by cases b2),λj i c6 c5 pl c8 p c7 W=>(by cases W)⟩
  ·show aN _ _ _ _ (gI .u64 λj=>none) 0
   rw[zu9];exact ad
  ·show aN _ _ _ _ (dY (iW [])) 0
   rw[AP,kA];exact X
  ·show aN _ _ _ _ (gI .i64 (iq [])) 0
   rw[wg,zu9];exact Y
  ·show aN _ _ _ _ (dY λn=>none) 0
   rw[kA];exact Z
  ·show aN _ _ _ _ (dY λn=>none) 0
   rw[kA];exact a0
  ·show aN _ _ _ _ (dY λn=>if false=true then some (Value.int .i64 1) else none) 0
   simp only[zB,Yi];rw[kA];exact a1
  ·show aN _ _ _ _ (dY λn=>none) 0
   rw[kA];exact a2
 ·exact⟨rfl,rfl,rfl,rfl,λb8=>by simp[Fj],⟨λi x g=>(by cases g),λi j x y _ g=>(by cases g),rfl,λi x g=>(by cases g)⟩,λx g=>(by cases g),rfl,λth b5=>(by cases b5),rfl,rfl,λn=>rfl⟩
end
end Go.Proofs.YtmdocplknceilaaGreat
