import Derived.Test.YtmdocplknceilaaGreatSWAU
set_option linter.all false
set_option maxRecDepth 100000
set_option maxHeartbeats 4000000
namespace Go.Proofs.YtmdocplknceilaaGreat
section
open Go.RowKit Go.Maps
def cA(e0:Int)(b:Bool)(e:Int):Int:=if e0=0/\b=false then e else e0
def aN(e fn op:Int):Array Value:=#[.int .i64 e,.int .i64 fn,.int .i64 op]
theorem bM(g:Nat)(c fn k:Int)(b:Bool)(d:Int)(w:World)(e:ae w g 220 (aN c fn k)):
 Calls Tryz.prog 150 #[.pointer (some ⟨g,0,none⟩),.bool b,.int .i64 d] w λj w'=>j=.returned (.tuple #[])/\ae w' g 220 (aN (cA c b d) fn k)/\aa (λb=>b=g) w w':=by
 have l:=e.I 0;have m:=e.fz 0;simp[aN] at l;have i:=hD e
 by_cases f:c=0
 ·subst f
  cases b
  ·have a:cA 0 false d=d:=rfl
   rw[a];clear e a;go_enter Tryz.func150,Tryz.ntmps150;go_wp2_with fail
   go_end0
   exact⟨rfl,i.O.s_ 0 _,ag _ _ _ _⟩
  ·have a:cA 0 true d=0:=rfl
   rw[a];clear e a;go_enter Tryz.func150,Tryz.ntmps150;go_wp2_with fail
   go_end0
   exact⟨rfl,i.O,oR⟩
 ·have a:cA c b d=c:=yb (λj=>f j.1)
  rw[a];have n:(c==0)=false:=bF f;clear e a f;go_enter Tryz.func150,Tryz.ntmps150;go_wp2_with fail
  go_end0
  exact⟨rfl,i.O,oR⟩
def eQ(regs:Int)(xs:List Int):Bool:=!(xs.any λx=>decide (regs<=x))
theorem i5(regs:Int)(g:Nat)(a:List Int)(c:Nat)(w:World)(l:fg w g .i64 a)(o:a.length<=1000):
 Calls Tryz.prog 197 #[.int .i64 regs,.slice (some ⟨g,0,none⟩) a.length c] w λk w'=>k=.returned (.bool (eQ regs a))/\ac w w':=by
 obtain⟨d,b⟩:=eX (w.alloc (.cells #[.int .i64 regs] 3));have f:ac w d:=by rw[b];exact(aa.refl _ w).alloc _
 have j:ae d w.heap.size 3 #[.int .i64 regs]:=by rw[b];exact bN
 have i:=hD (we g a c d (l.kp f) o regs w.heap.size (j.I 0));obtain⟨r,e⟩:=eX (a.any λx=>decide (regs<=x));have m:eQ regs a= !r:=by unfold eQ;rw[e]
 rw[m];rw[<-e] at i;have s:=hD f;have t:=hD b.symm;generalize a.length=n at*;clear l o e m f j b;go_enter Tryz.func197,Tryz.ntmps197;go_upto_region 1 with fail;rw[t.O];go_wp2_with fail;refine i.O.mono ?_;rintro k v ⟨rfl,q⟩;have u:=hD (s.O.trans q);clear q;go_wp2_with fail;go_ret;exact⟨rfl,u.O⟩
def gE(p:List aj)(x:aj)(o:bQ):Int:=
 if o.k=12 then
  (let e:=cA (cA 0 (eQ x.rg [o.d]) 111) (decide (0<=o.n/\o.n<p.length)) 112
  if e=0 then cA 0 (decide ((bY p o.n).args=0\/o.a+(bY p o.n).args<=x.rg)) 111 else e)
 else if o.k=10 then cA 0 (decide (0<=o.n/\o.n<x.ops.length)) 112
 else if o.k=11 then cA (cA 0 (eQ x.rg [o.a]) 111) (decide (0<=o.n/\o.n<x.ops.length)) 112
 else if o.k=1 then cA 0 (eQ x.rg [o.d]) 111
 else if o.k=2 then cA 0 (eQ x.rg [o.d,o.a]) 111
 else if o.k=14 then cA 0 (eQ x.rg [o.a]) 111
 else if o.k=13 then 0
 else cA 0 (eQ x.rg [o.d,o.a,o.b]) 111
theorem CT{a y:Int}(b:0<=a/\a<=16)(c:0<=y/\y<=16):wrap64 (a+y)=a+y:=by unfold wrap64;omega
theorem xC(p:List aj)(x:aj)(o:bQ)(A B:Option Addr)(c aE g:Nat)(fn V:Int)(F:Nat->Prop)(w:World)(bq:ae w g 220 (aN 0 fn V))(c6:cy w F A p)(c8:∀b,F b->b≠g)
 (G:1<=o.k/\o.k<=14) (c9:0<=o.a/\o.a<=16) (cb:∀y∈p,0<=y.args/\y.args<=16):
 Calls Tryz.prog 151 #[.pointer (some ⟨g,0,none⟩),aS p A c,vQ x B aE,eS o] w λe w'=>e=.returned (.tuple #[])/\ae w' g 220 (aN (gE p x o) fn V)/\aa (λb=>b=g) w w':=by
 obtain⟨b0,L⟩:=eX (gE p x o);rw[<-L];obtain⟨n,bt⟩:=eX p.length;obtain⟨a5,br⟩:=eX x.ops.length;obtain⟨ba,b2⟩:=eX (w.alloc (.cells #[.slice A n c] 24));obtain⟨b7,bf⟩:=eX (ba.alloc (.cells #[.int .i64 x.args,.int .i64 x.rg,.slice B a5 aE] 99));obtain⟨z,bn⟩:=eX (b7.alloc (.cells #[.int .u8 o.k,.int .i64 o.d,.int .i64 o.a,.int .i64 o.b,.int .i64 o.n] 106));have ce:ac w ba:=by rw[b2];exact(aa.refl _ w).alloc _
 have bv:ac ba b7:=by rw[bf];exact oR.alloc _
 have bp:ac b7 z:=by rw[bn];exact oR.alloc _
 have bo:ac w z:=(ce.trans bv).trans bp;obtain⟨a7,b3⟩:=eX w.heap.size;have c5:ae z a7 24 #[.slice A n c]:=bp.J (bv.J (by rw[b2,b3];exact bN) nF) nF;have c3:ae z (a7+1) 99 #[.int .i64 x.args,.int .i64 x.rg,.slice B a5 aE]:=bp.J (by rw[bf];have:=ae.new ba 99 #[.int .i64 x.args,.int .i64 x.rg,.slice B a5 aE];rw[show ba.heap.size=a7+1 by rw[b2,b3];simp] at this;exact this) nF;have c4:ae z (a7+1+1) 106 #[.int .u8 o.k,.int .i64 o.d,.int .i64 o.a,.int .i64 o.b,.int .i64 o.n]:=by rw[bn];have:=ae.new b7 106 #[.int .u8 o.k,.int .i64 o.d,.int .i64 o.a,.int .i64 o.b,.int .i64 o.n];rw[show b7.heap.size=a7+1+1 by rw[bf,b2,b3];simp] at this;exact this
 have cm:g<a7:=by rw[b3];exact bq.lt
 have E:Hd (∀W,aa (λb=>b=g) z W->W.cell? ⟨a7,0,none⟩=some (.slice A n c)/\W.cell? ⟨a7+1,0,none⟩=some (.int .i64 x.args)/\W.cell? ⟨a7+1,1,none⟩=some (.int .i64 x.rg)/\W.cell? ⟨a7+1,2,none⟩=some (.slice B a5 aE)/\
  W.cell? ⟨a7+1+1,0,none⟩=some (.int .u8 o.k)/\W.cell? ⟨a7+1+1,1,none⟩=some (.int .i64 o.d)/\W.cell? ⟨a7+1+1,2,none⟩=some (.int .i64 o.a)/\W.cell? ⟨a7+1+1,3,none⟩=some (.int .i64 o.b)/\W.cell? ⟨a7+1+1,4,none⟩=some (.int .i64 o.n)):=hD λW bc=>by
  have cs:=bc.J c5 (by omega);have bx:=bc.J c3 (by omega);have bm:=bc.J c4 (by omega);exact⟨cs.I 0,bx.I 0,bx.I 1,bx.I 2,bm.I 0,bm.I 1,bm.I 2,bm.I 3,bm.I 4⟩
 have cf:Hd (∀W,aa (λb=>b=g) z W->cy W F A p):=hD λW bc=>(c6.U bo).kp bc c8
 have f:=hD (bo.J bq nF);have Z:=hD bo;have b5:=hD (aI bt br);have cg:=hD b3;have bz:=hD (aI c9 cb);have c1:=hD (show(((w.alloc (.cells #[.slice A n c] 24)).alloc (.cells #[.int .i64 x.args,.int .i64 x.rg,.slice B a5 aE] 99)).alloc (.cells #[.int .u8 o.k,.int .i64 o.d,.int .i64 o.a,.int .i64 o.b,.int .i64 o.n] 106))=z by rw[bn,bf,b2]);unfold aS vQ eS;rw[<-bt,<-br];have ab:Hd (aa (λb=>b=g) z z):=hD oR;obtain⟨l,q,r,s,j,t,u,v,m⟩:=E.O z ab.O;clear bq c6 c8 cb c9 b2 bf bn ce bv bp bo c5 c3 c4 cm b3 bt br;have cn:o.k=1\/o.k=2\/o.k=14\/o.k=13\/o.k=10\/o.k=11\/o.k=12\/(3<=o.k/\o.k<=9):=by omega
 clear G;unfold gE at L;go_enter Tryz.func151,Tryz.ntmps151;go_upto_region 1 with fail;rw[c1.O,<-cg.O];clear c1
 rcases cn with G|G|G|G|G|G|G|G
 ·rw[yb (by omega),yb (by omega),yb (by omega),yf G] at L
  have i:=hD L;rw[G] at E j;clear L G;go_wp2_with fail;refine(i5 x.rg _ [o.d] _ _ (dM _ .i64 [o.d] _) (by simp)).mono ?_;rintro e a2 ⟨rfl,a6⟩;have T:=((aa.refl (λ_=>False) z).alloc (.cells ([o.d].map (Value.int .i64)).toArray 3)).trans a6;have a1:Hd (aa (λb=>b=g) z a2):=hD ((ab).O.trans (T.mono λ_ e=>e.elim));have a0:=hD (T.J (f.O) nF);clear a6 T f l q r s j t u v m;obtain⟨l,q,r,s,j,t,u,v,m⟩:=E.O _ a1.O;generalize a3:eQ x.rg [o.d] =ai;rw[a3] at i;go_wp2_with fail;refine(bM g 0 fn V _ 111 a2 a0.O).mono ?_;rintro e X ⟨rfl,N,Q⟩;have S:Hd (aa (λb=>b=g) z X):=hD (a1.O.trans Q);have f:=hD N;clear N Q a0 l q r s j t u v m a3;obtain⟨l,q,r,s,j,t,u,v,m⟩:=E.O _ S.O;go_wp2_with fail
  go_end0
  refine⟨rfl,?_,(Z.O.mono λ_ e=>e.elim).trans (S).O⟩;rw[i.O];exact f.O
 ·rw[yb (by omega),yb (by omega),yb (by omega),yb (by omega),yf G] at L
  have i:=hD L;rw[G] at E j;clear L G;go_wp2_with fail;refine(i5 x.rg _ [o.d,o.a] _ _ (dM _ .i64 [o.d,o.a] _) (by simp)).mono ?_;rintro e a2 ⟨rfl,a6⟩;have T:=((aa.refl (λ_=>False) z).alloc (.cells ([o.d,o.a].map (Value.int .i64)).toArray 3)).trans a6;have a1:Hd (aa (λb=>b=g) z a2):=hD ((ab).O.trans (T.mono λ_ e=>e.elim));have a0:=hD (T.J (f.O) nF);clear a6 T f l q r s j t u v m;obtain⟨l,q,r,s,j,t,u,v,m⟩:=E.O _ a1.O;generalize a3:eQ x.rg [o.d,o.a] =ai;rw[a3] at i;go_wp2_with fail;refine(bM g 0 fn V _ 111 a2 a0.O).mono ?_;rintro e X ⟨rfl,N,Q⟩;have S:Hd (aa (λb=>b=g) z X):=hD (a1.O.trans Q);have f:=hD N;clear N Q a0 l q r s j t u v m a3;obtain⟨l,q,r,s,j,t,u,v,m⟩:=E.O _ S.O;go_wp2_with fail
  go_end0
  refine⟨rfl,?_,(Z.O.mono λ_ e=>e.elim).trans (S).O⟩;rw[i.O];exact f.O
 ·rw[yb (by omega),yb (by omega),yb (by omega),yb (by omega),yb (by omega),yf G] at L
  have i:=hD L;rw[G] at E j;clear L G;go_wp2_with fail;refine(i5 x.rg _ [o.a] _ _ (dM _ .i64 [o.a] _) (by simp)).mono ?_;rintro e a2 ⟨rfl,a6⟩;have T:=((aa.refl (λ_=>False) z).alloc (.cells ([o.a].map (Value.int .i64)).toArray 3)).trans a6;have a1:Hd (aa (λb=>b=g) z a2):=hD ((ab).O.trans (T.mono λ_ e=>e.elim));have a0:=hD (T.J (f.O) nF);clear a6 T f l q r s j t u v m;obtain⟨l,q,r,s,j,t,u,v,m⟩:=E.O _ a1.O;generalize a3:eQ x.rg [o.a] =ai;rw[a3] at i;go_wp2_with fail;refine(bM g 0 fn V _ 111 a2 a0.O).mono ?_;rintro e X ⟨rfl,N,Q⟩;have S:Hd (aa (λb=>b=g) z X):=hD (a1.O.trans Q);have f:=hD N;clear N Q a0 l q r s j t u v m a3;obtain⟨l,q,r,s,j,t,u,v,m⟩:=E.O _ S.O;go_wp2_with fail
  go_end0
  refine⟨rfl,?_,(Z.O.mono λ_ e=>e.elim).trans (S).O⟩;rw[i.O];exact f.O
 ·rw[yb (by omega),yb (by omega),yb (by omega),yb (by omega),yb (by omega),yb (by omega),yf G] at L
  have i:=hD L;rw[G] at E j;clear L G;go_wp2_with fail
  go_end0
  refine⟨rfl,?_,(Z.O.mono λ_ e=>e.elim).trans (ab).O⟩;rw[i.O];exact f.O
 ·rw[yb (by omega),yf G,<-b5.O.2] at L
  have i:=hD L;rw[G] at E j;clear L G
  by_cases D:0<=o.n
  ·have an:decide (0<=o.n)=true:=yg D
   by_cases H:o.n<(a5:Int)
   ·have ar:decide (o.n<(a5:Int))=true:=yg H
    have C:decide (0<=o.n/\o.n<(a5:Int))=true:=yg ⟨D,H⟩;rw[C] at i;clear C D H;go_wp2_with fail;refine(bM g 0 fn V _ 112 z f.O).mono ?_;rintro e b9 ⟨rfl,N,Q⟩;have al:Hd (aa (λb=>b=g) z b9):=hD ((ab).O.trans Q);have f:=hD N;clear N Q l q r s j t u v m;obtain⟨l,q,r,s,j,t,u,v,m⟩:=E.O _ al.O;go_wp2_with fail
    go_end0
    refine⟨rfl,?_,(Z.O.mono λ_ e=>e.elim).trans (al).O⟩;rw[i.O];exact f.O
   ·have ar:decide (o.n<(a5:Int))=false:=yd H
    have C:decide (0<=o.n/\o.n<(a5:Int))=false:=yd (λe=>H e.2);rw[C] at i;clear C D H;go_wp2_with fail;refine(bM g 0 fn V _ 112 z f.O).mono ?_;rintro e b9 ⟨rfl,N,Q⟩;have al:Hd (aa (λb=>b=g) z b9):=hD ((ab).O.trans Q);have f:=hD N;clear N Q l q r s j t u v m;obtain⟨l,q,r,s,j,t,u,v,m⟩:=E.O _ al.O;go_wp2_with fail
    go_end0
    refine⟨rfl,?_,(Z.O.mono λ_ e=>e.elim).trans (al).O⟩;rw[i.O];exact f.O
  ·have an:decide (0<=o.n)=false:=yd D
   have C:decide (0<=o.n/\o.n<(a5:Int))=false:=yd (λe=>D e.1);rw[C] at i;clear C D;go_wp2_with fail;refine(bM g 0 fn V _ 112 z f.O).mono ?_;rintro e b9 ⟨rfl,N,Q⟩;have al:Hd (aa (λb=>b=g) z b9):=hD ((ab).O.trans Q);have f:=hD N;clear N Q l q r s j t u v m;obtain⟨l,q,r,s,j,t,u,v,m⟩:=E.O _ al.O;go_wp2_with fail
   go_end0
   refine⟨rfl,?_,(Z.O.mono λ_ e=>e.elim).trans (al).O⟩;rw[i.O];exact f.O
 ·rw[yb (by omega),yb (by omega),yf G,<-b5.O.2] at L
  have i:=hD L;rw[G] at E j;clear L G;go_wp2_with fail;refine(i5 x.rg _ [o.a] _ _ (dM _ .i64 [o.a] _) (by simp)).mono ?_;rintro e a2 ⟨rfl,a6⟩;have T:=((aa.refl (λ_=>False) z).alloc (.cells ([o.a].map (Value.int .i64)).toArray 3)).trans a6;have a1:Hd (aa (λb=>b=g) z a2):=hD ((ab).O.trans (T.mono λ_ e=>e.elim));have a0:=hD (T.J (f.O) nF);clear a6 T f l q r s j t u v m;obtain⟨l,q,r,s,j,t,u,v,m⟩:=E.O _ a1.O;generalize a3:eQ x.rg [o.a] =ai;rw[a3] at i;go_wp2_with fail;refine(bM g 0 fn V _ 111 a2 a0.O).mono ?_;rintro e X ⟨rfl,N,Q⟩;have S:Hd (aa (λb=>b=g) z X):=hD (a1.O.trans Q);have f:=hD N;clear N Q a0 l q r s j t u v m a3;obtain⟨l,q,r,s,j,t,u,v,m⟩:=E.O _ S.O
  by_cases D:0<=o.n
  ·have an:decide (0<=o.n)=true:=yg D
   by_cases H:o.n<(a5:Int)
   ·have ar:decide (o.n<(a5:Int))=true:=yg H
    have C:decide (0<=o.n/\o.n<(a5:Int))=true:=yg ⟨D,H⟩;rw[C] at i;clear C D H;go_wp2_with fail;refine(bM g (cA 0 ai 111) fn V _ 112 X f.O).mono ?_;rintro e Y ⟨rfl,P,R⟩;have K:Hd (aa (λb=>b=g) z Y):=hD ((S).O.trans R);have f:=hD P;clear P R l q r s j t u v m;obtain⟨l,q,r,s,j,t,u,v,m⟩:=E.O _ K.O;go_wp2_with fail
    go_end0
    refine⟨rfl,?_,(Z.O.mono λ_ e=>e.elim).trans (K).O⟩;rw[i.O];exact f.O
   ·have ar:decide (o.n<(a5:Int))=false:=yd H
    have C:decide (0<=o.n/\o.n<(a5:Int))=false:=yd (λe=>H e.2);rw[C] at i;clear C D H;go_wp2_with fail;refine(bM g (cA 0 ai 111) fn V _ 112 X f.O).mono ?_;rintro e Y ⟨rfl,P,R⟩;have K:Hd (aa (λb=>b=g) z Y):=hD ((S).O.trans R);have f:=hD P;clear P R l q r s j t u v m;obtain⟨l,q,r,s,j,t,u,v,m⟩:=E.O _ K.O;go_wp2_with fail
    go_end0
    refine⟨rfl,?_,(Z.O.mono λ_ e=>e.elim).trans (K).O⟩;rw[i.O];exact f.O
  ·have an:decide (0<=o.n)=false:=yd D
   have C:decide (0<=o.n/\o.n<(a5:Int))=false:=yd (λe=>D e.1);rw[C] at i;clear C D;go_wp2_with fail;refine(bM g (cA 0 ai 111) fn V _ 112 X f.O).mono ?_;rintro e Y ⟨rfl,P,R⟩;have K:Hd (aa (λb=>b=g) z Y):=hD ((S).O.trans R);have f:=hD P;clear P R l q r s j t u v m;obtain⟨l,q,r,s,j,t,u,v,m⟩:=E.O _ K.O;go_wp2_with fail
   go_end0
   refine⟨rfl,?_,(Z.O.mono λ_ e=>e.elim).trans (K).O⟩;rw[i.O];exact f.O
 ·rw[yf G,<-b5.O.1] at L
  have i:=hD L;rw[G] at E j;clear L G;go_wp2_with fail;refine(i5 x.rg _ [o.d] _ _ (dM _ .i64 [o.d] _) (by simp)).mono ?_;rintro e a2 ⟨rfl,a6⟩;have T:=((aa.refl (λ_=>False) z).alloc (.cells ([o.d].map (Value.int .i64)).toArray 3)).trans a6;have a1:Hd (aa (λb=>b=g) z a2):=hD ((ab).O.trans (T.mono λ_ e=>e.elim));have a0:=hD (T.J (f.O) nF);clear a6 T f l q r s j t u v m;obtain⟨l,q,r,s,j,t,u,v,m⟩:=E.O _ a1.O;generalize a3:eQ x.rg [o.d] =ai;rw[a3] at i;go_wp2_with fail;refine(bM g 0 fn V _ 111 a2 a0.O).mono ?_;rintro e X ⟨rfl,N,Q⟩;have S:Hd (aa (λb=>b=g) z X):=hD (a1.O.trans Q);have f:=hD N;clear N Q a0 l q r s j t u v m a3;obtain⟨l,q,r,s,j,t,u,v,m⟩:=E.O _ S.O
  cases ai
  ·have bk:cA 0 false 111=111:=rfl
   rw[bk] at f i;clear bk
   by_cases D:0<=o.n
   ·have an:decide (0<=o.n)=true:=yg D
    by_cases H:o.n<(n:Int)
    ·have ar:decide (o.n<(n:Int))=true:=yg H
     have C:decide (0<=o.n/\o.n<(n:Int))=true:=yg ⟨D,H⟩;rw[C] at i;clear C;clear D H;go_wp2_with fail;refine(bM g 111 fn V _ 112 X f.O).mono ?_;rintro e Y ⟨rfl,P,R⟩;have K:Hd (aa (λb=>b=g) z Y):=hD ((S).O.trans R);have f:=hD P;clear P R l q r s j t u v m;obtain⟨l,q,r,s,j,t,u,v,m⟩:=E.O _ K.O;have a4:cA 111 true 112=111:=rfl;rw[a4] at f i;clear a4;have a8:Hd (b0=111):=hD i.O;have ad:=f.O.I 0;simp[aN] at ad;clear i;have i:=a8;go_wp2_with fail
     go_end0
     refine⟨rfl,?_,(Z.O.mono λ_ e=>e.elim).trans (K).O⟩;rw[i.O];exact f.O
    ·have ar:decide (o.n<(n:Int))=false:=yd H
     have C:decide (0<=o.n/\o.n<(n:Int))=false:=yd (λe=>H e.2);rw[C] at i;clear C D H;go_wp2_with fail;refine(bM g 111 fn V _ 112 X f.O).mono ?_;rintro e Y ⟨rfl,P,R⟩;have K:Hd (aa (λb=>b=g) z Y):=hD ((S).O.trans R);have f:=hD P;clear P R l q r s j t u v m;obtain⟨l,q,r,s,j,t,u,v,m⟩:=E.O _ K.O;have a4:cA 111 false 112=111:=rfl;rw[a4] at f i;clear a4;have a8:Hd (b0=111):=hD i.O;have ad:=f.O.I 0;simp[aN] at ad;clear i;have i:=a8;go_wp2_with fail
     go_end0
     refine⟨rfl,?_,(Z.O.mono λ_ e=>e.elim).trans (K).O⟩;rw[i.O];exact f.O
   ·have an:decide (0<=o.n)=false:=yd D
    have C:decide (0<=o.n/\o.n<(n:Int))=false:=yd (λe=>D e.1);rw[C] at i;clear C D;go_wp2_with fail;refine(bM g 111 fn V _ 112 X f.O).mono ?_;rintro e Y ⟨rfl,P,R⟩;have K:Hd (aa (λb=>b=g) z Y):=hD ((S).O.trans R);have f:=hD P;clear P R l q r s j t u v m;obtain⟨l,q,r,s,j,t,u,v,m⟩:=E.O _ K.O;have a4:cA 111 false 112=111:=rfl;rw[a4] at f i;clear a4;have a8:Hd (b0=111):=hD i.O;have ad:=f.O.I 0;simp[aN] at ad;clear i;have i:=a8;go_wp2_with fail
    go_end0
    refine⟨rfl,?_,(Z.O.mono λ_ e=>e.elim).trans (K).O⟩;rw[i.O];exact f.O
  ·have bk:cA 0 true 111=0:=rfl
   rw[bk] at f i;clear bk
   by_cases D:0<=o.n
   ·have an:decide (0<=o.n)=true:=yg D
    by_cases H:o.n<(n:Int)
    ·have ar:decide (o.n<(n:Int))=true:=yg H
     have C:decide (0<=o.n/\o.n<(n:Int))=true:=yg ⟨D,H⟩;rw[C] at i;clear C;obtain⟨n',az⟩ :∃n':Nat,o.n=(n':Int):=ym D;have cd:p[n']?=some (bY p o.n):=by rw[<-(jz D (by rw[<-b5.O.1];exact H)).2,az,yo]
     have b4:=bz.O.2 (bY p o.n) (jz D (by rw[<-b5.O.1];exact H)).1;have ci:=hD az;have c0:=hD cd;have c2:=hD b4;have ch:Hd ((n':Int)<(n:Int)):=hD (by rw[<-az];exact H);clear D H az cd b4;go_wp2_with fail;refine(bM g 0 fn V _ 112 X f.O).mono ?_;rintro e Y ⟨rfl,P,R⟩;have K:Hd (aa (λb=>b=g) z Y):=hD ((S).O.trans R);have f:=hD P;clear P R l q r s j t u v m;obtain⟨l,q,r,s,j,t,u,v,m⟩:=E.O _ K.O;have a4:cA 0 true 112=0:=rfl;rw[a4] at f i;clear a4;have a8:Hd (b0=cA 0 (decide ((bY p o.n).args=0\/o.a+(bY p o.n).args<=x.rg)) 111):=hD i.O;have ad:=f.O.I 0;simp[aN] at ad;clear i;have i:=a8;clear a8;obtain⟨b,dz,cv,cB,c7,d4,cq,cr,_⟩:=(cf.O _ K.O).at_ c0.O;have d2:(0:Int)<=(n':Int):=dN n';have d3:=ch.O;have b4:=c2.O;have az:=ci.O;clear c0 c2;generalize (bY p o.n).args=a9 at*;rw[az] at m an ar;rw[c7] at l;clear cq cr c7 az
     by_cases bb:a9=0
     ·subst bb
      have am:decide ((0:Int)=0\/o.a+0<=x.rg)=true:=yg (.inl rfl);rw[am] at i;clear am;go_wp2_with fail;refine(bM g 0 fn V _ 111 Y f.O).mono ?_;rintro e b8 ⟨rfl,av,aw⟩;have b6:Hd (aa (λb=>b=g) z b8):=hD (K.O.trans aw);have f:=hD av;clear av aw;go_wp2_with fail
      go_end0
      refine⟨rfl,?_,(Z.O.mono λ_ e=>e.elim).trans (b6).O⟩;rw[i.O];exact f.O
     ·have d1:(a9==0)=false:=bF bb
      have cp:wrap64 (o.a+a9)=o.a+a9:=CT bz.O.1 b4;have d0:=(cQ (o.a+a9)).trans cp
      by_cases b1:o.a+a9<=x.rg
      ·have ck:decide (o.a+a9<=x.rg)=true:=yg b1
       have am:decide (a9=0\/o.a+a9<=x.rg)=true:=yg (.inr b1);rw[am] at i;clear am bb b1 b4;go_wp2_with fail;refine(bM g 0 fn V _ 111 Y f.O).mono ?_;rintro e b8 ⟨rfl,av,aw⟩;have b6:Hd (aa (λb=>b=g) z b8):=hD (K.O.trans aw);have f:=hD av;clear av aw;go_wp2_with fail
       go_end0
       refine⟨rfl,?_,(Z.O.mono λ_ e=>e.elim).trans (b6).O⟩;rw[i.O];exact f.O
      ·have ck:decide (o.a+a9<=x.rg)=false:=yd b1
       have am:decide (a9=0\/o.a+a9<=x.rg)=false:=yd (λe=>e.elim bb b1);rw[am] at i;clear am bb b1 b4;go_wp2_with fail;refine(bM g 0 fn V _ 111 Y f.O).mono ?_;rintro e b8 ⟨rfl,av,aw⟩;have b6:Hd (aa (λb=>b=g) z b8):=hD (K.O.trans aw);have f:=hD av;clear av aw;go_wp2_with fail
       go_end0
       refine⟨rfl,?_,(Z.O.mono λ_ e=>e.elim).trans (b6).O⟩;rw[i.O];exact f.O
    ·have ar:decide (o.n<(n:Int))=false:=yd H
     have C:decide (0<=o.n/\o.n<(n:Int))=false:=yd (λe=>H e.2);rw[C] at i;clear C D H;go_wp2_with fail;refine(bM g 0 fn V _ 112 X f.O).mono ?_;rintro e Y ⟨rfl,P,R⟩;have K:Hd (aa (λb=>b=g) z Y):=hD ((S).O.trans R);have f:=hD P;clear P R l q r s j t u v m;obtain⟨l,q,r,s,j,t,u,v,m⟩:=E.O _ K.O;have a4:cA 0 false 112=112:=rfl;rw[a4] at f i;clear a4;have a8:Hd (b0=112):=hD i.O;have ad:=f.O.I 0;simp[aN] at ad;clear i;have i:=a8;go_wp2_with fail
     go_end0
     refine⟨rfl,?_,(Z.O.mono λ_ e=>e.elim).trans (K).O⟩;rw[i.O];exact f.O
   ·have an:decide (0<=o.n)=false:=yd D
    have C:decide (0<=o.n/\o.n<(n:Int))=false:=yd (λe=>D e.1);rw[C] at i;clear C D;go_wp2_with fail;refine(bM g 0 fn V _ 112 X f.O).mono ?_;rintro e Y ⟨rfl,P,R⟩;have K:Hd (aa (λb=>b=g) z Y):=hD ((S).O.trans R);have f:=hD P;clear P R l q r s j t u v m;obtain⟨l,q,r,s,j,t,u,v,m⟩:=E.O _ K.O;have a4:cA 0 false 112=112:=rfl;rw[a4] at f i;clear a4;have a8:Hd (b0=112):=hD i.O;have ad:=f.O.I 0;simp[aN] at ad;clear i;have i:=a8;go_wp2_with fail
    go_end0
    refine⟨rfl,?_,(Z.O.mono λ_ e=>e.elim).trans (K).O⟩;rw[i.O];exact f.O
 ·rw[yb (by omega),yb (by omega),yb (by omega),yb (by omega),yb (by omega),yb (by omega),yb (by omega)] at L
  have dn:(o.k==1)=false:=bF (by omega);have dw:(o.k==2)=false:=bF (by omega);have dp:(o.k==10)=false:=bF (by omega);have dq:(o.k==11)=false:=bF (by omega);have dr:(o.k==12)=false:=bF (by omega);have ds:(o.k==13)=false:=bF (by omega);have dv:(o.k==14)=false:=bF (by omega);have d5:¬o.k=1:=by omega
  have dm:¬o.k=2:=by omega
  have d6:¬o.k=10:=by omega
  have d7:¬o.k=11:=by omega
  have d8:¬o.k=12:=by omega
  have dk:¬o.k=13:=by omega
  have dl:¬o.k=14:=by omega
  have i:=hD L;clear L G;go_wp2_with fail;refine(i5 x.rg _ [o.d,o.a,o.b] _ _ (dM _ .i64 [o.d,o.a,o.b] _) (by simp)).mono ?_;rintro e a2 ⟨rfl,a6⟩;have T:=((aa.refl (λ_=>False) z).alloc (.cells ([o.d,o.a,o.b].map (Value.int .i64)).toArray 3)).trans a6;have a1:Hd (aa (λb=>b=g) z a2):=hD ((ab).O.trans (T.mono λ_ e=>e.elim));have a0:=hD (T.J (f.O) nF);clear a6 T f l q r s j t u v m;obtain⟨l,q,r,s,j,t,u,v,m⟩:=E.O _ a1.O;generalize a3:eQ x.rg [o.d,o.a,o.b] =ai;rw[a3] at i;go_wp2_with fail;refine(bM g 0 fn V _ 111 a2 a0.O).mono ?_;rintro e X ⟨rfl,N,Q⟩;have S:Hd (aa (λb=>b=g) z X):=hD (a1.O.trans Q);have f:=hD N;clear N Q a0 l q r s j t u v m a3;obtain⟨l,q,r,s,j,t,u,v,m⟩:=E.O _ S.O;go_wp2_with fail
  go_end0
  refine⟨rfl,?_,(Z.O.mono λ_ e=>e.elim).trans (S).O⟩;rw[i.O];exact f.O
def ip(p:List aj)(x:aj):List bQ->Int
 | []=>0
 |o :: l=>if gE p x o≠0 then gE p x o else ip p x l
def jo(x:aj):Bool:=decide (0<x.ops.length)&&((x.ops.getD (x.ops.length-1) qC).k==10||(x.ops.getD (x.ops.length-1) qC).k==14)
def pQ(x:aj):Int:=cA 0 (decide (x.args<=x.rg)) 110
def eK(p:List aj)(x:aj)(k:Nat):Int:=if pQ x≠0 then pQ x else ip p x (x.ops.take k)
def bj(p:List aj)(x:aj):Int:=cA (eK p x x.ops.length) (jo x) 113
def eE(p:List aj):List aj->Int
 | []=>0
 |x :: l=>if bj p x≠0 then bj p x else eE p l
def cz(p:List aj):Int:=if kg p=false then 8 else if p= [] then 110 else eE p p
theorem nT(p:List aj)(x:aj):∀(l:List bQ) (o:bQ),ip p x l=0->ip p x (l++ [o])=gE p x o
 | [],o,_=>by
   show(if gE p x o≠0 then gE p x o else 0)=gE p x o
   by_cases b:gE p x o≠0
   ·rw[yf b]
   ·rw[yb b];omega
 |a :: l,o,b=>by
  rw[Ye];unfold ip at b ⊢;split at b
  ·rename_i c;exact absurd b c
  ·rename_i c
   rw[yb c];exact nT p x l o b
theorem pz(p:List aj)(x:aj):∀(l d:List bQ),ip p x l≠0->ip p x (l++d)=ip p x l
 | [],d,b=>absurd rfl b
 |a :: l,d,b=>by
  rw[Ye];unfold ip at b ⊢
  by_cases c:gE p x a≠0
  ·rw[yf c,yf c]
  ·rw[yb c] at b ⊢
   rw[yb c];exact pz p x l d b
theorem Cd{p:List aj}{x:aj}{k:Nat}{o:bQ}(c:x.ops[k]?=some o)(a:eK p x k=0):eK p x (k+1)=gE p x o:=by
 unfold eK at a ⊢;split at a
 ·rename_i b;exact absurd a b
 ·rename_i b
  rw[yb b,yO,c];exact nT p x _ o a
theorem tF{p:List aj}{x:aj}{k:Nat}(a:eK p x k≠0):bj p x=eK p x k:=by
 have:eK p x x.ops.length=eK p x k:=by
  unfold eK at a ⊢
  by_cases b:pQ x≠0
  ·rw[yf b,yf b]
  ·rw[yb b] at a ⊢
   rw[yb b,zr];have:=pz p x (x.ops.take k) (x.ops.drop k) a;rw[List.take_append_drop] at this;exact this
 unfold bj;rw[this];exact yb λc=>a c.1
theorem Ce(p:List aj)(x:aj):eK p x 0=pQ x:=by
 unfold eK;split
 ·rfl
 ·rename_i a
  have:pQ x=0:=by omega
  rw[this];rfl
theorem pe{p:List aj}(b:kg p=true):∀x∈p,(0<=x.args/\x.args<=16)/\(0<=x.rg/\x.rg<=16)/\x.ops.length<=64/\∀o∈x.ops,di o=true:=by
 intro x j;unfold kg at b;rw[zm] at b;have g:p.any io=false:=by have:=b.2;simpa using this
 have c:io x=false:=by
  have:=zI.1 g x j
  simpa using this
 unfold io at c;rw[Bool.or_eq_false_iff,Bool.or_eq_false_iff] at c;obtain⟨⟨d,e⟩,f⟩:=c;have a:(cZ x.args&&cZ x.rg)=true:=by simpa using d
 rw[zm] at a;refine⟨yD a.1,yD a.2,yA (of_decide_eq_false e),λo i=>?_⟩;have:=zI.1 f o i
 simpa using this
theorem mE{o:bQ}(c:di o=true):(1<=o.k/\o.k<=14)/\(0<=o.d/\o.d<=16)/\(0<=o.a/\o.a<=16)/\(0<=o.b/\o.b<=16):=by
 unfold di at c;simp only[zm] at c;obtain⟨⟨⟨⟨⟨e,⟨f,g⟩,i⟩,_⟩,_⟩,_⟩,_⟩:=c;exact⟨yD e,yD f,yD g,yD i⟩
theorem jJ{p l:List aj}{x:aj}(a:bj p x=0):eE p (x :: l)=eE p l:=by
 show(if bj p x≠0 then _ else _)=_;rw[yb (by rw[a];simp)]
theorem iL{p l:List aj}{x:aj}(a:bj p x≠0):eE p (x :: l)=bj p x:=by
 show(if bj p x≠0 then _ else _)=_;rw[yf a]
theorem uD{a:Nat}(b:¬a=0)(c:a<=64):wrap64 ((a:Int)-1)=((a-1:Nat):Int)/\(0:Int)<=((a-1:Nat):Int)/\((a-1:Nat):Int)<(a:Int)/\decide ((0:Int)<(a:Int))=true/\a-1<a:=by
 refine⟨by unfold wrap64;omega,by omega,by omega,yg (by omega),by omega⟩
def BR(w w':World)(p:List aj)(e:Ending):Prop:=∃fn op,e=.returned (.agg (aN (cz p) fn op))/\ac w w'
theorem rY(p:List aj)(A:Option Addr)(c:Nat)(F:Nat->Prop)(w:World)(cB:cy w F A p)(f3:∀b,F b->b<w.heap.size)(d5:p.length<=1000)(dk:∀x∈p,kA x):
 Calls Tryz.prog 108 #[aS p A c] w λs w'=>BR w w' p s:=by
 obtain⟨n,cb⟩:=eX p.length;obtain⟨ba,bk⟩:=eX (w.alloc (.cells #[.slice A n c] 24));obtain⟨a9,c2⟩:=eX (ba.alloc (.cells (aN 0 0 0) 220));have ff:ac w ba:=by rw[bk];exact(aa.refl _ w).alloc _
 have dr:ac ba a9:=by rw[c2];exact oR.alloc _
 obtain⟨f,c7⟩:=eX w.heap.size;have cr:ae a9 f 24 #[.slice A n c]:=dr.J (by rw[bk,c7];exact bN) nF;have e:ae a9 (f+1) 220 (aN 0 0 0):=by rw[c2];have:=ae.new ba 220 (aN 0 0 0);rw[show ba.heap.size=f+1 by rw[bk,c7];simp] at this;exact this
 have br:=ff.trans dr;obtain⟨f0,d1⟩:=eX (kg p);have bv:=hD d1
 have ec:Hd (Calls Tryz.prog 149 #[.agg #[.slice A n c]] a9 λs w'=>s=.returned (.bool f0)/\ac a9 w'):=hD (by
  have:=Af p A c F a9 (cB.U br) d5 dk;unfold aS at this;rw[<-cb,<-d1] at this;exact this)
 have e3:=hD (cB.U br);have ef:=hD cr;have e6:=hD e;have g1:=hD br;have al:=hD (aI cb d5);have Z:=hD c7;have e9:Hd (∀b,F b->b<a9.heap.size):=hD λb l=>lL (f3 b l) br.size
 have g6:=hD dk;have eg:=hD (show((w.alloc (.cells #[.slice A n c] 24)).alloc (.cells #[.int .i64 0,.int .i64 0,.int .i64 0] 220))=a9 by rw[c2,bk];rfl);have L:=cr.I 0;simp at L;unfold aS;rw[<-cb];clear cB f3 d5 dk cb bk c2 ff dr c7 cr e br d1;go_enter Tryz.func108,Tryz.ntmps108;go_upto_region 1 with fail;rw[eg.O,<-Z.O];clear eg;go_wp2_with fail;refine ec.O.mono ?_;rintro s K ⟨rfl,b7⟩;have cp:=hD (b7.J ef.O nF);have D:=hD (b7.J e6.O nF);have a8:=hD (g1.O.trans b7);have e4:=hD (e3.O.U b7);have fw:Hd (∀b,F b->b<K.heap.size):=hD λb l=>lL (e9.O b l) b7.size
 have L:=cp.O.I 0;simp at L;have E:=D.O.I 0;have G:=D.O.I 1;have H:=D.O.I 2;simp[aN] at E G H;have aw:=D.O.fz 0;have az:=D.O.fz 1;have aE:=D.O.fz 2;clear b7 ec ef e6 e3 e9
 cases f0
 ·have S:Hd (cz p=8):=hD (by unfold cz;rw[yf bv.O.symm])
  go_wp2_with fail;refine bodyPost_ret (bS Tryz.results108 rfl (cs:=aN 8 0 0) (((D.O.s_ 0 _).s_ 1 _).s_ 2 _) Tryz.underlying220 rfl (by kernel_rfl)) rfl ?_;refine⟨0,0,by rw[S.O],a8.O.trans' (aB (aB (ag K (f+1) _ _))) (λb l=>.inr (by rw[l,Z.O];exact yX _))⟩
 ·by_cases cd:n=0
  ·subst cd
   have S:Hd (cz p=110):=hD (by unfold cz;rw[yb (by rw[<-bv.O];simp),yf (yr al.O.1.symm)]);go_wp2_with fail;refine bodyPost_ret (bS Tryz.results108 rfl (cs:=aN 110 0 0) (((D.O.s_ 0 _).s_ 1 _).s_ 2 _) Tryz.underlying220 rfl (by kernel_rfl)) rfl ?_;refine⟨0,0,by rw[S.O],a8.O.trans' (aB (aB (ag K (f+1) _ _))) (λb l=>.inr (by rw[l,Z.O];exact yX _))⟩
  ·have t:((n:Int)==0)=false:=bF (by omega)
   have S:Hd (cz p=eE p p):=hD (by unfold cz;rw[yb (by rw[<-bv.O];simp),yb (λs=>cd (by rw[al.O.1,s];rfl))]);have ea:=hD (pe bv.O.symm);have h7:=hD cd;clear cd;go_wp2_with fail;clear E G H aw az aE
   go_loopw [23] (λi wr=>∃k:Nat,k<=n/\i=.int .i64 k/\eE p (p.drop k)=eE p p/\ac K wr) (λi _=>n-(intOf i).toNat)
   case atStart=>exact⟨0,yx _,rfl,rfl,oR⟩
   case round=>
    obtain⟨k,gn,rfl,bq,ad⟩:=hrel
    by_cases v:k<n
    ·have ha:(0:Int)<=(k:Int):=dN k
     have ge:(k:Int)<(n:Int):=cN v;have c9:k<p.length:=by rw[<-al.O.1];exact v
     have d4:p[k]?=some p[k]:=gG c9;have d7:=yN c9;have f5:=yM c9;generalize p[k] =x at*;obtain⟨b,ds,B,c1,gc,h4,h5,fp,f2⟩:=(e4.O.U ad).at_ d4;obtain⟨a4,d6⟩:=eX x.ops.length;rw[<-d6] at fp;have ai:wrap64 ((k:Int)+1)=(k:Int)+1:=eM v (by rw[al.O.1];exact al.O.2);subst gc;have gx:wr.cell? ⟨f,0,none⟩=some (.slice (some ⟨b,ds,none⟩) n c):=(ad.J cp.O nF).I 0;obtain⟨bb,bm⟩:=eX (wr.alloc (.cells #[.int .i64 x.args,.int .i64 x.rg,.slice B a4 c1] 99));obtain⟨av,c3⟩:=eX (bb.alloc (.cells #[.int .i64 0,.int .i64 (k:Int),.int .i64 0] 220));have dz:ac wr bb:=by rw[bm];exact oR.alloc _
     have ci:ac bb av:=by rw[c3];exact oR.alloc _
     obtain⟨bc,bo⟩:=eX wr.heap.size;obtain⟨r,c8⟩:=eX (bc+1);have cq:ae av bc 99 #[.int .i64 x.args,.int .i64 x.rg,.slice B a4 c1]:=ci.J (by rw[bm,bo];exact bN) nF;have em:ae av r 220 (aN 0 (k:Int) 0):=by rw[c3];have:=ae.new bb 220 (aN 0 (k:Int) 0);rw[show bb.heap.size=r by rw[bm,c8,bo];simp] at this;exact this
     have g8:Hd (ac K av):=hD ((ad.trans dz).trans ci);have f8:K.heap.size<=r:=by rw[c8,bo];exact zJ ad.size
     have a7:=hD f8;have e1:=hD cq;have e2:=hD em;have cn:=hD (ea.O x d7);have h8:=hD (g6.O x d7);have N:=hD d6;have h6:=hD d4;have Y:=hD f5;have a1:=hD bq;have e5:Hd (cO av F B x.ops):=hD ((f2.U dz).U ci);have b8:Hd (bc=wr.heap.size/\r=bc+1/\bc≠r):=hD ⟨bo,c8,by omega⟩;have ei:Hd ((wr.alloc (.cells #[.int .i64 x.args,.int .i64 x.rg,.slice B a4 c1] 99)).alloc (.cells #[.int .i64 0,.int .i64 (k:Int),.int .i64 0] 220)=av):=hD (by rw[c3,bm]);obtain⟨gs,gt⟩:=cq.gE2;clear d4 d7 f5 d6 bq ad f2 bm c3 dz ci bo c8 cq em f8 c9;go_upto_region 9 with fail;rw[ei.O,<-b8.O.1,<-b8.O.2.1];clear ei;go_wp2_with fail;refine(bM r 0 (k:Int) 0 _ 110 av e2.O).mono ?_;rintro s a2 ⟨rfl,dl,ck⟩;have b5:cA 0 (decide (x.args<=x.rg)) 110=eK p x 0:=(Ce p x).symm;rw[b5] at dl;have cm:=hD (ck.J e1.O b8.O.2.2);have g7:=hD dl;have an:Hd (ac K a2):=hD (g8.O.trans' ck (λb l=>.inr (by rw[l];exact a7.O)));have b9:Hd (∀b,F b->b≠r):=hD λb l s=>by have:=fw.O b l;have:=a7.O;omega
     have e7:Hd (cO a2 F B x.ops):=hD (e5.O.kp ck b9.O);have e0:=cm.O.I 2;simp at e0;clear dl ck gs gt h4 h5 fp gx b5 e1 e2 e5;go_wp2_with fail;obtain⟨hc,gp⟩:=eX wr;subst gp
     go_loopw [39] (λi wr=>∃(j:Nat) (m:Int),j<=a4/\i=.int .i64 j/\ae wr r 220 (aN (eK p x j) (k:Int) m)/\aa (λb=>b=r) a2 wr) (λi _=>a4-(intOf i).toNat)
     case atStart=>exact⟨0,0,yx _,rfl,g7.O,oR⟩
     case round=>
      obtain⟨j,m,gf,rfl,bn,b1⟩:=hrel
      by_cases ab:j<a4
      ·have hb:(0:Int)<=(j:Int):=dN j
       have gr:(j:Int)<(a4:Int):=cN ab;have d3:j<x.ops.length:=by rw[<-N.O];exact ab
       have d8:x.ops[j]?=some x.ops[j]:=gG d3;have f6:=cn.O.2.2.2 x.ops[j] (yN d3);have fb:wrap64 ((j:Int)+1)=(j:Int)+1:=eM ab (by rw[N.O];exact lT cn.O.2.2.1 (by decide));generalize x.ops[j] =o at*;obtain⟨ej,fk,d0,a3⟩:=(e7.O.kp b1 b9.O).at_ d8;subst d0;have L:=a3 0 _ rfl;have h0:=a3 1 _ rfl;have h1:=a3 2 _ rfl;have h2:=a3 3 _ rfl;have h3:=a3 4 _ rfl;rw[yW] at L;obtain⟨T,c4⟩:=eX (wr.alloc (.cells #[.int .u8 o.k,.int .i64 o.d,.int .i64 o.a,.int .i64 o.b,.int .i64 o.n] 106));have dv:ac wr T:=by rw[c4];exact oR.alloc _
       obtain⟨f1,d2⟩:=eX wr.heap.size;have el:ae T f1 106 #[.int .u8 o.k,.int .i64 o.d,.int .i64 o.a,.int .i64 o.b,.int .i64 o.n]:=by rw[c4,d2];exact bN
       have f7:f1≠r:=λs=>by have:=bn.lt;omega
       have V:=dv.J bn nF;have f9:aa (λb=>b=r) a2 T:=b1.trans (dv.mono λ_ s=>s.elim);have bx:=hD c4.symm;have eb:=hD d2;have W:=hD el;have g0:=hD f7;have ee:=hD f9;have g5:=hD d8;have fx:=hD f6;clear c4 dv d2 el f7 f9 d8 f6 a3 b1 bn d3 e0
       by_cases g:eK p x j=0
       ·rw[g] at V
        have eq:=V.I 0;have es:=V.I 2;have g9:=V.fz 2;simp[aN] at eq es;have fs:=hD V;have fv:=hD g;clear V g;go_upto_region 13 with fail;rw[bx.O,<-eb.O];clear bx;go_upto_region 16 with fail;obtain⟨b2,c5⟩:=eX (T.setCell ⟨r,2,none⟩ (.int .i64 (j:Int)));rw[<-c5];have dw:aa (λb=>b=r) T b2:=by rw[c5];exact ag _ _ _ _
        have f4:ae b2 r 220 (aN 0 (k:Int) (j:Int)):=by rw[c5];exact fs.O.s_ 2 _
        have bp:aa (λb=>b=r) a2 b2:=ee.O.trans dw;have ek:ae b2 f 24 #[.slice (some ⟨b,ds,none⟩) n c]:=(an.O.trans' bp (λb l=>.inr (by rw[l];exact a7.O)):ac K b2).J cp.O nF;have c0:=bp.J cm.O b8.O.2.2;have b3:=dw.J W.O g0.O;have fl:=ek.I 0;have fm:=c0.I 0;have fn:=c0.I 1;have fo:=c0.I 2;have v0:=b3.I 0;have v1:=b3.I 1;have v2:=b3.I 2;have v3:=b3.I 3;have v4:=b3.I 4;simp at fl fm fn fo v0 v1 v2 v3 v4;obtain⟨ex,ga,eL,gb⟩:=mE fx.O;have c6:=xC p x o (some ⟨b,ds,none⟩) (some ⟨ej,fk,none⟩) c c1 r (k:Int) (j:Int) F b2 f4 ((e4.O.U an.O).kp bp b9.O) b9.O ex eL (λy gq=>(ea.O y gq).1);unfold aS vQ eS at c6;rw[<-al.O.1,<-N.O] at c6;have e8:=hD c6;have g3:=hD bp;clear c6 bp ek c0 b3 f4 dw c5 ex ga eL gb eq es g9 L h0 h1 h2 h3;go_wp2_with fail;refine e8.O.mono ?_;rintro s h9 ⟨rfl,b5,fj⟩;rw[<-Cd g5.O fv.O] at b5;have ft:=hD b5;have g4:=hD (g3.O.trans fj);clear b5 fj fl fm fn fo v0 v1 v2 v3 v4 e8;go_wp2_with fail;go_roundw
        case rel=>exact⟨j+1,(j:Int),ab,by first|exact cK j|exact cH fb,ft.O,g4.O⟩
        case measure=>first|exact aG rfl ab|exact aG fb ab
       ·have P:Hd (cz p=eK p x j):=hD (by rw[S.O,<-a1.O,Y.O,iL (by rw[tF g];exact g),tF g])
        have ce:(eK p x j==0)=false:=bF g;have cf:(eK p x j !=0)=true:=bT g;have u:Hd (ac K T):=hD (an.O.trans' ee.O (λb l=>.inr (by rw[l];exact a7.O)));have s0:=(V).I 0;have a5:=(V).I 1;have a6:=(V).I 2;simp[aN] at s0 a5 a6;have e:ae T (f+1) 220 (aN 0 0 0):=(u.O).J D.O nF;have E:=e.I 0;have G:=e.I 1;have H:=e.I 2;simp[aN] at E G H;have aw:=e.fz 0;have az:=e.fz 1;have aE:=e.fz 2;have X:Hd (ae (((T.setCell ⟨f+1,0,none⟩ (.int .i64 (eK p x j))).setCell ⟨f+1,1,none⟩ (.int .i64 (k:Int))).setCell ⟨f+1,2,none⟩ (.int .i64 m)) (f+1) 220 (aN (eK p x j) (k:Int) m)):=hD (((e.s_ 0 _).s_ 1 _).s_ 2 _);have a0:Hd (ac w (((T.setCell ⟨f+1,0,none⟩ (.int .i64 (eK p x j))).setCell ⟨f+1,1,none⟩ (.int .i64 (k:Int))).setCell ⟨f+1,2,none⟩ (.int .i64 m))):=hD ((a8.O.trans (u.O)).trans' (aB (aB (ag T (f+1) _ _))) (λb l=>.inr (by rw[l,Z.O];exact yX _)));clear e;clear g V;go_upto_region 13 with fail;rw[bx.O,<-eb.O];clear bx;go_wp2_with fail;refine bodyPost_ret (bS Tryz.results108 rfl (cs:=aN (eK p x j) (k:Int) m) X.O Tryz.underlying220 rfl (by kernel_rfl)) rfl ?_;refine⟨(k:Int),m,?_,a0.O⟩;rw[P.O]
      ·have gr:¬(j:Int)<(a4:Int):=λs=>ab (yB.1 s)
       have gm:j=a4:=yT gf (yA ab);subst gm;have gu:=(b1.J cm.O b8.O.2.2).I 2;simp at gu;have bt:=hD bn;have bz:=hD b1;have fq:=hD (e7.O.kp b1 b9.O);clear bn b1 e0
       by_cases b0:j=0
       ·have fd:x.ops= []:=yr (by rw[<-N.O];exact b0)
        have W:Hd (jo x=false):=hD (by unfold jo;rw[fd];rfl);subst b0;clear fd;go_wp2_with fail;refine(bM r (eK p x 0) (k:Int) m false 113 wr bt.O).mono ?_;rintro s q ⟨rfl,t,R⟩;have Q:cA (eK p x 0) false 113=bj p x:=by unfold bj;rw[<-N.O,W.O]
        rw[Q] at t;have ar:Hd (aa (λb=>b=r) a2 q):=hD (bz.O.trans R);have u:Hd (ac K q):=hD (an.O.trans' ar.O (λb l=>.inr (by rw[l];exact a7.O)));have C:=t.I 0;simp[aN] at C;have z:=hD t;clear t R Q
        by_cases g:bj p x=0
        ·have am:Hd (eE p (p.drop (k+1))=eE p p):=hD (by rw[<-a1.O,Y.O,jJ g])
         rw[g] at C;clear g;go_wp2_with fail;go_roundw
         case rel=>exact⟨k+1,v,by first|exact cK k|exact cH ai,am.O,u.O⟩
         case measure=>first|exact aG rfl v|exact aG ai v
        ·have P:Hd (cz p=bj p x):=hD (by rw[S.O,<-a1.O,Y.O,iL g])
         have ce:(bj p x==0)=false:=bF g;have cf:(bj p x !=0)=true:=bT g;have s0:=(z.O).I 0;have a5:=(z.O).I 1;have a6:=(z.O).I 2;simp[aN] at s0 a5 a6;have e:ae q (f+1) 220 (aN 0 0 0):=(u.O).J D.O nF;have E:=e.I 0;have G:=e.I 1;have H:=e.I 2;simp[aN] at E G H;have aw:=e.fz 0;have az:=e.fz 1;have aE:=e.fz 2;have X:Hd (ae (((q.setCell ⟨f+1,0,none⟩ (.int .i64 (bj p x))).setCell ⟨f+1,1,none⟩ (.int .i64 (k:Int))).setCell ⟨f+1,2,none⟩ (.int .i64 m)) (f+1) 220 (aN (bj p x) (k:Int) m)):=hD (((e.s_ 0 _).s_ 1 _).s_ 2 _);have a0:Hd (ac w (((q.setCell ⟨f+1,0,none⟩ (.int .i64 (bj p x))).setCell ⟨f+1,1,none⟩ (.int .i64 (k:Int))).setCell ⟨f+1,2,none⟩ (.int .i64 m))):=hD ((a8.O.trans (u.O)).trans' (aB (aB (ag q (f+1) _ _))) (λb l=>.inr (by rw[l,Z.O];exact yX _)));clear e;clear g C;go_wp2_with fail;refine bodyPost_ret (bS Tryz.results108 rfl (cs:=aN (bj p x) (k:Int) m) X.O Tryz.underlying220 rfl (by kernel_rfl)) rfl ?_;refine⟨(k:Int),m,?_,a0.O⟩;rw[P.O]
       ·obtain⟨ch,dm,dn,dp,cg⟩:=uD b0 (by rw[N.O];exact cn.O.2.2.1)
        have fa:x.ops[j-1]?=some (x.ops.getD (j-1) qC):=by rw[yc,gG (by rw[<-N.O];exact cg)];rfl
        obtain⟨ej,fk,d0,a3⟩:=fq.O.at_ fa
        have b6:jo x=((x.ops.getD (j-1) qC).k==10||(x.ops.getD (j-1) qC).k==14):=by
         unfold jo;rw[<-N.O,yg (Nat.pos_of_ne_zero b0),Bool.true_and]
        generalize x.ops.getD (j-1) qC=o at*;subst d0;have L:=a3 0 _ rfl;rw[yW] at L;clear a3 fa;have dq:=(cQ ((j:Int)-1)).trans ch
        by_cases b4:o.k=10
        ·have W:Hd (jo x=true):=hD (by rw[b6,b4];rfl)
         rw[b4] at L;clear b6 b4 b0 cg;go_wp2_with fail;clear L ch dq dm dn dp;refine(bM r (eK p x j) (k:Int) m true 113 wr bt.O).mono ?_;rintro s q ⟨rfl,t,R⟩;have Q:cA (eK p x j) true 113=bj p x:=by unfold bj;rw[<-N.O,W.O]
         rw[Q] at t;have ar:Hd (aa (λb=>b=r) a2 q):=hD (bz.O.trans R);have u:Hd (ac K q):=hD (an.O.trans' ar.O (λb l=>.inr (by rw[l];exact a7.O)));have C:=t.I 0;simp[aN] at C;have z:=hD t;clear t R Q
         by_cases g:bj p x=0
         ·have am:Hd (eE p (p.drop (k+1))=eE p p):=hD (by rw[<-a1.O,Y.O,jJ g])
          rw[g] at C;clear g;go_wp2_with fail;go_roundw
          case rel=>exact⟨k+1,v,by first|exact cK k|exact cH ai,am.O,u.O⟩
          case measure=>first|exact aG rfl v|exact aG ai v
         ·have P:Hd (cz p=bj p x):=hD (by rw[S.O,<-a1.O,Y.O,iL g])
          have ce:(bj p x==0)=false:=bF g;have cf:(bj p x !=0)=true:=bT g;have s0:=(z.O).I 0;have a5:=(z.O).I 1;have a6:=(z.O).I 2;simp[aN] at s0 a5 a6;have e:ae q (f+1) 220 (aN 0 0 0):=(u.O).J D.O nF;have E:=e.I 0;have G:=e.I 1;have H:=e.I 2;simp[aN] at E G H;have aw:=e.fz 0;have az:=e.fz 1;have aE:=e.fz 2;have X:Hd (ae (((q.setCell ⟨f+1,0,none⟩ (.int .i64 (bj p x))).setCell ⟨f+1,1,none⟩ (.int .i64 (k:Int))).setCell ⟨f+1,2,none⟩ (.int .i64 m)) (f+1) 220 (aN (bj p x) (k:Int) m)):=hD (((e.s_ 0 _).s_ 1 _).s_ 2 _);have a0:Hd (ac w (((q.setCell ⟨f+1,0,none⟩ (.int .i64 (bj p x))).setCell ⟨f+1,1,none⟩ (.int .i64 (k:Int))).setCell ⟨f+1,2,none⟩ (.int .i64 m))):=hD ((a8.O.trans (u.O)).trans' (aB (aB (ag q (f+1) _ _))) (λb l=>.inr (by rw[l,Z.O];exact yX _)));clear e;clear g C;go_wp2_with fail;refine bodyPost_ret (bS Tryz.results108 rfl (cs:=aN (bj p x) (k:Int) m) X.O Tryz.underlying220 rfl (by kernel_rfl)) rfl ?_;refine⟨(k:Int),m,?_,a0.O⟩;rw[P.O]
        ·have cv:(o.k==10)=false:=bF b4
         by_cases bf:o.k=14
         ·have W:Hd (jo x=true):=hD (by rw[b6,bf];rfl)
          rw[bf] at L;clear b6 b4 bf b0 cg cv;go_wp2_with fail;clear L ch dq dm dn dp;refine(bM r (eK p x j) (k:Int) m true 113 wr bt.O).mono ?_;rintro s q ⟨rfl,t,R⟩;have Q:cA (eK p x j) true 113=bj p x:=by unfold bj;rw[<-N.O,W.O]
          rw[Q] at t;have ar:Hd (aa (λb=>b=r) a2 q):=hD (bz.O.trans R);have u:Hd (ac K q):=hD (an.O.trans' ar.O (λb l=>.inr (by rw[l];exact a7.O)));have C:=t.I 0;simp[aN] at C;have z:=hD t;clear t R Q
          by_cases g:bj p x=0
          ·have am:Hd (eE p (p.drop (k+1))=eE p p):=hD (by rw[<-a1.O,Y.O,jJ g])
           rw[g] at C;clear g;go_wp2_with fail;go_roundw
           case rel=>exact⟨k+1,v,by first|exact cK k|exact cH ai,am.O,u.O⟩
           case measure=>first|exact aG rfl v|exact aG ai v
          ·have P:Hd (cz p=bj p x):=hD (by rw[S.O,<-a1.O,Y.O,iL g])
           have ce:(bj p x==0)=false:=bF g;have cf:(bj p x !=0)=true:=bT g;have s0:=(z.O).I 0;have a5:=(z.O).I 1;have a6:=(z.O).I 2;simp[aN] at s0 a5 a6;have e:ae q (f+1) 220 (aN 0 0 0):=(u.O).J D.O nF;have E:=e.I 0;have G:=e.I 1;have H:=e.I 2;simp[aN] at E G H;have aw:=e.fz 0;have az:=e.fz 1;have aE:=e.fz 2;have X:Hd (ae (((q.setCell ⟨f+1,0,none⟩ (.int .i64 (bj p x))).setCell ⟨f+1,1,none⟩ (.int .i64 (k:Int))).setCell ⟨f+1,2,none⟩ (.int .i64 m)) (f+1) 220 (aN (bj p x) (k:Int) m)):=hD (((e.s_ 0 _).s_ 1 _).s_ 2 _);have a0:Hd (ac w (((q.setCell ⟨f+1,0,none⟩ (.int .i64 (bj p x))).setCell ⟨f+1,1,none⟩ (.int .i64 (k:Int))).setCell ⟨f+1,2,none⟩ (.int .i64 m))):=hD ((a8.O.trans (u.O)).trans' (aB (aB (ag q (f+1) _ _))) (λb l=>.inr (by rw[l,Z.O];exact yX _)));clear e;clear g C;go_wp2_with fail;refine bodyPost_ret (bS Tryz.results108 rfl (cs:=aN (bj p x) (k:Int) m) X.O Tryz.underlying220 rfl (by kernel_rfl)) rfl ?_;refine⟨(k:Int),m,?_,a0.O⟩;rw[P.O]
         ·have er:(o.k==14)=false:=bF bf
          have W:Hd (jo x=false):=hD (by rw[b6,cv,er];rfl);clear b6 b4 bf b0 cg;go_wp2_with fail;clear L ch dq dm dn dp cv er;refine(bM r (eK p x j) (k:Int) m false 113 wr bt.O).mono ?_;rintro s q ⟨rfl,t,R⟩;have Q:cA (eK p x j) false 113=bj p x:=by unfold bj;rw[<-N.O,W.O]
          rw[Q] at t;have ar:Hd (aa (λb=>b=r) a2 q):=hD (bz.O.trans R);have u:Hd (ac K q):=hD (an.O.trans' ar.O (λb l=>.inr (by rw[l];exact a7.O)));have C:=t.I 0;simp[aN] at C;have z:=hD t;clear t R Q
          by_cases g:bj p x=0
          ·have am:Hd (eE p (p.drop (k+1))=eE p p):=hD (by rw[<-a1.O,Y.O,jJ g])
           rw[g] at C;clear g;go_wp2_with fail;go_roundw
           case rel=>exact⟨k+1,v,by first|exact cK k|exact cH ai,am.O,u.O⟩
           case measure=>first|exact aG rfl v|exact aG ai v
          ·have P:Hd (cz p=bj p x):=hD (by rw[S.O,<-a1.O,Y.O,iL g])
           have ce:(bj p x==0)=false:=bF g;have cf:(bj p x !=0)=true:=bT g;have s0:=(z.O).I 0;have a5:=(z.O).I 1;have a6:=(z.O).I 2;simp[aN] at s0 a5 a6;have e:ae q (f+1) 220 (aN 0 0 0):=(u.O).J D.O nF;have E:=e.I 0;have G:=e.I 1;have H:=e.I 2;simp[aN] at E G H;have aw:=e.fz 0;have az:=e.fz 1;have aE:=e.fz 2;have X:Hd (ae (((q.setCell ⟨f+1,0,none⟩ (.int .i64 (bj p x))).setCell ⟨f+1,1,none⟩ (.int .i64 (k:Int))).setCell ⟨f+1,2,none⟩ (.int .i64 m)) (f+1) 220 (aN (bj p x) (k:Int) m)):=hD (((e.s_ 0 _).s_ 1 _).s_ 2 _);have a0:Hd (ac w (((q.setCell ⟨f+1,0,none⟩ (.int .i64 (bj p x))).setCell ⟨f+1,1,none⟩ (.int .i64 (k:Int))).setCell ⟨f+1,2,none⟩ (.int .i64 m))):=hD ((a8.O.trans (u.O)).trans' (aB (aB (ag q (f+1) _ _))) (λb l=>.inr (by rw[l,Z.O];exact yX _)));clear e;clear g C;go_wp2_with fail;refine bodyPost_ret (bS Tryz.results108 rfl (cs:=aN (bj p x) (k:Int) m) X.O Tryz.underlying220 rfl (by kernel_rfl)) rfl ?_;refine⟨(k:Int),m,?_,a0.O⟩;rw[P.O]
    ·have ge:¬(k:Int)<(n:Int):=λs=>v (yB.1 s)
     have go:k=n:=yT gn (yA v);rw[go,al.O.1,zq] at bq;have P:Hd (cz p=0):=hD (by rw[S.O,<-bq];rfl);have e:=ad.J D.O nF;have E:=e.I 0;have G:=e.I 1;have H:=e.I 2;simp[aN] at E G H;have aw:=e.fz 0;have az:=e.fz 1;have aE:=e.fz 2;have fr:=hD e;have g2:=hD ad;clear bq ad e;go_wp2_with fail;refine bodyPost_ret (bS Tryz.results108 rfl (cs:=aN 0 0 0) (((fr.O.s_ 0 _).s_ 1 _).s_ 2 _) Tryz.underlying220 rfl (by kernel_rfl)) rfl ?_;refine⟨0,0,by rw[P.O],(a8.O.trans g2.O).trans' (aB (aB (ag wr (f+1) _ _))) (λb l=>.inr (by rw[l,Z.O];exact yX _))⟩
def tY(w w':World)(p:List aj)(e:Ending):Prop:=∃fn op,e=.returned (.tuple #[.int .i64 (cz p),.int .i64 fn,.int .i64 op])/\ac w w'
theorem qa(p:List aj)(A:Option Addr)(c:Nat)(F:Nat->Prop)(w:World)(s:cy w F A p)(t:∀b,F b->b<w.heap.size)(u:p.length<=1000)(y:∀x∈p,kA x):
 Calls Tryz.prog 58 #[aS p A c] w λq w'=>tY w w' p q:=by
 obtain⟨n,v⟩:=eX p.length;obtain⟨g,d⟩:=eX (w.alloc (.cells #[.slice A n c] 24));have f:ac w g:=by rw[d];exact(aa.refl _ w).alloc _
 have m:ae g w.heap.size 24 #[.slice A n c]:=by rw[d];exact bN
 have a:=hD (rY p A c F g (s.U f) (λb K=>lL (t b K) f.size) u y);have B:=m.I 0;simp at B;have D:=hD f;have E:=hD d.symm;unfold aS at a ⊢;rw[<-v] at a ⊢;clear s t u y v d f m;go_enter Tryz.func58,Tryz.ntmps58;go_upto_region 1 with fail;rw[E.O];go_wp2_with fail;refine a.O.mono ?_;rintro q k ⟨fn,j,rfl,z⟩;obtain⟨r,i⟩:=eX (cz p);rw[<-i];have C:=hD i;clear i;unfold aN;obtain⟨l,e⟩:=eX (k.alloc (.cells #[.int .i64 r,.int .i64 fn,.int .i64 j] 220));have o:ae l k.heap.size 220 #[.int .i64 r,.int .i64 fn,.int .i64 j]:=by rw[e];exact bN
 obtain⟨L,N,P⟩:=o.gE3;have G:=hD e.symm;have H:Hd (ac w l):=hD ((D.O.trans z).trans (by rw[e];exact oR.alloc _));clear z o e B a;go_upto_region 2 with fail;rw[G.O]
 go_quiet (fail)
 go_wp2_with fail
 go_ret3
 refine⟨fn,j,?_,H.O.drewN nq⟩;rw[<-C.O];rfl
theorem dR{d c:Int}{b:Bool}(f:c≠0)(a:cA d b c=0):d=0/\b=true:=by
 unfold cA at a;split at a
 ·exact absurd a f
 ·rename_i e
  refine⟨a,?_⟩
  cases b
  ·exact absurd ⟨a,rfl⟩ e
  ·rfl
theorem gC{regs:Int}{a:List Int}(b:eQ regs a=true):∀x∈a,x<regs:=by
 intro x d;unfold eQ at b;have c:(a.any λx=>decide (regs<=x))=false:=by simpa using b
 have:=zI.1 c x d;simp at this;exact this
theorem nU{p:List aj}{x:aj}:∀{l:List bQ},ip p x l=0->∀o∈l,gE p x o=0
 | [],_,o,d=>by cases d
 |a :: l,b,o,d=>by
  unfold ip at b;split at b
  ·rename_i e;exact absurd b e
  ·rename_i e
   rcases yG.1 d with c|c
   ·rw[c];omega
   ·exact nU b o c
theorem nM{p:List aj}:∀{l:List aj},eE p l=0->∀x∈l,bj p x=0
 | [],_,x,d=>by cases d
 |a :: l,b,x,d=>by
  unfold eE at b;split at b
  ·rename_i e;exact absurd b e
  ·rename_i e
   rcases yG.1 d with c|c
   ·rw[c];omega
   ·exact nM b x c
theorem CE{p:List aj}{x:aj}{o:bQ}(l:di o=true)(e:gE p x o=0)(N:dc o.n):xS p x o:=by
 obtain⟨L,K,G,H⟩:=mE l;unfold di at l;simp only[zm] at l;obtain⟨⟨⟨⟨_,t⟩,r⟩,s⟩,fn⟩:=l;have zd:rP o.k=false->o.d=0:=λc=>by rw[c] at t;simpa using t
 have Q:rN o.k=false->o.a=0:=λc=>by rw[c] at r;simpa using r
 have R:rO o.k=false->o.b=0:=λc=>by rw[c] at s;simpa using s
 have S:rQ o.k=false->o.n=0:=λc=>by rw[c] at fn;simpa using fn
 have key:(o.k<=9\/o.k=12->o.d<x.rg)/\((2<=o.k/\o.k<=9)\/o.k=11\/o.k=14->o.a<x.rg)/\(3<=o.k/\o.k<=9->o.b<x.rg)/\(o.k=10\/o.k=11->0<=o.n/\o.n<x.ops.length)/\
  (o.k=12->0<=o.n/\o.n<p.length/\((bY p o.n).args=0\/o.a+(bY p o.n).args<=x.rg)):=by
  unfold gE at e
  by_cases z:o.k=12
  ·rw[yf z] at e
   simp only at e;split at e
   ·rename_i m
    obtain⟨q,j⟩:=dR (by decide) m;obtain⟨_,f⟩:=dR (by decide) q;have i:=gC f o.d (by simp);have g:=yD j;obtain⟨_,D⟩:=dR (by decide) e;have E:=yD D;exact⟨λ_=>i,λc=>by omega,λc=>by omega,λc=>by omega,λ_=>⟨g.1,g.2,E⟩⟩
   ·rename_i m;exact absurd e m
  rw[yb z] at e
  by_cases v:o.k=10
  ·rw[yf v] at e
   obtain⟨_,j⟩:=dR (by decide) e;have g:=yD j;exact⟨λc=>by omega,λc=>by omega,λc=>by omega,λ_=>g,λc=>by omega⟩
  rw[yb v] at e
  by_cases y:o.k=11
  ·rw[yf y] at e
   obtain⟨q,j⟩:=dR (by decide) e;obtain⟨_,f⟩:=dR (by decide) q;have i:=gC f o.a (by simp);have g:=yD j;exact⟨λc=>by omega,λ_=>i,λc=>by omega,λ_=>g,λc=>by omega⟩
  rw[yb y] at e
  by_cases u:o.k=1
  ·rw[yf u] at e
   obtain⟨_,f⟩:=dR (by decide) e;have i:=gC f o.d (by simp);exact⟨λ_=>i,λc=>by omega,λc=>by omega,λc=>by omega,λc=>by omega⟩
  rw[yb u] at e
  by_cases C:o.k=2
  ·rw[yf C] at e
   obtain⟨_,f⟩:=dR (by decide) e;have i:=gC f o.d (by simp);have g:=gC f o.a (by simp);exact⟨λ_=>i,λ_=>g,λc=>by omega,λc=>by omega,λc=>by omega⟩
  rw[yb C] at e
  by_cases B:o.k=14
  ·rw[yf B] at e
   obtain⟨_,f⟩:=dR (by decide) e;have g:=gC f o.a (by simp);exact⟨λc=>by omega,λ_=>g,λc=>by omega,λc=>by omega,λc=>by omega⟩
  rw[yb B] at e
  by_cases P:o.k=13
  ·exact⟨λc=>by omega,λc=>by omega,λc=>by omega,λc=>by omega,λc=>by omega⟩
  rw[yb P] at e;obtain⟨_,f⟩:=dR (by decide) e;exact⟨λ_=>gC f o.d (by simp),λ_=>gC f o.a (by simp),λ_=>gC f o.b (by simp),λc=>by omega,λc=>by omega⟩
 exact⟨L,K,G,H,N,key.1,key.2.1,key.2.2.1,key.2.2.2.1,key.2.2.2.2,λc=>zd (yd (by omega)),λc=>Q (yd (by omega)),λc=>R (yd (by omega)),λc=>S (yd (by omega))⟩
theorem wY{p:List aj}(a:cz p=0)(B:∀x∈p,∀o∈x.ops,dc o.n):jw p:=by
 unfold cz at a;split at a
 ·cases a
 rename_i m;have f:kg p=true:=by simpa using m
 split at a
 ·cases a
 rename_i r;have y:=pe f;refine⟨r,?_,λx g=>?_⟩
 ·unfold kg at f
  rw[zm] at f;exact yD f.1
 ·obtain⟨v,D,C,z⟩:=y x g
  have l:=nM a x g;unfold bj at l;obtain⟨c,e⟩:=dR (by decide) l;unfold eK at c;split at c
  ·rename_i j;exact absurd c j
  rename_i j;have s:pQ x=0:=by omega
  obtain⟨_,t⟩:=dR (by decide) s;have u:=yD t;rw[zr] at c;unfold jo at e;rw[zm] at e;have k:=yD e.1;refine⟨v.1,u,D.2,λb=>by rw[b] at k;exact absurd k (by simp),C,λo d=>CE (z o d) (nU c o d) (B x g o d),λo d=>?_⟩;have q:x.ops.getD (x.ops.length-1) qC=o:=by rw[yc,d];rfl
  have i:=e.2;rw[q,Bool.or_eq_true] at i
  rcases i with b|b
  ·exact .inl (by simpa using b)
  ·exact .inr (by simpa using b)
def uE:Go.Shelf.Ren:=⟨fun|41=>109|n=>n,fun|22=>22|23=>99|4=>4|n=>n,fun|n=>n⟩
theorem wF:Go.Proofs.SlLaysE0.n41 Tryz.prog uE:={
 mixed:=by kernel_rfl
 f41:=⟨Tryz.f109.name,by decide,Tryz.func109.trans (yl some (by kernel_rfl))⟩
 t4:=Tryz.underlying4
 a4:=Tryz.isAgg4
 z4:=Tryz.sizeOf4
 v4:=Tryz.zeroValue4
 t22:=Tryz.underlying22
 a22:=Tryz.isAgg22
 z22:=Tryz.sizeOf22
 v22:=Tryz.zeroValue22}
def uF:Go.Shelf.Ren:=⟨fun|41=>110|n=>n,fun|22=>97|23=>106|4=>4|n=>n,fun|n=>n⟩
theorem wG:Go.Proofs.SlLaysE0.n41 Tryz.prog uF:={
 mixed:=by kernel_rfl
 f41:=⟨Tryz.f110.name,by decide,Tryz.func110.trans (yl some (by kernel_rfl))⟩
 t4:=Tryz.underlying4
 a4:=Tryz.isAgg4
 z4:=Tryz.sizeOf4
 v4:=Tryz.zeroValue4
 t22:=Tryz.underlying97
 a22:=Tryz.isAgg97
 z22:=Tryz.sizeOf97
 v22:=Tryz.zeroValue97}
theorem wn:∃i,Tryz.prog.info? 106=some i/\i.zero=some (.agg #[.int .u8 0,.int .i64 0,.int .i64 0,.int .i64 0,.int .i64 0])/\i.size=5/\i.bytes=40:=by
 have a:(Tryz.prog.info? 106).map (λi=>(i.zero,i.size,i.bytes))=some (some (.agg #[.int .u8 0,.int .i64 0,.int .i64 0,.int .i64 0,.int .i64 0]),5,40):=by kernel_rfl
 cases hi:Tryz.prog.info? 106 with
 |none=>rw[hi] at a;cases a
 |some i=>
  rw[hi] at a;simp only[yU,yC,yP] at a;exact⟨i,rfl,a⟩
theorem wm:∃i,Tryz.prog.info? 99=some i/\i.zero=some (.agg #[.int .i64 0,.int .i64 0,.slice none 0 0])/\i.size=3/\i.bytes=40:=by
 have a:(Tryz.prog.info? 99).map (λi=>(i.zero,i.size,i.bytes))=some (some (.agg #[.int .i64 0,.int .i64 0,.slice none 0 0]),3,40):=by kernel_rfl
 cases hi:Tryz.prog.info? 99 with
 |none=>rw[hi] at a;cases a
 |some i=>
  rw[hi] at a;simp only[yU,yC,yP] at a;exact⟨i,rfl,a⟩
theorem ow(l:List bQ):(l.flatMap ep).length=l.length*5:=by
 induction l with
 |nil=>rfl
 |cons a l b=>rw[yZ,yk,b];simp[ep];omega
theorem lX:∀(l:List bQ) (i j:Nat) (k:bQ),l[i]?=some k->j<5->(l.flatMap ep)[i*5+j]?=(ep k)[j]?
 | [],i,j,k,b,_=>by simp at b
 |a :: l,0,j,k,b,c=>by
  simp only[zQ,yC] at b;subst b;rw[yZ,yi (by simp[ep];omega)];simp
 |a :: l,i+1,j,k,b,c=>by
  rw[yZ,yK (by simp[ep];omega)];have:(i+1)*5+j-(ep a).length=i*5+j:=by simp[ep];omega
  rw[this];exact lX l i j k (by simpa using b) c
theorem no{l:List bQ}{q:Nat}{v:Value}(a:(l.flatMap ep)[q]?=some v):∃i j x,q=i*5+j/\j<5/\l[i]?=some x/\(ep x)[j]?=some v:=by
 have d:q<l.length*5:=by rw[<-ow];exact(gS a).1
 have c:q / 5<l.length:=by omega
 have b:l[q / 5]?=some l[q / 5]:=gG c;refine⟨q / 5,q % 5,l[q / 5],by omega,by omega,b,?_⟩;rw[<-lX l (q / 5) (q % 5) _ b (by omega),show q / 5*5+q % 5=q by omega];exact a
theorem lC{w w':World}(a:Below w.heap.size w w'):ac w w':=aa.below_ a
theorem my(A:Option Addr)(ops:List bQ)(c:Nat)(F:Nat->Prop)(w:World)(C:cO w F A ops)(t:ops.length<=1000):
 Calls Tryz.prog 110 #[.slice A ops.length c] w λa w'=>∃r c',a=.returned (.slice r ops.length c')/\cO w' (bC w w') r ops/\ac w w':=by
 rcases C with⟨f,k⟩|⟨b,o,f,k⟩
 ·subst f
  subst k;refine(AnyE.slices_Clone_nil wG 0 c w).mono ?_;rintro a w' ⟨rfl,rfl⟩;exact⟨none,0,rfl,.inl ⟨rfl,rfl⟩,oR⟩
 ·subst f
  obtain⟨R,G,N,P,Q⟩:=wn;refine(AnyE.slices_Clone wG R _ 5 40 G N P Q rfl (by decide) Tryz.sizeOf106 b o ops.length c (ops.flatMap ep) w (ow ops) (lT t (by unfold maxLen;decide)) (lT (zP 40 t) (by decide)) (λq v n=>?_) (λu L=>?_)).mono ?_
  ·obtain⟨i,j,x,rfl,l,e,hv⟩:=no n
   rw[<-zx];exact(k i x e).2.2 j v hv
  ·obtain⟨q,n⟩:=yF L
   obtain⟨i,j,x,rfl,l,e,hv⟩:=no n;have y:=yh hv;simp only[ep,yG,zV,or_false] at y
   rcases y with a|a|a|a|a<;>rw[a]<;>rfl
  ·rintro a w' ⟨T,rfl,m,K,D⟩
   rcases m.2 with⟨d,B⟩|⟨g,z,cur,d,B,s,S⟩
   ·exact absurd d K
   ·refine⟨some ⟨g,0,none⟩,z,by rw[d],.inr ⟨g,0,rfl,λi x e=>?_⟩,lC D⟩
    have E:w.heap.size<=g:=by assumption
    have H:g<w'.heap.size:=(yu.1 s).1;refine⟨⟨E,H⟩,⟨cur,s⟩,λj v hv=>?_⟩
    have l:j<5:=by
     have:=(gS hv).1
     simpa[ep] using this
    rw[d] at m;have:=m.cells (g:=g) rfl (i*5+j) v (by rw[lX _ _ j x e l];exact hv);rw[bE,yq] at this;rw[yq];exact this
def gV(f:Nat->Option Addr×Nat)(i:Nat)(x:aj):List Value:=[.int .i64 x.args,.int .i64 x.rg,.slice (f i).1 x.ops.length (f i).2]
def mC(f:Nat->Option Addr×Nat):List aj->Nat->List Value
 | [],_=>[]
 |x :: l,k=>gV f k x++mC f l (k+1)
theorem oh(f:Nat->Option Addr×Nat):∀(l:List aj) (k:Nat),(mC f l k).length=l.length*3
 | [],k=>rfl
 |x :: l,k=>by
  unfold mC;rw[yk,oh f l (k+1)];simp[gV];omega
theorem n9(f:Nat->Option Addr×Nat):∀(l:List aj) (k i j:Nat) (x:aj),l[i]?=some x->j<3->(mC f l k)[i*3+j]?=(gV f (k+i) x)[j]?
 | [],k,i,j,x,b,_=>by simp at b
 |a :: l,k,0,j,x,b,c=>by
  simp only[zQ,yC] at b;subst b;unfold mC;rw[yi (by simp[gV];omega)];simp
 |a :: l,k,i+1,j,x,b,c=>by
  unfold mC;rw[yK (by simp[gV];omega)];have:(i+1)*3+j-(gV f k a).length=i*3+j:=by simp[gV];omega
  rw[this,n9 f l (k+1) i j x (by simpa using b) c,show k+1+i=k+(i+1) by omega]
theorem tG{f:Nat->Option Addr×Nat}{l:List aj}{q:Nat}{v:Value}(a:(mC f l 0)[q]?=some v):∃i j x,q=i*3+j/\j<3/\l[i]?=some x/\(gV f i x)[j]?=some v:=by
 have d:q<l.length*3:=by rw[<-oh f l 0];exact(gS a).1
 have c:q / 3<l.length:=by omega
 have b:l[q / 3]?=some l[q / 3]:=gG c;refine⟨q / 3,q % 3,l[q / 3],by omega,by omega,b,?_⟩;have:=n9 f l 0 (q / 3) (q % 3) _ b (by omega);rw[yq] at this;rw[<-this,show q / 3*3+q % 3=q by omega];exact a
def ia(w0 w:World)(Fo:Nat->Prop)(g:Nat)(A:Option Addr)(p:List aj)(f:Nat->Option Addr×Nat)(k:Nat):Prop:=
 ((A=none/\p= [])\/A=some ⟨g,0,none⟩)/\∀(i:Nat) (x:aj),p[i]?=some x->A=some ⟨g,0,none⟩/\bC w0 w g/\(∃zs,ae w g 99 zs)/\
   (∀(j:Nat) (v:Value),(gV f i x)[j]?=some v->w.cell? ⟨g,i*3+j,none⟩=some v)/\(i<k->cO w (bC w0 w) (f i).1 x.ops)/\(k<=i->cO w Fo (f i).1 x.ops)
theorem ia.fns{j w:World}{l:Nat->Prop}{g:Nat}{A:Option Addr}{p:List aj}{f:Nat->Option Addr×Nat}{k:Nat}(d:ia j w l g A p f k)(o:p.length<=k):cy w (bC j w) A p:=by
 rcases d.1 with a|a
 ·exact .inl a
 ·refine .inr ⟨g,0,a,λi x e=>?_⟩
  obtain⟨_,q,r,b,s,_⟩:=d.2 i x e;have c:=b 0 _ rfl;have m:=b 1 _ rfl;have n:=b 2 _ rfl;rw[yW] at c;refine⟨q,r,by rw[yq];exact c,by rw[yq];exact m,(f i).1,(f i).2,by rw[yq];exact n,s (lL (gS e).1 o)⟩
theorem mx(A:Option Addr)(p:List aj)(c:Nat)(F:Nat->Prop)(w:World)(N:cy w F A p)(G:p.length<=1000):
 Calls Tryz.prog 109 #[.slice A p.length c] w λd w'=>∃t c' g f,d=.returned (.slice t p.length c')/\ia w w' F g t p f 0/\ac w w':=by
 rcases N with⟨l,m⟩|⟨b,o,l,m⟩
 ·subst l
  subst m;refine(AnyE.slices_Clone_nil wF 0 c w).mono ?_;rintro d w' ⟨rfl,rfl⟩;exact⟨none,0,0,λ_=>(none,0),rfl,⟨.inl ⟨rfl,rfl⟩,λi x a=>by simp at a⟩,oR⟩
 ·subst l
  have D:∀i:Nat,∃z:Option Addr×Nat,∀x,p[i]?=some x->(∀(j:Nat) (v:Value),(gV (λ_=>z) i x)[j]?=some v->w.cell? ⟨b,o+i*3+j,none⟩=some v)/\cO w F z.1 x.ops:=by
   intro i
   cases hp:p[i]? with
   |none=>exact⟨(none,0),λx a=>by cases a⟩
   |some x=>
    obtain⟨_,_,a1,a2,B,k,a3,a4⟩:=m i x hp;refine⟨(B,k),λy W=>?_⟩
    cases W
    refine⟨λj v hv=>?_,a4⟩
    match j,hv with
    |0,hv=>simp[gV] at hv;subst hv;rw[yW];exact a1
    |1,hv=>simp[gV] at hv;subst hv;exact a2
    |2,hv=>simp[gV] at hv;subst hv;exact a3
    |j+3,hv=>simp[gV] at hv
  obtain⟨f,E⟩ :∃f:Nat->Option Addr×Nat,∀i x,p[i]?=some x->(∀(j:Nat) (v:Value),(gV f i x)[j]?=some v->w.cell? ⟨b,o+i*3+j,none⟩=some v)/\cO w F (f i).1 x.ops:=
   ⟨λi=>Classical.choose (D i),λi x a=>Classical.choose_spec (D i) x a⟩
  obtain⟨a0,R,X,Y,Z⟩:=wm;refine(AnyE.slices_Clone wF a0 _ 3 40 R X Y Z rfl (by decide) Tryz.sizeOf99 b o p.length c (mC f p 0) w (oh f p 0) (lT G (by unfold maxLen;decide)) (lT (zP 40 G) (by decide)) (λq v s=>?_) (λu V=>?_)).mono ?_
  ·obtain⟨i,j,x,rfl,n,a,hv⟩:=tG s
   rw[<-zx];exact(E i x a).1 j v hv
  ·obtain⟨q,s⟩:=yF V
   obtain⟨i,j,x,rfl,n,a,hv⟩:=tG s;have H:=yh hv;simp only[gV,yG,zV,or_false] at H
   rcases H with d|d|d<;>rw[d]<;>rfl
  ·rintro d w' ⟨a6,rfl,r,T,P⟩
   rcases r.2 with⟨e,L⟩|⟨g,k,cur,e,L,C,a5⟩
   ·exact absurd e T
   ·have K:=lC P
    have Q:w.heap.size<=g:=by assumption
    have S:g<w'.heap.size:=(yu.1 C).1;refine⟨some ⟨g,0,none⟩,k,g,f,by rw[e],⟨.inr rfl,λi x a=>⟨rfl,⟨Q,S⟩,⟨cur,C⟩,λj v hv=>?_,λd=>absurd d (zZ _),λ_=>(E i x a).2.U K⟩⟩,K⟩
    have n:j<3:=by
     have:=(gS hv).1
     simpa[gV] using this
    rw[e] at r;have:=r.cells (g:=g) rfl (i*3+j) v (by have:=n9 f p 0 i j x a n;rw[yq] at this;rw[this];exact hv);rw[bE,yq] at this;exact this
theorem ia.put{o w l:World}{t:Nat->Prop}{g:Nat}{A B:Option Addr}{p:List aj}{f:Nat->Option Addr×Nat}{k c:Nat}{x:aj}(q:ia o w t g A p f k)(s:p[k]?=some x)(d:ac w l)(G:cO l (bC w l) B x.ops)(E:o.heap.size<=w.heap.size):
 ia o (l.setCell ⟨g,k*3+2,none⟩ (.slice B x.ops.length c)) t g A p (λi=>if i=k then(B,c) else f i) (k+1):=by
 have e:=ag l g (k*3+2) (.slice B x.ops.length c);obtain⟨_,_,⟨V,z⟩,_,_,_⟩:=q.2 k x s;have n:=d.J z nF;refine⟨q.1,λi y m=>?_⟩;obtain⟨Q,R,⟨Y,X⟩,C,S,T⟩:=q.2 i y m;have K:bC o (l.setCell ⟨g,k*3+2,none⟩ (.slice B x.ops.length c)) g:=(R.up d.size).up e.size;refine⟨Q,K,⟨_,n.s_ _ _⟩,λj v hv=>?_,λL=>?_,λL=>?_⟩
 ·have W:j<3:=by
   have:=(gS hv).1
   simpa[gV] using this
  by_cases u:i*3+j=k*3+2
  ·have a:i=k:=by omega
   have N:j=2:=by omega
   subst a;subst N;rw[s] at m
   cases m
   simp[gV] at hv;subst hv;have H:=(n.s_ (i*3+2) (.slice B x.ops.length c)).I (i*3+2);rw[H]
   have P:i*3+2<V.size:=by
    have:=C 2 _ rfl;rw[z.I] at this;exact(yu.1 this).1
   simp[P]
  ·rw[World.cell?_setCell_other _ _ _ _ (by first|(simp;omega)|simp|(intro D;injection D with e1 e2;exact u e2))]
   have hv':(gV f i y)[j]?=some v:=by
    by_cases a:i=k
    ·subst a
     match j,hv with
     |0,hv=>simpa[gV] using hv
     |1,hv=>simpa[gV] using hv
     |2,hv=>exact absurd rfl u
     |j+3,hv=>simp[gV] at hv
    ·simp only[gV,yb a] at hv ⊢
     exact hv
   have:=C j v hv';exact(d.I (p:=⟨g,i*3+j,none⟩) (block_lt_of_cell this) nF).trans this
 ·by_cases a:i=k
  ·subst a
   rw[s] at m
   cases m
   simp only[yR];exact(G.by_type e n (by decide)).mo λb r=>(r.dn E).up e.size
  ·simp only[yb a]
   exact(((S (by omega)).U d).by_type e n (by decide)).mo λb r=>(r.up d.size).up e.size
 ·have a:¬i=k:=by omega
  simp only[yb a];exact((T (by omega)).U d).by_type e n (by decide)
theorem ia.U{d w e:World}{a:Nat->Prop}{g:Nat}{A:Option Addr}{p:List aj}{f:Nat->Option Addr×Nat}{k:Nat}(m:ia d w a g A p f k){S:Nat->Prop}(c:aa S w e)(n:¬S g)(r:∀A ops,cO w (bC d w) A ops->cO e (bC d w) A ops)(q:∀A ops,cO w a A ops->cO e a A ops):ia d e a g A p f k:=by
 refine⟨m.1,λi x t=>?_⟩;obtain⟨u,y,⟨D,z⟩,o,B,C⟩:=m.2 i x t;exact⟨u,y.up c.size,⟨D,c.J z n⟩,λj v hv=>(c.I (p:=⟨g,i*3+j,none⟩) (block_lt_of_cell (o j v hv)) n).trans (o j v hv),λl=>(r _ _ (B l)).mo λb s=>s.up c.size,λl=>q _ _ (C l)⟩
def mX(w w':World)(p:List aj)(e:Ending):Prop:=∃A' c',e=.returned (aS p A' c')/\cy w' (bC w w') A' p/\ac w w'
theorem uo(A:Option Addr)(p:List aj)(c:Nat)(F:Nat->Prop)(w:World)(b9:cy w F A p)(ab:p.length<=1000)(bf:∀x∈p,x.ops.length<=1000):
 Calls Tryz.prog 114 #[aS p A c] w λd w'=>mX w w' p d:=by
 obtain⟨n,a0⟩:=eX p.length;obtain⟨H,L⟩:=eX (w.alloc (.cells #[.slice A n c] 24));obtain⟨m,T⟩:=eX (H.alloc (.cells #[.slice none 0 0] 24));have bz:ac w H:=by rw[L];exact(aa.refl _ w).alloc _
 have am:ac H m:=by rw[T];exact oR.alloc _
 obtain⟨e,Y⟩:=eX w.heap.size;have S:ae m e 24 #[.slice A n c]:=am.J (by rw[L,Y];exact bN) nF;have b6:ae m (e+1) 24 #[.slice none 0 0]:=by rw[T];have:=ae.new H 24 #[.slice none 0 0];rw[show H.heap.size=e+1 by rw[L,Y];simp] at this;exact this
 have an:=bz.trans am
 have aE:Hd (Calls Tryz.prog 109 #[.slice A n c] m λd w'=>∃o c' g f,d=.returned (.slice o n c')/\ia m w' F g o p f 0/\ac m w'):=hD (by
  have:=mx A p c F m (b9.U an) ab;rw[<-a0] at this;exact this)
 have av:=hD S;have aw:=hD b6;have b3:=hD an;have C:=hD (aI a0 (aI ab bf));have a5:=hD Y;have b4:=hD (show((w.alloc (.cells #[.slice A n c] 24)).alloc (.cells #[.slice none 0 0] 24))=m by rw[T,L]);have q:=S.I 0;have cm:=S.fz 0;simp at q;unfold aS;rw[<-a0];clear b9 ab bf a0 L T bz am Y S b6 an;go_enter Tryz.func114,Tryz.ntmps114;go_upto_region 1 with fail;rw[b4.O,<-a5.O];clear b4;go_wp2_with fail;refine aE.O.mono ?_;rintro d b5 ⟨o,c',g,f,rfl,Z,a1⟩;have j:=a1.J av.O nF;have a3:=j.I 0;have c1:=j.fz 0;simp at a3;have G:=hD Z;have ch:=hD a1;have r:=hD j;have s:=hD (a1.J aw.O nF);clear Z a1 j q cm aE av aw;go_upto_region 2 with fail;obtain⟨K,V⟩:=eX (b5.setCell ⟨e,0,none⟩ (.slice o n c'));rw[<-V];have E:aa (λb=>b=e) b5 K:=by rw[V];exact ag _ _ _ _
 have az:Hd (ae K e 24 #[.slice o n c']):=hD (by rw[V];exact r.O.s_ 0 _);have c5:Hd (ae K (e+1) 24 #[.slice none 0 0]):=hD (E.J s.O (by omega))
 have c9:Hd (ia m K F g o p f 0):=hD (by
  by_cases bk:p= []
  ·exact⟨G.O.1,λi x Q=>by rw[bk] at Q;simp at Q⟩
  ·obtain⟨x,Q⟩ :∃x,p[0]?=some x:=by cases p with
    |nil=>exact absurd rfl bk
    |cons a l=>exact⟨a,rfl⟩
   have d2:=(G.O.2 0 x Q).2.1;refine G.O.U E (λd=>?_) (λA ops y=>y.by_type E r.O (by decide)) (λA ops y=>y.by_type E r.O (by decide));obtain⟨c2,cv⟩:=(G.O.2 0 x Q).2.2.1;exact ae.ne_ cv r.O (by decide) d)
 have cg:Hd (aa (λb=>b=e) m K):=hD ((ch.O.mono λ_ d=>d.elim).trans E);have q:=az.O.I 0;simp at q;clear a3 c1 V E r s G;go_wp2_with fail
 go_loopw [11] (λi wr=>∃(k:Nat),k<=n/\i=.int .i64 k/\(∃f:Nat->Option Addr×Nat,ia m wr F g o p f k)/\ae wr e 24 #[.slice o n c']/\ae wr (e+1) 24 #[.slice none 0 0]/\aa (λb=>b=e) m wr) (λi _=>n-(intOf i).toNat)
 case atStart=>exact⟨0,yx _,rfl,⟨f,c9.O⟩,az.O,c5.O,cg.O⟩
 case round=>
  obtain⟨k,Z,rfl,⟨f,P⟩,N,D,y⟩:=hrel
  by_cases v:k<n
  ·have d3:(0:Int)<=(k:Int):=dN k
   have cp:(k:Int)<(n:Int):=cN v;have ad:k<p.length:=by rw[<-C.O.1];exact v
   have a9:p[k]?=some p[k]:=gG ad;have bc:=C.O.2.2 _ (yN ad);generalize p[k] =x at*;obtain⟨bn,cB,⟨c2,bo⟩,bp,_,bq⟩:=P.2 k x a9;have a8:=bn;have a7:=bp 2 _ rfl;have bm:wrap64 ((k:Int)+1)=(k:Int)+1:=eM v (by rw[C.O.1];exact C.O.2.1);have q:=N.I 0;simp at q;rw[a8] at q;have bb:=λ(W:World) (z:ac wr W)=>my (f k).1 x.ops (f k).2 F W ((bq (lR)).U z) bc
   have b8:∀W,ac wr W->W.frozen? ⟨g,k*3+2,none⟩=false:=λW z=>(z.J bo nF).fz _
   have b0:=hD b8;have a4:=hD bb;have b1:=hD P;have r:=hD N;have s:=hD D;have R:=hD y;have b2:=hD a9;obtain⟨bt,ai⟩:=eX x.ops.length;rw[<-ai] at a7 a4;have cd:=hD ai;have d1:=hD a8;clear P N D y a9 bn cB bo bp bq bb bc ad b8 a8 ai;have cf:Hd (∀W,ac wr W->W.cell? ⟨e,0,none⟩=some (.slice (some ⟨g,0,none⟩) n c')):=hD λW z=>(z.I (p:=⟨e,0,none⟩) (block_lt_of_cell q) nF).trans q
   have c7:Hd (∀W,ac wr W->W.cell? ⟨g,k*3+2,none⟩=some (.slice (f k).1 bt (f k).2)):=hD λW z=>(z.I (p:=⟨g,k*3+2,none⟩) (block_lt_of_cell a7) nF).trans a7
   go_wp2_with fail
   go_region_law (first|(go_simp;go_at_call 110;refine(a4.O _ (by first|exact oR|exact oR.drew)).mono ?_;rintro d u ⟨B,b7,rfl,ba,c0⟩;have t:Hd (ac wr u):=hD (by first|exact c0|exact oR.drew.trans c0);have cr:=cf.O u t.O;have ci:=c7.O u t.O;have ck:=b0.O u t.O)|fail)
   all_goals (
    have cn:=t.O.size;have c3:Hd (cO u (bC wr u) B x.ops):=hD (ba.mo λb j=>by first|exact j|exact j.dn (lR));obtain⟨a6,X⟩:=eX (u.setCell ⟨g,k*3+2,none⟩ (.slice B bt b7));rw[<-X];have cb:Hd (ia m a6 F g o p (λi=>if i=k then(B,b7) else f i) (k+1)):=hD (by rw[X,cd.O];exact b1.O.put b2.O t.O c3.O R.O.size);obtain⟨_,br,⟨c2,al⟩,d0,_⟩:=b1.O.2 k x b2.O;have a2:aa (λb=>b=g) u a6:=by rw[X];exact ag _ _ _ _
    have bv:e≠g:=λd=>ae.ne_ r.O al (by decide) d
    have bx:e+1≠g:=λd=>ae.ne_ s.O al (by decide) d
    have c4:=hD (a2.J (t.O.J r.O nF) bv);have c6:=hD (a2.J (t.O.J s.O nF) bx);have ce:Hd (aa (λb=>b=e) m a6):=hD ((R.O.trans (t.O.mono λ_ d=>d.elim)).trans' a2 (λb j=>.inr (by rw[j];exact br.1)));clear ba X a2 br al d0 bv bx cn a4 b0 cr ci ck;go_wp2_with fail;go_roundw
    case rel=>exact⟨k+1,v,by first|exact cK k|exact cH bm,⟨_,cb.O⟩,c4.O,c6.O,ce.O⟩
    case measure=>first|exact aG rfl v|exact aG bm v)
  ·have cp:¬(k:Int)<(n:Int):=λd=>v (yB.1 d)
   have cq:k=n:=yT Z (yA v);have q:=N.I 0;have a3:=D.I 0;have c1:=D.fz 0;simp at q a3;have c8:=hD (P.fns (by rw[cq,C.O.1];exact lR));have s:=hD D;have R:=hD y;clear P N D y;go_wp2_with fail;refine bodyPost_ret (bS Tryz.results114 rfl (cs:=#[.slice o n c']) (s.O.s_ 0 _) Tryz.underlying24 rfl (by kernel_rfl)) rfl ?_;have ar:=ag wr (e+1) 0 (.slice o n c');refine⟨o,c',by rw[C.O.1];rfl,?_,?_⟩
   ·exact(c8.O.by_type ar s.O (by decide) (by decide)).mo λb j=>(j.dn b3.O.size).up ar.size
   ·exact(b3.O.trans' R.O (λb j=>.inr (by rw[j,a5.O];exact lR))).trans' ar (λb j=>.inr (by rw[j,a5.O];exact yX _))
theorem vF(A:Option Addr)(p:List aj)(c:Nat)(F:Nat->Prop)(w:World)(b9:cy w F A p)(ab:p.length<=1000)(bf:∀x∈p,x.ops.length<=1000):
 Calls Tryz.prog 59 #[aS p A c] w λd w'=>mX w w' p d:=by
 obtain⟨n,a0⟩:=eX p.length;obtain⟨H,L⟩:=eX (w.alloc (.cells #[.slice A n c] 24));obtain⟨m,T⟩:=eX (H.alloc (.cells #[.slice none 0 0] 24));have bz:ac w H:=by rw[L];exact(aa.refl _ w).alloc _
 have am:ac H m:=by rw[T];exact oR.alloc _
 obtain⟨e,Y⟩:=eX w.heap.size;have S:ae m e 24 #[.slice A n c]:=am.J (by rw[L,Y];exact bN) nF;have b6:ae m (e+1) 24 #[.slice none 0 0]:=by rw[T];have:=ae.new H 24 #[.slice none 0 0];rw[show H.heap.size=e+1 by rw[L,Y];simp] at this;exact this
 have an:=bz.trans am
 have aE:Hd (Calls Tryz.prog 109 #[.slice A n c] m λd w'=>∃o c' g f,d=.returned (.slice o n c')/\ia m w' F g o p f 0/\ac m w'):=hD (by
  have:=mx A p c F m (b9.U an) ab;rw[<-a0] at this;exact this)
 have av:=hD S;have aw:=hD b6;have b3:=hD an;have C:=hD (aI a0 (aI ab bf));have a5:=hD Y;have b4:=hD (show((w.alloc (.cells #[.slice A n c] 24)).alloc (.cells #[.slice none 0 0] 24))=m by rw[T,L]);have q:=S.I 0;have cm:=S.fz 0;simp at q;unfold aS;rw[<-a0];clear b9 ab bf a0 L T bz am Y S b6 an;go_enter Tryz.func59,Tryz.ntmps59;go_upto_region 1 with fail;rw[b4.O,<-a5.O];clear b4;go_wp2_with fail;refine aE.O.mono ?_;rintro d b5 ⟨o,c',g,f,rfl,Z,a1⟩;have j:=a1.J av.O nF;have a3:=j.I 0;have c1:=j.fz 0;simp at a3;have G:=hD Z;have ch:=hD a1;have r:=hD j;have s:=hD (a1.J aw.O nF);clear Z a1 j q cm aE av aw;go_upto_region 2 with fail;obtain⟨K,V⟩:=eX (b5.setCell ⟨e,0,none⟩ (.slice o n c'));rw[<-V];have E:aa (λb=>b=e) b5 K:=by rw[V];exact ag _ _ _ _
 have az:Hd (ae K e 24 #[.slice o n c']):=hD (by rw[V];exact r.O.s_ 0 _);have c5:Hd (ae K (e+1) 24 #[.slice none 0 0]):=hD (E.J s.O (by omega))
 have c9:Hd (ia m K F g o p f 0):=hD (by
  by_cases bk:p= []
  ·exact⟨G.O.1,λi x Q=>by rw[bk] at Q;simp at Q⟩
  ·obtain⟨x,Q⟩ :∃x,p[0]?=some x:=by cases p with
    |nil=>exact absurd rfl bk
    |cons a l=>exact⟨a,rfl⟩
   have d2:=(G.O.2 0 x Q).2.1;refine G.O.U E (λd=>?_) (λA ops y=>y.by_type E r.O (by decide)) (λA ops y=>y.by_type E r.O (by decide));obtain⟨c2,cv⟩:=(G.O.2 0 x Q).2.2.1;exact ae.ne_ cv r.O (by decide) d)
 have cg:Hd (aa (λb=>b=e) m K):=hD ((ch.O.mono λ_ d=>d.elim).trans E);have q:=az.O.I 0;simp at q;clear a3 c1 V E r s G;go_wp2_with fail
 go_loopw [11] (λi wr=>∃(k:Nat),k<=n/\i=.int .i64 k/\(∃f:Nat->Option Addr×Nat,ia m wr F g o p f k)/\ae wr e 24 #[.slice o n c']/\ae wr (e+1) 24 #[.slice none 0 0]/\aa (λb=>b=e) m wr) (λi _=>n-(intOf i).toNat)
 case atStart=>exact⟨0,yx _,rfl,⟨f,c9.O⟩,az.O,c5.O,cg.O⟩
 case round=>
  obtain⟨k,Z,rfl,⟨f,P⟩,N,D,y⟩:=hrel
  by_cases v:k<n
  ·have d3:(0:Int)<=(k:Int):=dN k
   have cp:(k:Int)<(n:Int):=cN v;have ad:k<p.length:=by rw[<-C.O.1];exact v
   have a9:p[k]?=some p[k]:=gG ad;have bc:=C.O.2.2 _ (yN ad);generalize p[k] =x at*;obtain⟨bn,cB,⟨c2,bo⟩,bp,_,bq⟩:=P.2 k x a9;have a8:=bn;have a7:=bp 2 _ rfl;have bm:wrap64 ((k:Int)+1)=(k:Int)+1:=eM v (by rw[C.O.1];exact C.O.2.1);have q:=N.I 0;simp at q;rw[a8] at q;have bb:=λ(W:World) (z:ac wr W)=>my (f k).1 x.ops (f k).2 F W ((bq (lR)).U z) bc
   have b8:∀W,ac wr W->W.frozen? ⟨g,k*3+2,none⟩=false:=λW z=>(z.J bo nF).fz _
   have b0:=hD b8;have a4:=hD bb;have b1:=hD P;have r:=hD N;have s:=hD D;have R:=hD y;have b2:=hD a9;obtain⟨bt,ai⟩:=eX x.ops.length;rw[<-ai] at a7 a4;have cd:=hD ai;have d1:=hD a8;clear P N D y a9 bn cB bo bp bq bb bc ad b8 a8 ai;have cf:Hd (∀W,ac wr W->W.cell? ⟨e,0,none⟩=some (.slice (some ⟨g,0,none⟩) n c')):=hD λW z=>(z.I (p:=⟨e,0,none⟩) (block_lt_of_cell q) nF).trans q
   have c7:Hd (∀W,ac wr W->W.cell? ⟨g,k*3+2,none⟩=some (.slice (f k).1 bt (f k).2)):=hD λW z=>(z.I (p:=⟨g,k*3+2,none⟩) (block_lt_of_cell a7) nF).trans a7
   go_wp2_with fail
   go_region_law (first|(go_simp;go_at_call 110;refine(a4.O _ (by first|exact oR|exact oR.drew)).mono ?_;rintro d u ⟨B,b7,rfl,ba,c0⟩;have t:Hd (ac wr u):=hD (by first|exact c0|exact oR.drew.trans c0);have cr:=cf.O u t.O;have ci:=c7.O u t.O;have ck:=b0.O u t.O)|fail)
   all_goals (
    have cn:=t.O.size;have c3:Hd (cO u (bC wr u) B x.ops):=hD (ba.mo λb j=>by first|exact j|exact j.dn (lR));obtain⟨a6,X⟩:=eX (u.setCell ⟨g,k*3+2,none⟩ (.slice B bt b7));rw[<-X];have cb:Hd (ia m a6 F g o p (λi=>if i=k then(B,b7) else f i) (k+1)):=hD (by rw[X,cd.O];exact b1.O.put b2.O t.O c3.O R.O.size);obtain⟨_,br,⟨c2,al⟩,d0,_⟩:=b1.O.2 k x b2.O;have a2:aa (λb=>b=g) u a6:=by rw[X];exact ag _ _ _ _
    have bv:e≠g:=λd=>ae.ne_ r.O al (by decide) d
    have bx:e+1≠g:=λd=>ae.ne_ s.O al (by decide) d
    have c4:=hD (a2.J (t.O.J r.O nF) bv);have c6:=hD (a2.J (t.O.J s.O nF) bx);have ce:Hd (aa (λb=>b=e) m a6):=hD ((R.O.trans (t.O.mono λ_ d=>d.elim)).trans' a2 (λb j=>.inr (by rw[j];exact br.1)));clear ba X a2 br al d0 bv bx cn a4 b0 cr ci ck;go_wp2_with fail;go_roundw
    case rel=>exact⟨k+1,v,by first|exact cK k|exact cH bm,⟨_,cb.O⟩,c4.O,c6.O,ce.O⟩
    case measure=>first|exact aG rfl v|exact aG bm v)
  ·have cp:¬(k:Int)<(n:Int):=λd=>v (yB.1 d)
   have cq:k=n:=yT Z (yA v);have q:=N.I 0;have a3:=D.I 0;have c1:=D.fz 0;simp at q a3;have c8:=hD (P.fns (by rw[cq,C.O.1];exact lR));have s:=hD D;have R:=hD y;clear P N D y;go_wp2_with fail;refine bodyPost_ret (bS Tryz.results59 rfl (cs:=#[.slice o n c']) (s.O.s_ 0 _) Tryz.underlying24 rfl (by kernel_rfl)) rfl ?_;have ar:=ag wr (e+1) 0 (.slice o n c');refine⟨o,c',by rw[C.O.1];rfl,?_,?_⟩
   ·exact(c8.O.by_type ar s.O (by decide) (by decide)).mo λb j=>(j.dn b3.O.size).up ar.size
   ·exact(b3.O.trans' R.O (λb j=>.inr (by rw[j,a5.O];exact lR))).trans' ar (λb j=>.inr (by rw[j,a5.O];exact yX _))
def kZ(w:World)(F:Nat->Prop)(A:Option Addr)(ops:List bQ):Prop:=
 (True/\ops= [])\/∃b o,A=some ⟨b,o,none⟩/\∀(k:Nat) (x:bQ),ops[k]?=some x->F b/\∀(j:Nat) (v:Value),(ep x)[j]?=some v->w.cell? ⟨b,o+k*5+j,none⟩=some v
def jf(w:World)(F:Nat->Prop)(A:Option Addr)(p:List aj):Prop:=
 (True/\p= [])\/∃b o,A=some ⟨b,o,none⟩/\∀(i:Nat) (x:aj),p[i]?=some x->F b/\w.cell? ⟨b,o+i*3,none⟩=some (.int .i64 x.args)/\w.cell? ⟨b,o+i*3+1,none⟩=some (.int .i64 x.rg)/\
  ∃B c,w.cell? ⟨b,o+i*3+2,none⟩=some (.slice B x.ops.length c)/\kZ w F B x.ops
section
variable {w w':World}{F F':Nat->Prop}{A:Option Addr}{ops:List bQ}{p:List aj}
theorem kZ.kp{S:Nat->Prop}(a:kZ w F A ops)(i:aa S w w')(f:∀b,F b->¬S b):kZ w' F A ops:=by
 rcases a with a|⟨b,o,e,c⟩
 ·exact .inl a
 ·refine .inr ⟨b,o,e,λk x d=>⟨(c k x d).1,λj v g=>?_⟩⟩
  have:=(c k x d).2 j v g;exact(i.I (p:=⟨b,o+k*5+j,none⟩) (block_lt_of_cell this) (f b (c k x d).1)).trans this
theorem jf.kp{S:Nat->Prop}(d:jf w F A p)(f:aa S w w')(e:∀b,F b->¬S b):jf w' F A p:=by
 rcases d with d|⟨b,o,k,l⟩
 ·exact .inl d
 ·refine .inr ⟨b,o,k,λi x m=>?_⟩
  obtain⟨g,n,q,B,c,r,s⟩:=l i x m;have a:∀(j:Nat) (v:Value),w.cell? ⟨b,j,none⟩=some v->w'.cell? ⟨b,j,none⟩=some v:=λj v hv=>(f.I (p:=⟨b,j,none⟩) (block_lt_of_cell hv) (e b g)).trans hv
  exact⟨g,a _ _ n,a _ _ q,B,c,a _ _ r,s.kp f e⟩
theorem jf.at_(e:jf w F A p){i:Nat}{x:aj}(d:p[i]?=some x):∃b o B c,A=some ⟨b,o,none⟩/\w.cell? ⟨b,o+i*3,none⟩=some (.int .i64 x.args)/\w.cell? ⟨b,o+i*3+1,none⟩=some (.int .i64 x.rg)/\w.cell? ⟨b,o+i*3+2,none⟩=some (.slice B x.ops.length c)/\kZ w F B x.ops:=by
 rcases e with⟨_,a⟩|⟨b,o,f,a⟩
 ·rw[a] at d;simp at d
 ·obtain⟨_,g,j,B,c,k,l⟩:=a i x d
  exact⟨b,o,B,c,f,g,j,k,l⟩
theorem jf.U(a:jf w F A p)(b:ac w w'):jf w' F A p:=a.kp b nG
end
end
end Go.Proofs.YtmdocplknceilaaGreat
