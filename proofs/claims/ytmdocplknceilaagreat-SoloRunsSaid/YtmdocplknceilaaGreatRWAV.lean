import Derived.Test.YtmdocplknceilaaGreatRWAU
set_option linter.all false
set_option maxRecDepth 100000
set_option maxHeartbeats 4000000
namespace Go.Proofs.YtmdocplknceilaaGreat
section
open Go.RowKit Go.Maps
def bi(e0:Int)(b:Bool)(e:Int):Int:=if e0=0/\b=false then e else e0
def aV(e fn op:Int):Array Value:=#[.int .i64 e,.int .i64 fn,.int .i64 op]
theorem cc(g:Nat)(c fn k:Int)(b:Bool)(d:Int)(w:World)(e:ae w g 220 (aV c fn k)):
 Calls Tryz.prog 150 #[.pointer (some ⟨g,0,none⟩),.bool b,.int .i64 d] w λj w'=>j=.returned (.tuple #[])/\ae w' g 220 (aV (bi c b d) fn k)/\aa (λb=>b=g) w w':=by
 have l:=e.I 0;have m:=e.fz 0;simp[aV] at l;have i:=hD e
 by_cases f:c=0
 ·subst f
  cases b
  ·have a:bi 0 false d=d:=rfl
   rw[a];clear e a;go_enter Tryz.func150,Tryz.ntmps150;go_wp2_with fail
   go_end0
   exact⟨rfl,i.O.s_ 0 _,af _ _ _ _⟩
  ·have a:bi 0 true d=0:=rfl
   rw[a];clear e a;go_enter Tryz.func150,Tryz.ntmps150;go_wp2_with fail
   go_end0
   exact⟨rfl,i.O,oR⟩
 ·have a:bi c b d=c:=yb (λj=>f j.1)
  rw[a];have n:(c==0)=false:=bF f;clear e a f;go_enter Tryz.func150,Tryz.ntmps150;go_wp2_with fail
  go_end0
  exact⟨rfl,i.O,oR⟩
def eu(regs:Int)(xs:List Int):Bool:=!(xs.any λx=>decide (regs<=x))
theorem jR(regs:Int)(g:Nat)(xs:List Int)(c:Nat)(w:World)(k:fT w g .i64 xs)(m:xs.length<=1000):
 Calls Tryz.prog 197 #[.int .i64 regs,.slice (some ⟨g,0,none⟩) xs.length c] w λj w'=>j=.returned (.bool (eu regs xs))/\ac w w':=by
 obtain⟨b,a⟩:=eX (w.alloc (.cells #[.int .i64 regs] 3));have e:ac w b:=by rw[a];exact(aa.refl _ w).alloc _
 have i:ae b w.heap.size 3 #[.int .i64 regs]:=by rw[a];exact bN
 have f:=hD (AM g xs c b (k.kp e) m regs w.heap.size (i.I 0));obtain⟨r,d⟩:=eX (xs.any λx=>decide (regs<=x));have l:eu regs xs= !r:=by unfold eu;rw[d]
 rw[l];rw[<-d] at f;have q:=hD e;have s:=hD a.symm;generalize xs.length=n at*;clear k m d l e i a;go_enter Tryz.func197,Tryz.ntmps197;go_upto_region 1 with fail;rw[s.O];go_wp2_with fail;refine f.O.mono ?_;rintro j u ⟨rfl,o⟩;have t:=hD (q.O.trans o);clear o;go_wp2_with fail;go_ret;exact⟨rfl,t.O⟩
def eI(p:List ah)(x:ah)(o:bK):Int:=
 if o.k=12 then
  (let e:=bi (bi 0 (eu x.rg [o.d]) 111) (decide (0<=o.n/\o.n<p.length)) 112
  if e=0 then bi 0 (decide ((bG p o.n).args=0\/o.a+(bG p o.n).args<=x.rg)) 111 else e)
 else if o.k=10 then bi 0 (decide (0<=o.n/\o.n<x.ops.length)) 112
 else if o.k=11 then bi (bi 0 (eu x.rg [o.a]) 111) (decide (0<=o.n/\o.n<x.ops.length)) 112
 else if o.k=1 then bi 0 (eu x.rg [o.d]) 111
 else if o.k=2 then bi 0 (eu x.rg [o.d,o.a]) 111
 else if o.k=14 then bi 0 (eu x.rg [o.a]) 111
 else if o.k=13 then 0
 else bi 0 (eu x.rg [o.d,o.a,o.b]) 111
theorem vS{a y:Int}(b:0<=a/\a<=16)(c:0<=y/\y<=16):wrap64 (a+y)=a+y:=by unfold wrap64;omega
theorem BT(p:List ah)(x:ah)(o:bK)(A B:Option Addr)(c aE g:Nat)(fn V:Int)(F:Nat->Prop)(w:World)(bq:ae w g 220 (aV 0 fn V))(c6:cW w F A p)(c8:∀b,F b->b≠g)
 (G:1<=o.k/\o.k<=14) (c9:0<=o.a/\o.a<=16) (cb:∀y∈p,0<=y.args/\y.args<=16):
 Calls Tryz.prog 151 #[.pointer (some ⟨g,0,none⟩),aM p A c,sq x B aE,cR o] w λe w'=>e=.returned (.tuple #[])/\ae w' g 220 (aV (eI p x o) fn V)/\aa (λb=>b=g) w w':=by
 obtain⟨b0,L⟩:=eX (eI p x o);rw[<-L];obtain⟨n,bt⟩:=eX p.length;obtain⟨a5,br⟩:=eX x.ops.length;obtain⟨ba,b2⟩:=eX (w.alloc (.cells #[.slice A n c] 24));obtain⟨b7,bf⟩:=eX (ba.alloc (.cells #[.int .i64 x.args,.int .i64 x.rg,.slice B a5 aE] 99));obtain⟨z,bn⟩:=eX (b7.alloc (.cells #[.int .u8 o.k,.int .i64 o.d,.int .i64 o.a,.int .i64 o.b,.int .i64 o.n] 106));have ce:ac w ba:=by rw[b2];exact(aa.refl _ w).alloc _
 have bv:ac ba b7:=by rw[bf];exact oR.alloc _
 have bp:ac b7 z:=by rw[bn];exact oR.alloc _
 have bo:ac w z:=(ce.trans bv).trans bp;obtain⟨a7,b3⟩:=eX w.heap.size;have c5:ae z a7 24 #[.slice A n c]:=bp.J (bv.J (by rw[b2,b3];exact bN) nF) nF;have c3:ae z (a7+1) 99 #[.int .i64 x.args,.int .i64 x.rg,.slice B a5 aE]:=bp.J (by rw[bf];have:=ae.new ba 99 #[.int .i64 x.args,.int .i64 x.rg,.slice B a5 aE];rw[show ba.heap.size=a7+1 by rw[b2,b3];simp] at this;exact this) nF;have c4:ae z (a7+1+1) 106 #[.int .u8 o.k,.int .i64 o.d,.int .i64 o.a,.int .i64 o.b,.int .i64 o.n]:=by rw[bn];have:=ae.new b7 106 #[.int .u8 o.k,.int .i64 o.d,.int .i64 o.a,.int .i64 o.b,.int .i64 o.n];rw[show b7.heap.size=a7+1+1 by rw[bf,b2,b3];simp] at this;exact this
 have cm:g<a7:=by rw[b3];exact bq.lt
 have E:Hd (∀W,aa (λb=>b=g) z W->W.cell? ⟨a7,0,none⟩=some (.slice A n c)/\W.cell? ⟨a7+1,0,none⟩=some (.int .i64 x.args)/\W.cell? ⟨a7+1,1,none⟩=some (.int .i64 x.rg)/\W.cell? ⟨a7+1,2,none⟩=some (.slice B a5 aE)/\
  W.cell? ⟨a7+1+1,0,none⟩=some (.int .u8 o.k)/\W.cell? ⟨a7+1+1,1,none⟩=some (.int .i64 o.d)/\W.cell? ⟨a7+1+1,2,none⟩=some (.int .i64 o.a)/\W.cell? ⟨a7+1+1,3,none⟩=some (.int .i64 o.b)/\W.cell? ⟨a7+1+1,4,none⟩=some (.int .i64 o.n)):=hD λW bc=>by
  have cs:=bc.J c5 (by omega);have bx:=bc.J c3 (by omega);have bm:=bc.J c4 (by omega);exact⟨cs.I 0,bx.I 0,bx.I 1,bx.I 2,bm.I 0,bm.I 1,bm.I 2,bm.I 3,bm.I 4⟩
 have cf:Hd (∀W,aa (λb=>b=g) z W->cW W F A p):=hD λW bc=>(c6.U bo).kp bc c8
 have f:=hD (bo.J bq nF);have Z:=hD bo;have b5:=hD (aI bt br);have cg:=hD b3;have bz:=hD (aI c9 cb);have c1:=hD (show(((w.alloc (.cells #[.slice A n c] 24)).alloc (.cells #[.int .i64 x.args,.int .i64 x.rg,.slice B a5 aE] 99)).alloc (.cells #[.int .u8 o.k,.int .i64 o.d,.int .i64 o.a,.int .i64 o.b,.int .i64 o.n] 106))=z by rw[bn,bf,b2]);unfold aM sq cR;rw[<-bt,<-br];have ab:Hd (aa (λb=>b=g) z z):=hD oR;obtain⟨l,q,r,s,j,t,u,v,m⟩:=E.O z ab.O;clear bq c6 c8 cb c9 b2 bf bn ce bv bp bo c5 c3 c4 cm b3 bt br;have cn:o.k=1\/o.k=2\/o.k=14\/o.k=13\/o.k=10\/o.k=11\/o.k=12\/(3<=o.k/\o.k<=9):=by omega
 clear G;unfold eI at L;go_enter Tryz.func151,Tryz.ntmps151;go_upto_region 1 with fail;rw[c1.O,<-cg.O];clear c1
 rcases cn with G|G|G|G|G|G|G|G
 ·rw[yb (by omega),yb (by omega),yb (by omega),yf G] at L
  have i:=hD L;rw[G] at E j;clear L G;go_wp2_with fail;refine(jR x.rg _ [o.d] _ _ (eB _ .i64 [o.d] _) (by simp)).mono ?_;rintro e a2 ⟨rfl,a6⟩;have T:=((aa.refl (λ_=>False) z).alloc (.cells ([o.d].map (Value.int .i64)).toArray 3)).trans a6;have a1:Hd (aa (λb=>b=g) z a2):=hD ((ab).O.trans (T.mono λ_ e=>e.elim));have a0:=hD (T.J (f.O) nF);clear a6 T f l q r s j t u v m;obtain⟨l,q,r,s,j,t,u,v,m⟩:=E.O _ a1.O;generalize a3:eu x.rg [o.d] =ai;rw[a3] at i;go_wp2_with fail;refine(cc g 0 fn V _ 111 a2 a0.O).mono ?_;rintro e X ⟨rfl,N,Q⟩;have S:Hd (aa (λb=>b=g) z X):=hD (a1.O.trans Q);have f:=hD N;clear N Q a0 l q r s j t u v m a3;obtain⟨l,q,r,s,j,t,u,v,m⟩:=E.O _ S.O;go_wp2_with fail
  go_end0
  refine⟨rfl,?_,(Z.O.mono λ_ e=>e.elim).trans (S).O⟩;rw[i.O];exact f.O
 ·rw[yb (by omega),yb (by omega),yb (by omega),yb (by omega),yf G] at L
  have i:=hD L;rw[G] at E j;clear L G;go_wp2_with fail;refine(jR x.rg _ [o.d,o.a] _ _ (eB _ .i64 [o.d,o.a] _) (by simp)).mono ?_;rintro e a2 ⟨rfl,a6⟩;have T:=((aa.refl (λ_=>False) z).alloc (.cells ([o.d,o.a].map (Value.int .i64)).toArray 3)).trans a6;have a1:Hd (aa (λb=>b=g) z a2):=hD ((ab).O.trans (T.mono λ_ e=>e.elim));have a0:=hD (T.J (f.O) nF);clear a6 T f l q r s j t u v m;obtain⟨l,q,r,s,j,t,u,v,m⟩:=E.O _ a1.O;generalize a3:eu x.rg [o.d,o.a] =ai;rw[a3] at i;go_wp2_with fail;refine(cc g 0 fn V _ 111 a2 a0.O).mono ?_;rintro e X ⟨rfl,N,Q⟩;have S:Hd (aa (λb=>b=g) z X):=hD (a1.O.trans Q);have f:=hD N;clear N Q a0 l q r s j t u v m a3;obtain⟨l,q,r,s,j,t,u,v,m⟩:=E.O _ S.O;go_wp2_with fail
  go_end0
  refine⟨rfl,?_,(Z.O.mono λ_ e=>e.elim).trans (S).O⟩;rw[i.O];exact f.O
 ·rw[yb (by omega),yb (by omega),yb (by omega),yb (by omega),yb (by omega),yf G] at L
  have i:=hD L;rw[G] at E j;clear L G;go_wp2_with fail;refine(jR x.rg _ [o.a] _ _ (eB _ .i64 [o.a] _) (by simp)).mono ?_;rintro e a2 ⟨rfl,a6⟩;have T:=((aa.refl (λ_=>False) z).alloc (.cells ([o.a].map (Value.int .i64)).toArray 3)).trans a6;have a1:Hd (aa (λb=>b=g) z a2):=hD ((ab).O.trans (T.mono λ_ e=>e.elim));have a0:=hD (T.J (f.O) nF);clear a6 T f l q r s j t u v m;obtain⟨l,q,r,s,j,t,u,v,m⟩:=E.O _ a1.O;generalize a3:eu x.rg [o.a] =ai;rw[a3] at i;go_wp2_with fail;refine(cc g 0 fn V _ 111 a2 a0.O).mono ?_;rintro e X ⟨rfl,N,Q⟩;have S:Hd (aa (λb=>b=g) z X):=hD (a1.O.trans Q);have f:=hD N;clear N Q a0 l q r s j t u v m a3;obtain⟨l,q,r,s,j,t,u,v,m⟩:=E.O _ S.O;go_wp2_with fail
  go_end0
  refine⟨rfl,?_,(Z.O.mono λ_ e=>e.elim).trans (S).O⟩;rw[i.O];exact f.O
 ·rw[yb (by omega),yb (by omega),yb (by omega),yb (by omega),yb (by omega),yb (by omega),yf G] at L
  have i:=hD L;rw[G] at E j;clear L G;go_wp2_with fail
  go_end0
  refine⟨rfl,?_,(Z.O.mono λ_ e=>e.elim).trans (ab).O⟩;rw[i.O];exact f.O
 ·rw[yb (by omega),yf G,<-b5.O.2] at L
  have i:=hD L;rw[G] at E j;clear L G
  by_cases D:0<=o.n
  ·have an:decide (0<=o.n)=true:=yg D
   by_cases H:o.n<(a5:Int)
   ·have ar:decide (o.n<(a5:Int))=true:=yg H
    have C:decide (0<=o.n/\o.n<(a5:Int))=true:=yg ⟨D,H⟩;rw[C] at i;clear C D H;go_wp2_with fail;refine(cc g 0 fn V _ 112 z f.O).mono ?_;rintro e b9 ⟨rfl,N,Q⟩;have al:Hd (aa (λb=>b=g) z b9):=hD ((ab).O.trans Q);have f:=hD N;clear N Q l q r s j t u v m;obtain⟨l,q,r,s,j,t,u,v,m⟩:=E.O _ al.O;go_wp2_with fail
    go_end0
    refine⟨rfl,?_,(Z.O.mono λ_ e=>e.elim).trans (al).O⟩;rw[i.O];exact f.O
   ·have ar:decide (o.n<(a5:Int))=false:=yd H
    have C:decide (0<=o.n/\o.n<(a5:Int))=false:=yd (λe=>H e.2);rw[C] at i;clear C D H;go_wp2_with fail;refine(cc g 0 fn V _ 112 z f.O).mono ?_;rintro e b9 ⟨rfl,N,Q⟩;have al:Hd (aa (λb=>b=g) z b9):=hD ((ab).O.trans Q);have f:=hD N;clear N Q l q r s j t u v m;obtain⟨l,q,r,s,j,t,u,v,m⟩:=E.O _ al.O;go_wp2_with fail
    go_end0
    refine⟨rfl,?_,(Z.O.mono λ_ e=>e.elim).trans (al).O⟩;rw[i.O];exact f.O
  ·have an:decide (0<=o.n)=false:=yd D
   have C:decide (0<=o.n/\o.n<(a5:Int))=false:=yd (λe=>D e.1);rw[C] at i;clear C D;go_wp2_with fail;refine(cc g 0 fn V _ 112 z f.O).mono ?_;rintro e b9 ⟨rfl,N,Q⟩;have al:Hd (aa (λb=>b=g) z b9):=hD ((ab).O.trans Q);have f:=hD N;clear N Q l q r s j t u v m;obtain⟨l,q,r,s,j,t,u,v,m⟩:=E.O _ al.O;go_wp2_with fail
   go_end0
   refine⟨rfl,?_,(Z.O.mono λ_ e=>e.elim).trans (al).O⟩;rw[i.O];exact f.O
 ·rw[yb (by omega),yb (by omega),yf G,<-b5.O.2] at L
  have i:=hD L;rw[G] at E j;clear L G;go_wp2_with fail;refine(jR x.rg _ [o.a] _ _ (eB _ .i64 [o.a] _) (by simp)).mono ?_;rintro e a2 ⟨rfl,a6⟩;have T:=((aa.refl (λ_=>False) z).alloc (.cells ([o.a].map (Value.int .i64)).toArray 3)).trans a6;have a1:Hd (aa (λb=>b=g) z a2):=hD ((ab).O.trans (T.mono λ_ e=>e.elim));have a0:=hD (T.J (f.O) nF);clear a6 T f l q r s j t u v m;obtain⟨l,q,r,s,j,t,u,v,m⟩:=E.O _ a1.O;generalize a3:eu x.rg [o.a] =ai;rw[a3] at i;go_wp2_with fail;refine(cc g 0 fn V _ 111 a2 a0.O).mono ?_;rintro e X ⟨rfl,N,Q⟩;have S:Hd (aa (λb=>b=g) z X):=hD (a1.O.trans Q);have f:=hD N;clear N Q a0 l q r s j t u v m a3;obtain⟨l,q,r,s,j,t,u,v,m⟩:=E.O _ S.O
  by_cases D:0<=o.n
  ·have an:decide (0<=o.n)=true:=yg D
   by_cases H:o.n<(a5:Int)
   ·have ar:decide (o.n<(a5:Int))=true:=yg H
    have C:decide (0<=o.n/\o.n<(a5:Int))=true:=yg ⟨D,H⟩;rw[C] at i;clear C D H;go_wp2_with fail;refine(cc g (bi 0 ai 111) fn V _ 112 X f.O).mono ?_;rintro e Y ⟨rfl,P,R⟩;have K:Hd (aa (λb=>b=g) z Y):=hD ((S).O.trans R);have f:=hD P;clear P R l q r s j t u v m;obtain⟨l,q,r,s,j,t,u,v,m⟩:=E.O _ K.O;go_wp2_with fail
    go_end0
    refine⟨rfl,?_,(Z.O.mono λ_ e=>e.elim).trans (K).O⟩;rw[i.O];exact f.O
   ·have ar:decide (o.n<(a5:Int))=false:=yd H
    have C:decide (0<=o.n/\o.n<(a5:Int))=false:=yd (λe=>H e.2);rw[C] at i;clear C D H;go_wp2_with fail;refine(cc g (bi 0 ai 111) fn V _ 112 X f.O).mono ?_;rintro e Y ⟨rfl,P,R⟩;have K:Hd (aa (λb=>b=g) z Y):=hD ((S).O.trans R);have f:=hD P;clear P R l q r s j t u v m;obtain⟨l,q,r,s,j,t,u,v,m⟩:=E.O _ K.O;go_wp2_with fail
    go_end0
    refine⟨rfl,?_,(Z.O.mono λ_ e=>e.elim).trans (K).O⟩;rw[i.O];exact f.O
  ·have an:decide (0<=o.n)=false:=yd D
   have C:decide (0<=o.n/\o.n<(a5:Int))=false:=yd (λe=>D e.1);rw[C] at i;clear C D;go_wp2_with fail;refine(cc g (bi 0 ai 111) fn V _ 112 X f.O).mono ?_;rintro e Y ⟨rfl,P,R⟩;have K:Hd (aa (λb=>b=g) z Y):=hD ((S).O.trans R);have f:=hD P;clear P R l q r s j t u v m;obtain⟨l,q,r,s,j,t,u,v,m⟩:=E.O _ K.O;go_wp2_with fail
   go_end0
   refine⟨rfl,?_,(Z.O.mono λ_ e=>e.elim).trans (K).O⟩;rw[i.O];exact f.O
 ·rw[yf G,<-b5.O.1] at L
  have i:=hD L;rw[G] at E j;clear L G;go_wp2_with fail;refine(jR x.rg _ [o.d] _ _ (eB _ .i64 [o.d] _) (by simp)).mono ?_;rintro e a2 ⟨rfl,a6⟩;have T:=((aa.refl (λ_=>False) z).alloc (.cells ([o.d].map (Value.int .i64)).toArray 3)).trans a6;have a1:Hd (aa (λb=>b=g) z a2):=hD ((ab).O.trans (T.mono λ_ e=>e.elim));have a0:=hD (T.J (f.O) nF);clear a6 T f l q r s j t u v m;obtain⟨l,q,r,s,j,t,u,v,m⟩:=E.O _ a1.O;generalize a3:eu x.rg [o.d] =ai;rw[a3] at i;go_wp2_with fail;refine(cc g 0 fn V _ 111 a2 a0.O).mono ?_;rintro e X ⟨rfl,N,Q⟩;have S:Hd (aa (λb=>b=g) z X):=hD (a1.O.trans Q);have f:=hD N;clear N Q a0 l q r s j t u v m a3;obtain⟨l,q,r,s,j,t,u,v,m⟩:=E.O _ S.O
  cases ai
  ·have bk:bi 0 false 111=111:=rfl
   rw[bk] at f i;clear bk
   by_cases D:0<=o.n
   ·have an:decide (0<=o.n)=true:=yg D
    by_cases H:o.n<(n:Int)
    ·have ar:decide (o.n<(n:Int))=true:=yg H
     have C:decide (0<=o.n/\o.n<(n:Int))=true:=yg ⟨D,H⟩;rw[C] at i;clear C;clear D H;go_wp2_with fail;refine(cc g 111 fn V _ 112 X f.O).mono ?_;rintro e Y ⟨rfl,P,R⟩;have K:Hd (aa (λb=>b=g) z Y):=hD ((S).O.trans R);have f:=hD P;clear P R l q r s j t u v m;obtain⟨l,q,r,s,j,t,u,v,m⟩:=E.O _ K.O;have a4:bi 111 true 112=111:=rfl;rw[a4] at f i;clear a4;have a8:Hd (b0=111):=hD i.O;have ad:=f.O.I 0;simp[aV] at ad;clear i;have i:=a8;go_wp2_with fail
     go_end0
     refine⟨rfl,?_,(Z.O.mono λ_ e=>e.elim).trans (K).O⟩;rw[i.O];exact f.O
    ·have ar:decide (o.n<(n:Int))=false:=yd H
     have C:decide (0<=o.n/\o.n<(n:Int))=false:=yd (λe=>H e.2);rw[C] at i;clear C D H;go_wp2_with fail;refine(cc g 111 fn V _ 112 X f.O).mono ?_;rintro e Y ⟨rfl,P,R⟩;have K:Hd (aa (λb=>b=g) z Y):=hD ((S).O.trans R);have f:=hD P;clear P R l q r s j t u v m;obtain⟨l,q,r,s,j,t,u,v,m⟩:=E.O _ K.O;have a4:bi 111 false 112=111:=rfl;rw[a4] at f i;clear a4;have a8:Hd (b0=111):=hD i.O;have ad:=f.O.I 0;simp[aV] at ad;clear i;have i:=a8;go_wp2_with fail
     go_end0
     refine⟨rfl,?_,(Z.O.mono λ_ e=>e.elim).trans (K).O⟩;rw[i.O];exact f.O
   ·have an:decide (0<=o.n)=false:=yd D
    have C:decide (0<=o.n/\o.n<(n:Int))=false:=yd (λe=>D e.1);rw[C] at i;clear C D;go_wp2_with fail;refine(cc g 111 fn V _ 112 X f.O).mono ?_;rintro e Y ⟨rfl,P,R⟩;have K:Hd (aa (λb=>b=g) z Y):=hD ((S).O.trans R);have f:=hD P;clear P R l q r s j t u v m;obtain⟨l,q,r,s,j,t,u,v,m⟩:=E.O _ K.O;have a4:bi 111 false 112=111:=rfl;rw[a4] at f i;clear a4;have a8:Hd (b0=111):=hD i.O;have ad:=f.O.I 0;simp[aV] at ad;clear i;have i:=a8;go_wp2_with fail
    go_end0
    refine⟨rfl,?_,(Z.O.mono λ_ e=>e.elim).trans (K).O⟩;rw[i.O];exact f.O
  ·have bk:bi 0 true 111=0:=rfl
   rw[bk] at f i;clear bk
   by_cases D:0<=o.n
   ·have an:decide (0<=o.n)=true:=yg D
    by_cases H:o.n<(n:Int)
    ·have ar:decide (o.n<(n:Int))=true:=yg H
     have C:decide (0<=o.n/\o.n<(n:Int))=true:=yg ⟨D,H⟩;rw[C] at i;clear C;obtain⟨n',az⟩ :∃n':Nat,o.n=(n':Int):=ym D;have cd:p[n']?=some (bG p o.n):=by rw[<-(gy D (by rw[<-b5.O.1];exact H)).2,az,yo]
     have b4:=bz.O.2 (bG p o.n) (gy D (by rw[<-b5.O.1];exact H)).1;have ci:=hD az;have c0:=hD cd;have c2:=hD b4;have ch:Hd ((n':Int)<(n:Int)):=hD (by rw[<-az];exact H);clear D H az cd b4;go_wp2_with fail;refine(cc g 0 fn V _ 112 X f.O).mono ?_;rintro e Y ⟨rfl,P,R⟩;have K:Hd (aa (λb=>b=g) z Y):=hD ((S).O.trans R);have f:=hD P;clear P R l q r s j t u v m;obtain⟨l,q,r,s,j,t,u,v,m⟩:=E.O _ K.O;have a4:bi 0 true 112=0:=rfl;rw[a4] at f i;clear a4;have a8:Hd (b0=bi 0 (decide ((bG p o.n).args=0\/o.a+(bG p o.n).args<=x.rg)) 111):=hD i.O;have ad:=f.O.I 0;simp[aV] at ad;clear i;have i:=a8;clear a8;obtain⟨b,dq,cv,cw,c7,d3,cq,cr,_⟩:=(cf.O _ K.O).at_ c0.O;have d1:(0:Int)<=(n':Int):=dK n';have d2:=ch.O;have b4:=c2.O;have az:=ci.O;clear c0 c2;generalize (bG p o.n).args=a9 at*;rw[az] at m an ar;rw[c7] at l;clear cq cr c7 az
     by_cases bb:a9=0
     ·subst bb
      have am:decide ((0:Int)=0\/o.a+0<=x.rg)=true:=yg (.inl rfl);rw[am] at i;clear am;go_wp2_with fail;refine(cc g 0 fn V _ 111 Y f.O).mono ?_;rintro e b8 ⟨rfl,av,aw⟩;have b6:Hd (aa (λb=>b=g) z b8):=hD (K.O.trans aw);have f:=hD av;clear av aw;go_wp2_with fail
      go_end0
      refine⟨rfl,?_,(Z.O.mono λ_ e=>e.elim).trans (b6).O⟩;rw[i.O];exact f.O
     ·have d0:(a9==0)=false:=bF bb
      have cp:wrap64 (o.a+a9)=o.a+a9:=vS bz.O.1 b4;have cB:=(aU (o.a+a9)).trans cp
      by_cases b1:o.a+a9<=x.rg
      ·have ck:decide (o.a+a9<=x.rg)=true:=yg b1
       have am:decide (a9=0\/o.a+a9<=x.rg)=true:=yg (.inr b1);rw[am] at i;clear am bb b1 b4;go_wp2_with fail;refine(cc g 0 fn V _ 111 Y f.O).mono ?_;rintro e b8 ⟨rfl,av,aw⟩;have b6:Hd (aa (λb=>b=g) z b8):=hD (K.O.trans aw);have f:=hD av;clear av aw;go_wp2_with fail
       go_end0
       refine⟨rfl,?_,(Z.O.mono λ_ e=>e.elim).trans (b6).O⟩;rw[i.O];exact f.O
      ·have ck:decide (o.a+a9<=x.rg)=false:=yd b1
       have am:decide (a9=0\/o.a+a9<=x.rg)=false:=yd (λe=>e.elim bb b1);rw[am] at i;clear am bb b1 b4;go_wp2_with fail;refine(cc g 0 fn V _ 111 Y f.O).mono ?_;rintro e b8 ⟨rfl,av,aw⟩;have b6:Hd (aa (λb=>b=g) z b8):=hD (K.O.trans aw);have f:=hD av;clear av aw;go_wp2_with fail
       go_end0
       refine⟨rfl,?_,(Z.O.mono λ_ e=>e.elim).trans (b6).O⟩;rw[i.O];exact f.O
    ·have ar:decide (o.n<(n:Int))=false:=yd H
     have C:decide (0<=o.n/\o.n<(n:Int))=false:=yd (λe=>H e.2);rw[C] at i;clear C D H;go_wp2_with fail;refine(cc g 0 fn V _ 112 X f.O).mono ?_;rintro e Y ⟨rfl,P,R⟩;have K:Hd (aa (λb=>b=g) z Y):=hD ((S).O.trans R);have f:=hD P;clear P R l q r s j t u v m;obtain⟨l,q,r,s,j,t,u,v,m⟩:=E.O _ K.O;have a4:bi 0 false 112=112:=rfl;rw[a4] at f i;clear a4;have a8:Hd (b0=112):=hD i.O;have ad:=f.O.I 0;simp[aV] at ad;clear i;have i:=a8;go_wp2_with fail
     go_end0
     refine⟨rfl,?_,(Z.O.mono λ_ e=>e.elim).trans (K).O⟩;rw[i.O];exact f.O
   ·have an:decide (0<=o.n)=false:=yd D
    have C:decide (0<=o.n/\o.n<(n:Int))=false:=yd (λe=>D e.1);rw[C] at i;clear C D;go_wp2_with fail;refine(cc g 0 fn V _ 112 X f.O).mono ?_;rintro e Y ⟨rfl,P,R⟩;have K:Hd (aa (λb=>b=g) z Y):=hD ((S).O.trans R);have f:=hD P;clear P R l q r s j t u v m;obtain⟨l,q,r,s,j,t,u,v,m⟩:=E.O _ K.O;have a4:bi 0 false 112=112:=rfl;rw[a4] at f i;clear a4;have a8:Hd (b0=112):=hD i.O;have ad:=f.O.I 0;simp[aV] at ad;clear i;have i:=a8;go_wp2_with fail
    go_end0
    refine⟨rfl,?_,(Z.O.mono λ_ e=>e.elim).trans (K).O⟩;rw[i.O];exact f.O
 ·rw[yb (by omega),yb (by omega),yb (by omega),yb (by omega),yb (by omega),yb (by omega),yb (by omega)] at L
  have db:(o.k==1)=false:=bF (by omega);have dp:(o.k==2)=false:=bF (by omega);have dd:(o.k==10)=false:=bF (by omega);have dk:(o.k==11)=false:=bF (by omega);have dl:(o.k==12)=false:=bF (by omega);have dm:(o.k==13)=false:=bF (by omega);have dn:(o.k==14)=false:=bF (by omega);have d4:¬o.k=1:=by omega
  have da:¬o.k=2:=by omega
  have d5:¬o.k=10:=by omega
  have d6:¬o.k=11:=by omega
  have d7:¬o.k=12:=by omega
  have d8:¬o.k=13:=by omega
  have d9:¬o.k=14:=by omega
  have i:=hD L;clear L G;go_wp2_with fail;refine(jR x.rg _ [o.d,o.a,o.b] _ _ (eB _ .i64 [o.d,o.a,o.b] _) (by simp)).mono ?_;rintro e a2 ⟨rfl,a6⟩;have T:=((aa.refl (λ_=>False) z).alloc (.cells ([o.d,o.a,o.b].map (Value.int .i64)).toArray 3)).trans a6;have a1:Hd (aa (λb=>b=g) z a2):=hD ((ab).O.trans (T.mono λ_ e=>e.elim));have a0:=hD (T.J (f.O) nF);clear a6 T f l q r s j t u v m;obtain⟨l,q,r,s,j,t,u,v,m⟩:=E.O _ a1.O;generalize a3:eu x.rg [o.d,o.a,o.b] =ai;rw[a3] at i;go_wp2_with fail;refine(cc g 0 fn V _ 111 a2 a0.O).mono ?_;rintro e X ⟨rfl,N,Q⟩;have S:Hd (aa (λb=>b=g) z X):=hD (a1.O.trans Q);have f:=hD N;clear N Q a0 l q r s j t u v m a3;obtain⟨l,q,r,s,j,t,u,v,m⟩:=E.O _ S.O;go_wp2_with fail
  go_end0
  refine⟨rfl,?_,(Z.O.mono λ_ e=>e.elim).trans (S).O⟩;rw[i.O];exact f.O
def jm(p:List ah)(x:ah):List bK->Int
 | []=>0
 |o :: l=>if eI p x o≠0 then eI p x o else jm p x l
def iu(x:ah):Bool:=decide (0<x.ops.length)&&((x.ops.getD (x.ops.length-1) nW).k==10||(x.ops.getD (x.ops.length-1) nW).k==14)
def mE(x:ah):Int:=bi 0 (decide (x.args<=x.rg)) 110
def eK(p:List ah)(x:ah)(k:Nat):Int:=if mE x≠0 then mE x else jm p x (x.ops.take k)
def bh(p:List ah)(x:ah):Int:=bi (eK p x x.ops.length) (iu x) 113
def dO(p:List ah):List ah->Int
 | []=>0
 |x :: l=>if bh p x≠0 then bh p x else dO p l
def bE(p:List ah):Int:=if iq p=false then 8 else if p= [] then 110 else dO p p
theorem pZ(p:List ah)(x:ah):∀(l:List bK) (o:bK),jm p x l=0->jm p x (l++ [o])=eI p x o
 | [],o,_=>by
   show(if eI p x o≠0 then eI p x o else 0)=eI p x o
   by_cases b:eI p x o≠0
   ·rw[yf b]
   ·rw[yb b];omega
 |a :: l,o,b=>by
  rw[Ye];unfold jm at b ⊢;split at b
  ·rename_i c;exact absurd b c
  ·rename_i c
   rw[yb c];exact pZ p x l o b
theorem ro(p:List ah)(x:ah):∀(l d:List bK),jm p x l≠0->jm p x (l++d)=jm p x l
 | [],d,b=>absurd rfl b
 |a :: l,d,b=>by
  rw[Ye];unfold jm at b ⊢
  by_cases c:eI p x a≠0
  ·rw[yf c,yf c]
  ·rw[yb c] at b ⊢
   rw[yb c];exact ro p x l d b
theorem vz{p:List ah}{x:ah}{k:Nat}{o:bK}(c:x.ops[k]?=some o)(a:eK p x k=0):eK p x (k+1)=eI p x o:=by
 unfold eK at a ⊢;split at a
 ·rename_i b;exact absurd a b
 ·rename_i b
  rw[yb b,yO,c];exact pZ p x _ o a
theorem pu{p:List ah}{x:ah}{k:Nat}(a:eK p x k≠0):bh p x=eK p x k:=by
 have:eK p x x.ops.length=eK p x k:=by
  unfold eK at a ⊢
  by_cases b:mE x≠0
  ·rw[yf b,yf b]
  ·rw[yb b] at a ⊢
   rw[yb b,zr];have:=ro p x (x.ops.take k) (x.ops.drop k) a;rw[List.take_append_drop] at this;exact this
 unfold bh;rw[this];exact yb λc=>a c.1
theorem rM(p:List ah)(x:ah):eK p x 0=mE x:=by
 unfold eK;split
 ·rfl
 ·rename_i a
  have:mE x=0:=by omega
  rw[this];rfl
theorem ng{p:List ah}(b:iq p=true):∀x∈p,(0<=x.args/\x.args<=16)/\(0<=x.rg/\x.rg<=16)/\x.ops.length<=64/\∀o∈x.ops,cG o=true:=by
 intro x j;unfold iq at b;rw[zm] at b;have g:p.any gi=false:=by have:=b.2;simpa using this
 have c:gi x=false:=by
  have:=zI.1 g x j
  simpa using this
 unfold gi at c;rw[Bool.or_eq_false_iff,Bool.or_eq_false_iff] at c;obtain⟨⟨d,e⟩,f⟩:=c;have a:(co x.args&&co x.rg)=true:=by simpa using d
 rw[zm] at a;refine⟨yD a.1,yD a.2,yA (of_decide_eq_false e),λo i=>?_⟩;have:=zI.1 f o i
 simpa using this
theorem lX{o:bK}(c:cG o=true):(1<=o.k/\o.k<=14)/\(0<=o.d/\o.d<=16)/\(0<=o.a/\o.a<=16)/\(0<=o.b/\o.b<=16):=by
 unfold cG at c;simp only[zm] at c;obtain⟨⟨⟨⟨⟨e,⟨f,g⟩,i⟩,_⟩,_⟩,_⟩,_⟩:=c;exact⟨yD e,yD f,yD g,yD i⟩
theorem iS{p l:List ah}{x:ah}(a:bh p x=0):dO p (x :: l)=dO p l:=by
 show(if bh p x≠0 then _ else _)=_;rw[yb (by rw[a];simp)]
theorem fF{p l:List ah}{x:ah}(a:bh p x≠0):dO p (x :: l)=bh p x:=by
 show(if bh p x≠0 then _ else _)=_;rw[yf a]
theorem rh{a:Nat}(b:¬a=0)(c:a<=64):wrap64 ((a:Int)-1)=((a-1:Nat):Int)/\(0:Int)<=((a-1:Nat):Int)/\((a-1:Nat):Int)<(a:Int)/\decide ((0:Int)<(a:Int))=true/\a-1<a:=by
 refine⟨by unfold wrap64;omega,by omega,by omega,yg (by omega),by omega⟩
def D4(w w':World)(p:List ah)(e:Ending):Prop:=∃fn op,e=.returned (.agg (aV (bE p) fn op))/\ac w w'
theorem ue(p:List ah)(A:Option Addr)(c:Nat)(F:Nat->Prop)(w:World)(cw:cW w F A p)(ex:∀b,F b->b<w.heap.size)(d4:p.length<=1000)(d8:∀x∈p,lI x):
 Calls Tryz.prog 108 #[aM p A c] w λs w'=>D4 w w' p s:=by
 obtain⟨n,cb⟩:=eX p.length;obtain⟨ba,bk⟩:=eX (w.alloc (.cells #[.slice A n c] 24));obtain⟨a9,c2⟩:=eX (ba.alloc (.cells (aV 0 0 0) 220));have f8:ac w ba:=by rw[bk];exact(aa.refl _ w).alloc _
 have dl:ac ba a9:=by rw[c2];exact oR.alloc _
 obtain⟨e,c7⟩:=eX w.heap.size;have cr:ae a9 e 24 #[.slice A n c]:=dl.J (by rw[bk,c7];exact bN) nF;have f:ae a9 (e+1) 220 (aV 0 0 0):=by rw[c2];have:=ae.new ba 220 (aV 0 0 0);rw[show ba.heap.size=e+1 by rw[bk,c7];simp] at this;exact this
 have br:=f8.trans dl;obtain⟨eq,d0⟩:=eX (iq p);have bv:=hD d0
 have e7:Hd (Calls Tryz.prog 149 #[.agg #[.slice A n c]] a9 λs w'=>s=.returned (.bool eq)/\ac a9 w'):=hD (by
  have:=Cv p A c F a9 (cw.U br) d4 d8;unfold aM at this;rw[<-cb,<-d0] at this;exact this)
 have dw:=hD (cw.U br);have e9:=hD cr;have e1:=hD f;have ft:=hD br;have al:=hD (aI cb d4);have Z:=hD c7;have e4:Hd (∀b,F b->b<a9.heap.size):=hD λb l=>lL (ex b l) br.size
 have g1:=hD d8;have ea:=hD (show((w.alloc (.cells #[.slice A n c] 24)).alloc (.cells #[.int .i64 0,.int .i64 0,.int .i64 0] 220))=a9 by rw[c2,bk];rfl);have K:=cr.I 0;simp at K;unfold aM;rw[<-cb];clear cw ex d4 d8 cb bk c2 f8 dl c7 cr f br d0;go_enter Tryz.func108,Tryz.ntmps108;go_upto_region 1 with fail;rw[ea.O,<-Z.O];clear ea;go_wp2_with fail;refine e7.O.mono ?_;rintro s H ⟨rfl,b7⟩;have cp:=hD (b7.J e9.O nF);have L:=hD (b7.J e1.O nF);have a8:=hD (ft.O.trans b7);have dz:=hD (dw.O.U b7);have fq:Hd (∀b,F b->b<H.heap.size):=hD λb l=>lL (e4.O b l) b7.size
 have K:=cp.O.I 0;simp at K;have D:=L.O.I 0;have E:=L.O.I 1;have G:=L.O.I 2;simp[aV] at D E G;obtain⟨aw,az,aE⟩:=L.O.fE3;clear b7 e7 e9 e1 dw e4
 cases eq
 ·have S:Hd (bE p=8):=hD (by unfold bE;rw[yf bv.O.symm])
  go_wp2_with fail;refine bodyPost_ret (cy Tryz.results108 rfl (cs:=aV 8 0 0) (((L.O.s_ 0 _).s_ 1 _).s_ 2 _) Tryz.underlying220 rfl (by kernel_rfl)) rfl ?_;refine⟨0,0,by rw[S.O],a8.O.trans' (aD (aD (af H (e+1) _ _))) (λb l=>.inr (by rw[l,Z.O];exact yX _))⟩
 ·by_cases cd:n=0
  ·subst cd
   have S:Hd (bE p=110):=hD (by unfold bE;rw[yb (by rw[<-bv.O];simp),yf (yr al.O.1.symm)]);go_wp2_with fail;refine bodyPost_ret (cy Tryz.results108 rfl (cs:=aV 110 0 0) (((L.O.s_ 0 _).s_ 1 _).s_ 2 _) Tryz.underlying220 rfl (by kernel_rfl)) rfl ?_;refine⟨0,0,by rw[S.O],a8.O.trans' (aD (aD (af H (e+1) _ _))) (λb l=>.inr (by rw[l,Z.O];exact yX _))⟩
  ·have t:((n:Int)==0)=false:=bF (by omega)
   have S:Hd (bE p=dO p p):=hD (by unfold bE;rw[yb (by rw[<-bv.O];simp),yb (λs=>cd (by rw[al.O.1,s];rfl))]);have e5:=hD (ng bv.O.symm);have gD:=hD cd;clear cd;go_wp2_with fail;clear D E G aw az aE
   go_loopw [23] (λi wr=>∃k:Nat,k<=n/\i=.int .i64 k/\dO p (p.drop k)=dO p p/\ac H wr) (λi _=>n-(intOf i).toNat)
   case atStart=>exact⟨0,yx _,rfl,rfl,oR⟩
   case round=>
    obtain⟨k,gb,rfl,bq,ad⟩:=hrel
    by_cases v:k<n
    ·have h1:(0:Int)<=(k:Int):=dK k
     have g8:(k:Int)<(n:Int):=cO v;have c9:k<p.length:=by rw[<-al.O.1];exact v
     have d3:p[k]?=some p[k]:=gG c9;have d6:=yN c9;have f0:=yM c9;generalize p[k] =x at*;obtain⟨b,dm,B,c1,g7,gx,gA,fk,es⟩:=(dz.O.U ad).at_ d3;obtain⟨a4,d5⟩:=eX x.ops.length;rw[<-d5] at fk;have ai:wrap64 ((k:Int)+1)=(k:Int)+1:=cX v (by rw[al.O.1];exact al.O.2);subst g7;have gq:wr.cell? ⟨e,0,none⟩=some (.slice (some ⟨b,dm,none⟩) n c):=(ad.J cp.O nF).I 0;obtain⟨bb,bm⟩:=eX (wr.alloc (.cells #[.int .i64 x.args,.int .i64 x.rg,.slice B a4 c1] 99));obtain⟨av,c3⟩:=eX (bb.alloc (.cells #[.int .i64 0,.int .i64 (k:Int),.int .i64 0] 220));have dq:ac wr bb:=by rw[bm];exact oR.alloc _
     have ci:ac bb av:=by rw[c3];exact oR.alloc _
     obtain⟨bc,bo⟩:=eX wr.heap.size;obtain⟨r,c8⟩:=eX (bc+1);have cq:ae av bc 99 #[.int .i64 x.args,.int .i64 x.rg,.slice B a4 c1]:=ci.J (by rw[bm,bo];exact bN) nF;have eg:ae av r 220 (aV 0 (k:Int) 0):=by rw[c3];have:=ae.new bb 220 (aV 0 (k:Int) 0);rw[show bb.heap.size=r by rw[bm,c8,bo];simp] at this;exact this
     have g3:Hd (ac H av):=hD ((ad.trans dq).trans ci);have f3:H.heap.size<=r:=by rw[c8,bo];exact zJ ad.size
     have a7:=hD f3;have ds:=hD cq;have dv:=hD eg;have cn:=hD (e5.O x d6);have gN:=hD (g1.O x d6);have N:=hD d5;have gB:=hD d3;have Y:=hD f0;have a1:=hD bq;have e0:Hd (dA av F B x.ops):=hD ((es.U dq).U ci);have b8:Hd (bc=wr.heap.size/\r=bc+1/\bc≠r):=hD ⟨bo,c8,by omega⟩;have eb:Hd ((wr.alloc (.cells #[.int .i64 x.args,.int .i64 x.rg,.slice B a4 c1] 99)).alloc (.cells #[.int .i64 0,.int .i64 (k:Int),.int .i64 0] 220)=av):=hD (by rw[c3,bm]);obtain⟨gn,go⟩:=cq.gE2;clear d3 d6 f0 d5 bq ad es bm c3 dq ci bo c8 cq eg f3 c9;go_upto_region 9 with fail;rw[eb.O,<-b8.O.1,<-b8.O.2.1];clear eb;go_wp2_with fail;refine(cc r 0 (k:Int) 0 _ 110 av dv.O).mono ?_;rintro s a2 ⟨rfl,d9,ck⟩;have b5:bi 0 (decide (x.args<=x.rg)) 110=eK p x 0:=(rM p x).symm;rw[b5] at d9;have cm:=hD (ck.J ds.O b8.O.2.2);have g2:=hD d9;have an:Hd (ac H a2):=hD (g3.O.trans' ck (λb l=>.inr (by rw[l];exact a7.O)));have b9:Hd (∀b,F b->b≠r):=hD λb l s=>by have:=fq.O b l;have:=a7.O;omega
     have e2:Hd (dA a2 F B x.ops):=hD (e0.O.kp ck b9.O);have dr:=cm.O.I 2;simp at dr;clear d9 ck gn go gx gA fk gq b5 ds dv e0;go_wp2_with fail;obtain⟨h3,ge⟩:=eX wr;subst ge
     go_loopw [39] (λi wr=>∃(j:Nat) (m:Int),j<=a4/\i=.int .i64 j/\ae wr r 220 (aV (eK p x j) (k:Int) m)/\aa (λb=>b=r) a2 wr) (λi _=>a4-(intOf i).toNat)
     case atStart=>exact⟨0,0,yx _,rfl,g2.O,oR⟩
     case round=>
      obtain⟨j,m,g9,rfl,bn,b1⟩:=hrel
      by_cases ab:j<a4
      ·have h2:(0:Int)<=(j:Int):=dK j
       have gm:(j:Int)<(a4:Int):=cO ab;have d2:j<x.ops.length:=by rw[<-N.O];exact ab
       have d7:x.ops[j]?=some x.ops[j]:=gG d2;have f1:=cn.O.2.2.2 x.ops[j] (yN d2);have f6:wrap64 ((j:Int)+1)=(j:Int)+1:=cX ab (by rw[N.O];exact lT cn.O.2.2.1 (by decide));generalize x.ops[j] =o at*;obtain⟨ec,fa,cB,a3⟩:=(e2.O.kp b1 b9.O).at_ d7;subst cB;have K:=a3 0 _ rfl;have gr:=a3 1 _ rfl;have gs:=a3 2 _ rfl;have gt:=a3 3 _ rfl;have gu:=a3 4 _ rfl;rw[yW] at K;obtain⟨T,c4⟩:=eX (wr.alloc (.cells #[.int .u8 o.k,.int .i64 o.d,.int .i64 o.a,.int .i64 o.b,.int .i64 o.n] 106));have dn:ac wr T:=by rw[c4];exact oR.alloc _
       obtain⟨er,d1⟩:=eX wr.heap.size;have ef:ae T er 106 #[.int .u8 o.k,.int .i64 o.d,.int .i64 o.a,.int .i64 o.b,.int .i64 o.n]:=by rw[c4,d1];exact bN
       have f2:er≠r:=λs=>by have:=bn.lt;omega
       have V:=dn.J bn nF;have f4:aa (λb=>b=r) a2 T:=b1.trans (dn.mono λ_ s=>s.elim);have bx:=hD c4.symm;have e6:=hD d1;have W:=hD ef;have fs:=hD f2;have e8:=hD f4;have g0:=hD d7;have fr:=hD f1;clear c4 dn d1 ef f2 f4 d7 f1 a3 b1 bn d2 dr
       by_cases g:eK p x j=0
       ·rw[g] at V
        have ei:=V.I 0;have ek:=V.I 2;have g4:=V.fz 2;simp[aV] at ei ek;have fn:=hD V;have fp:=hD g;clear V g;go_upto_region 13 with fail;rw[bx.O,<-e6.O];clear bx;go_upto_region 16 with fail;obtain⟨b2,c5⟩:=eX (T.setCell ⟨r,2,none⟩ (.int .i64 (j:Int)));rw[<-c5];have dp:aa (λb=>b=r) T b2:=by rw[c5];exact af _ _ _ _
        have eL:ae b2 r 220 (aV 0 (k:Int) (j:Int)):=by rw[c5];exact fn.O.s_ 2 _
        have bp:aa (λb=>b=r) a2 b2:=e8.O.trans dp;have ee:ae b2 e 24 #[.slice (some ⟨b,dm,none⟩) n c]:=(an.O.trans' bp (λb l=>.inr (by rw[l];exact a7.O)):ac H b2).J cp.O nF;have c0:=bp.J cm.O b8.O.2.2;have b3:=dp.J W.O fs.O;have fb:=ee.I 0;have fd:=c0.I 0;have ff:=c0.I 1;have fj:=c0.I 2;have v0:=b3.I 0;have v1:=b3.I 1;have v2:=b3.I 2;have v3:=b3.I 3;have v4:=b3.I 4;simp at fb fd ff fj v0 v1 v2 v3 v4;obtain⟨el,g5,em,g6⟩:=lX fr.O;have c6:=BT p x o (some ⟨b,dm,none⟩) (some ⟨ec,fa,none⟩) c c1 r (k:Int) (j:Int) F b2 eL ((dz.O.U an.O).kp bp b9.O) b9.O el em (λy gf=>(e5.O y gf).1);unfold aM sq cR at c6;rw[<-al.O.1,<-N.O] at c6;have e3:=hD c6;have fw:=hD bp;clear c6 bp ee c0 b3 eL dp c5 el g5 em g6 ei ek g4 K gr gs gt gu;go_wp2_with fail;refine e3.O.mono ?_;rintro s h0 ⟨rfl,b5,f9⟩;rw[<-vz g0.O fp.O] at b5;have fo:=hD b5;have fx:=hD (fw.O.trans f9);clear b5 f9 fb fd ff fj v0 v1 v2 v3 v4 e3;go_wp2_with fail;go_roundw
        case rel=>exact⟨j+1,(j:Int),ab,by first|exact cK j|exact cH f6,fo.O,fx.O⟩
        case measure=>first|exact aB rfl ab|exact aB f6 ab
       ·have P:Hd (bE p=eK p x j):=hD (by rw[S.O,<-a1.O,Y.O,fF (by rw[pu g];exact g),pu g])
        have ce:(eK p x j==0)=false:=bF g;have cf:(eK p x j !=0)=true:=bT g;have u:Hd (ac H T):=hD (an.O.trans' e8.O (λb l=>.inr (by rw[l];exact a7.O)));have s0:=(V).I 0;have a5:=(V).I 1;have a6:=(V).I 2;simp[aV] at s0 a5 a6;have f:ae T (e+1) 220 (aV 0 0 0):=(u.O).J L.O nF;have D:=f.I 0;have E:=f.I 1;have G:=f.I 2;simp[aV] at D E G;obtain⟨aw,az,aE⟩:=f.fE3;have X:Hd (ae (((T.setCell ⟨e+1,0,none⟩ (.int .i64 (eK p x j))).setCell ⟨e+1,1,none⟩ (.int .i64 (k:Int))).setCell ⟨e+1,2,none⟩ (.int .i64 m)) (e+1) 220 (aV (eK p x j) (k:Int) m)):=hD (((f.s_ 0 _).s_ 1 _).s_ 2 _);have a0:Hd (ac w (((T.setCell ⟨e+1,0,none⟩ (.int .i64 (eK p x j))).setCell ⟨e+1,1,none⟩ (.int .i64 (k:Int))).setCell ⟨e+1,2,none⟩ (.int .i64 m))):=hD ((a8.O.trans (u.O)).trans' (aD (aD (af T (e+1) _ _))) (λb l=>.inr (by rw[l,Z.O];exact yX _)));clear f;clear g V;go_upto_region 13 with fail;rw[bx.O,<-e6.O];clear bx;go_wp2_with fail;refine bodyPost_ret (cy Tryz.results108 rfl (cs:=aV (eK p x j) (k:Int) m) X.O Tryz.underlying220 rfl (by kernel_rfl)) rfl ?_;refine⟨(k:Int),m,?_,a0.O⟩;rw[P.O]
      ·have gm:¬(j:Int)<(a4:Int):=λs=>ab (yB.1 s)
       have ga:j=a4:=yT g9 (yA ab);subst ga;have gp:=(b1.J cm.O b8.O.2.2).I 2;simp at gp;have bt:=hD bn;have bz:=hD b1;have fl:=hD (e2.O.kp b1 b9.O);clear bn b1 dr
       by_cases b0:j=0
       ·have f7:x.ops= []:=yr (by rw[<-N.O];exact b0)
        have W:Hd (iu x=false):=hD (by unfold iu;rw[f7];rfl);subst b0;clear f7;go_wp2_with fail;refine(cc r (eK p x 0) (k:Int) m false 113 wr bt.O).mono ?_;rintro s q ⟨rfl,t,R⟩;have Q:bi (eK p x 0) false 113=bh p x:=by unfold bh;rw[<-N.O,W.O]
        rw[Q] at t;have ar:Hd (aa (λb=>b=r) a2 q):=hD (bz.O.trans R);have u:Hd (ac H q):=hD (an.O.trans' ar.O (λb l=>.inr (by rw[l];exact a7.O)));have C:=t.I 0;simp[aV] at C;have z:=hD t;clear t R Q
        by_cases g:bh p x=0
        ·have am:Hd (dO p (p.drop (k+1))=dO p p):=hD (by rw[<-a1.O,Y.O,iS g])
         rw[g] at C;clear g;go_wp2_with fail;go_roundw
         case rel=>exact⟨k+1,v,by first|exact cK k|exact cH ai,am.O,u.O⟩
         case measure=>first|exact aB rfl v|exact aB ai v
        ·have P:Hd (bE p=bh p x):=hD (by rw[S.O,<-a1.O,Y.O,fF g])
         have ce:(bh p x==0)=false:=bF g;have cf:(bh p x !=0)=true:=bT g;have s0:=(z.O).I 0;have a5:=(z.O).I 1;have a6:=(z.O).I 2;simp[aV] at s0 a5 a6;have f:ae q (e+1) 220 (aV 0 0 0):=(u.O).J L.O nF;have D:=f.I 0;have E:=f.I 1;have G:=f.I 2;simp[aV] at D E G;obtain⟨aw,az,aE⟩:=f.fE3;have X:Hd (ae (((q.setCell ⟨e+1,0,none⟩ (.int .i64 (bh p x))).setCell ⟨e+1,1,none⟩ (.int .i64 (k:Int))).setCell ⟨e+1,2,none⟩ (.int .i64 m)) (e+1) 220 (aV (bh p x) (k:Int) m)):=hD (((f.s_ 0 _).s_ 1 _).s_ 2 _);have a0:Hd (ac w (((q.setCell ⟨e+1,0,none⟩ (.int .i64 (bh p x))).setCell ⟨e+1,1,none⟩ (.int .i64 (k:Int))).setCell ⟨e+1,2,none⟩ (.int .i64 m))):=hD ((a8.O.trans (u.O)).trans' (aD (aD (af q (e+1) _ _))) (λb l=>.inr (by rw[l,Z.O];exact yX _)));clear f;clear g C;go_wp2_with fail;refine bodyPost_ret (cy Tryz.results108 rfl (cs:=aV (bh p x) (k:Int) m) X.O Tryz.underlying220 rfl (by kernel_rfl)) rfl ?_;refine⟨(k:Int),m,?_,a0.O⟩;rw[P.O]
       ·obtain⟨ch,da,db,dd,cg⟩:=rh b0 (by rw[N.O];exact cn.O.2.2.1)
        have f5:x.ops[j-1]?=some (x.ops.getD (j-1) nW):=by rw[yc,gG (by rw[<-N.O];exact cg)];rfl
        obtain⟨ec,fa,cB,a3⟩:=fl.O.at_ f5
        have b6:iu x=((x.ops.getD (j-1) nW).k==10||(x.ops.getD (j-1) nW).k==14):=by
         unfold iu;rw[<-N.O,yg (Nat.pos_of_ne_zero b0),Bool.true_and]
        generalize x.ops.getD (j-1) nW=o at*;subst cB;have K:=a3 0 _ rfl;rw[yW] at K;clear a3 f5;have dk:=(aU ((j:Int)-1)).trans ch
        by_cases b4:o.k=10
        ·have W:Hd (iu x=true):=hD (by rw[b6,b4];rfl)
         rw[b4] at K;clear b6 b4 b0 cg;go_wp2_with fail;clear K ch dk da db dd;refine(cc r (eK p x j) (k:Int) m true 113 wr bt.O).mono ?_;rintro s q ⟨rfl,t,R⟩;have Q:bi (eK p x j) true 113=bh p x:=by unfold bh;rw[<-N.O,W.O]
         rw[Q] at t;have ar:Hd (aa (λb=>b=r) a2 q):=hD (bz.O.trans R);have u:Hd (ac H q):=hD (an.O.trans' ar.O (λb l=>.inr (by rw[l];exact a7.O)));have C:=t.I 0;simp[aV] at C;have z:=hD t;clear t R Q
         by_cases g:bh p x=0
         ·have am:Hd (dO p (p.drop (k+1))=dO p p):=hD (by rw[<-a1.O,Y.O,iS g])
          rw[g] at C;clear g;go_wp2_with fail;go_roundw
          case rel=>exact⟨k+1,v,by first|exact cK k|exact cH ai,am.O,u.O⟩
          case measure=>first|exact aB rfl v|exact aB ai v
         ·have P:Hd (bE p=bh p x):=hD (by rw[S.O,<-a1.O,Y.O,fF g])
          have ce:(bh p x==0)=false:=bF g;have cf:(bh p x !=0)=true:=bT g;have s0:=(z.O).I 0;have a5:=(z.O).I 1;have a6:=(z.O).I 2;simp[aV] at s0 a5 a6;have f:ae q (e+1) 220 (aV 0 0 0):=(u.O).J L.O nF;have D:=f.I 0;have E:=f.I 1;have G:=f.I 2;simp[aV] at D E G;obtain⟨aw,az,aE⟩:=f.fE3;have X:Hd (ae (((q.setCell ⟨e+1,0,none⟩ (.int .i64 (bh p x))).setCell ⟨e+1,1,none⟩ (.int .i64 (k:Int))).setCell ⟨e+1,2,none⟩ (.int .i64 m)) (e+1) 220 (aV (bh p x) (k:Int) m)):=hD (((f.s_ 0 _).s_ 1 _).s_ 2 _);have a0:Hd (ac w (((q.setCell ⟨e+1,0,none⟩ (.int .i64 (bh p x))).setCell ⟨e+1,1,none⟩ (.int .i64 (k:Int))).setCell ⟨e+1,2,none⟩ (.int .i64 m))):=hD ((a8.O.trans (u.O)).trans' (aD (aD (af q (e+1) _ _))) (λb l=>.inr (by rw[l,Z.O];exact yX _)));clear f;clear g C;go_wp2_with fail;refine bodyPost_ret (cy Tryz.results108 rfl (cs:=aV (bh p x) (k:Int) m) X.O Tryz.underlying220 rfl (by kernel_rfl)) rfl ?_;refine⟨(k:Int),m,?_,a0.O⟩;rw[P.O]
        ·have cv:(o.k==10)=false:=bF b4
         by_cases bf:o.k=14
         ·have W:Hd (iu x=true):=hD (by rw[b6,bf];rfl)
          rw[bf] at K;clear b6 b4 bf b0 cg cv;go_wp2_with fail;clear K ch dk da db dd;refine(cc r (eK p x j) (k:Int) m true 113 wr bt.O).mono ?_;rintro s q ⟨rfl,t,R⟩;have Q:bi (eK p x j) true 113=bh p x:=by unfold bh;rw[<-N.O,W.O]
          rw[Q] at t;have ar:Hd (aa (λb=>b=r) a2 q):=hD (bz.O.trans R);have u:Hd (ac H q):=hD (an.O.trans' ar.O (λb l=>.inr (by rw[l];exact a7.O)));have C:=t.I 0;simp[aV] at C;have z:=hD t;clear t R Q
          by_cases g:bh p x=0
          ·have am:Hd (dO p (p.drop (k+1))=dO p p):=hD (by rw[<-a1.O,Y.O,iS g])
           rw[g] at C;clear g;go_wp2_with fail;go_roundw
           case rel=>exact⟨k+1,v,by first|exact cK k|exact cH ai,am.O,u.O⟩
           case measure=>first|exact aB rfl v|exact aB ai v
          ·have P:Hd (bE p=bh p x):=hD (by rw[S.O,<-a1.O,Y.O,fF g])
           have ce:(bh p x==0)=false:=bF g;have cf:(bh p x !=0)=true:=bT g;have s0:=(z.O).I 0;have a5:=(z.O).I 1;have a6:=(z.O).I 2;simp[aV] at s0 a5 a6;have f:ae q (e+1) 220 (aV 0 0 0):=(u.O).J L.O nF;have D:=f.I 0;have E:=f.I 1;have G:=f.I 2;simp[aV] at D E G;obtain⟨aw,az,aE⟩:=f.fE3;have X:Hd (ae (((q.setCell ⟨e+1,0,none⟩ (.int .i64 (bh p x))).setCell ⟨e+1,1,none⟩ (.int .i64 (k:Int))).setCell ⟨e+1,2,none⟩ (.int .i64 m)) (e+1) 220 (aV (bh p x) (k:Int) m)):=hD (((f.s_ 0 _).s_ 1 _).s_ 2 _);have a0:Hd (ac w (((q.setCell ⟨e+1,0,none⟩ (.int .i64 (bh p x))).setCell ⟨e+1,1,none⟩ (.int .i64 (k:Int))).setCell ⟨e+1,2,none⟩ (.int .i64 m))):=hD ((a8.O.trans (u.O)).trans' (aD (aD (af q (e+1) _ _))) (λb l=>.inr (by rw[l,Z.O];exact yX _)));clear f;clear g C;go_wp2_with fail;refine bodyPost_ret (cy Tryz.results108 rfl (cs:=aV (bh p x) (k:Int) m) X.O Tryz.underlying220 rfl (by kernel_rfl)) rfl ?_;refine⟨(k:Int),m,?_,a0.O⟩;rw[P.O]
         ·have ej:(o.k==14)=false:=bF bf
          have W:Hd (iu x=false):=hD (by rw[b6,cv,ej];rfl);clear b6 b4 bf b0 cg;go_wp2_with fail;clear K ch dk da db dd cv ej;refine(cc r (eK p x j) (k:Int) m false 113 wr bt.O).mono ?_;rintro s q ⟨rfl,t,R⟩;have Q:bi (eK p x j) false 113=bh p x:=by unfold bh;rw[<-N.O,W.O]
          rw[Q] at t;have ar:Hd (aa (λb=>b=r) a2 q):=hD (bz.O.trans R);have u:Hd (ac H q):=hD (an.O.trans' ar.O (λb l=>.inr (by rw[l];exact a7.O)));have C:=t.I 0;simp[aV] at C;have z:=hD t;clear t R Q
          by_cases g:bh p x=0
          ·have am:Hd (dO p (p.drop (k+1))=dO p p):=hD (by rw[<-a1.O,Y.O,iS g])
           rw[g] at C;clear g;go_wp2_with fail;go_roundw
           case rel=>exact⟨k+1,v,by first|exact cK k|exact cH ai,am.O,u.O⟩
           case measure=>first|exact aB rfl v|exact aB ai v
          ·have P:Hd (bE p=bh p x):=hD (by rw[S.O,<-a1.O,Y.O,fF g])
           have ce:(bh p x==0)=false:=bF g;have cf:(bh p x !=0)=true:=bT g;have s0:=(z.O).I 0;have a5:=(z.O).I 1;have a6:=(z.O).I 2;simp[aV] at s0 a5 a6;have f:ae q (e+1) 220 (aV 0 0 0):=(u.O).J L.O nF;have D:=f.I 0;have E:=f.I 1;have G:=f.I 2;simp[aV] at D E G;obtain⟨aw,az,aE⟩:=f.fE3;have X:Hd (ae (((q.setCell ⟨e+1,0,none⟩ (.int .i64 (bh p x))).setCell ⟨e+1,1,none⟩ (.int .i64 (k:Int))).setCell ⟨e+1,2,none⟩ (.int .i64 m)) (e+1) 220 (aV (bh p x) (k:Int) m)):=hD (((f.s_ 0 _).s_ 1 _).s_ 2 _);have a0:Hd (ac w (((q.setCell ⟨e+1,0,none⟩ (.int .i64 (bh p x))).setCell ⟨e+1,1,none⟩ (.int .i64 (k:Int))).setCell ⟨e+1,2,none⟩ (.int .i64 m))):=hD ((a8.O.trans (u.O)).trans' (aD (aD (af q (e+1) _ _))) (λb l=>.inr (by rw[l,Z.O];exact yX _)));clear f;clear g C;go_wp2_with fail;refine bodyPost_ret (cy Tryz.results108 rfl (cs:=aV (bh p x) (k:Int) m) X.O Tryz.underlying220 rfl (by kernel_rfl)) rfl ?_;refine⟨(k:Int),m,?_,a0.O⟩;rw[P.O]
    ·have g8:¬(k:Int)<(n:Int):=λs=>v (yB.1 s)
     have gc:k=n:=yT gb (yA v);rw[gc,al.O.1,zq] at bq;have P:Hd (bE p=0):=hD (by rw[S.O,<-bq];rfl);have f:=ad.J L.O nF;have D:=f.I 0;have E:=f.I 1;have G:=f.I 2;simp[aV] at D E G;obtain⟨aw,az,aE⟩:=f.fE3;have fm:=hD f;have fv:=hD ad;clear bq ad f;go_wp2_with fail;refine bodyPost_ret (cy Tryz.results108 rfl (cs:=aV 0 0 0) (((fm.O.s_ 0 _).s_ 1 _).s_ 2 _) Tryz.underlying220 rfl (by kernel_rfl)) rfl ?_;refine⟨0,0,by rw[P.O],(a8.O.trans fv.O).trans' (aD (aD (af wr (e+1) _ _))) (λb l=>.inr (by rw[l,Z.O];exact yX _))⟩
def qj(w w':World)(p:List ah)(e:Ending):Prop:=∃fn op,e=.returned (.tuple #[.int .i64 (bE p),.int .i64 fn,.int .i64 op])/\ac w w'
theorem rU(p:List ah)(A:Option Addr)(c:Nat)(F:Nat->Prop)(w:World)(s:cW w F A p)(t:∀b,F b->b<w.heap.size)(u:p.length<=1000)(y:∀x∈p,lI x):
 Calls Tryz.prog 58 #[aM p A c] w λq w'=>qj w w' p q:=by
 obtain⟨n,v⟩:=eX p.length;obtain⟨g,d⟩:=eX (w.alloc (.cells #[.slice A n c] 24));have f:ac w g:=by rw[d];exact(aa.refl _ w).alloc _
 have m:ae g w.heap.size 24 #[.slice A n c]:=by rw[d];exact bN
 have a:=hD (ue p A c F g (s.U f) (λb K=>lL (t b K) f.size) u y);have B:=m.I 0;simp at B;have D:=hD f;have E:=hD d.symm;unfold aM at a ⊢;rw[<-v] at a ⊢;clear s t u y v d f m;go_enter Tryz.func58,Tryz.ntmps58;go_upto_region 1 with fail;rw[E.O];go_wp2_with fail;refine a.O.mono ?_;rintro q k ⟨fn,j,rfl,z⟩;obtain⟨r,i⟩:=eX (bE p);rw[<-i];have C:=hD i;clear i;unfold aV;obtain⟨l,e⟩:=eX (k.alloc (.cells #[.int .i64 r,.int .i64 fn,.int .i64 j] 220));have o:ae l k.heap.size 220 #[.int .i64 r,.int .i64 fn,.int .i64 j]:=by rw[e];exact bN
 obtain⟨L,N,P⟩:=o.gE3;have G:=hD e.symm;have H:Hd (ac w l):=hD ((D.O.trans z).trans (by rw[e];exact oR.alloc _));clear z o e B a;go_upto_region 2 with fail;rw[G.O]
 go_quiet (fail)
 go_wp2_with fail
 go_ret3
 refine⟨fn,j,?_,H.O.drewN nq⟩;rw[<-C.O];rfl
theorem eH{d c:Int}{b:Bool}(f:c≠0)(a:bi d b c=0):d=0/\b=true:=by
 unfold bi at a;split at a
 ·exact absurd a f
 ·rename_i e
  refine⟨a,?_⟩
  cases b
  ·exact absurd ⟨a,rfl⟩ e
  ·rfl
theorem iJ{regs:Int}{xs:List Int}(a:eu regs xs=true):∀x∈xs,x<regs:=by
 intro x c;unfold eu at a;have b:(xs.any λx=>decide (regs<=x))=false:=by simpa using a
 have:=zI.1 b x c;simp at this;exact this
theorem qa{p:List ah}{x:ah}:∀{l:List bK},jm p x l=0->∀o∈l,eI p x o=0
 | [],_,o,d=>by cases d
 |a :: l,b,o,d=>by
  unfold jm at b;split at b
  ·rename_i e;exact absurd b e
  ·rename_i e
   rcases yG.1 d with c|c
   ·rw[c];omega
   ·exact qa b o c
theorem pR{p:List ah}:∀{l:List ah},dO p l=0->∀x∈l,bh p x=0
 | [],_,x,d=>by cases d
 |a :: l,b,x,d=>by
  unfold dO at b;split at b
  ·rename_i e;exact absurd b e
  ·rename_i e
   rcases yG.1 d with c|c
   ·rw[c];omega
   ·exact pR b x c
theorem EP{p:List ah}{x:ah}{o:bK}(l:cG o=true)(e:eI p x o=0)(N:dy o.n):tv p x o:=by
 obtain⟨L,K,G,H⟩:=lX l;unfold cG at l;simp only[zm] at l;obtain⟨⟨⟨⟨_,t⟩,r⟩,s⟩,fn⟩:=l;have zd:dS o.k=false->o.d=0:=λc=>by rw[c] at t;simpa using t
 have Q:no o.k=false->o.a=0:=λc=>by rw[c] at r;simpa using r
 have R:ns o.k=false->o.b=0:=λc=>by rw[c] at s;simpa using s
 have S:nu o.k=false->o.n=0:=λc=>by rw[c] at fn;simpa using fn
 have key:(o.k<=9\/o.k=12->o.d<x.rg)/\((2<=o.k/\o.k<=9)\/o.k=11\/o.k=14->o.a<x.rg)/\(3<=o.k/\o.k<=9->o.b<x.rg)/\(o.k=10\/o.k=11->0<=o.n/\o.n<x.ops.length)/\
  (o.k=12->0<=o.n/\o.n<p.length/\((bG p o.n).args=0\/o.a+(bG p o.n).args<=x.rg)):=by
  unfold eI at e
  by_cases z:o.k=12
  ·rw[yf z] at e
   simp only at e;split at e
   ·rename_i m
    obtain⟨q,j⟩:=eH (by decide) m;obtain⟨_,f⟩:=eH (by decide) q;have i:=iJ f o.d (by simp);have g:=yD j;obtain⟨_,D⟩:=eH (by decide) e;have E:=yD D;exact⟨λ_=>i,λc=>by omega,λc=>by omega,λc=>by omega,λ_=>⟨g.1,g.2,E⟩⟩
   ·rename_i m;exact absurd e m
  rw[yb z] at e
  by_cases v:o.k=10
  ·rw[yf v] at e
   obtain⟨_,j⟩:=eH (by decide) e;have g:=yD j;exact⟨λc=>by omega,λc=>by omega,λc=>by omega,λ_=>g,λc=>by omega⟩
  rw[yb v] at e
  by_cases y:o.k=11
  ·rw[yf y] at e
   obtain⟨q,j⟩:=eH (by decide) e;obtain⟨_,f⟩:=eH (by decide) q;have i:=iJ f o.a (by simp);have g:=yD j;exact⟨λc=>by omega,λ_=>i,λc=>by omega,λ_=>g,λc=>by omega⟩
  rw[yb y] at e
  by_cases u:o.k=1
  ·rw[yf u] at e
   obtain⟨_,f⟩:=eH (by decide) e;have i:=iJ f o.d (by simp);exact⟨λ_=>i,λc=>by omega,λc=>by omega,λc=>by omega,λc=>by omega⟩
  rw[yb u] at e
  by_cases C:o.k=2
  ·rw[yf C] at e
   obtain⟨_,f⟩:=eH (by decide) e;have i:=iJ f o.d (by simp);have g:=iJ f o.a (by simp);exact⟨λ_=>i,λ_=>g,λc=>by omega,λc=>by omega,λc=>by omega⟩
  rw[yb C] at e
  by_cases B:o.k=14
  ·rw[yf B] at e
   obtain⟨_,f⟩:=eH (by decide) e;have g:=iJ f o.a (by simp);exact⟨λc=>by omega,λ_=>g,λc=>by omega,λc=>by omega,λc=>by omega⟩
  rw[yb B] at e
  by_cases P:o.k=13
  ·exact⟨λc=>by omega,λc=>by omega,λc=>by omega,λc=>by omega,λc=>by omega⟩
  rw[yb P] at e;obtain⟨_,f⟩:=eH (by decide) e;exact⟨λ_=>iJ f o.d (by simp),λ_=>iJ f o.a (by simp),λ_=>iJ f o.b (by simp),λc=>by omega,λc=>by omega⟩
 exact⟨L,K,G,H,N,key.1,key.2.1,key.2.2.1,key.2.2.2.1,key.2.2.2.2,λc=>zd (yd (by omega)),λc=>Q (yd (by omega)),λc=>R (yd (by omega)),λc=>S (yd (by omega))⟩
theorem Bp{p:List ah}(a:bE p=0)(B:∀x∈p,∀o∈x.ops,dy o.n):gH p:=by
 unfold bE at a;split at a
 ·cases a
 rename_i m;have f:iq p=true:=by simpa using m
 split at a
 ·cases a
 rename_i r;have y:=ng f;refine⟨r,?_,λx g=>?_⟩
 ·unfold iq at f
  rw[zm] at f;exact yD f.1
 ·obtain⟨v,D,C,z⟩:=y x g
  have l:=pR a x g;unfold bh at l;obtain⟨c,e⟩:=eH (by decide) l;unfold eK at c;split at c
  ·rename_i j;exact absurd c j
  rename_i j;have s:mE x=0:=by omega
  obtain⟨_,t⟩:=eH (by decide) s;have u:=yD t;rw[zr] at c;unfold iu at e;rw[zm] at e;have k:=yD e.1;refine⟨v.1,u,D.2,λb=>by rw[b] at k;exact absurd k (by simp),C,λo d=>EP (z o d) (qa c o d) (B x g o d),λo d=>?_⟩;have q:x.ops.getD (x.ops.length-1) nW=o:=by rw[yc,d];rfl
  have i:=e.2;rw[q,Bool.or_eq_true] at i
  rcases i with b|b
  ·exact .inl (by simpa using b)
  ·exact .inr (by simpa using b)
def wP:Go.Shelf.Ren:=⟨fun|41=>109|n=>n,fun|22=>22|23=>99|4=>4|n=>n,fun|n=>n⟩
theorem A3:Go.Proofs.SlLaysE0.n41 Tryz.prog wP:={
 mixed:=by kernel_rfl
 f41:=⟨Tryz.f109.name,by decide,Tryz.func109.trans (yl some (by kernel_rfl))⟩
 t4:=Tryz.underlying4
 a4:=Tryz.isAgg4
 z4:=Tryz.sizeOf4
 v4:=Tryz.zeroValue4
 t22:=Tryz.underlying22
 a22:=Tryz.isAgg22
 z22:=Tryz.sizeOf22
 v22:=Tryz.zeroValue22}
def wQ:Go.Shelf.Ren:=⟨fun|41=>110|n=>n,fun|22=>97|23=>106|4=>4|n=>n,fun|n=>n⟩
theorem A4:Go.Proofs.SlLaysE0.n41 Tryz.prog wQ:={
 mixed:=by kernel_rfl
 f41:=⟨Tryz.f110.name,by decide,Tryz.func110.trans (yl some (by kernel_rfl))⟩
 t4:=Tryz.underlying4
 a4:=Tryz.isAgg4
 z4:=Tryz.sizeOf4
 v4:=Tryz.zeroValue4
 t22:=Tryz.underlying97
 a22:=Tryz.isAgg97
 z22:=Tryz.sizeOf97
 v22:=Tryz.zeroValue97}
theorem AQ:∃i,Tryz.prog.info? 106=some i/\i.zero=some (.agg #[.int .u8 0,.int .i64 0,.int .i64 0,.int .i64 0,.int .i64 0])/\i.size=5/\i.bytes=40:=by
 have a:(Tryz.prog.info? 106).map (λi=>(i.zero,i.size,i.bytes))=some (some (.agg #[.int .u8 0,.int .i64 0,.int .i64 0,.int .i64 0,.int .i64 0]),5,40):=by kernel_rfl
 cases hi:Tryz.prog.info? 106 with
 |none=>rw[hi] at a;cases a
 |some i=>
  rw[hi] at a;simp only[yU,yC,yP] at a;exact⟨i,rfl,a⟩
theorem AP:∃i,Tryz.prog.info? 99=some i/\i.zero=some (.agg #[.int .i64 0,.int .i64 0,.slice none 0 0])/\i.size=3/\i.bytes=40:=by
 have a:(Tryz.prog.info? 99).map (λi=>(i.zero,i.size,i.bytes))=some (some (.agg #[.int .i64 0,.int .i64 0,.slice none 0 0]),3,40):=by kernel_rfl
 cases hi:Tryz.prog.info? 99 with
 |none=>rw[hi] at a;cases a
 |some i=>
  rw[hi] at a;simp only[yU,yC,yP] at a;exact⟨i,rfl,a⟩
theorem qw(l:List bK):(l.flatMap eR).length=l.length*5:=by
 induction l with
 |nil=>rfl
 |cons a l b=>rw[yZ,yk,b];simp[eR];omega
theorem nD:∀(l:List bK) (i j:Nat) (k:bK),l[i]?=some k->j<5->(l.flatMap eR)[i*5+j]?=(eR k)[j]?
 | [],i,j,k,b,_=>by simp at b
 |a :: l,0,j,k,b,c=>by
  simp only[zQ,yC] at b;subst b;rw[yZ,yi (by simp[eR];omega)];simp
 |a :: l,i+1,j,k,b,c=>by
  rw[yZ,yK (by simp[eR];omega)];have:(i+1)*5+j-(eR a).length=i*5+j:=by simp[eR];omega
  rw[this];exact nD l i j k (by simpa using b) c
theorem pC{l:List bK}{q:Nat}{v:Value}(a:(l.flatMap eR)[q]?=some v):∃i j x,q=i*5+j/\j<5/\l[i]?=some x/\(eR x)[j]?=some v:=by
 have d:q<l.length*5:=by rw[<-qw];exact(gS a).1
 have c:q / 5<l.length:=by omega
 have b:l[q / 5]?=some l[q / 5]:=gG c;refine⟨q / 5,q % 5,l[q / 5],by omega,by omega,b,?_⟩;rw[<-nD l (q / 5) (q % 5) _ b (by omega),show q / 5*5+q % 5=q by omega];exact a
theorem mT{w w':World}(a:Below w.heap.size w w'):ac w w':=aa.below_ a
theorem oq(A:Option Addr)(ops:List bK)(c:Nat)(F:Nat->Prop)(w:World)(C:dA w F A ops)(t:ops.length<=1000):
 Calls Tryz.prog 110 #[.slice A ops.length c] w λa w'=>∃r c',a=.returned (.slice r ops.length c')/\dA w' (bl w w') r ops/\ac w w':=by
 rcases C with⟨f,k⟩|⟨b,o,f,k⟩
 ·subst f
  subst k;refine(AnyE.slices_Clone_nil A4 0 c w).mono ?_;rintro a w' ⟨rfl,rfl⟩;exact⟨none,0,rfl,.inl ⟨rfl,rfl⟩,oR⟩
 ·subst f
  obtain⟨R,G,N,P,Q⟩:=AQ;refine(AnyE.slices_Clone A4 R _ 5 40 G N P Q rfl (by decide) Tryz.sizeOf106 b o ops.length c (ops.flatMap eR) w (qw ops) (lT t (by unfold maxLen;decide)) (lT (zP 40 t) (by decide)) (λq v n=>?_) (λu L=>?_)).mono ?_
  ·obtain⟨i,j,x,rfl,l,e,hv⟩:=pC n
   rw[<-zx];exact(k i x e).2.2 j v hv
  ·obtain⟨q,n⟩:=yF L
   obtain⟨i,j,x,rfl,l,e,hv⟩:=pC n;have y:=yh hv;simp only[eR,yG,zV,or_false] at y
   rcases y with a|a|a|a|a<;>rw[a]<;>rfl
  ·rintro a w' ⟨T,rfl,m,K,D⟩
   rcases m.2 with⟨d,B⟩|⟨g,z,cur,d,B,s,S⟩
   ·exact absurd d K
   ·refine⟨some ⟨g,0,none⟩,z,by rw[d],.inr ⟨g,0,rfl,λi x e=>?_⟩,mT D⟩
    have E:w.heap.size<=g:=by assumption
    have H:g<w'.heap.size:=(yu.1 s).1;refine⟨⟨E,H⟩,⟨cur,s⟩,λj v hv=>?_⟩
    have l:j<5:=by
     have:=(gS hv).1
     simpa[eR] using this
    rw[d] at m;have:=m.cells (g:=g) rfl (i*5+j) v (by rw[nD _ _ j x e l];exact hv);rw[bg,yq] at this;rw[yq];exact this
def iZ(f:Nat->Option Addr×Nat)(i:Nat)(x:ah):List Value:=[.int .i64 x.args,.int .i64 x.rg,.slice (f i).1 x.ops.length (f i).2]
def oC(f:Nat->Option Addr×Nat):List ah->Nat->List Value
 | [],_=>[]
 |x :: l,k=>iZ f k x++oC f l (k+1)
theorem qq(f:Nat->Option Addr×Nat):∀(l:List ah) (k:Nat),(oC f l k).length=l.length*3
 | [],k=>rfl
 |x :: l,k=>by
  unfold oC;rw[yk,qq f l (k+1)];simp[iZ];omega
theorem qp(f:Nat->Option Addr×Nat):∀(l:List ah) (k i j:Nat) (x:ah),l[i]?=some x->j<3->(oC f l k)[i*3+j]?=(iZ f (k+i) x)[j]?
 | [],k,i,j,x,b,_=>by simp at b
 |a :: l,k,0,j,x,b,c=>by
  simp only[zQ,yC] at b;subst b;unfold oC;rw[yi (by simp[iZ];omega)];simp
 |a :: l,k,i+1,j,x,b,c=>by
  unfold oC;rw[yK (by simp[iZ];omega)];have:(i+1)*3+j-(iZ f k a).length=i*3+j:=by simp[iZ];omega
  rw[this,qp f l (k+1) i j x (by simpa using b) c,show k+1+i=k+(i+1) by omega]
theorem vA{f:Nat->Option Addr×Nat}{l:List ah}{q:Nat}{v:Value}(a:(oC f l 0)[q]?=some v):∃i j x,q=i*3+j/\j<3/\l[i]?=some x/\(iZ f i x)[j]?=some v:=by
 have d:q<l.length*3:=by rw[<-qq f l 0];exact(gS a).1
 have c:q / 3<l.length:=by omega
 have b:l[q / 3]?=some l[q / 3]:=gG c;refine⟨q / 3,q % 3,l[q / 3],by omega,by omega,b,?_⟩;have:=qp f l 0 (q / 3) (q % 3) _ b (by omega);rw[yq] at this;rw[<-this,show q / 3*3+q % 3=q by omega];exact a
def jc(w0 w:World)(Fo:Nat->Prop)(g:Nat)(A:Option Addr)(p:List ah)(f:Nat->Option Addr×Nat)(k:Nat):Prop:=
 ((A=none/\p= [])\/A=some ⟨g,0,none⟩)/\∀(i:Nat) (x:ah),p[i]?=some x->A=some ⟨g,0,none⟩/\bl w0 w g/\(∃zs,ae w g 99 zs)/\
   (∀(j:Nat) (v:Value),(iZ f i x)[j]?=some v->w.cell? ⟨g,i*3+j,none⟩=some v)/\(i<k->dA w (bl w0 w) (f i).1 x.ops)/\(k<=i->dA w Fo (f i).1 x.ops)
theorem jc.fns{j w:World}{l:Nat->Prop}{g:Nat}{A:Option Addr}{p:List ah}{f:Nat->Option Addr×Nat}{k:Nat}(d:jc j w l g A p f k)(o:p.length<=k):cW w (bl j w) A p:=by
 rcases d.1 with a|a
 ·exact .inl a
 ·refine .inr ⟨g,0,a,λi x e=>?_⟩
  obtain⟨_,q,r,b,s,_⟩:=d.2 i x e;have c:=b 0 _ rfl;have m:=b 1 _ rfl;have n:=b 2 _ rfl;rw[yW] at c;refine⟨q,r,by rw[yq];exact c,by rw[yq];exact m,(f i).1,(f i).2,by rw[yq];exact n,s (lL (gS e).1 o)⟩
theorem oi(A:Option Addr)(p:List ah)(c:Nat)(F:Nat->Prop)(w:World)(N:cW w F A p)(G:p.length<=1000):
 Calls Tryz.prog 109 #[.slice A p.length c] w λd w'=>∃t c' g f,d=.returned (.slice t p.length c')/\jc w w' F g t p f 0/\ac w w':=by
 rcases N with⟨l,m⟩|⟨b,o,l,m⟩
 ·subst l
  subst m;refine(AnyE.slices_Clone_nil A3 0 c w).mono ?_;rintro d w' ⟨rfl,rfl⟩;exact⟨none,0,0,λ_=>(none,0),rfl,⟨.inl ⟨rfl,rfl⟩,λi x a=>by simp at a⟩,oR⟩
 ·subst l
  have D:∀i:Nat,∃z:Option Addr×Nat,∀x,p[i]?=some x->(∀(j:Nat) (v:Value),(iZ (λ_=>z) i x)[j]?=some v->w.cell? ⟨b,o+i*3+j,none⟩=some v)/\dA w F z.1 x.ops:=by
   intro i
   cases hp:p[i]? with
   |none=>exact⟨(none,0),λx a=>by cases a⟩
   |some x=>
    obtain⟨_,_,a1,a2,B,k,a3,a4⟩:=m i x hp;refine⟨(B,k),λy W=>?_⟩
    cases W
    refine⟨λj v hv=>?_,a4⟩
    match j,hv with
    |0,hv=>simp[iZ] at hv;subst hv;rw[yW];exact a1
    |1,hv=>simp[iZ] at hv;subst hv;exact a2
    |2,hv=>simp[iZ] at hv;subst hv;exact a3
    |j+3,hv=>simp[iZ] at hv
  obtain⟨f,E⟩ :∃f:Nat->Option Addr×Nat,∀i x,p[i]?=some x->(∀(j:Nat) (v:Value),(iZ f i x)[j]?=some v->w.cell? ⟨b,o+i*3+j,none⟩=some v)/\dA w F (f i).1 x.ops:=
   ⟨λi=>Classical.choose (D i),λi x a=>Classical.choose_spec (D i) x a⟩
  obtain⟨a0,R,X,Y,Z⟩:=AP;refine(AnyE.slices_Clone A3 a0 _ 3 40 R X Y Z rfl (by decide) Tryz.sizeOf99 b o p.length c (oC f p 0) w (qq f p 0) (lT G (by unfold maxLen;decide)) (lT (zP 40 G) (by decide)) (λq v s=>?_) (λu V=>?_)).mono ?_
  ·obtain⟨i,j,x,rfl,n,a,hv⟩:=vA s
   rw[<-zx];exact(E i x a).1 j v hv
  ·obtain⟨q,s⟩:=yF V
   obtain⟨i,j,x,rfl,n,a,hv⟩:=vA s;have H:=yh hv;simp only[iZ,yG,zV,or_false] at H
   rcases H with d|d|d<;>rw[d]<;>rfl
  ·rintro d w' ⟨a6,rfl,r,T,P⟩
   rcases r.2 with⟨e,L⟩|⟨g,k,cur,e,L,C,a5⟩
   ·exact absurd e T
   ·have K:=mT P
    have Q:w.heap.size<=g:=by assumption
    have S:g<w'.heap.size:=(yu.1 C).1;refine⟨some ⟨g,0,none⟩,k,g,f,by rw[e],⟨.inr rfl,λi x a=>⟨rfl,⟨Q,S⟩,⟨cur,C⟩,λj v hv=>?_,λd=>absurd d (zZ _),λ_=>(E i x a).2.U K⟩⟩,K⟩
    have n:j<3:=by
     have:=(gS hv).1
     simpa[iZ] using this
    rw[e] at r;have:=r.cells (g:=g) rfl (i*3+j) v (by have:=qp f p 0 i j x a n;rw[yq] at this;rw[this];exact hv);rw[bg,yq] at this;exact this
theorem jc.put{o w l:World}{t:Nat->Prop}{g:Nat}{A B:Option Addr}{p:List ah}{f:Nat->Option Addr×Nat}{k c:Nat}{x:ah}(q:jc o w t g A p f k)(s:p[k]?=some x)(d:ac w l)(G:dA l (bl w l) B x.ops)(E:o.heap.size<=w.heap.size):
 jc o (l.setCell ⟨g,k*3+2,none⟩ (.slice B x.ops.length c)) t g A p (λi=>if i=k then(B,c) else f i) (k+1):=by
 have e:=af l g (k*3+2) (.slice B x.ops.length c);obtain⟨_,_,⟨V,z⟩,_,_,_⟩:=q.2 k x s;have n:=d.J z nF;refine⟨q.1,λi y m=>?_⟩;obtain⟨Q,R,⟨Y,X⟩,C,S,T⟩:=q.2 i y m;have K:bl o (l.setCell ⟨g,k*3+2,none⟩ (.slice B x.ops.length c)) g:=(R.up d.size).up e.size;refine⟨Q,K,⟨_,n.s_ _ _⟩,λj v hv=>?_,λL=>?_,λL=>?_⟩
 ·have W:j<3:=by
   have:=(gS hv).1
   simpa[iZ] using this
  by_cases u:i*3+j=k*3+2
  ·have a:i=k:=by omega
   have N:j=2:=by omega
   subst a;subst N;rw[s] at m
   cases m
   simp[iZ] at hv;subst hv;have H:=(n.s_ (i*3+2) (.slice B x.ops.length c)).I (i*3+2);rw[H]
   have P:i*3+2<V.size:=by
    have:=C 2 _ rfl;rw[z.I] at this;exact(yu.1 this).1
   simp[P]
  ·rw[World.cell?_setCell_other _ _ _ _ (by first|(simp;omega)|simp|(intro D;injection D with e1 e2;exact u e2))]
   have hv':(iZ f i y)[j]?=some v:=by
    by_cases a:i=k
    ·subst a
     match j,hv with
     |0,hv=>simpa[iZ] using hv
     |1,hv=>simpa[iZ] using hv
     |2,hv=>exact absurd rfl u
     |j+3,hv=>simp[iZ] at hv
    ·simp only[iZ,yb a] at hv ⊢
     exact hv
   have:=C j v hv';exact(d.I (p:=⟨g,i*3+j,none⟩) (block_lt_of_cell this) nF).trans this
 ·by_cases a:i=k
  ·subst a
   rw[s] at m
   cases m
   simp only[yR];exact(G.by_type e n (by decide)).mo λb r=>(r.dn E).up e.size
  ·simp only[yb a]
   exact(((S (by omega)).U d).by_type e n (by decide)).mo λb r=>(r.up d.size).up e.size
 ·have a:¬i=k:=by omega
  simp only[yb a];exact((T (by omega)).U d).by_type e n (by decide)
theorem jc.U{d w e:World}{a:Nat->Prop}{g:Nat}{A:Option Addr}{p:List ah}{f:Nat->Option Addr×Nat}{k:Nat}(m:jc d w a g A p f k){S:Nat->Prop}(c:aa S w e)(n:¬S g)(r:∀A ops,dA w (bl d w) A ops->dA e (bl d w) A ops)(q:∀A ops,dA w a A ops->dA e a A ops):jc d e a g A p f k:=by
 refine⟨m.1,λi x t=>?_⟩;obtain⟨u,y,⟨D,z⟩,o,B,C⟩:=m.2 i x t;exact⟨u,y.up c.size,⟨D,c.J z n⟩,λj v hv=>(c.I (p:=⟨g,i*3+j,none⟩) (block_lt_of_cell (o j v hv)) n).trans (o j v hv),λl=>(r _ _ (B l)).mo λb s=>s.up c.size,λl=>q _ _ (C l)⟩
def ph(w w':World)(p:List ah)(e:Ending):Prop:=∃A' c',e=.returned (aM p A' c')/\cW w' (bl w w') A' p/\ac w w'
theorem wC(A:Option Addr)(p:List ah)(c:Nat)(F:Nat->Prop)(w:World)(b9:cW w F A p)(ab:p.length<=1000)(bf:∀x∈p,x.ops.length<=1000):
 Calls Tryz.prog 114 #[aM p A c] w λd w'=>ph w w' p d:=by
 obtain⟨n,a0⟩:=eX p.length;obtain⟨H,L⟩:=eX (w.alloc (.cells #[.slice A n c] 24));obtain⟨m,T⟩:=eX (H.alloc (.cells #[.slice none 0 0] 24));have bz:ac w H:=by rw[L];exact(aa.refl _ w).alloc _
 have am:ac H m:=by rw[T];exact oR.alloc _
 obtain⟨e,Y⟩:=eX w.heap.size;have S:ae m e 24 #[.slice A n c]:=am.J (by rw[L,Y];exact bN) nF;have b6:ae m (e+1) 24 #[.slice none 0 0]:=by rw[T];have:=ae.new H 24 #[.slice none 0 0];rw[show H.heap.size=e+1 by rw[L,Y];simp] at this;exact this
 have an:=bz.trans am
 have aE:Hd (Calls Tryz.prog 109 #[.slice A n c] m λd w'=>∃o c' g f,d=.returned (.slice o n c')/\jc m w' F g o p f 0/\ac m w'):=hD (by
  have:=oi A p c F m (b9.U an) ab;rw[<-a0] at this;exact this)
 have av:=hD S;have aw:=hD b6;have b3:=hD an;have C:=hD (aI a0 (aI ab bf));have a5:=hD Y;have b4:=hD (show((w.alloc (.cells #[.slice A n c] 24)).alloc (.cells #[.slice none 0 0] 24))=m by rw[T,L]);have q:=S.I 0;have cm:=S.fz 0;simp at q;unfold aM;rw[<-a0];clear b9 ab bf a0 L T bz am Y S b6 an;go_enter Tryz.func114,Tryz.ntmps114;go_upto_region 1 with fail;rw[b4.O,<-a5.O];clear b4;go_wp2_with fail;refine aE.O.mono ?_;rintro d b5 ⟨o,c',g,f,rfl,Z,a1⟩;have j:=a1.J av.O nF;have a3:=j.I 0;have c1:=j.fz 0;simp at a3;have G:=hD Z;have ch:=hD a1;have r:=hD j;have s:=hD (a1.J aw.O nF);clear Z a1 j q cm aE av aw;go_upto_region 2 with fail;obtain⟨K,V⟩:=eX (b5.setCell ⟨e,0,none⟩ (.slice o n c'));rw[<-V];have E:aa (λb=>b=e) b5 K:=by rw[V];exact af _ _ _ _
 have az:Hd (ae K e 24 #[.slice o n c']):=hD (by rw[V];exact r.O.s_ 0 _);have c5:Hd (ae K (e+1) 24 #[.slice none 0 0]):=hD (E.J s.O (by omega))
 have c9:Hd (jc m K F g o p f 0):=hD (by
  by_cases bk:p= []
  ·exact⟨G.O.1,λi x Q=>by rw[bk] at Q;simp at Q⟩
  ·obtain⟨x,Q⟩ :∃x,p[0]?=some x:=by cases p with
    |nil=>exact absurd rfl bk
    |cons a l=>exact⟨a,rfl⟩
   have d1:=(G.O.2 0 x Q).2.1;refine G.O.U E (λd=>?_) (λA ops y=>y.by_type E r.O (by decide)) (λA ops y=>y.by_type E r.O (by decide));obtain⟨c2,cv⟩:=(G.O.2 0 x Q).2.2.1;exact ae.ne_ cv r.O (by decide) d)
 have cg:Hd (aa (λb=>b=e) m K):=hD ((ch.O.mono λ_ d=>d.elim).trans E);have q:=az.O.I 0;simp at q;clear a3 c1 V E r s G;go_wp2_with fail
 go_loopw [11] (λi wr=>∃(k:Nat),k<=n/\i=.int .i64 k/\(∃f:Nat->Option Addr×Nat,jc m wr F g o p f k)/\ae wr e 24 #[.slice o n c']/\ae wr (e+1) 24 #[.slice none 0 0]/\aa (λb=>b=e) m wr) (λi _=>n-(intOf i).toNat)
 case atStart=>exact⟨0,yx _,rfl,⟨f,c9.O⟩,az.O,c5.O,cg.O⟩
 case round=>
  obtain⟨k,Z,rfl,⟨f,P⟩,N,D,y⟩:=hrel
  by_cases v:k<n
  ·have d2:(0:Int)<=(k:Int):=dK k
   have cp:(k:Int)<(n:Int):=cO v;have ad:k<p.length:=by rw[<-C.O.1];exact v
   have a9:p[k]?=some p[k]:=gG ad;have bc:=C.O.2.2 _ (yN ad);generalize p[k] =x at*;obtain⟨bn,cw,⟨c2,bo⟩,bp,_,bq⟩:=P.2 k x a9;have a8:=bn;have a7:=bp 2 _ rfl;have bm:wrap64 ((k:Int)+1)=(k:Int)+1:=cX v (by rw[C.O.1];exact C.O.2.1);have q:=N.I 0;simp at q;rw[a8] at q;have bb:=λ(W:World) (z:ac wr W)=>oq (f k).1 x.ops (f k).2 F W ((bq (lR)).U z) bc
   have b8:∀W,ac wr W->W.frozen? ⟨g,k*3+2,none⟩=false:=λW z=>(z.J bo nF).fz _
   have b0:=hD b8;have a4:=hD bb;have b1:=hD P;have r:=hD N;have s:=hD D;have R:=hD y;have b2:=hD a9;obtain⟨bt,ai⟩:=eX x.ops.length;rw[<-ai] at a7 a4;have cd:=hD ai;have d0:=hD a8;clear P N D y a9 bn cw bo bp bq bb bc ad b8 a8 ai;have cf:Hd (∀W,ac wr W->W.cell? ⟨e,0,none⟩=some (.slice (some ⟨g,0,none⟩) n c')):=hD λW z=>(z.I (p:=⟨e,0,none⟩) (block_lt_of_cell q) nF).trans q
   have c7:Hd (∀W,ac wr W->W.cell? ⟨g,k*3+2,none⟩=some (.slice (f k).1 bt (f k).2)):=hD λW z=>(z.I (p:=⟨g,k*3+2,none⟩) (block_lt_of_cell a7) nF).trans a7
   go_wp2_with fail
   go_region_law (first|(go_simp;go_at_call 110;refine(a4.O _ (by first|exact oR|exact oR.drew)).mono ?_;rintro d u ⟨B,b7,rfl,ba,c0⟩;have t:Hd (ac wr u):=hD (by first|exact c0|exact oR.drew.trans c0);have cr:=cf.O u t.O;have ci:=c7.O u t.O;have ck:=b0.O u t.O)|fail)
   all_goals (
    have cn:=t.O.size;have c3:Hd (dA u (bl wr u) B x.ops):=hD (ba.mo λb j=>by first|exact j|exact j.dn (lR));obtain⟨a6,X⟩:=eX (u.setCell ⟨g,k*3+2,none⟩ (.slice B bt b7));rw[<-X];have cb:Hd (jc m a6 F g o p (λi=>if i=k then(B,b7) else f i) (k+1)):=hD (by rw[X,cd.O];exact b1.O.put b2.O t.O c3.O R.O.size);obtain⟨_,br,⟨c2,al⟩,cB,_⟩:=b1.O.2 k x b2.O;have a2:aa (λb=>b=g) u a6:=by rw[X];exact af _ _ _ _
    have bv:e≠g:=λd=>ae.ne_ r.O al (by decide) d
    have bx:e+1≠g:=λd=>ae.ne_ s.O al (by decide) d
    have c4:=hD (a2.J (t.O.J r.O nF) bv);have c6:=hD (a2.J (t.O.J s.O nF) bx);have ce:Hd (aa (λb=>b=e) m a6):=hD ((R.O.trans (t.O.mono λ_ d=>d.elim)).trans' a2 (λb j=>.inr (by rw[j];exact br.1)));clear ba X a2 br al cB bv bx cn a4 b0 cr ci ck;go_wp2_with fail;go_roundw
    case rel=>exact⟨k+1,v,by first|exact cK k|exact cH bm,⟨_,cb.O⟩,c4.O,c6.O,ce.O⟩
    case measure=>first|exact aB rfl v|exact aB bm v)
  ·have cp:¬(k:Int)<(n:Int):=λd=>v (yB.1 d)
   have cq:k=n:=yT Z (yA v);have q:=N.I 0;have a3:=D.I 0;have c1:=D.fz 0;simp at q a3;have c8:=hD (P.fns (by rw[cq,C.O.1];exact lR));have s:=hD D;have R:=hD y;clear P N D y;go_wp2_with fail;refine bodyPost_ret (cy Tryz.results114 rfl (cs:=#[.slice o n c']) (s.O.s_ 0 _) Tryz.underlying24 rfl (by kernel_rfl)) rfl ?_;have ar:=af wr (e+1) 0 (.slice o n c');refine⟨o,c',by rw[C.O.1];rfl,?_,?_⟩
   ·exact(c8.O.by_type ar s.O (by decide) (by decide)).mo λb j=>(j.dn b3.O.size).up ar.size
   ·exact(b3.O.trans' R.O (λb j=>.inr (by rw[j,a5.O];exact lR))).trans' ar (λb j=>.inr (by rw[j,a5.O];exact yX _))
theorem Al(A:Option Addr)(p:List ah)(c:Nat)(F:Nat->Prop)(w:World)(b9:cW w F A p)(ab:p.length<=1000)(bf:∀x∈p,x.ops.length<=1000):
 Calls Tryz.prog 59 #[aM p A c] w λd w'=>ph w w' p d:=by
 obtain⟨n,a0⟩:=eX p.length;obtain⟨H,L⟩:=eX (w.alloc (.cells #[.slice A n c] 24));obtain⟨m,T⟩:=eX (H.alloc (.cells #[.slice none 0 0] 24));have bz:ac w H:=by rw[L];exact(aa.refl _ w).alloc _
 have am:ac H m:=by rw[T];exact oR.alloc _
 obtain⟨e,Y⟩:=eX w.heap.size;have S:ae m e 24 #[.slice A n c]:=am.J (by rw[L,Y];exact bN) nF;have b6:ae m (e+1) 24 #[.slice none 0 0]:=by rw[T];have:=ae.new H 24 #[.slice none 0 0];rw[show H.heap.size=e+1 by rw[L,Y];simp] at this;exact this
 have an:=bz.trans am
 have aE:Hd (Calls Tryz.prog 109 #[.slice A n c] m λd w'=>∃o c' g f,d=.returned (.slice o n c')/\jc m w' F g o p f 0/\ac m w'):=hD (by
  have:=oi A p c F m (b9.U an) ab;rw[<-a0] at this;exact this)
 have av:=hD S;have aw:=hD b6;have b3:=hD an;have C:=hD (aI a0 (aI ab bf));have a5:=hD Y;have b4:=hD (show((w.alloc (.cells #[.slice A n c] 24)).alloc (.cells #[.slice none 0 0] 24))=m by rw[T,L]);have q:=S.I 0;have cm:=S.fz 0;simp at q;unfold aM;rw[<-a0];clear b9 ab bf a0 L T bz am Y S b6 an;go_enter Tryz.func59,Tryz.ntmps59;go_upto_region 1 with fail;rw[b4.O,<-a5.O];clear b4;go_wp2_with fail;refine aE.O.mono ?_;rintro d b5 ⟨o,c',g,f,rfl,Z,a1⟩;have j:=a1.J av.O nF;have a3:=j.I 0;have c1:=j.fz 0;simp at a3;have G:=hD Z;have ch:=hD a1;have r:=hD j;have s:=hD (a1.J aw.O nF);clear Z a1 j q cm aE av aw;go_upto_region 2 with fail;obtain⟨K,V⟩:=eX (b5.setCell ⟨e,0,none⟩ (.slice o n c'));rw[<-V];have E:aa (λb=>b=e) b5 K:=by rw[V];exact af _ _ _ _
 have az:Hd (ae K e 24 #[.slice o n c']):=hD (by rw[V];exact r.O.s_ 0 _);have c5:Hd (ae K (e+1) 24 #[.slice none 0 0]):=hD (E.J s.O (by omega))
 have c9:Hd (jc m K F g o p f 0):=hD (by
  by_cases bk:p= []
  ·exact⟨G.O.1,λi x Q=>by rw[bk] at Q;simp at Q⟩
  ·obtain⟨x,Q⟩ :∃x,p[0]?=some x:=by cases p with
    |nil=>exact absurd rfl bk
    |cons a l=>exact⟨a,rfl⟩
   have d1:=(G.O.2 0 x Q).2.1;refine G.O.U E (λd=>?_) (λA ops y=>y.by_type E r.O (by decide)) (λA ops y=>y.by_type E r.O (by decide));obtain⟨c2,cv⟩:=(G.O.2 0 x Q).2.2.1;exact ae.ne_ cv r.O (by decide) d)
 have cg:Hd (aa (λb=>b=e) m K):=hD ((ch.O.mono λ_ d=>d.elim).trans E);have q:=az.O.I 0;simp at q;clear a3 c1 V E r s G;go_wp2_with fail
 go_loopw [11] (λi wr=>∃(k:Nat),k<=n/\i=.int .i64 k/\(∃f:Nat->Option Addr×Nat,jc m wr F g o p f k)/\ae wr e 24 #[.slice o n c']/\ae wr (e+1) 24 #[.slice none 0 0]/\aa (λb=>b=e) m wr) (λi _=>n-(intOf i).toNat)
 case atStart=>exact⟨0,yx _,rfl,⟨f,c9.O⟩,az.O,c5.O,cg.O⟩
 case round=>
  obtain⟨k,Z,rfl,⟨f,P⟩,N,D,y⟩:=hrel
  by_cases v:k<n
  ·have d2:(0:Int)<=(k:Int):=dK k
   have cp:(k:Int)<(n:Int):=cO v;have ad:k<p.length:=by rw[<-C.O.1];exact v
   have a9:p[k]?=some p[k]:=gG ad;have bc:=C.O.2.2 _ (yN ad);generalize p[k] =x at*;obtain⟨bn,cw,⟨c2,bo⟩,bp,_,bq⟩:=P.2 k x a9;have a8:=bn;have a7:=bp 2 _ rfl;have bm:wrap64 ((k:Int)+1)=(k:Int)+1:=cX v (by rw[C.O.1];exact C.O.2.1);have q:=N.I 0;simp at q;rw[a8] at q;have bb:=λ(W:World) (z:ac wr W)=>oq (f k).1 x.ops (f k).2 F W ((bq (lR)).U z) bc
   have b8:∀W,ac wr W->W.frozen? ⟨g,k*3+2,none⟩=false:=λW z=>(z.J bo nF).fz _
   have b0:=hD b8;have a4:=hD bb;have b1:=hD P;have r:=hD N;have s:=hD D;have R:=hD y;have b2:=hD a9;obtain⟨bt,ai⟩:=eX x.ops.length;rw[<-ai] at a7 a4;have cd:=hD ai;have d0:=hD a8;clear P N D y a9 bn cw bo bp bq bb bc ad b8 a8 ai;have cf:Hd (∀W,ac wr W->W.cell? ⟨e,0,none⟩=some (.slice (some ⟨g,0,none⟩) n c')):=hD λW z=>(z.I (p:=⟨e,0,none⟩) (block_lt_of_cell q) nF).trans q
   have c7:Hd (∀W,ac wr W->W.cell? ⟨g,k*3+2,none⟩=some (.slice (f k).1 bt (f k).2)):=hD λW z=>(z.I (p:=⟨g,k*3+2,none⟩) (block_lt_of_cell a7) nF).trans a7
   go_wp2_with fail
   go_region_law (first|(go_simp;go_at_call 110;refine(a4.O _ (by first|exact oR|exact oR.drew)).mono ?_;rintro d u ⟨B,b7,rfl,ba,c0⟩;have t:Hd (ac wr u):=hD (by first|exact c0|exact oR.drew.trans c0);have cr:=cf.O u t.O;have ci:=c7.O u t.O;have ck:=b0.O u t.O)|fail)
   all_goals (
    have cn:=t.O.size;have c3:Hd (dA u (bl wr u) B x.ops):=hD (ba.mo λb j=>by first|exact j|exact j.dn (lR));obtain⟨a6,X⟩:=eX (u.setCell ⟨g,k*3+2,none⟩ (.slice B bt b7));rw[<-X];have cb:Hd (jc m a6 F g o p (λi=>if i=k then(B,b7) else f i) (k+1)):=hD (by rw[X,cd.O];exact b1.O.put b2.O t.O c3.O R.O.size);obtain⟨_,br,⟨c2,al⟩,cB,_⟩:=b1.O.2 k x b2.O;have a2:aa (λb=>b=g) u a6:=by rw[X];exact af _ _ _ _
    have bv:e≠g:=λd=>ae.ne_ r.O al (by decide) d
    have bx:e+1≠g:=λd=>ae.ne_ s.O al (by decide) d
    have c4:=hD (a2.J (t.O.J r.O nF) bv);have c6:=hD (a2.J (t.O.J s.O nF) bx);have ce:Hd (aa (λb=>b=e) m a6):=hD ((R.O.trans (t.O.mono λ_ d=>d.elim)).trans' a2 (λb j=>.inr (by rw[j];exact br.1)));clear ba X a2 br al cB bv bx cn a4 b0 cr ci ck;go_wp2_with fail;go_roundw
    case rel=>exact⟨k+1,v,by first|exact cK k|exact cH bm,⟨_,cb.O⟩,c4.O,c6.O,ce.O⟩
    case measure=>first|exact aB rfl v|exact aB bm v)
  ·have cp:¬(k:Int)<(n:Int):=λd=>v (yB.1 d)
   have cq:k=n:=yT Z (yA v);have q:=N.I 0;have a3:=D.I 0;have c1:=D.fz 0;simp at q a3;have c8:=hD (P.fns (by rw[cq,C.O.1];exact lR));have s:=hD D;have R:=hD y;clear P N D y;go_wp2_with fail;refine bodyPost_ret (cy Tryz.results59 rfl (cs:=#[.slice o n c']) (s.O.s_ 0 _) Tryz.underlying24 rfl (by kernel_rfl)) rfl ?_;have ar:=af wr (e+1) 0 (.slice o n c');refine⟨o,c',by rw[C.O.1];rfl,?_,?_⟩
   ·exact(c8.O.by_type ar s.O (by decide) (by decide)).mo λb j=>(j.dn b3.O.size).up ar.size
   ·exact(b3.O.trans' R.O (λb j=>.inr (by rw[j,a5.O];exact lR))).trans' ar (λb j=>.inr (by rw[j,a5.O];exact yX _))
def jK(w:World)(F:Nat->Prop)(A:Option Addr)(ops:List bK):Prop:=
 (True/\ops= [])\/∃b o,A=some ⟨b,o,none⟩/\∀(k:Nat) (x:bK),ops[k]?=some x->F b/\∀(j:Nat) (v:Value),(eR x)[j]?=some v->w.cell? ⟨b,o+k*5+j,none⟩=some v
def fP(w:World)(F:Nat->Prop)(A:Option Addr)(p:List ah):Prop:=
 (True/\p= [])\/∃b o,A=some ⟨b,o,none⟩/\∀(i:Nat) (x:ah),p[i]?=some x->F b/\w.cell? ⟨b,o+i*3,none⟩=some (.int .i64 x.args)/\w.cell? ⟨b,o+i*3+1,none⟩=some (.int .i64 x.rg)/\
  ∃B c,w.cell? ⟨b,o+i*3+2,none⟩=some (.slice B x.ops.length c)/\jK w F B x.ops
section
variable {w w':World}{F F':Nat->Prop}{A:Option Addr}{ops:List bK}{p:List ah}
theorem jK.kp{S:Nat->Prop}(a:jK w F A ops)(i:aa S w w')(f:∀b,F b->¬S b):jK w' F A ops:=by
 rcases a with a|⟨b,o,e,c⟩
 ·exact .inl a
 ·refine .inr ⟨b,o,e,λk x d=>⟨(c k x d).1,λj v g=>?_⟩⟩
  have:=(c k x d).2 j v g;exact(i.I (p:=⟨b,o+k*5+j,none⟩) (block_lt_of_cell this) (f b (c k x d).1)).trans this
theorem fP.kp{S:Nat->Prop}(d:fP w F A p)(f:aa S w w')(e:∀b,F b->¬S b):fP w' F A p:=by
 rcases d with d|⟨b,o,k,l⟩
 ·exact .inl d
 ·refine .inr ⟨b,o,k,λi x m=>?_⟩
  obtain⟨g,n,q,B,c,r,s⟩:=l i x m;have a:∀(j:Nat) (v:Value),w.cell? ⟨b,j,none⟩=some v->w'.cell? ⟨b,j,none⟩=some v:=λj v hv=>(f.I (p:=⟨b,j,none⟩) (block_lt_of_cell hv) (e b g)).trans hv
  exact⟨g,a _ _ n,a _ _ q,B,c,a _ _ r,s.kp f e⟩
theorem jK.at_(d:jK w F A ops){k:Nat}{x:bK}(c:ops[k]?=some x):∃b o,A=some ⟨b,o,none⟩/\∀(j:Nat) (v:Value),(eR x)[j]?=some v->w.cell? ⟨b,o+k*5+j,none⟩=some v:=by
 rcases d with⟨_,a⟩|⟨b,o,e,a⟩
 ·rw[a] at c;simp at c
 ·exact⟨b,o,e,(a k x c).2⟩
theorem fP.at_(e:fP w F A p){i:Nat}{x:ah}(d:p[i]?=some x):∃b o B c,A=some ⟨b,o,none⟩/\w.cell? ⟨b,o+i*3,none⟩=some (.int .i64 x.args)/\w.cell? ⟨b,o+i*3+1,none⟩=some (.int .i64 x.rg)/\w.cell? ⟨b,o+i*3+2,none⟩=some (.slice B x.ops.length c)/\jK w F B x.ops:=by
 rcases e with⟨_,a⟩|⟨b,o,f,a⟩
 ·rw[a] at d;simp at d
 ·obtain⟨_,g,j,B,c,k,l⟩:=a i x d
  exact⟨b,o,B,c,f,g,j,k,l⟩
theorem jK.U(a:jK w F A ops)(b:ac w w'):jK w' F A ops:=a.kp b nG
theorem fP.U(a:fP w F A p)(b:ac w w'):fP w' F A p:=a.kp b nG
end
end
end Go.Proofs.YtmdocplknceilaaGreat
