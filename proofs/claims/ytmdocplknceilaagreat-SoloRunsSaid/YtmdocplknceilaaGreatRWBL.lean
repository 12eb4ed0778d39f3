import Derived.Test.YtmdocplknceilaaGreatRWBK
import Derived.Laws.StructEq
import Derived.Test.YtmdocplknceilaaGreatRWBF
import Derived.Test.YtmdocplknceilaaGreatRWBI
import Derived.Test.YtmdocplknceilaaGreatRWAE
set_option linter.all false
set_option maxRecDepth 100000
set_option maxHeartbeats 8000000
namespace Go.Proofs.YtmdocplknceilaaGreat
section
open Go.RowKit Go.Maps
theorem nK{p:List ah}{f:List Int}{a:Int}(b:dZ p f.length a=0)(t:∀x∈p,x.ops.length<=200)(m:∀x∈p,∀o∈x.ops,jz o/\dy o.n)(r:∀x∈f,dy x):
 mY p/\cC p ⟨[],0,f,a.toNat⟩/\0<=a:=by
 have j:fV p f.length=0:=by
  by_cases e:fV p f.length=0
  ·exact e
  ·rw[sL e] at b
   exact absurd b e
 have q:0<=a/\a<=65536:=by
  unfold dZ at b;rw[yb (by rw[j];simp)] at b;split at b
  ·cases b
  ·rename_i e
   constructor<;>·refine Classical.byContradiction λv=>e ?_;omega
 have g:=vd j;have l:gH p:=Bp g λx i o k=>(m x i o k).2
 have u:0<p.length:=zK.2 l.p0;refine⟨⟨l,g,λx i=>⟨lT (t x i) (by decide),λo k=>(m x i o k).1⟩⟩,⟨yE _,?_,AR j,r,?_,?_⟩,q.1⟩
 ·show(0:Int)<(p.length:Int)
  exact yB.2 u
 ·show a.toNat<=65536
  omega
 ·exact⟨by simp,λc g=>by cases g⟩
theorem DE{k:Nat}:10000+4*((k+1:Nat):Int)=10000+4*(k:Int)+4:=by omega
attribute [local simp] eM gw gz dj eD Region.binds ed ey Is ap Act.put
def gd(thr lg most:Int):Bool:=decide (thr<1)||decide (8<thr)||decide (lg<0)||decide (8<lg)||decide (most<1)||decide (1024<most)
theorem ot{thr lg a:Int}:gd thr lg a=true↔jv thr lg a:=by
 unfold gd jv;simp only[Bool.or_eq_true,zR];constructor<;>intro b<;>omega
def dD(p:List ah)(n:Nat)(fuel thr lg most:Int)(ps:List (Int×Nat)):Int:=
 if bE p≠0 then bE p else if dZ p n fuel≠0 then dZ p n fuel else if gd thr lg most=true then 2 else if ps.any (ig thr)=true then 2 else if most<=fuel then 6 else 0
def j9(w w':World)(p:List ah)(inp:List Int)(fuel thr lg most:Int)(ps:List (Int×Nat))(e:Ending):Prop:=
 (dD p inp.length fuel thr lg most ps≠0->∃v,e=.returned (.tuple #[v,.int .i64 (dD p inp.length fuel thr lg most ps)])/\ac w w')/\
 (dD p inp.length fuel thr lg most ps=0->∃tag L s0,e=.returned (.tuple #[ptr L.pb,.int .i64 0])/\gL (kE 0 p ⟨[],0,inp,fuel.toNat⟩) w w' 10000 tag L (en s0 ⟨0,[]⟩ ⟨[],0,inp,fuel.toNat⟩)/\iF s0/\(s0.ths.length:Int)=thr/\L.most=most/\s0.progs 0=some p)
theorem j9.bad{w w':World}{p:List ah}{e:List Int}{b thr lg f:Int}{ps:List (Int×Nat)}{a:Ending}{v:Value}{k:Int}(c:dD p e.length b thr lg f ps=k)(j:k≠0)(i:a=.returned (.tuple #[v,.int .i64 k]))(l:ac w w'):j9 w w' p e b thr lg f ps a:=
 ⟨λ_=>⟨v,by rw[c];exact i,l⟩,λg=>absurd (c.symm.trans g) j⟩
theorem xB(p:List ah)(A az al:Option Addr)(c cr c3:Nat)(F d5:Nat->Prop)(m:List Int)(r thr lg l:Int)(ps:List (Int×Nat))(w:World)(B:cW w F A p)(b3:∀b,F b->b<w.heap.size)(b9:p.length<=30)(ck:∀x∈p,x.ops.length<=200)(cn:∀x∈p,∀o∈x.ops,jz o/\dy o.n)(dq:aJ w d5 az m)(ce:m.length<=100)(e1:∀x∈m,dy x)
 (ds:bP w w.heap.size 2 al ps.length (ps.flatMap jF)) (e3:ps.length<=1000):
 Calls Tryz.prog 66 #[aM p A c,.slice az m.length cr,.int .i64 r,.agg #[.int .i64 thr,.int .i64 lg,.int .i64 l],.slice al ps.length c3] w λe w'=>j9 w w' p m r thr lg l ps e:=by
 obtain⟨n,a7⟩:=eX p.length;obtain⟨q,bb⟩:=eX m.length;obtain⟨fb,ch⟩:=eX ps.length;obtain⟨aE,a6⟩:=eX (w.alloc (.cells #[.slice A n c] 24));obtain⟨Y,b4⟩:=eX (aE.alloc (.cells #[.int .i64 thr,.int .i64 lg,.int .i64 l] 40));obtain⟨a5,b8⟩ :∃g,g=w.heap.size:=⟨_,rfl⟩
 have e6:ac w aE:=by rw[a6];exact oR.alloc _
 have cw:ac aE Y:=by rw[b4];exact oR.alloc _
 have bf:=e6.trans cw;have ec:aE.heap.size=a5+1:=by rw[a6,b8];simp
 have c2:ae Y a5 24 #[.slice A n c]:=cw.J (by rw[a6,b8];exact bN) nF;have dd:ae Y (a5+1) 40 #[.int .i64 thr,.int .i64 lg,.int .i64 l]:=by rw[b4,<-ec];exact bN
 have b7:∀x∈p,lI x:=λx C=>⟨lT (ck x C) (by decide),λo f9=>(cn x C o f9).1⟩
 obtain⟨a4,cb⟩:=eX (bE p);obtain⟨bm,e4⟩:=eX (dZ p m.length r)
 have d8:Hd (Calls Tryz.prog 58 #[.agg #[.slice A n c]] Y λe w'=>∃fn ea,e=.returned (.tuple #[.int .i64 a4,.int .i64 fn,.int .i64 ea])/\ac Y w'):=hD (by
  have:=rU p A c F Y (B.U bf) (λb f=>lL (b3 b f) bf.size) (lT b9 (by decide)) b7;unfold aM qj at this;rw[<-a7,<-cb] at this;exact this)
 have da:Hd (∀W,ac w W->Calls Tryz.prog 116 #[.agg #[.slice A n c],.slice az q cr,.int .i64 r] W λe w'=>qK W w' p m r e):=hD λW c7=>by
  have:=Ay p A az c cr F d5 m r W (B.U c7) (λb f=>lL (b3 b f) c7.size) (lT b9 (by decide)) b7 (dq.kp c7 nG) (lT ce (by decide));unfold aM at this;rw[<-a7,<-bb] at this;exact this
 have D:=hD (aI B (aI b3 (aI b9 (aI ck (aI cn (aI e1 (aI ds (aI e3 b7))))))));have k:=hD (aI a7 (aI bb (aI ch (aI ce (aI cb e4)))));have d6:=hD (aI c2 dd);have ej:=hD bf;have eg:=hD b8;have bz:=hD (aI a6.symm b4.symm);unfold aM;rw[<-a7,<-bb,<-ch];have v:=c2.I 0;simp at v;clear B b3 b9 ck cn dq ce e1 ds e3 a7 bb ch a6 b4 b8 e6 cw bf ec c2 dd b7 cb e4;go_enter Tryz.func66,Tryz.ntmps66;go_upto_region 1 with fail;rw[bz.O.1,bz.O.2,<-eg.O];clear bz;go_wp2_with fail;refine d8.O.mono ?_;rintro e f1 ⟨fn,ea,rfl,bk⟩;have bv:=hD (ej.O.trans bk);have an:=hD (aI (bk.J d6.O.1 nF) (bk.J d6.O.2 nF));clear bk d8 v
 by_cases Z:a4=0
 case neg=>
  have f7:(a4 !=0)=true:=bT Z;have u:Hd (dD p m.length r thr lg l ps=a4/\a4≠0):=hD ⟨by unfold dD;rw[<-k.O.2.2.2.2.1,yf Z],Z⟩;clear Z;go_wp2_with fail
  go_ret2
  exact j9.bad u.O.1 u.O.2 rfl bv.O
 have fp:=hD Z;subst Z;have v:=an.O.1.I 0;simp at v;go_wp2_with fail;refine(da.O f1 bv.O).mono ?_;rintro e b0 ⟨a9,ad,ai⟩;have bx:=hD (bv.O.trans a9);have bn:=hD (aI (a9.J an.O.1 nF) (a9.J an.O.2 nF));have ek:=hD a9;clear a9 da v an
 by_cases N:bm=0
 case neg=>
  have hv:=ad (λe=>N (k.O.2.2.2.2.2.trans e));rw[<-k.O.2.2.2.2.2] at hv;subst hv;have f7:(bm !=0)=true:=bT N;have u:Hd (dD p m.length r thr lg l ps=bm/\bm≠0):=hD ⟨by unfold dD;rw[<-k.O.2.2.2.2.1,yb (λe=>e rfl),<-k.O.2.2.2.2.2,yf N],N⟩;have E:Hd (∀cB,ac w (b0.alloc cB)):=hD λcB=>bx.O.alloc cB
  clear N ad ai;go_wp2_with fail
  go_ret2
  exact j9.bad u.O.1 u.O.2 rfl (E.O _)
 obtain⟨H,V,rfl,dv⟩:=ai (k.O.2.2.2.2.2.symm.trans N);have fr:=hD N;subst N;have c6:=nK k.O.2.2.2.2.2.symm D.O.2.2.2.1 D.O.2.2.2.2.1 D.O.2.2.2.2.2.1;obtain⟨x,C⟩:=eX (⟨[],0,m,r.toNat⟩ :aj);obtain⟨kp,e2⟩:=eX (sB ([]:List UInt8));obtain⟨bc,cf⟩:=eX ((r.toNat:Int):Int);have cm:bX ⟨[],0,m,r.toNat⟩ H V= #[.string kp,.int .i64 0,.slice H q V,.int .i64 bc]:=by rw[e2,cf,k.O.2.1];rfl
 have ex:Hd (bX x H V= #[.string kp,.int .i64 0,.slice H q V,.int .i64 bc]):=hD (by rw[C];exact cm);rw[cm];rw[<-C] at c6;have a2:=hD c6;have aw:=hD C;obtain⟨K,b5⟩:=eX (b0.alloc (.cells #[.string kp,.int .i64 0,.slice H q V,.int .i64 bc] 30));obtain⟨f5,cd⟩:=eX b0.heap.size;have a0:ac b0 K:=by rw[b5];exact oR.alloc _
 have d7:Hd (ae K f5 30 #[.string kp,.int .i64 0,.slice H q V,.int .i64 bc]):=hD (by rw[b5,cd];exact bN);have E:=hD (bx.O.trans a0);have ar:=hD (aI (a0.J bn.O.1 nF) (a0.J bn.O.2 nF));have eL:Hd (aJ K (λb=>b<K.heap.size) H x.args):=hD (by rw[C];exact(dv.kp a0 nG).mo λb f=>lL f.2 a0.size);have fq:=hD cf;have db:=hD b5.symm;have ei:=hD cd;obtain⟨fj,fk,fo⟩:=ar.O.2.gE3;clear ad ai dv c6 C e2 cf cm b5 cd a0 bn bx ek;go_upto_region 5 with fail;rw[db.O,<-ei.O];clear db
 by_cases f:gd thr lg l=true
 ·have av:=hD (Do thr lg l (ot.1 f) K)
  have u:Hd (dD p m.length r thr lg l ps=2):=hD (by unfold dD;rw[<-k.O.2.2.2.2.1,yb (λe=>e rfl),<-k.O.2.2.2.2.2,yb (λe=>e rfl),yf f]);clear f;go_wp2_with fail;refine av.O.mono ?_;rintro e b1 ⟨rfl,e7⟩;have f0:=hD (E.O.trans e7);clear e7;go_wp2_with fail
  go_ret2
  exact j9.bad u.O (by decide) rfl f0.O
 have dz:1<=thr/\thr<=8/\0<=lg/\lg<=8/\1<=l/\l<=1024:=by
  have t:¬jv thr lg l:=λe=>f (ot.2 e)
  unfold jv at t;omega
 have bq:Hd (gd thr lg l=false):=hD (by simpa using f);obtain⟨cv,ci⟩ :∃cv:Nat,thr=(cv:Int):=⟨thr.toNat,by omega⟩
 obtain⟨cs,cg⟩ :∃cs:Nat,lg=(cs:Int):=⟨lg.toNat,by omega⟩
 have ba:=Dn cv cs l (by omega) (by omega) (by omega) (by omega) (by omega) K;unfold D8 at ba;rw[<-ci,<-cg] at ba;have av:=hD ba;have Q:=hD (aI ci (aI cg dz));clear f dz ci cg ba
 go_upto_region 8 with(go_at_call 25;refine av.O.mono ?_;rintro e b1 ⟨tag,L,s,rfl,dr⟩;have a:=hD dr;clear dr)
 have a1:=hD (E.O.trans a.O.U);have bo:=hD (aI (a.O.U.J ar.O.1 nF) (aI (a.O.U.J ar.O.2 nF) (a.O.U.J d7.O nF)));obtain⟨dk,c9⟩:=eX (ps.any (ig thr));have v:=bo.O.2.1.I 0;simp at v
 have d9:Hd (Calls Tryz.prog 117 #[.slice al fb c3,.func (.func 118) #[] #[.pointer (some ⟨a5+1,0,none⟩)]] b1 λe w'=>e=.returned (.bool dk)/\ac b1 w'):=hD (by
  rw[k.O.2.2.1,c9];exact CS al c3 thr (a5+1) ps b1 (eG D.O.2.2.2.2.2.2.1 a1.O) v D.O.2.2.2.2.2.2.2.1)
 have bp:=hD c9;clear v fj fk fo c9 ar av;unfold ptr;go_wp2_with fail;refine d9.O.mono ?_;rintro e f2 ⟨rfl,e8⟩;have z:=hD e8;clear e8 d9
 cases dk
 case true=>
  have u:Hd (dD p m.length r thr lg l ps=2):=hD (by unfold dD;rw[<-k.O.2.2.2.2.1,yb (λe=>e rfl),<-k.O.2.2.2.2.2,yb (λe=>e rfl),bq.O,yb (by decide),<-bp.O,yf rfl]);have el:=hD (a1.O.trans z.O);go_wp2_with fail
  go_ret2
  exact j9.bad u.O (by decide) rfl el.O
 have c4:∀b,b<K.heap.size->b<f2.heap.size/\tag b=0:=λb f=>by
  have t:=a.O.U.size;have dm:=z.O.size;refine⟨by omega,?_⟩
  by_cases B:tag b=0
  ·exact B
  ·have:=a.O.new b B
   omega
 have dw:=z.O.J bo.O.1 nF;have v:=dw.I 0;simp at v;have bt:=hD (Dm (a.O.h.U z.O) 0 (by decide) (a.O.progs 0) (λn=>by rw[a.O.fresh.fm]) (by rw[a.O.pn];decide) p A c F (λb f=>c4 b (lL (D.O.2.1 b f) E.O.size)) (D.O.1.kp (a1.O.trans z.O) nG) a2.O.1 (lT D.O.2.2.1 (by decide)) (λx C=>lT (D.O.2.2.2.1 x C) (by decide)));unfold D7 aM ptr at bt;rw[<-k.O.1] at bt;have br:=hD c4;clear dw c4
 go_wp2_with (first
  |(go_at_call 26;refine bt.O.mono ?_;rintro e W8 ⟨d4,ef,f3,fd,rfl,eb,dl,fa⟩;have eq:=hD eb;have X:=hD dl;have a3:=X.O.only.J (z.O.J bo.O.2.2 nF) (λe=>e (br.O _ d7.O.lt).2);have d0:=a3.I 0;have d1:=a3.I 1;have d2:=a3.I 2;have d3:=a3.I 3;simp at d0 d1 d2 d3;clear eb dl fa a3)
  |fail)
 have c5:∀b,b<K.heap.size->b<W8.heap.size/\d4 b=0:=λb f=>by
  have t:=br.O b f;refine⟨lL t.1 X.O.only.size,?_⟩
  by_cases B:d4 b=0
  ·exact B
  ·rcases X.O.new b B with e|e
   ·exact absurd t.2 e
   ·omega
 have y:=a.O.fresh;have cp:x.fuel=r.toNat:=by rw[aw.O]
 have e0:=a2.O.2.2
 have c8:x.args.length<=100000:=by
  rw[aw.O];exact lT k.O.2.2.2.1 (by decide)
 have S:L.most=l:=a.O.most_;have am:=BA eq.O 0 (by decide) p (by show kw s.progs 0 p 0=some p;unfold kw;rw[yf rfl]) a2.O.1 x H V _ c5 ((eL.O.kp (a.O.U.trans z.O) nG).kp X.O.only (λb f e=>e (br.O b f).2)) a2.O.2.1 c8 (by show s.T.rw _=none;rw[y.rw]) y.roots a.O.on a.O.qv y.queue (by show(s.T.ks.length:Int)<L.most;rw[y.ks,S];exact Q.O.2.2.2.2.2.2.1) (by have:=a2.O.2.1.fl;omega) (by show L.most<=1000000;rw[S];have:=Q.O.2.2.2.2.2.2.2;omega);rw[ex.O] at am;unfold ptr at am;refine am.mono ?_;clear am;intro e W9 e5;have a8:qI W8 W9 d4 {L with pA:=λi=>if i=0 then(ef,f3) else L.pA i,pn:=fd} {s with progs:=kw s.progs 0 p} ⟨0,x.M⟩ x e:=e5;clear e5;unfold qI at a8
 have es:Hd (ac w W8):=hD ((a1.O.trans z.O).trans' X.O.only (λb f=>.inr (by
  have t:=E.O.size;have:=a.O.new b f;omega)))
 have cq:x.M= []:=by rw[aw.O]
 by_cases b6:l<(x.fuel:Int)+1
 ·rw[yf (by show L.most<_;rw[S];exact b6)] at a8
  obtain⟨rfl,e9⟩:=a8;have u:Hd (dD p m.length r thr lg l ps=6):=hD (by unfold dD;rw[<-k.O.2.2.2.2.1,yb (λe=>e rfl),<-k.O.2.2.2.2.2,yb (λe=>e rfl),bq.O,yb (by decide),<-bp.O,yb (by decide),yf (by omega)]);have em:=hD (es.O.trans e9);clear b6 e9 c5 y cp e0 c8 S cq d0 d1 d2 d3 v;go_wp2_with fail
  go_ret2
  exact j9.bad u.O (by decide) rfl em.O
 rw[yb (by show ¬L.most<_;rw[S];exact b6)] at a8;obtain⟨rfl,ee,R,ab,b2,P⟩:=a8;have er:=hD (aI ab (aI b2 P));have u:Hd (dD p m.length r thr lg l ps=0):=hD (by unfold dD;rw[<-k.O.2.2.2.2.1,yb (λe=>e rfl),<-k.O.2.2.2.2.2,yb (λe=>e rfl),bq.O,yb (by decide),<-bp.O,yb (by decide),yb (by omega)]);have c1:=hD (aI cq (aI S cp));clear b6 c5 y cp e0 c8 S cq d0 d1 d2 d3 v ab b2 P;go_wp2_with fail
 go_ret2
 obtain⟨ab,b2,P⟩:=er.O;have dp:=X.O.trans b2;have y:=a.O.fresh.progs' (kw s.progs 0 p)
 have f8:∀b,ee b≠0->w.heap.size<=b:=λb f=>by
  have t:=E.O.size;have dm:=a.O.U.size;have f6:=z.O.size
  rcases dp.new b f with e|e
  ·have:=a.O.new b e;omega
  ·omega
 obtain⟨ad,ai,ff⟩:=wL (j:=0) (p:=p) (x:=x) y (by show kw s.progs 0 p 0=some p;unfold kw;rw[yf rfl]) a.O.known a.O.away c1.O.1 a.O.c0 (by show s.ths.length<=8;rw[a.O.len];have:=Q.O.1;have:=Q.O.2.2.2.1;omega);rw[c1.O.1] at ab;refine⟨λf4=>absurd u.O f4,λ_=>⟨ee,R,{s with progs:=kw s.progs 0 p},?_,?_,y,?_,?_,by show kw s.progs 0 p 0=some p;unfold kw;rw[yf rfl]⟩⟩
 ·have:R.pb=L.pb:=P.1
  unfold ptr;rw[this];rfl
 ·rw[<-aw.O]
  refine⟨ab,ad,a.O.known,a.O.away,ff,ai,(a1.O.trans z.O).trans' dp.only (λb f=>.inr ?_),f8,?_,?_,?_,?_⟩
  ·have t:=E.O.size
   have:=a.O.new b f;omega
  ·have t:R.n=L.n:=P.2.2.2.1
   have:=a.O.nn;have dm:=Q.O.1;have f6:=Q.O.2.2.2.1;rw[t];omega
  ·have t:R.fn=L.fn:=P.2.2.2.2.1
   rw[t,a.O.fn]
   decide
  ·show(s.nms.length:Int)<=10000
   rw[y.nms]
   decide
  ·have t:R.dn=L.dn:=P.2.2.2.2.2
   show R.dn=s.T.hist;rw[t,a.O.dn];exact y.hist.symm
 ·show(s.ths.length:Int)=thr
  rw[a.O.len,Q.O.1]
 ·have t:R.most=L.most:=P.2.1
  rw[t,c1.O.2.1]
end
section
open Go.RowKit Go.Maps
section
variable {G:dg}{w0 w w':World}{d:Int}{tag:Nat->Nat}{L:cN}{s s':PS}{jl:List Int}
theorem gL.off(a:gL G w0 w d tag L s)(e:aa (λb=>tag b=0) w w')(l:ac w0 w'):gL G w0 w' d tag L s:=
 ⟨(a.h.kp (i:=0) e (λ_ c=>c) (λ_ _=>rfl) (λb g=>lL (a.h.tlt b g) e.size)).mono λj f k=>by
   rcases yG.1 k with c|c
   ·exact absurd c f
   ·exact c,a.r,a.known,a.away,a.outs,a.ord,l,a.new,a.nn,a.fn,a.nm,a.dn⟩
theorem gL.stepG{k o:Nat}(a:gL G w0 w d tag L s)(m:k<s.ths.length)(l:dt s k o s')(q:cP w w' tag L s s' 4):∃tag' e,gL G w0 w' (d+4) tag' e s'/\aQ w w' tag tag'/\e.pb=L.pb/\e.most=L.most:=by
 obtain⟨tag',e,p,g,c⟩:=q;have i:=nN l;obtain⟨x,u,v⟩:=c.dn;refine⟨tag',e,⟨p,a.r.step m l,λn=>by rw[i.known];exact a.known n,λn=>by rw[i.away];exact a.away n,λt=>by rw[i.outs];exact a.outs t,uP a.ord a.r.inv a.known a.away a.outs m l,a.U.trans' g.only (λb j=>.inr (a.new b j)),λb j=>?_,?_,?_,?_,by rw[v,a.dn,u]⟩,g,c.pb,c.mz⟩
 ·rcases g.new b j with f|f
  ·exact a.new b f
  ·exact lT a.U.size f
 ·have:=c.nn;have:=a.nn;omega
 ·have:=c.fn;have:=a.fn;omega
 ·have:=c.nm;have:=a.nm;omega
def vU(G:dg)(w0 wr:World)(d:Int)(pb:Nat)(most:Int)(nt:Nat)(n0:Nm)(gs:Nat)(t:TypeId)(cs:Array Value)(Q:PS->Prop):Prop:=∃tag L s,gL G w0 wr d tag L s/\L.pb=pb/\L.most=most/\s.ths.length=nt/\s.T.rw n0≠none/\tag gs=0/\ae wr gs t cs/\Q s
end
theorem qX{s0:PS}{n:Nm}{x:aj}:¬(en s0 n x).idle:=λa=>by
 have:=a n ⟨x,1,0,⟨0,0⟩,false,0,false⟩ (by simp[en,iH,ax]);simp at this
theorem wE{s0 s':PS}{n:Nm}{x:aj}{k b:Nat}(e:iF s0)(a:dt (en s0 n x) k b s'):¬s'.idle:=by
 have c:(en s0 n x).th k=mB:=e.th k;unfold dt at a;rw[c] at a;have a:s'=lh (en s0 n x) k:=a;rw[a];exact qX (s0:=s0) (n:=n) (x:=x)
theorem DM{f B:Nat}{a:Int}(b:a<=10+51+(f:Int)+(2*10+60)*((B:Int)-1))(e:B<=f+1)(c:1<=B):a<=((100*(f+4):Nat):Int):=by omega
theorem DF{k:Nat}(a:k<=1000):10000+4*(k:Int)<=1000000000:=by omega
theorem DG{k b a:Nat}(f:k<=a)(e:a<=40400)(c:b<=8):20000+32*(k:Int)+4*(b:Int)<=1000000000:=by omega
theorem DH{k a:Nat}:20000+32*(k:Int)+4*((a+1:Nat):Int)=20000+32*(k:Int)+4*(a:Int)+4:=by omega
theorem DI{k a:Nat}(b:a<=8):20000+32*(k:Int)+4*(a:Int)<=20000+32*((k+1:Nat):Int):=by omega
theorem DJ{k:Nat}(a:k<=1000):10000+4*(k:Int)<=20000+32*((0:Nat):Int):=by omega
theorem DK{k:Nat}:20000+32*(k:Int)<=20000+32*(k:Int)+4*((0:Nat):Int):=by omega
theorem vK{k:Nat}(a:k<=1000):wrap64 ((k:Int)+1)=(k:Int)+1:=by unfold wrap64;omega
theorem DN{k a:Nat}(b:k<a)(c:a<=40400):wrap64 ((k:Int)+1)=(k:Int)+1:=by unfold wrap64;omega
theorem Cb{k a:Nat}(b:k<a):a-(intOf ((some (Value.int .i64 ((k:Int)+1))).getD (.int .i64 0))).toNat<a-(intOf ((some (Value.int .i64 (k:Int))).getD (.int .i64 0))).toNat:=by
 simp only[zU,intOf];omega
def wg(w w':World)(p:List ah)(inp:List Int)(fuel thr lg most:Int)(ps:List (Int×Nat))(e:Ending):Prop:=
 ac w w'/\
 (dD p inp.length fuel thr lg most ps≠0->e=.returned (.tuple #[.agg #[.int .i64 0,.int .i64 0,.slice none 0 0,.int .i64 0],.int .i64 (dD p inp.length fuel thr lg most ps)]))/\
 (dD p inp.length fuel thr lg most ps=0->∃g cap k:Nat,k<=100*(fuel.toNat+4)/\(ps.length<=1->0<k)/\e=.returned (.tuple #[.agg #[.int .i64 (bw p ⟨[],0,inp,fuel.toNat⟩).v,.int .i64 (bw p ⟨[],0,inp,fuel.toNat⟩).e,.slice (some ⟨g,0,none⟩) (aF p ⟨[],0,inp,fuel.toNat⟩).length cap,.int .i64 (k:Int)],.int .i64 0])/\
  w'.ownsRow 0 69 5 (.slice (some ⟨g,0,none⟩) (aF p ⟨[],0,inp,fuel.toNat⟩).length cap) (aF p ⟨[],0,inp,fuel.toNat⟩).length (((aF p ⟨[],0,inp,fuel.toNat⟩).map (lV 0)).flatMap gg))
theorem qB{p:List ah}{n:Nat}{c thr lg e:Int}{ps:List (Int×Nat)}(a:dD p n c thr lg e ps=0):dZ p n c=0/\¬jv thr lg e/\(∀x∈ps,0<=x.1/\x.1<thr)/\c<e:=by
 unfold dD at a;split at a
 ·rename_i b;exact absurd a b
 split at a
 ·rename_i b;exact absurd a b
 rename_i b;split at a
 ·cases a
 rename_i g;split at a
 ·cases a
 rename_i i;split at a
 ·cases a
 rename_i l;refine⟨Classical.not_not.1 b,λf=>g (ot.2 f),λx k=>?_,by omega⟩;have j:ps.any (ig thr)=false:=by simpa using i
 have:=zI.1 j x k;unfold ig at this;simp at this;omega
theorem ER{p:List ah}{x:aj}(b:mY p)(c:cC p x):iN (kE 0 p x):=by
 intro j q y a;obtain⟨rfl,rfl,rfl⟩:=oN a;exact⟨b,c,by decide⟩
theorem EQ{p:List ah}{x:aj}:∀j,kE 0 p x j≠none->j∈[(0:Int)]:=λj a=>by rw[sD a];simp
theorem Dd(p:List ah)(x:aj):mD (kE 0 p x) [0] =(aF p x).length:=by
 unfold mD;simp[jM,kE]
theorem un(p:List ah)(x:aj):1<=(aF p x).length/\(aF p x).length<=x.fuel+1:=⟨by rw[ev];simp,sC p _ _ (lR)⟩
theorem uL(p:List ah)(A d0 ci:Option Addr)(c g7 f3:Nat)(F gs:Nat->Prop)(Z:List Int)(Y thr lg D:Int)(ps:List (Int×Nat))(w:World)(a9:cW w F A p)(hj:∀b,F b->b<w.heap.size)(S:p.length<=30)(ft:∀x∈p,x.ops.length<=200)(g6:∀x∈p,∀o∈x.ops,jz o/\dy o.n)(hk:aJ w gs d0 Z)(fk:Z.length<=100)(fj:∀x∈Z,dy x)
 (f7:bP w w.heap.size 2 ci ps.length (ps.flatMap jF)) (g0:ps.length<=1000) (hM:∀x∈ps,x.2<4294967296) (hr:¬(400<Y/\Y<=65536)):
 Calls Tryz.prog 32 #[aM p A c,.slice d0 Z.length g7,.int .i64 Y,.agg #[.int .i64 thr,.int .i64 lg,.int .i64 D],.slice ci ps.length f3] w λa w'=>wg w w' p Z Y thr lg D ps a:=by
 obtain⟨n,e3⟩:=eX p.length;obtain⟨q,e8⟩:=eX Z.length;obtain⟨a0,e0⟩:=eX ps.length;obtain⟨d1,c6⟩:=eX (w.alloc (.cells #[.slice A n c] 24));obtain⟨d2,c7⟩:=eX (d1.alloc (.cells #[.int .i64 thr,.int .i64 lg,.int .i64 D] 40));obtain⟨z,dd⟩:=eX (d2.alloc (.cells #[.int .i64 0,.int .i64 0,.slice none 0 0,.int .i64 0] 84));obtain⟨a3,b1⟩ :∃g,g=w.heap.size:=⟨_,rfl⟩
 have hW:ac w d1:=by rw[c6];exact oR.alloc _
 have ga:ac d1 d2:=by rw[c7];exact oR.alloc _
 have ec:ac d2 z:=by rw[dd];exact oR.alloc _
 have bq:=hW.trans (ga.trans ec);have gp:d1.heap.size=a3+1:=by rw[c6,b1];simp
 have bv:d2.heap.size=a3+1+1:=by rw[c7];simp[gp]
 have f2:ae z a3 24 #[.slice A n c]:=(ga.trans ec).J (by rw[c6,b1];exact bN) nF;have c1:ae z (a3+1) 40 #[.int .i64 thr,.int .i64 lg,.int .i64 D]:=ec.J (by rw[c7,<-gp];exact bN) nF;have h7:ae z (a3+1+1) 84 #[.int .i64 0,.int .i64 0,.slice none 0 0,.int .i64 0]:=by rw[dd,<-bv];exact bN
 have gx:Hd (Calls Tryz.prog 66 #[.agg #[.slice A n c],.slice d0 q g7,.int .i64 Y,.agg #[.int .i64 thr,.int .i64 lg,.int .i64 D],.slice ci a0 f3] z λa w'=>j9 z w' p Z Y thr lg D ps a):=hD (by
  have:=xB p A d0 ci c g7 f3 F gs Z Y thr lg D ps z (a9.U bq) (λb N=>lL (hj b N) bq.size) S ft g6 (hk.kp bq nG) fk fj (eG f7 bq) g0;unfold aM at this;rw[<-e3,<-e8,<-e0] at this;exact this)
 have aE:=hD (aI ft (aI g6 (aI fj (aI f7 (aI g0 (aI hM hr))))));have eL:=hD (aI e3 (aI e8 (aI e0 fk)));have an:=hD (aI f2 (aI c1 h7));have cv:=hD bq;have es:=hD b1;have cB:=hD (aI c6.symm (aI c7.symm dd.symm));unfold aM;rw[<-e3,<-e8,<-e0];have i4:=f2.I 0;have am:=c1.I 0;have ch:=c1.I 1;have i6:=c1.I 2;simp at i4 am ch i6;clear a9 hj S ft g6 hk fk fj f7 g0 hM hr e3 e8 e0 c6 c7 dd b1 hW ga ec bq gp bv f2 c1 h7;go_enter Tryz.func32,Tryz.ntmps32;go_upto_region 1 with fail;rw[cB.O.1,cB.O.2.1,cB.O.2.2,<-es.O];clear cB;go_wp2_with fail;refine gx.O.mono ?_;rintro a h5 k2;obtain⟨i2,g4⟩:=eX (dD p Z.length Y thr lg D ps);have cw:=hD g4;obtain⟨ei,ej⟩:=k2;rw[<-g4] at ei ej;clear g4 gx i4 am ch i6
 by_cases ba:i2=0
 case neg=>
  obtain⟨v,rfl,gb⟩:=ei ba;have kl:(i2 !=0)=true:=bT ba;have dr:=gb.J an.O.2.2 nF;obtain⟨j6,j7,j8,jd⟩:=dr.gE4;obtain⟨hd,he,d5,d6⟩:=dr.fE4;have gt:=hD dr;have gN:=hD (cv.O.trans gb);have i8:=hD ba;clear ei ej gb dr ba;go_wp2_with fail;have f9:=(((gt.O.s_ 0 (.int .i64 0)).s_ 1 (.int .i64 0)).s_ 2 (.slice none 0 0)).s_ 3 (.int .i64 0);refine bodyPost_ret (aO Tryz.results32 rfl (cs:=#[.int .i64 0,.int .i64 0,.slice none 0 0,.int .i64 0]) f9 Tryz.underlying84 rfl (by kernel_rfl)) rfl ?_;refine⟨gN.O.trans' (aD (aD (aD (af h5 (a3+1+1) _ _)))) (λb N=>.inr (by rw[N,es.O];omega)),λ_=>?_,λd4=>absurd (cw.O.trans d4) i8.O⟩;rw[<-cw.O];rfl
 subst ba;obtain⟨tag,L,s0,rfl,b0,fd,hB,hG,ka⟩:=ej rfl;obtain⟨b9,c3,f4,ji⟩:=qB cw.O.symm;obtain⟨hl,db,k4⟩:=nK b9 aE.O.1 aE.O.2.1 aE.O.2.2.1;obtain⟨x,ea⟩:=eX (⟨[],0,Z,Y.toNat⟩ :aj);rw[<-ea] at b0 db;obtain⟨G,bb⟩:=eX (kE 0 p x);rw[<-bb] at b0;obtain⟨a1,fx⟩:=eX L.pb;obtain⟨Q,fs⟩:=eX s0.ths.length;obtain⟨X,f6⟩:=eX (100*(x.fuel+4):Nat);obtain⟨B,d9⟩:=eX ((aF p x).length:Nat);obtain⟨i1,g3⟩:=eX (en s0 ⟨0,[]⟩ x);have er:=hD (aI g3 fd);have kf:x.fuel=Y.toNat:=by rw[ea]
 have k5:x.fuel<=400:=by
  have K:=aE.O.2.2.2.2.2.2;have a4:=db.fl;omega
 have k3:1<=thr/\thr<=8/\1<=D/\D<=1024:=by
  unfold jv at c3;omega
 have d8:1<=B/\B<=x.fuel+1:=by rw[d9];exact un p x
 have dq:mD G [0] =B:=by rw[bb,Dd,d9]
 have hP:thr=(Q:Int):=by rw[fs,hB]
 obtain⟨a2,eb⟩:=eX (0:Nat);have b7:=hD eb
 have hg:Fb G z h5 (10000+4*(a2:Int)) a1 D Q ⟨0,[]⟩ (λs=>pot 10 (B:Int) s<=(X:Int)/\(a2=0->s=i1)/\(a2=1->¬s.idle)):=
  ⟨tag,L,en s0 ⟨0,[]⟩ x,by rw[eb];exact b0,fx.symm,hG,fs.symm,λa=>(by simp[en,iH,ax] at a),by rw[f6];exact DM (fd.pot (c:=10) ⟨0,[]⟩ x) d8.2 d8.1,λ_=>by rw[g3],λa=>by rw[eb] at a;cases a⟩
 have gA:=hD hg;have P:=hD (aI (show iN G by rw[bb];exact ER hl db) (aI (show ∀j,G j≠none->j∈[(0:Int)] by rw[bb];exact EQ) (aI (show mD G [0]<=1000 by rw[dq];omega) (aI (show(mD G [0]:Int)<=D by rw[dq];omega) (show D<=1000000 by omega)))));have aw:=hD (aI bb (aI ea (aI f6 (aI d9 (aI dq d8)))));have W:=hD (aI hP (aI (show 1<=Q by omega) (aI (show Q<=8 by omega) (aI f4 (show X<=40400 by omega)))));have gN:=hD (cv.O.trans b0.U);have gt:=hD (aI (b0.U.J an.O.2.1 nF) (b0.U.J an.O.2.2 nF));have hF:a0<=1000:=by rw[eL.O.2.2.1];exact aE.O.2.2.2.2.1
 have ex:=hD hF;unfold ptr;rw[<-fx];have kl:((0:Int) !=0)=false:=rfl;clear ei ej b0 fd hB hG ka b9 c3 f4 ji hl db k4 ea bb fx fs f6 d9 g3 eb kf k5 k3 d8 dq hP hg hF;go_wp2_with fail
 go_loopw [33] (λi wr=>∃k:Nat,k<=a0/\i=.int .i64 k/\Fb G z wr (10000+4*(k:Int)) a1 D Q ⟨0,[]⟩ (λs=>pot 10 (B:Int) s<=(X:Int)/\(k=0->s=i1)/\(k=1->¬s.idle))) (λi _=>a0-(intOf i).toNat)
 case atStart=>exact⟨a2,by rw[b7.O];exact yx _,by rw[b7.O];rfl,gA.O⟩
 case round=>
  obtain⟨k,dv,rfl,i3,j2,bv,c4,e7,e1,e5,e4,cd⟩:=hrel;have C:=hD (aI c4 (aI e7 (aI e1 (aI e5 (aI e4 cd)))));clear c4 e7 e1 e5 e4 cd
  by_cases b3:k<a0
  ·have l7:(0:Int)<=(k:Int):=dK k
   have k7:(k:Int)<(a0:Int):=cO b3;have hQ:wrap64 ((k:Int)+1)=(k:Int)+1:=vK (lT dv ex.O);have hC:k<ps.length:=by rw[<-eL.O.2.2.1];exact b3
   have dz:ps[k]?=some ps[k]:=gG hC;generalize ps[k] =y at*;have hT:=aE.O.2.2.2.2.2.1 y (yh dz);have ki:=W.O.2.2.2.1 y (yh dz);obtain⟨l2,lk,k0,am,ch⟩:=uu (eG aE.O.2.2.2.1 (cv.O.trans C.O.1.U)) dz;obtain⟨ek,hS⟩:=eX (y.1:Int);obtain⟨hc,fb⟩:=eX ((y.2:Int):Int);obtain⟨kk,hv⟩ :∃kk:Nat,ek=(kk:Int):=⟨ek.toNat,by omega⟩
   obtain⟨h6,dm⟩:=eX (wr.alloc (.cells #[.int .i64 ek,.int .u32 hc] 90));obtain⟨jj,ff⟩:=eX wr.heap.size;have gf:ac wr h6:=by rw[dm];exact oR.alloc _
   have h8:ae h6 jj 90 #[.int .i64 ek,.int .u32 hc]:=by rw[dm,ff];exact bN
   have b2:kk<bv.ths.length:=by
    have K:=W.O.1;have a4:=C.O.2.2.2.1;omega
   have e9:=(C.O.1.at_ gf).pstep (jl:=[(0:Int)]) P.O.1 P.O.2.1 P.O.2.2.1 (DF (lT dv ex.O)) (by rw[C.O.2.2.1];exact P.O.2.2.2.1) (by rw[C.O.2.2.1];exact P.O.2.2.2.2) b2 y.2 hT;rw[C.O.2.1,<-hv,<-fb] at e9;unfold ptr at e9;rw[<-hS] at am;rw[<-fb] at ch;have az:=hD e9;have h3:=hD dm.symm;have ii:=hD ff;have ik:=hD gf;have cr:=hD b2;obtain⟨v0,v1⟩:=h8.gE2;subst k0;clear e9 hC dz hT ki hS fb hv dm ff gf h8 b2;go_upto_region 7 with fail;rw[h3.O,<-ii.O];clear h3 am ch;go_wp2_with fail;refine az.O.mono ?_;rintro a l1 ⟨bs,V,rfl,a6,hN⟩;have is:=hD (aI a6 ((C.O.1.at_ ik.O).step cr.O a6 hN));clear a6 hN az v0 v1;go_wp2_with fail;go_roundw
   case measure=>first|exact aB rfl b3|exact aB hQ b3
   case rel=>
    obtain⟨a6,cg,f0,cf,g8,g9⟩:=is.O;obtain⟨c4,e7,e1,e5,e4,cd⟩:=C.O;refine⟨k+1,b3,by first|exact cK k|exact cH hQ,cg,f0,V,by rw[DE];exact cf,g8.trans e7,g9.trans e1,(nO a6).trans e5,uc c4.r.inv.t cf.r.inv.t (qg a6) e4,?_⟩;refine⟨Ya (ts.le (c4.r.inv.step_dec (by decide) cr.O a6)) cd.1,λa=>absurd a (Nat.succ_ne_zero _),λa=>?_⟩;have k9:k=0:=by omega
    have K:=cd.2.1 k9;rw[K,er.O.1] at a6;exact wE er.O.2 a6
  ·have k7:¬(k:Int)<(a0:Int):=λa=>b3 (yB.1 a)
   obtain⟨f1,dp⟩:=eX (wr.alloc (.cells #[.int .i64 0,.int .i64 0,.slice none 0 0,.int .i64 0] 84));obtain⟨e,cb⟩:=eX wr.heap.size;have hX:ac wr f1:=by rw[dp];exact oR.alloc _
   have h9:ae f1 e 84 #[.int .i64 0,.int .i64 0,.slice none 0 0,.int .i64 0]:=by rw[dp,cb];exact bN
   have bp:i3 e=0:=gM C.O.1.h.tlt (by rw[cb];exact lR)
   have hh:vU G z f1 (20000+32*(a2:Int)) a1 D Q ⟨0,[]⟩ e 84 #[.int .i64 0,.int .i64 0,.slice none 0 0,.int .i64 (a2:Int)] (λs=>pot 10 (B:Int) s<=(X:Int)-(a2:Int)/\(a0<=1->a2=0->¬s.idle)):=
    ⟨i3,j2,bv,by rw[b7.O];exact(C.O.1.at_ hX).le (DJ (lT dv ex.O)),C.O.2.1,C.O.2.2.1,C.O.2.2.2.1,C.O.2.2.2.2.1,bp,by rw[b7.O];exact h9,by have:=C.O.2.2.2.2.2.1;have ba:=b7.O;show pot 10 (B:Int) bv<=(X:Int)-(a2:Int);omega,λl9 _=>by
     have l5:k=a0:=yT dv (yA b3);have a4:=C.O.2.2.2.2.2.2
     by_cases a:k=0
     ·rw[a4.1 a,er.O.1]
      exact qX
     ·exact a4.2 (by omega)⟩
   have ic:=hD hh;have cn:Hd (z.heap.size<=e):=hD (by rw[cb];exact C.O.1.U.size);have h4:=hD dp.symm;have gB:=hD cb;clear dp cb hX h9 bp hh C gA;go_upto_region 10 with fail;rw[h4.O,<-gB.O];clear h4 gB
   go_loopw [] (λwx=>∃k:Nat,k<=X/\vU G z wx (20000+32*(k:Int)) a1 D Q ⟨0,[]⟩ e 84 #[.int .i64 0,.int .i64 0,.slice none 0 0,.int .i64 (k:Int)] (λs=>pot 10 (B:Int) s<=(X:Int)-(k:Int)/\(a0<=1->k=0->¬s.idle))) (λwx=>X-(intOf ((wx.cell? ⟨e,3,none⟩).getD (.int .i64 0))).toNat)
   case atStart=>exact⟨a2,by rw[b7.O];exact yx _,ic.O⟩
   case round=>
    obtain⟨f,hu,cg,f0,V,E,b5,e2,e6,bk,ai,c8,ce⟩:=hrel;have bc:V.T.ks.length<=1000:=lT (E.r.inv.t.keys_le [0] P.O.2.1) P.O.2.2.1
    have dw:(V.T.ks.length:Int)<=(B:Int):=by
     rw[<-aw.O.2.2.2.2.1];exact Int.ofNat_le.2 (E.r.inv.t.keys_le [0] P.O.2.1)
    have cp:=hD (BE E.h E.r.inv bk bc);unfold ptr at cp;rw[b5] at cp;have m:=hD (aI E (aI b5 (aI e2 (aI e6 (aI bk (aI ai (aI c8 (aI ce (aI bc dw)))))))));clear E b5 e2 e6 bk ai c8 ce bc dw;go_wp2_with fail;refine cp.O.mono ?_;rintro a j5 ⟨b,rfl,N,hY⟩;have bx:=hD hY;have ck:=hD N;clear hY N cp
    cases b
    case true=>
     obtain⟨E,b5,e2,e6,bk,ai,c8,ce,bc,dw⟩:=m.O;have c5:=E.at_ bx.O;have f8:=E.r.inv.told_one E.outs (ck.O.1 rfl) (by rw[aw.O.1];exact vH 0 p x) (λlf a=>sD (by rw[<-aw.O.1];exact a)) bk;obtain⟨hf,d7⟩:=c5.h.p7 (by decide);obtain⟨i7,a8,c9⟩:=bR d7;have fa:=BC c5.h;rw[b5,c9,E.dn] at fa;rw[E.dn] at c9
     have fq:V.T.hist≠[]:=λa=>by
      have K:=(f8.all ⟨x,bw p x,(aR p x).length⟩ (by rw[ev];exact zh ..)).2 nF;rw[a] at K
      cases K
     obtain⟨g,k1⟩ :∃g,i7=some ⟨g,0,none⟩:=by
      rw[E.dn,c9] at d7
      rcases d7.2 with⟨b9,c3⟩|⟨g,l3,cur,b9,_⟩
      ·exact absurd (yr c3) fq
      ·exact⟨g,by injection b9⟩
     subst k1;have bp:cg g=7:=hf g (by rw[c9];rfl);have g5:cg a1=1:=by rw[<-b5];exact(c5.h.p1 (by decide)).1
     have hs:e≠a1:=λa=>by rw[a,g5] at ai;exact absurd ai (by decide)
     have ht:e≠g:=λa=>by rw[a,bp] at ai;exact absurd ai (by decide)
     have b1:z.heap.size<=g:=E.new g (by rw[bp];decide);have hL:z.heap.size<=a1:=E.new a1 (by rw[g5];decide);obtain⟨S,ds⟩:=eX V.T.hist.length;have hz:0<S:=by rw[ds];exact zK.2 fq
     have hA:V.T.hist.length<=1000000:=lT (lT E.r.inv.t.hist_le bc) (by decide);have cm:=hD fa;unfold ptr at cm;rw[<-ds] at cm;have j0:=hD c5.U;have ib:=hD (bx.O.J c8 nF);have j1:=hD f8;have ar:=hD (aI hs (aI ht (aI b1 hL)));have hy:ps.length<=1->0<f:=λa9=>Nat.pos_of_ne_zero λa=>ce.2 (by rw[eL.O.2.2.1];exact a9) a (ck.O.1 rfl)
     have av:=hD (aI ds (aI hz (aI hA (aI hu hy))));clear E b5 e2 e6 bk ai c8 ce bc dw c5 f8 hf d7 fa c9 fq bp g5 hs ht b1 hL ds hz hA hy m ck;go_wp2_with fail;refine cm.O.mono ?_;rintro a c0 ⟨rfl,_,gm,hI⟩;have eq:=hD (gm.J ib.O ar.O.1);have iz:Hd (ac z c0):=hD (j0.O.trans' gm (λb a=>.inr (by rw[a];exact ar.O.2.2.2)));obtain⟨d3,dk⟩:=eX (c0.setCell ⟨e,2,none⟩ (.slice (some ⟨g,0,none⟩) S a8));have gc:aa (λb=>b=e) c0 d3:=by rw[dk];exact af c0 e 2 _
     have gu:Hd (ae d3 e 84 #[.int .i64 0,.int .i64 0,.slice (some ⟨g,0,none⟩) S a8,.int .i64 (f:Int)]):=hD (by rw[dk];exact eq.O.s_ 2 _);have iv:Hd (ac z d3):=hD (iz.O.trans' gc (λb a=>.inr (by rw[a];exact cn.O)));have fv:=gc.owns hI (λb N a=>by cases N;exact ar.O.2.1 a.symm);rw[av.O.1] at fv;have bz:=AA g a8 0 V.T.hist d3 fv av.O.2.2.1;rw[<-av.O.1] at bz;have bz:=hD bz;have h1:=hD dk.symm;have a7:=eq.O.I 2;have d5:=eq.O.fz 2;simp at a7;clear gm hI dk gc fv cm;go_upto_region 18 with fail;rw[h1.O];clear h1 a7 d5;have a7:=gu.O.I 2;simp at a7;go_wp2_with fail;refine bz.O.mono ?_;rintro a b8 ⟨rfl,l',gn,i0,eg,ge⟩;have fo:=vq j1.O gn i0;have em:=hD (ge.J gu.O ar.O.2.1);have h0:Hd (ac z b8):=hD (iv.O.trans' ge (λb a=>.inr (by rw[a];exact ar.O.2.2.1)));have fp:S=(aF p x).length:=by rw[av.O.1,<-gn.length_eq,fo,zY]
     rw[fo,fp] at eg;obtain⟨l4,k6,go⟩:=Ax (l:=(aF p x).map (lV 0)) (by rw[zY];exact eg) (i:=0) (u:=lV 0 ⟨x,bw p x,(aR p x).length⟩) (by rw[ev];rfl)
     cases k6
     obtain⟨bt,g2⟩:=eX ((bw p x).v);obtain⟨br,g1⟩:=eX ((bw p x).e);have ku:b8.cell? ⟨g,3,none⟩=some (.int .i64 bt):=by rw[g2];exact go 3 _ rfl
     have kv:b8.cell? ⟨g,4,none⟩=some (.int .i64 br):=by rw[g1];exact go 4 _ rfl
     have hm:=h0.O.J an.O.2.2 nF;have l6:(0:Int)<(S:Int):=yB.2 av.O.2.1;obtain⟨W8,dl⟩:=eX ((b8.setCell ⟨e,0,none⟩ (.int .i64 bt)).setCell ⟨e,1,none⟩ (.int .i64 br));have ee:aa (λb=>b=e) b8 W8:=by rw[dl];exact aD (af b8 e 0 _)
     have hH:a3+1+1≠e:=λa=>by have K:=an.O.2.2.lt;have a4:=cn.O;omega
     have ia:Hd (ae W8 e 84 #[.int .i64 bt,.int .i64 br,.slice (some ⟨g,0,none⟩) S a8,.int .i64 (f:Int)]):=hD (by rw[dl];exact(em.O.s_ 0 _).s_ 1 _);have el:=hD (ee.J hm hH);have iw:Hd (ac z W8):=hD (h0.O.trans' ee (λb a=>.inr (by rw[a];exact cn.O)));have hJ:=ee.owns eg (λb N a=>by cases N;exact ar.O.2.1 a.symm);have b6:=hD (aI g2 (aI g1 (aI fp hJ)));have h2:=hD dl.symm;clear a7;obtain⟨ha,hb,a7,c2⟩:=em.O.gE4;obtain⟨hd,he,d5,d6⟩:=em.O.fE4;clear gn i0 eg ge fo fp go g2 g1 hm bz dl ee hH hJ;go_upto_region 20 with fail;rw[h2.O];clear h2 ha hb a7 c2 hd he d5 d6 ku kv;obtain⟨ha,hb,a7,c2⟩:=ia.O.gE4;obtain⟨j6,j7,j8,jd⟩:=el.O.gE4;obtain⟨d4,b9,c3,f4⟩:=el.O.fE4;go_wp2_with fail;have f9:=(((el.O.s_ 0 (.int .i64 bt)).s_ 1 (.int .i64 br)).s_ 2 (.slice (some ⟨g,0,none⟩) S a8)).s_ 3 (.int .i64 (f:Int));refine bodyPost_ret (aO Tryz.results32 rfl (cs:=#[.int .i64 bt,.int .i64 br,.slice (some ⟨g,0,none⟩) S a8,.int .i64 (f:Int)]) f9 Tryz.underlying84 rfl (by kernel_rfl)) rfl ?_;have hZ:=aD (i:=3) (u:=.int .i64 (f:Int)) (aD (i:=2) (u:=.slice (some ⟨g,0,none⟩) S a8) (aD (i:=1) (u:=.int .i64 br) (af W8 (a3+1+1) 0 (.int .i64 bt))));refine⟨(cv.O.trans iw.O).trans' hZ (λb N=>.inr (by rw[N,es.O];omega)),λd4=>absurd cw.O.symm d4,λ_=>⟨g,a8,f,?_,av.O.2.2.2.2,?_,?_⟩⟩
     ·have K:=av.O.2.2.2.1
      rw[aw.O.2.2.1,aw.O.2.1] at K;exact K
     ·rw[<-aw.O.2.1,<-b6.O.1,<-b6.O.2.1,<-b6.O.2.2.1]
      rfl
     ·rw[<-aw.O.2.1,<-b6.O.2.2.1]
      refine hZ.owns (by have:=b6.O.2.2.2;rw[<-b6.O.2.2.1] at this;exact this) (λb N a=>?_)
      cases N
      have K:=an.O.2.2.lt;have a4:=ar.O.2.2.1;have jn:g=a3+1+1:=a;omega
    case false=>
    have fr:¬V.idle:=λa=>by have:=ck.O.2 a;cases this
    obtain⟨ef,fw⟩:=eX (pot 10 (B:Int) V);have kb:=(m.O.1.r.inv.pot_pos (c:=10) (by decide) m.O.2.2.2.2.2.2.2.2.2).1
    have hE:f<X:=by
     have K:=m.O.1.r.inv.pot_pos (c:=10) (by decide) m.O.2.2.2.2.2.2.2.2.2;have a4:=K.2 fr;have jn:pot 10 (B:Int) V<=(X:Int)-(f:Int):=m.O.2.2.2.2.2.2.2.1.1;omega
    have hi:vU G z j5 (20000+32*(f:Int)+4*((0:Nat):Int)) a1 D Q ⟨0,[]⟩ e 84 #[.int .i64 0,.int .i64 0,.slice none 0 0,.int .i64 (f:Int)] (λs'=>mC 10 (B:Int) ef s' 0):=
     ⟨cg,f0,V,(m.O.1.at_ bx.O).le DK,m.O.2.1,m.O.2.2.1,m.O.2.2.2.1,m.O.2.2.2.2.1,m.O.2.2.2.2.2.1,bx.O.J m.O.2.2.2.2.2.2.1 nF,by rw[fw];exact mC.start m.O.1.r.inv (by rw[m.O.2.2.2.1];exact W.O.2.1) fr⟩
    have ie:=hD hi;have il:Hd (ef<=(X:Int)-(f:Int)):=hD (by rw[fw];exact m.O.2.2.2.2.2.2.2.1.1);have hn:=(m.O.1.U.trans bx.O).J an.O.2.1 nF;have am:=hn.I 0;simp at am;have cq:=hD (aI hE (m.O.2.2.2.2.2.2.1.I 3));clear fr hi fw kb hn m hE;go_wp2_with fail;clear am
    go_loopw [53] (λi wy=>∃H:Nat,H<=Q/\i=.int .i64 H/\vU G z wy (20000+32*(f:Int)+4*(H:Int)) a1 D Q ⟨0,[]⟩ e 84 #[.int .i64 0,.int .i64 0,.slice none 0 0,.int .i64 (f:Int)] (λs'=>mC 10 (B:Int) ef s' H)) (λi _=>Q-(intOf i).toNat)
    case atStart=>exact⟨0,yx _,rfl,ie.O⟩
    case round=>
     obtain⟨H,fm,rfl,l0,j3,gq,ab,bo,bf,bn,bm,al,a5,da⟩:=hrel;have R:=hD (aI ab (aI bo (aI bf (aI bn (aI bm (aI al (aI a5 da)))))));have c2:=a5.I 3;have d6:=a5.fz 3;simp at c2;clear ab bo bf bn bm al a5 da
     by_cases b4:H<Q
     ·have l8:(0:Int)<=(H:Int):=dK H
      have k8:(H:Int)<thr:=by rw[W.O.1];exact cO b4
      have hR:wrap64 ((H:Int)+1)=(H:Int)+1:=vK (lT fm (lT W.O.2.2.1 (by decide)));have f5:f<4294967296:=by have:=W.O.2.2.2.2;omega
      have kd:=DY (i:=f) f5;have fn:H<gq.ths.length:=by rw[R.O.2.2.2.1];exact b4
      have az:=hD (R.O.1.pstep P.O.1 P.O.2.1 P.O.2.2.1 (DG hu W.O.2.2.2.2 (lT fm W.O.2.2.1)) (by rw[R.O.2.2.1];exact P.O.2.2.2.1) (by rw[R.O.2.2.1];exact P.O.2.2.2.2) fn f f5);rw[R.O.2.1] at az;unfold ptr at az;have gD:=hD fn;clear fn f5 d6;go_wp2_with fail;refine az.O.mono ?_;rintro a c0 ⟨bs,kS,rfl,ad,hO⟩;have it:=hD (aI ad (aI (R.O.1.stepG gD.O ad hO) (R.O.1.h.tlt)));clear ad hO az c2 kd;go_wp2_with fail;go_roundw
      case measure=>first|exact aB rfl b4|exact aB hR b4
      case rel=>
       obtain⟨ad,⟨gr,j4,cf,hV,g8,g9⟩,_⟩:=it.O;obtain⟨ab,bo,bf,bn,bm,al,a5,da⟩:=R.O
       have kc:gr e=0:=by
        by_cases a:gr e=0
        ·exact a
        ·rcases hV.new e a with a9|a9
         ·exact absurd al a9
         ·exact absurd a5.lt (zC.2 a9)
       refine⟨H+1,b4,by first|exact cK H|exact cH hR,gr,j4,kS,by rw[DH];exact cf,g8.trans bo,g9.trans bf,(nO ad).trans bn,uc ab.r.inv.t cf.r.inv.t (qg ad) bm,kc,hV.only.J a5 (λa=>a al),?_⟩;exact da.step (ab.r.inv.step_dec (by decide) gD.O ad) (nO ad)
     ·have k8:¬(H:Int)<thr:=by rw[W.O.1];exact λa=>b4 (yB.1 a)
      have b2:H=Q:=yT fm (yA b4)
      have ho:pot 10 (B:Int) gq+1<=ef:=by
       have:=R.O.2.2.2.2.2.2.2;rw[b2,<-R.O.2.2.2.1] at this;exact this.end_
      have la:wrap64 ((f:Int)+1)=(f:Int)+1:=DN cq.O.1 W.O.2.2.2.2;have ih:=hD ho;have cr:=hD b2;clear ho b2;go_wp2_with fail;go_roundw
      case measure=>
       have kn:(wr.setCell ⟨e,3,none⟩ (.int .i64 ((f:Int)+1))).cell? ⟨e,3,none⟩=some (.int .i64 ((f:Int)+1)):=(R.O.2.2.2.2.2.2.1.s_ 3 (.int .i64 ((f:Int)+1))).I 3;have kt:=cq.O.2;rw[kn,kt];exact Cb cq.O.1
      case rel=>
       obtain⟨ab,bo,bf,bn,bm,al,a5,_⟩:=R.O;refine⟨f+1,cq.O.1,l0,j3,gq,(ab.off ((af wr e 3 _).mono λb a=>by rw[a];exact al) (ab.U.trans' (af wr e 3 _) (λb a=>.inr (by rw[a];exact cn.O)))).le ?_,bo,bf,bn,bm,al,?_,?_⟩
       ·rw[cr.O]
        exact DI W.O.2.2.1
       ·rw[jS]
        exact a5.s_ 3 _
       ·have K:=ih.O
        have a4:=il.O;refine⟨?_,λ_ a=>absurd a (Nat.succ_ne_zero _)⟩;rw[Int.natCast_add];exact CC K a4
attribute [local simp] eM gw gz dj eD Region.binds ed ey Is ap Act.put
theorem ud(w:World):
 Calls Tryz.prog 64 #[] w λn w'=>∃A c,n=.returned (aM dB A c)/\cW w' (bl w w') A dB/\ac w w':=by
 obtain⟨a,F⟩:=eX (w.alloc (.cells #[.slice none 0 0] 24));have a3:ac w a:=by rw[F];exact oR.alloc _
 have E:ae a w.heap.size 24 #[.slice none 0 0]:=by rw[F];exact bN
 have a1:=E.I 0;have ad:=E.fz 0;simp at a1;obtain⟨g,V⟩:=eX w.heap.size;have a8:=hD F.symm;have Z:=hD a3;have S:=hD E;rw[<-V] at a1 ad S;have Y:=hD V;clear F a3 E V;obtain⟨C,x⟩:=eX (a.alloc (.cells #[.int .u8 12,.int .i64 1,.int .i64 0,.int .i64 0,.int .i64 1,.int .u8 13,.int .i64 0,.int .i64 0,.int .i64 0,.int .i64 0,.int .u8 3,.int .i64 1,.int .i64 1,.int .i64 1,.int .i64 0,.int .u8 14,.int .i64 0,.int .i64 1,.int .i64 0,.int .i64 0] 106));obtain⟨D,z⟩:=eX (C.alloc (.cells #[.int .u8 14,.int .i64 0,.int .i64 0,.int .i64 0,.int .i64 0] 106));obtain⟨l,H⟩:=eX (D.alloc (.cells #[.int .i64 1,.int .i64 2,.slice (some ⟨a.heap.size,0,none⟩) 4 4,.int .i64 1,.int .i64 1,.slice (some ⟨a.heap.size+1,0,none⟩) 1 1] 99));have X:C.heap.size=a.heap.size+1:=by rw[x];simp
 have a4:D.heap.size=a.heap.size+1+1:=by rw[z];simp[X]
 have W:ac a C:=by rw[x];exact oR.alloc _
 have Q:ac C D:=by rw[z];exact oR.alloc _
 have B:ac D l:=by rw[H];exact oR.alloc _
 have K:ae l a.heap.size 106 #[.int .u8 12,.int .i64 1,.int .i64 0,.int .i64 0,.int .i64 1,.int .u8 13,.int .i64 0,.int .i64 0,.int .i64 0,.int .i64 0,.int .u8 3,.int .i64 1,.int .i64 1,.int .i64 1,.int .i64 0,.int .u8 14,.int .i64 0,.int .i64 1,.int .i64 0,.int .i64 0]:=(Q.trans B).J (by rw[x];exact bN) nF;have N:ae l (a.heap.size+1) 106 #[.int .u8 14,.int .i64 0,.int .i64 0,.int .i64 0,.int .i64 0]:=B.J (by rw[z,<-X];exact bN) nF;have P:ae l (a.heap.size+1+1) 99 #[.int .i64 1,.int .i64 2,.slice (some ⟨a.heap.size,0,none⟩) 4 4,.int .i64 1,.int .i64 1,.slice (some ⟨a.heap.size+1,0,none⟩) 1 1]:=by rw[H,<-a4];exact bN
 have t:g<a.heap.size:=S.O.lt;have r:w.heap.size<=a.heap.size:=Z.O.size;have u:ae l g 24 #[.slice none 0 0]:=(W.trans (Q.trans B)).J S.O nF;have a6:=hD (aI u (aI K (aI N (aI P (aI t r)))));have a7:=hD (Z.O.trans (W.trans (Q.trans B)));have T:(((a.alloc (.cells #[.int .u8 12,.int .i64 1,.int .i64 0,.int .i64 0,.int .i64 1,.int .u8 13,.int .i64 0,.int .i64 0,.int .i64 0,.int .i64 0,.int .u8 3,.int .i64 1,.int .i64 1,.int .i64 1,.int .i64 0,.int .u8 14,.int .i64 0,.int .i64 1,.int .i64 0,.int .i64 0] 106)).alloc (.cells #[.int .u8 14,.int .i64 0,.int .i64 0,.int .i64 0,.int .i64 0] 106)).alloc (.cells #[.int .i64 1,.int .i64 2,.slice (some ⟨a.heap.size,0,none⟩) 4 4,.int .i64 1,.int .i64 1,.slice (some ⟨a.heap.size+1,0,none⟩) 1 1] 99))=l:=by rw[H,z,x]
 have a2:=u.I 0;have ai:=u.fz 0;simp at a2;rw[<-T] at a2 ai;have a5:=hD T;clear T u K N P W Q B X a4 x z H t r;go_enter Tryz.func64,Tryz.ntmps64;go_upto_region 1 with fail;rw[a8.O,<-Y.O];go_wp2_with fail;rw[a5.O];obtain⟨u,K,N,P,t,r⟩:=a6.O;have R:=af l g 0 (.slice (some ⟨a.heap.size+1+1,0,none⟩) 2 2);refine bodyPost_ret (cy Tryz.results64 rfl (cs:=#[.slice (some ⟨a.heap.size+1+1,0,none⟩) 2 2]) (u.s_ 0 _) Tryz.underlying24 rfl (by kernel_rfl)) rfl ?_;have e:=R.J K (λn=>absurd n (Nat.ne_of_gt t));have q:=R.J N (λn=>absurd n (Nat.ne_of_gt (Nat.lt_succ_of_lt t)));have m:=R.J P (λn=>absurd n (Nat.ne_of_gt (Nat.lt_succ_of_lt (Nat.lt_succ_of_lt t))));refine⟨some ⟨a.heap.size+1+1,0,none⟩,2,rfl,?_,a7.O.trans' R (λb al=>.inr (by rw[al,Y.O];exact lR))⟩;have a0:bl w (l.setCell ⟨g,0,none⟩ (.slice (some ⟨a.heap.size+1+1,0,none⟩) 2 2)) (a.heap.size+1+1):=⟨lT r (by omega),m.lt⟩
 have ab:bl w (l.setCell ⟨g,0,none⟩ (.slice (some ⟨a.heap.size+1+1,0,none⟩) 2 2)) (a.heap.size+1):=⟨lT r (by omega),q.lt⟩
 have a9:bl w (l.setCell ⟨g,0,none⟩ (.slice (some ⟨a.heap.size+1+1,0,none⟩) 2 2)) a.heap.size:=⟨r,e.lt⟩
 generalize l.setCell ⟨g,0,none⟩ (.slice (some ⟨a.heap.size+1+1,0,none⟩) 2 2)=am at*;refine .inr ⟨_,_,rfl,λi y p=>?_⟩
 match i,p with
 |0,p=>
  cases p
  refine⟨a0,⟨_,m⟩,m.I 0,m.I 1,_,_,m.I 2,.inr ⟨_,_,rfl,λk o f=>⟨?_,⟨_,e⟩,λj v hv=>?_⟩⟩⟩
  ·exact a9
  ·match k,f with
   |0,f=>cases f;match j,hv with
    |0,hv=>cases hv;exact e.I 0
    |1,hv=>cases hv;exact e.I 1
    |2,hv=>cases hv;exact e.I 2
    |3,hv=>cases hv;exact e.I 3
    |4,hv=>cases hv;exact e.I 4
    |j+5,hv=>exact absurd (gS hv).1 (by simp[eR])
   |1,f=>cases f;match j,hv with
    |0,hv=>cases hv;exact e.I 5
    |1,hv=>cases hv;exact e.I 6
    |2,hv=>cases hv;exact e.I 7
    |3,hv=>cases hv;exact e.I 8
    |4,hv=>cases hv;exact e.I 9
    |j+5,hv=>exact absurd (gS hv).1 (by simp[eR])
   |2,f=>cases f;match j,hv with
    |0,hv=>cases hv;exact e.I 10
    |1,hv=>cases hv;exact e.I 11
    |2,hv=>cases hv;exact e.I 12
    |3,hv=>cases hv;exact e.I 13
    |4,hv=>cases hv;exact e.I 14
    |j+5,hv=>exact absurd (gS hv).1 (by simp[eR])
   |3,f=>cases f;match j,hv with
    |0,hv=>cases hv;exact e.I 15
    |1,hv=>cases hv;exact e.I 16
    |2,hv=>cases hv;exact e.I 17
    |3,hv=>cases hv;exact e.I 18
    |4,hv=>cases hv;exact e.I 19
    |j+5,hv=>exact absurd (gS hv).1 (by simp[eR])
   |k+4,f=>exact absurd (gS f).1 (by simp)
 |1,p=>
  cases p
  refine⟨a0,⟨_,m⟩,m.I 3,m.I 4,_,_,m.I 5,.inr ⟨_,_,rfl,λk o f=>⟨?_,⟨_,q⟩,λj v hv=>?_⟩⟩⟩
  ·exact ab
  ·match k,f with
   |0,f=>cases f;match j,hv with
    |0,hv=>cases hv;exact q.I 0
    |1,hv=>cases hv;exact q.I 1
    |2,hv=>cases hv;exact q.I 2
    |3,hv=>cases hv;exact q.I 3
    |4,hv=>cases hv;exact q.I 4
    |j+5,hv=>exact absurd (gS hv).1 (by simp[eR])
   |k+1,f=>exact absurd (gS f).1 (by simp)
 |i+2,p=>exact absurd (gS p).1 (by simp[dB])
theorem wA(w:World):Calls Tryz.prog 65 #[.int .i64 6] w λa w'=>a=.returned (.int .i64 1000)/\w=w':=by
 go_enter Tryz.func65,Tryz.ntmps65;go_wp2_with fail;go_ret;exact⟨rfl,rfl⟩
theorem BR{w:World}{cs:List Value}{n:Nat}{g t:Nat}{b:Nat}(a:ae w g t cs.toArray)(c:cs.length=n*b):bP w w.heap.size b (some ⟨g,0,none⟩) n cs:=
 ⟨c,λ_=>⟨⟨g,0,none⟩,rfl,a.lt,λj u e=>by rw[bg,yq,a.I,zi];exact e⟩⟩
theorem wI:dD dB 1 20 2 1 100 [(1,3)] =0:=by decide
theorem wH:bw dB ⟨[],0,[4],(20:Int).toNat⟩=⟨8,0⟩:=yl Prod.fst ss
theorem AF:aF dB ⟨[],0,[4],(20:Int).toNat⟩= [⟨oD,⟨8,0⟩,1⟩,⟨kj,⟨4,0⟩,0⟩]:=va
theorem mM(w:World):Calls Tryz.prog 31 #[] w λn w'=>n=.returned (.bool true)/\ac w w':=by
 go_enter Tryz.func31,Tryz.ntmps31;go_wp2_with fail;refine(ud _).mono ?_;rintro n j ⟨A,c,rfl,Y,a0⟩;have a4:=hD Y;have a6:=hD a0;clear Y a0;go_wp2_with fail;obtain⟨l,f⟩:=eX (j.alloc (.cells #[.int .i64 4] 2));obtain⟨e,q⟩:=eX (l.alloc (.cells #[.int .i64 1,.int .u32 3] 90));obtain⟨g,t⟩:=eX j.heap.size;have a1:ac j l:=by rw[f];exact oR.alloc _
 have F:ac l e:=by rw[q];exact oR.alloc _
 have a3:l.heap.size=g+1:=by rw[f,t];simp
 have z:ae e g 2 #[.int .i64 4]:=F.J (by rw[f,t];exact bN) nF;have R:ae e (g+1) 90 #[.int .i64 1,.int .u32 3]:=by rw[q,<-a3];exact bN
 have u:=a1.trans F
 have X:aJ e (λ_=>True) (some ⟨g,0,none⟩) [4]:=.inr ⟨g,0,rfl,λ_=>⟨trivial,_,z⟩,λk i=>⟨trivial,by
  have:k=0:=by simp at i;exact i
  subst this;exact z.I 0⟩⟩
 have Z:=uL dB A (some ⟨g,0,none⟩) (some ⟨g+1,0,none⟩) c 1 1 _ _ [4] 20 2 1 100 [(1,3)] e (a4.O.kp u nG) (λb ad=>lL ad.2 u.size) (by decide) (λx a=>by simp[dB] at a;rcases a with rfl|rfl<;>decide)
  (λx a o D=>⟨(CK.wf x a).2 o D,by simp[dB] at a;rcases a with rfl|rfl<;>·simp at D;rcases D with rfl|rfl|rfl|rfl<;>exact⟨by decide,by decide⟩⟩) X (by decide) (λx a=>by simp at a;subst a;exact⟨by decide,by decide⟩) (BR R rfl) (by decide) (λx a=>by simp at a;subst a;decide) (by decide)
 have N:=hD Z;have a7:=hD (a6.O.trans u);have W:((j.alloc (.cells #[.int .i64 4] 2)).alloc (.cells #[.int .i64 1,.int .u32 3] 90))=e:=by rw[q,f]
 rw[W,<-t];clear f q t a1 F a3 z R u X Z W;refine N.O.mono ?_;clear N;rintro n m ⟨a2,_,V⟩;obtain⟨p,T,k,_,i,rfl,E⟩:=V wI;have ar:(0:Int)<(k:Int):=yB.2 (i (by decide));rw[AF] at E ⊢;rw[wH]
 have B:∀(k:Nat) (v:Value),([.int .u64 0,.string ⟨#[]⟩,.int .i64 1,.int .i64 8,.int .i64 0,.int .u64 0,.string ⟨#[1]⟩,.int .i64 0,.int .i64 4,.int .i64 0]:List Value)[k]?=some v->m.cell? ⟨p,k,none⟩=some v:=λk v hv=>by
  have:=World.ownsRow.cells E (g:=p) rfl k v hv;rw[bg,yq] at this;exact this
 have H:=B 2 _ rfl;have K:=B 6 _ rfl;have a8:=hD (a7.O.trans a2);obtain⟨Q,r⟩:=eX (m.alloc (.cells #[.int .i64 8,.int .i64 0,.slice (some ⟨p,0,none⟩) 2 T,.int .i64 (k:Int)] 84));obtain⟨ab,C⟩ :∃g,g=m.heap.size:=⟨_,rfl⟩
 have y:ac m Q:=by rw[r];exact oR.alloc _
 have S:ae Q ab 84 #[.int .i64 8,.int .i64 0,.slice (some ⟨p,0,none⟩) 2 T,.int .i64 (k:Int)]:=by rw[r,C];exact bN
 have H:=(y.I (block_lt_of_cell H) nF).trans H;have K:=(y.I (block_lt_of_cell K) nF).trans K;have P:=hD r.symm;have a5:=hD C;have a9:=hD (a8.O.trans y);obtain⟨ai,al,am,an⟩:=S.gE4;clear B E i V a2 r C y S;go_upto_region 2 with fail;rw[P.O,<-a5.O];clear P
 go_wp2_with (first|(go_at_call 65;refine(wA _).mono ?_;rintro n av ⟨rfl,rfl⟩)|fail)
 go_ret;exact⟨rfl,a9.O⟩
end
section
open Go.RowKit Go.Maps
theorem Fp:∃i z,Tryz.prog.info? 90=some i/\i.zero=some z/\i.size=2/\i.bytes=16/\z.cells.size=2:=by
 have a:(Tryz.prog.info? 90).map (λi=>(i.zero.map λz=>z.cells.size,i.size,i.bytes))=some (some 2,2,16):=by kernel_rfl
 cases hi:Tryz.prog.info? 90 with
 |none=>rw[hi] at a;cases a
 |some i=>
  rw[hi] at a;simp only[yU,yC,yP] at a
  cases hz:i.zero with
  |none=>rw[hz] at a;cases a.1
  |some z=>
   rw[hz] at a;exact⟨i,z,rfl,hz,a.2.1,a.2.2,yz a.1⟩
theorem pU{w w':World}(a:w.grownBy w' (Value.slice none 0 0).ownBlock):ac w w':=(aa.refl (λ_=>False) w).grown a (λk b=>by cases b)
theorem Fi{T:Array Oper}{o:Oper}{a:Act}{W:World}{m:Act->World->Prop}{Q:Exit->Act->World->Prop}{v:Prop}(D:o.guard=none)(s x:Operand)
 (b:o.op=.call {callee:=.builtin .append,args:=#[s,x],argTypes:=#[25,25]}) (K:a.eval s=.slice none 0 0) {xs:List Int} {A:Option Addr} {n c:Nat} (R:a.eval x=.slice A n c) (F:n=xs.length) (H:bP W W.heap.size 1 A xs.length (xs.map (Value.int .i64))) (Y:xs.length<=1000)
 (q:∀l c' w',aJ w' (bl W w') l xs->ac W w'->m (a.put o.dst (.slice l n c')) w'):if Region.wanted o (yielded T a.tmps)=true then Oper.wp Tryz.prog o a W m Q else v:=by
 subst F;obtain⟨i,E,S,N,C⟩:=lB;refine gZ W D s x 25 b W.heap.size 2 i (.int .i64 0) 1 8 Tryz.underlying25 E S N C rfl (by decide) (.slice none 0 0) 0 [] K ⟨rfl,.inl ⟨rfl,rfl⟩⟩ W.heap.size A xs.length c (xs.map (Value.int .i64)) R H (λu P=>by obtain⟨y,_,rfl⟩:=yL.1 P;rfl) (by unfold maxLen;omega) (by omega) (lR) (λZ w' j B X=>?_);rw[yq,List.nil_append] at j;have b:=pU B
 rcases j.2 with⟨e,f⟩|⟨g,z,cur,e,f,p,V⟩
 ·subst e
  have:=q none 0 w' (.inl ⟨rfl,yr f⟩) b
  rwa [f] at this
 ·subst e
  have r:bl W w' g:=⟨by assumption,(yu.1 p).1⟩
  refine q _ z w' (.inr ⟨g,0,rfl,λ_=>⟨r,cur,p⟩,λk t=>⟨r,?_⟩⟩) b;have:=j.cells (g:=g) rfl k (.int .i64 (xs.getD k 0)) (by rw[yJ,gG t,yc,gG t];rfl);rw[bg,yq] at this;rw[yq];exact this
theorem Fj{X:Array Oper}{o:Oper}{a:Act}{W:World}{p:Act->World->Prop}{Q:Exit->Act->World->Prop}{v:Prop}(H:o.guard=none)(s x:Operand)
 (b:o.op=.call {callee:=.builtin .append,args:=#[s,x],argTypes:=#[82,82]}) (P:a.eval s=.slice none 0 0) {ps:List (Int×Nat)} {A:Option Addr} {n c:Nat} (S:a.eval x=.slice A n c) (N:n=ps.length) (r:bP W W.heap.size 2 A ps.length (ps.flatMap jF)) (a0:ps.length<=1000)
 (q:∀m c' w',bP w' w'.heap.size 2 m ps.length (ps.flatMap jF)->ac W w'->p (a.put o.dst (.slice m n c')) w'):if Region.wanted o (yielded X a.tmps)=true then Oper.wp Tryz.prog o a W p Q else v:=by
 subst N;obtain⟨i,z,K,T,R,F,V⟩:=Fp
 refine gZ W H s x 82 b W.heap.size 90 i z 2 16 Tryz.underlying82 K T R F V (by decide) (.slice none 0 0) 0 [] P ⟨rfl,.inl ⟨rfl,rfl⟩⟩ W.heap.size A ps.length c (ps.flatMap jF) S r (λu l=>by
  obtain⟨y,_,t⟩:=List.mem_flatMap.1 l;simp[jF] at t
  rcases t with rfl|rfl<;>rfl) (by unfold maxLen;omega) (by omega) (lR) (λa1 w' k E Z=>?_)
 rw[yq,List.nil_append] at k;have b:=pU E
 rcases k.2 with⟨e,f⟩|⟨g,B,cur,e,f,C,Y⟩
 ·subst e
  have:=q none 0 w' ⟨by rw[yr f];rfl,λD=>absurd D (by omega)⟩ b
  rwa [f] at this
 ·subst e
  refine q _ B w' ⟨r.1,λ_=>⟨⟨g,0,none⟩,rfl,(yu.1 C).1,λj u l=>?_⟩⟩ b;exact k.cells (g:=g) rfl j u l
structure n9(w:World)(p:List ah)(inp:List Int)(fuel:Int)(ps:List (Int×Nat))(se rv rr:Int)(SA:Option Addr)(sn sc:Nat)(k:Int):Prop where
 bad:se≠0->rv=0/\rr=0/\sn=0/\k=0
 good:se=0->(0<=k/\k<=100*((fuel.toNat:Int)+4))/\rv=(bw p ⟨[],0,inp,fuel.toNat⟩).v/\rr=(bw p ⟨[],0,inp,fuel.toNat⟩).e/\sn=(aF p ⟨[],0,inp,fuel.toNat⟩).length/\
  w.ownsRow 0 69 5 (.slice SA sn sc) sn (((aF p ⟨[],0,inp,fuel.toNat⟩).map (lV 0)).flatMap gg)
theorem n9.U{w w':World}{p:List ah}{e:List Int}{b:Int}{ps:List (Int×Nat)}{j g f:Int}{a:Option Addr}{l i:Nat}{k:Int}(c:n9 w p e b ps j g f a l i k)(u:ac w w'):n9 w' p e b ps j g f a l i k:=
 ⟨c.bad,λm=>by
  obtain⟨n,o,q,r,t⟩:=c.good m;exact⟨n,o,q,r,u.owns t nG⟩⟩
def we(w w':World)(p:List ah)(inp:List Int)(fuel thr lg most:Int)(ps:List (Int×Nat))(e:Ending):Prop:=
 ∃(rv rr:Int) (SA:Option Addr) (sn sc:Nat) (k:Int),e=.returned (.tuple #[.agg #[.int .i64 rv,.int .i64 rr,.slice SA sn sc,.int .i64 k],.int .i64 (dD p inp.length fuel thr lg most ps)])/\ac w w'/\n9 w' p inp fuel ps (dD p inp.length fuel thr lg most ps) rv rr SA sn sc k
theorem wg.uni{w w':World}{p:List ah}{e:List Int}{c thr lg f:Int}{ps:List (Int×Nat)}{a:Ending}(j:wg w w' p e c thr lg f ps a):we w w' p e c thr lg f ps a:=by
 obtain⟨i,l,m⟩:=j
 by_cases b:dD p e.length c thr lg f ps=0
 ·obtain⟨g,q,k,r,_,n,o⟩:=m b
  refine⟨_,_,_,_,_,_,by rw[b];exact n,i,λa=>absurd b a,λ_=>⟨⟨zD _,by omega⟩,rfl,rfl,rfl,o⟩⟩
 ·exact⟨0,0,none,0,0,0,l b,i,λ_=>⟨rfl,rfl,rfl,rfl⟩,λa=>absurd a b⟩
theorem vJ{k n:Nat}(a:k<n)(b:n<=100000):wrap64 ((k:Int)+1)=(k:Int)+1:=by unfold wrap64;omega
def nM(W:World)(g:Nat)(v0 v1 v2 v3:Value):World:=(((W.setCell ⟨g,0,none⟩ v0).setCell ⟨g,1,none⟩ v1).setCell ⟨g,2,none⟩ v2).setCell ⟨g,3,none⟩ v3
theorem sE(W:World)(g:Nat)(v0 v1 v2 v3:Value):aa (λb=>b=g) W (nM W g v0 v1 v2 v3):=aD (aD (aD (af W g 0 v0)))
def Ek(W4 wx:World)(s15 s16:Value)(p:List ah)(inp:List Int)(fuel tt ll mm:Int)(ps:List (Int×Nat)):Prop:=
 ∃(g:Nat) (rv rr:Int) (SA:Option Addr) (sn sc:Nat) (k:Int),s15=.pointer (some ⟨g,0,none⟩)/\s16=.int .i64 (dD p inp.length fuel tt ll mm ps)/\ac W4 wx/\W4.heap.size<=g/\ae wx g 84 #[.int .i64 rv,.int .i64 rr,.slice SA sn sc,.int .i64 k]/\n9 wx p inp fuel ps (dD p inp.length fuel tt ll mm ps) rv rr SA sn sc k
theorem n9.set4{w w':World}{p:List ah}{j:List Int}{e:Int}{ps:List (Int×Nat)}{o m l:Int}{c:Option Addr}{q n:Nat}{k:Int}(f:n9 w p j e ps o m l c q n k){g:Nat}{cs:Array Value}(x:ae w g 84 cs)(z:aa (λb=>b=g) w w'):n9 w' p j e ps o m l c q n k:=
 ⟨f.bad,λa=>by
  obtain⟨r,t,u,v,i⟩:=f.good a;exact⟨r,t,u,v,z.owns i (λb y a=>aA i x (by decide) (by rw[<-a];exact y))⟩⟩
attribute [local simp] eM gw gz dj eD Region.binds ed ey Is ap Act.put
end
end Go.Proofs.YtmdocplknceilaaGreat
