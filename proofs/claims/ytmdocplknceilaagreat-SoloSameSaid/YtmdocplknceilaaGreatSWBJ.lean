import Derived.Test.YtmdocplknceilaaGreatSWBI
import Derived.Laws.StructEq
import Derived.Test.YtmdocplknceilaaGreatSWBD
import Derived.Test.YtmdocplknceilaaGreatSWBG
import Derived.Test.YtmdocplknceilaaGreatSWAE
set_option linter.all false
set_option maxRecDepth 100000
set_option maxHeartbeats 8000000
namespace Go.Proofs.YtmdocplknceilaaGreat
section
open Go.RowKit Go.Maps
theorem pG{p:List aj}{f:List Int}{a:Int}(b:fU p f.length a=0)(t:∀x∈p,x.ops.length<=200)(m:∀x∈p,∀o∈x.ops,iG o/\dc o.n)(r:∀x∈f,dc x):
 lH p/\eh p ⟨[],0,f,a.toNat⟩/\0<=a:=by
 have j:gd p f.length=0:=by
  by_cases e:gd p f.length=0
  ·exact e
  ·rw[xD e] at b
   exact absurd b e
 have q:0<=a/\a<=65536:=by
  unfold fU at b;rw[yb (by rw[j];simp)] at b;split at b
  ·cases b
  ·rename_i e
   constructor<;>·refine Classical.byContradiction λv=>e ?_;omega
 have g:=te j;have l:jw p:=wY g λx i o k=>(m x i o k).2
 have u:0<p.length:=zK.2 l.p0;refine⟨⟨l,g,λx i=>⟨lT (t x i) (by decide),λo k=>(m x i o k).1⟩⟩,⟨yE _,?_,wu j,r,?_,?_⟩,q.1⟩
 ·show(0:Int)<(p.length:Int)
  exact yB.2 u
 ·show a.toNat<=65536
  omega
 ·exact⟨by simp,λc g=>by cases g⟩
theorem Bs{k:Nat}:10000+4*((k+1:Nat):Int)=10000+4*(k:Int)+4:=by omega
attribute [local simp] dZ fR fK cU dT Region.binds dI dL Is ao Act.put
def oY(thr lg most:Int):Bool:=decide (thr<1)||decide (8<thr)||decide (lg<0)||decide (8<lg)||decide (most<1)||decide (1024<most)
theorem mz{thr lg a:Int}:oY thr lg a=true↔iB thr lg a:=by
 unfold oY iB;simp only[Bool.or_eq_true,zR];constructor<;>intro b<;>omega
def dh(p:List aj)(n:Nat)(fuel thr lg most:Int)(ps:List (Int×Nat)):Int:=
 if cz p≠0 then cz p else if fU p n fuel≠0 then fU p n fuel else if oY thr lg most=true then 2 else if ps.any (jh thr)=true then 2 else if most<=fuel then 6 else 0
def je(w w':World)(p:List aj)(inp:List Int)(fuel thr lg most:Int)(ps:List (Int×Nat))(e:Ending):Prop:=
 (dh p inp.length fuel thr lg most ps≠0->∃v,e=.returned (.tuple #[v,.int .i64 (dh p inp.length fuel thr lg most ps)])/\ac w w')/\
 (dh p inp.length fuel thr lg most ps=0->∃tag L s0,e=.returned (.tuple #[ptr L.pb,.int .i64 0])/\fJ (jC 0 p ⟨[],0,inp,fuel.toNat⟩) w w' 10000 tag L (dE s0 ⟨0,[]⟩ ⟨[],0,inp,fuel.toNat⟩)/\gy s0/\(s0.ths.length:Int)=thr/\L.most=most/\s0.progs 0=some p)
theorem je.bad{w w':World}{p:List aj}{e:List Int}{b thr lg f:Int}{ps:List (Int×Nat)}{a:Ending}{v:Value}{k:Int}(c:dh p e.length b thr lg f ps=k)(j:k≠0)(i:a=.returned (.tuple #[v,.int .i64 k]))(l:ac w w'):je w w' p e b thr lg f ps a:=
 ⟨λ_=>⟨v,by rw[c];exact i,l⟩,λg=>absurd (c.symm.trans g) j⟩
theorem ve(p:List aj)(A az al:Option Addr)(c cr c3:Nat)(F d6:Nat->Prop)(m:List Int)(r thr lg l:Int)(ps:List (Int×Nat))(w:World)(B:cy w F A p)(b3:∀b,F b->b<w.heap.size)(b9:p.length<=30)(ck:∀x∈p,x.ops.length<=200)(cn:∀x∈p,∀o∈x.ops,iG o/\dc o.n)(dz:aU w d6 az m)(ce:m.length<=100)(e6:∀x∈m,dc x)
 (e1:cw w w.heap.size 2 al ps.length (ps.flatMap iq)) (e8:ps.length<=1000):
 Calls Tryz.prog 66 #[aS p A c,.slice az m.length cr,.int .i64 r,.agg #[.int .i64 thr,.int .i64 lg,.int .i64 l],.slice al ps.length c3] w λe w'=>je w w' p m r thr lg l ps e:=by
 obtain⟨n,a7⟩:=eX p.length;obtain⟨q,bb⟩:=eX m.length;obtain⟨fp,ch⟩:=eX ps.length;obtain⟨aE,a6⟩:=eX (w.alloc (.cells #[.slice A n c] 24));obtain⟨Y,b4⟩:=eX (aE.alloc (.cells #[.int .i64 thr,.int .i64 lg,.int .i64 l] 40));obtain⟨a5,b8⟩ :∃g,g=w.heap.size:=⟨_,rfl⟩
 have eb:ac w aE:=by rw[a6];exact oR.alloc _
 have cB:ac aE Y:=by rw[b4];exact oR.alloc _
 have bf:=eb.trans cB;have ej:aE.heap.size=a5+1:=by rw[a6,b8];simp
 have c2:ae Y a5 24 #[.slice A n c]:=cB.J (by rw[a6,b8];exact bN) nF;have dq:ae Y (a5+1) 40 #[.int .i64 thr,.int .i64 lg,.int .i64 l]:=by rw[b4,<-ej];exact bN
 have b7:∀x∈p,kA x:=λx C=>⟨lT (ck x C) (by decide),λo fk=>(cn x C o fk).1⟩
 obtain⟨a4,cb⟩:=eX (cz p);obtain⟨bm,e9⟩:=eX (fU p m.length r)
 have dk:Hd (Calls Tryz.prog 58 #[.agg #[.slice A n c]] Y λe w'=>∃fn eg,e=.returned (.tuple #[.int .i64 a4,.int .i64 fn,.int .i64 eg])/\ac Y w'):=hD (by
  have:=qa p A c F Y (B.U bf) (λb f=>lL (b3 b f) bf.size) (lT b9 (by decide)) b7;unfold aS tY at this;rw[<-a7,<-cb] at this;exact this)
 have dm:Hd (∀W,ac w W->Calls Tryz.prog 116 #[.agg #[.slice A n c],.slice az q cr,.int .i64 r] W λe w'=>BW W w' p m r e):=hD λW c7=>by
  have:=vM p A az c cr F d6 m r W (B.U c7) (λb f=>lL (b3 b f) c7.size) (lT b9 (by decide)) b7 (dz.kp c7 nG) (lT ce (by decide));unfold aS at this;rw[<-a7,<-bb] at this;exact this
 have D:=hD (aI B (aI b3 (aI b9 (aI ck (aI cn (aI e6 (aI e1 (aI e8 b7))))))));have k:=hD (aI a7 (aI bb (aI ch (aI ce (aI cb e9)))));have d7:=hD (aI c2 dq);have er:=hD bf;have em:=hD b8;have bz:=hD (aI a6.symm b4.symm);unfold aS;rw[<-a7,<-bb,<-ch];have v:=c2.I 0;simp at v;clear B b3 b9 ck cn dz ce e6 e1 e8 a7 bb ch a6 b4 b8 eb cB bf ej c2 dq b7 cb e9;go_enter Tryz.func66,Tryz.ntmps66;go_upto_region 1 with fail;rw[bz.O.1,bz.O.2,<-em.O];clear bz;go_wp2_with fail;refine dk.O.mono ?_;rintro e f6 ⟨fn,eg,rfl,bk⟩;have bv:=hD (er.O.trans bk);have an:=hD (aI (bk.J d7.O.1 nF) (bk.J d7.O.2 nF));clear bk dk v
 by_cases Z:a4=0
 case neg=>
  have ff:(a4 !=0)=true:=bT Z;have u:Hd (dh p m.length r thr lg l ps=a4/\a4≠0):=hD ⟨by unfold dh;rw[<-k.O.2.2.2.2.1,yf Z],Z⟩;clear Z;go_wp2_with fail
  go_ret2
  exact je.bad u.O.1 u.O.2 rfl bv.O
 have fw:=hD Z;subst Z;have v:=an.O.1.I 0;simp at v;go_wp2_with fail;refine(dm.O f6 bv.O).mono ?_;rintro e b0 ⟨a9,ad,ai⟩;have bx:=hD (bv.O.trans a9);have bn:=hD (aI (a9.J an.O.1 nF) (a9.J an.O.2 nF));have es:=hD a9;clear a9 dm v an
 by_cases N:bm=0
 case neg=>
  have hv:=ad (λe=>N (k.O.2.2.2.2.2.trans e));rw[<-k.O.2.2.2.2.2] at hv;subst hv;have ff:(bm !=0)=true:=bT N;have u:Hd (dh p m.length r thr lg l ps=bm/\bm≠0):=hD ⟨by unfold dh;rw[<-k.O.2.2.2.2.1,yb (λe=>e rfl),<-k.O.2.2.2.2.2,yf N],N⟩;have E:Hd (∀d0,ac w (b0.alloc d0)):=hD λd0=>bx.O.alloc d0
  clear N ad ai;go_wp2_with fail
  go_ret2
  exact je.bad u.O.1 u.O.2 rfl (E.O _)
 obtain⟨H,V,rfl,e2⟩:=ai (k.O.2.2.2.2.2.symm.trans N);have g0:=hD N;subst N;have c6:=pG k.O.2.2.2.2.2.symm D.O.2.2.2.1 D.O.2.2.2.2.1 D.O.2.2.2.2.2.1;obtain⟨x,C⟩:=eX (⟨[],0,m,r.toNat⟩ :aA);obtain⟨kp,e7⟩:=eX (sB ([]:List UInt8));obtain⟨bc,cf⟩:=eX ((r.toNat:Int):Int);have cm:db ⟨[],0,m,r.toNat⟩ H V= #[.string kp,.int .i64 0,.slice H q V,.int .i64 bc]:=by rw[e7,cf,k.O.2.1];rfl
 have f3:Hd (db x H V= #[.string kp,.int .i64 0,.slice H q V,.int .i64 bc]):=hD (by rw[C];exact cm);rw[cm];rw[<-C] at c6;have a2:=hD c6;have aw:=hD C;obtain⟨K,b5⟩:=eX (b0.alloc (.cells #[.string kp,.int .i64 0,.slice H q V,.int .i64 bc] 30));obtain⟨fb,cd⟩:=eX b0.heap.size;have a0:ac b0 K:=by rw[b5];exact oR.alloc _
 have d8:Hd (ae K fb 30 #[.string kp,.int .i64 0,.slice H q V,.int .i64 bc]):=hD (by rw[b5,cd];exact bN);have E:=hD (bx.O.trans a0);have ar:=hD (aI (a0.J bn.O.1 nF) (a0.J bn.O.2 nF));have f4:Hd (aU K (λb=>b<K.heap.size) H x.args):=hD (by rw[C];exact(e2.kp a0 nG).mo λb f=>lL f.2 a0.size);have fx:=hD cf;have dp:=hD b5.symm;have eq:=hD cd;obtain⟨fs,ft,fv⟩:=ar.O.2.gE3;clear ad ai e2 c6 C e7 cf cm b5 cd a0 bn bx es;go_upto_region 5 with fail;rw[dp.O,<-eq.O];clear dp
 by_cases f:oY thr lg l=true
 ·have av:=hD (Be thr lg l (mz.1 f) K)
  have u:Hd (dh p m.length r thr lg l ps=2):=hD (by unfold dh;rw[<-k.O.2.2.2.2.1,yb (λe=>e rfl),<-k.O.2.2.2.2.2,yb (λe=>e rfl),yf f]);clear f;go_wp2_with fail;refine av.O.mono ?_;rintro e b1 ⟨rfl,ec⟩;have f5:=hD (E.O.trans ec);clear ec;go_wp2_with fail
  go_ret2
  exact je.bad u.O (by decide) rfl f5.O
 have e4:1<=thr/\thr<=8/\0<=lg/\lg<=8/\1<=l/\l<=1024:=by
  have t:¬iB thr lg l:=λe=>f (mz.2 e)
  unfold iB at t;omega
 have bq:Hd (oY thr lg l=false):=hD (by simpa using f);obtain⟨cv,ci⟩ :∃cv:Nat,thr=(cv:Int):=⟨thr.toNat,by omega⟩
 obtain⟨cs,cg⟩ :∃cs:Nat,lg=(cs:Int):=⟨lg.toNat,by omega⟩
 have ba:=Bd cv cs l (by omega) (by omega) (by omega) (by omega) (by omega) K;unfold BV at ba;rw[<-ci,<-cg] at ba;have av:=hD ba;have Q:=hD (aI ci (aI cg e4));clear f e4 ci cg ba
 go_upto_region 8 with(go_at_call 25;refine av.O.mono ?_;rintro e b1 ⟨tag,L,s,rfl,e0⟩;have a:=hD e0;clear e0)
 have a1:=hD (E.O.trans a.O.U);have bo:=hD (aI (a.O.U.J ar.O.1 nF) (aI (a.O.U.J ar.O.2 nF) (a.O.U.J d8.O nF)));obtain⟨dr,c9⟩:=eX (ps.any (jh thr));have v:=bo.O.2.1.I 0;simp at v
 have dl:Hd (Calls Tryz.prog 117 #[.slice al fp c3,.func (.func 118) #[] #[.pointer (some ⟨a5+1,0,none⟩)]] b1 λe w'=>e=.returned (.bool dr)/\ac b1 w'):=hD (by
  rw[k.O.2.2.1,c9];exact AH al c3 thr (a5+1) ps b1 (ed D.O.2.2.2.2.2.2.1 a1.O) v D.O.2.2.2.2.2.2.2.1)
 have bp:=hD c9;clear v fs ft fv c9 ar av;unfold ptr;go_wp2_with fail;refine dl.O.mono ?_;rintro e f7 ⟨rfl,ee⟩;have z:=hD ee;clear ee dl
 cases dr
 case true=>
  have u:Hd (dh p m.length r thr lg l ps=2):=hD (by unfold dh;rw[<-k.O.2.2.2.2.1,yb (λe=>e rfl),<-k.O.2.2.2.2.2,yb (λe=>e rfl),bq.O,yb (by decide),<-bp.O,yf rfl]);have ex:=hD (a1.O.trans z.O);go_wp2_with fail
  go_ret2
  exact je.bad u.O (by decide) rfl ex.O
 have c4:∀b,b<K.heap.size->b<f7.heap.size/\tag b=0:=λb f=>by
  have t:=a.O.U.size;have dv:=z.O.size;refine⟨by omega,?_⟩
  by_cases B:tag b=0
  ·exact B
  ·have:=a.O.new b B
   omega
 have e3:=z.O.J bo.O.1 nF;have v:=e3.I 0;simp at v;have bt:=hD (Bb (a.O.h.U z.O) 0 (by decide) (a.O.progs 0) (λn=>by rw[a.O.fresh.fm]) (by rw[a.O.pn];decide) p A c F (λb f=>c4 b (lL (D.O.2.1 b f) E.O.size)) (D.O.1.kp (a1.O.trans z.O) nG) a2.O.1 (lT D.O.2.2.1 (by decide)) (λx C=>lT (D.O.2.2.2.1 x C) (by decide)));unfold BU aS ptr at bt;rw[<-k.O.1] at bt;have br:=hD c4;clear e3 c4
 go_wp2_with (first
  |(go_at_call 26;refine bt.O.mono ?_;rintro e W8 ⟨d5,el,f9,fq,rfl,ei,ds,fo⟩;have f0:=hD ei;have X:=hD ds;have a3:=X.O.only.J (z.O.J bo.O.2.2 nF) (λe=>e (br.O _ d8.O.lt).2);have d1:=a3.I 0;have d2:=a3.I 1;have d3:=a3.I 2;have d4:=a3.I 3;simp at d1 d2 d3 d4;clear ei ds fo a3)
  |fail)
 have c5:∀b,b<K.heap.size->b<W8.heap.size/\d5 b=0:=λb f=>by
  have t:=br.O b f;refine⟨lL t.1 X.O.only.size,?_⟩
  by_cases B:d5 b=0
  ·exact B
  ·rcases X.O.new b B with e|e
   ·exact absurd t.2 e
   ·omega
 have y:=a.O.fresh;have cp:x.fuel=r.toNat:=by rw[aw.O]
 have e5:=a2.O.2.2
 have c8:x.args.length<=100000:=by
  rw[aw.O];exact lT k.O.2.2.2.1 (by decide)
 have S:L.most=l:=a.O.most_;have am:=xh f0.O 0 (by decide) p (by show jt s.progs 0 p 0=some p;unfold jt;rw[yf rfl]) a2.O.1 x H V _ c5 ((f4.O.kp (a.O.U.trans z.O) nG).kp X.O.only (λb f e=>e (br.O b f).2)) a2.O.2.1 c8 (by show s.T.rw _=none;rw[y.rw]) y.roots a.O.on a.O.qv y.queue (by show(s.T.ks.length:Int)<L.most;rw[y.ks,S];exact Q.O.2.2.2.2.2.2.1) (by have:=a2.O.2.1.fl;omega) (by show L.most<=1000000;rw[S];have:=Q.O.2.2.2.2.2.2.2;omega);rw[f3.O] at am;unfold ptr at am;refine am.mono ?_;clear am;intro e f8 ea;have a8:oN W8 f8 d5 {L with pA:=λi=>if i=0 then(el,f9) else L.pA i,pn:=fq} {s with progs:=jt s.progs 0 p} ⟨0,x.M⟩ x e:=ea;clear ea;unfold oN at a8
 have f2:Hd (ac w W8):=hD ((a1.O.trans z.O).trans' X.O.only (λb f=>.inr (by
  have t:=E.O.size;have:=a.O.new b f;omega)))
 have cq:x.M= []:=by rw[aw.O]
 by_cases b6:l<(x.fuel:Int)+1
 ·rw[yf (by show L.most<_;rw[S];exact b6)] at a8
  obtain⟨rfl,ef⟩:=a8;have u:Hd (dh p m.length r thr lg l ps=6):=hD (by unfold dh;rw[<-k.O.2.2.2.2.1,yb (λe=>e rfl),<-k.O.2.2.2.2.2,yb (λe=>e rfl),bq.O,yb (by decide),<-bp.O,yb (by decide),yf (by omega)]);have eL:=hD (f2.O.trans ef);clear b6 ef c5 y cp e5 c8 S cq d1 d2 d3 d4 v;go_wp2_with fail
  go_ret2
  exact je.bad u.O (by decide) rfl eL.O
 rw[yb (by show ¬L.most<_;rw[S];exact b6)] at a8;obtain⟨rfl,ek,R,ab,b2,P⟩:=a8;have f1:=hD (aI ab (aI b2 P));have u:Hd (dh p m.length r thr lg l ps=0):=hD (by unfold dh;rw[<-k.O.2.2.2.2.1,yb (λe=>e rfl),<-k.O.2.2.2.2.2,yb (λe=>e rfl),bq.O,yb (by decide),<-bp.O,yb (by decide),yb (by omega)]);have c1:=hD (aI cq (aI S cp));clear b6 c5 y cp e5 c8 S cq d1 d2 d3 d4 v ab b2 P;go_wp2_with fail
 go_ret2
 obtain⟨ab,b2,P⟩:=f1.O;have dw:=X.O.trans b2;have y:=a.O.fresh.progs' (jt s.progs 0 p)
 have fj:∀b,ek b≠0->w.heap.size<=b:=λb f=>by
  have t:=E.O.size;have dv:=a.O.U.size;have fd:=z.O.size
  rcases dw.new b f with e|e
  ·have:=a.O.new b e;omega
  ·omega
 obtain⟨ad,ai,fr⟩:=uz (j:=0) (p:=p) (x:=x) y (by show jt s.progs 0 p 0=some p;unfold jt;rw[yf rfl]) a.O.known a.O.away c1.O.1 a.O.c0 (by show s.ths.length<=8;rw[a.O.len];have:=Q.O.1;have:=Q.O.2.2.2.1;omega);rw[c1.O.1] at ab;refine⟨λfa=>absurd u.O fa,λ_=>⟨ek,R,{s with progs:=jt s.progs 0 p},?_,?_,y,?_,?_,by show jt s.progs 0 p 0=some p;unfold jt;rw[yf rfl]⟩⟩
 ·have:R.pb=L.pb:=P.1
  unfold ptr;rw[this];rfl
 ·rw[<-aw.O]
  refine⟨ab,ad,a.O.known,a.O.away,fr,ai,(a1.O.trans z.O).trans' dw.only (λb f=>.inr ?_),fj,?_,?_,?_,?_⟩
  ·have t:=E.O.size
   have:=a.O.new b f;omega
  ·have t:R.n=L.n:=P.2.2.2.1
   have:=a.O.nn;have dv:=Q.O.1;have fd:=Q.O.2.2.2.1;rw[t];omega
  ·have t:R.fn=L.fn:=P.2.2.2.2.1
   rw[t,a.O.fn]
   decide
  ·show(s.nms.length:Int)<=10000
   rw[y.nms]
   decide
  ·have t:R.dn=L.dn:=P.2.2.2.2.2
   show R.dn=s.T.hist;rw[t,a.O.dn];exact y.hist.symm
 ·show(s.ths.length:Int)=thr
  rw[a.O.len,Q.O.1]
 ·have t:R.most=L.most:=P.2.1
  rw[t,c1.O.2.1]
end
section
open Go.RowKit Go.Maps
section
variable {G:cG}{w0 w w':World}{d:Int}{tag:Nat->Nat}{L:cj}{s s':PS}{jl:List Int}
theorem fJ.off(a:fJ G w0 w d tag L s)(e:aa (λb=>tag b=0) w w')(l:ac w0 w'):fJ G w0 w' d tag L s:=
 ⟨(a.h.kp (i:=0) e (λ_ c=>c) (λ_ _=>rfl) (λb g=>lL (a.h.tlt b g) e.size)).mono λj f k=>by
   rcases yG.1 k with c|c
   ·exact absurd c f
   ·exact c,a.r,a.known,a.away,a.outs,a.ord,l,a.new,a.nn,a.fn,a.nm,a.dn⟩
theorem fJ.stepG{k o:Nat}(a:fJ G w0 w d tag L s)(m:k<s.ths.length)(l:cL s k o s')(q:cl w w' tag L s s' 4):∃tag' e,fJ G w0 w' (d+4) tag' e s'/\aK w w' tag tag'/\e.pb=L.pb/\e.most=L.most:=by
 obtain⟨tag',e,p,g,c⟩:=q;have i:=mc l;obtain⟨x,u,v⟩:=c.dn;refine⟨tag',e,⟨p,a.r.step m l,λn=>by rw[i.known];exact a.known n,λn=>by rw[i.away];exact a.away n,λt=>by rw[i.outs];exact a.outs t,sN a.ord a.r.inv a.known a.away a.outs m l,a.U.trans' g.only (λb j=>.inr (a.new b j)),λb j=>?_,?_,?_,?_,by rw[v,a.dn,u]⟩,g,c.pb,c.mz⟩
 ·rcases g.new b j with f|f
  ·exact a.new b f
  ·exact lT a.U.size f
 ·have:=c.nn;have:=a.nn;omega
 ·have:=c.fn;have:=a.fn;omega
 ·have:=c.nm;have:=a.nm;omega
def tX(G:cG)(w0 wr:World)(d:Int)(pb:Nat)(most:Int)(nt:Nat)(n0:Nm)(gs:Nat)(t:TypeId)(cs:Array Value)(Q:PS->Prop):Prop:=∃tag L s,fJ G w0 wr d tag L s/\L.pb=pb/\L.most=most/\s.ths.length=nt/\s.T.rw n0≠none/\tag gs=0/\ae wr gs t cs/\Q s
end
theorem pf{s0:PS}{n:Nm}{x:aA}:¬(dE s0 n x).idle:=λa=>by
 have:=a n ⟨x,1,0,⟨0,0⟩,false,0,false⟩ (by simp[dE,gA,au]);simp at this
theorem ur{s0 s':PS}{n:Nm}{x:aA}{k b:Nat}(e:gy s0)(a:cL (dE s0 n x) k b s'):¬s'.idle:=by
 have c:(dE s0 n x).th k=kY:=e.th k;unfold cL at a;rw[c] at a;have a:s'=jW (dE s0 n x) k:=a;rw[a];exact pf (s0:=s0) (n:=n) (x:=x)
theorem Bz{f B:Nat}{a:Int}(b:a<=10+51+(f:Int)+(2*10+60)*((B:Int)-1))(e:B<=f+1)(c:1<=B):a<=((100*(f+4):Nat):Int):=by omega
theorem Bt{k:Nat}(a:k<=1000):10000+4*(k:Int)<=1000000000:=by omega
theorem Bu{k b a:Nat}(f:k<=a)(e:a<=40400)(c:b<=8):20000+32*(k:Int)+4*(b:Int)<=1000000000:=by omega
theorem Bv{k a:Nat}:20000+32*(k:Int)+4*((a+1:Nat):Int)=20000+32*(k:Int)+4*(a:Int)+4:=by omega
theorem Bw{k a:Nat}(b:a<=8):20000+32*(k:Int)+4*(a:Int)<=20000+32*((k+1:Nat):Int):=by omega
theorem Bx{k:Nat}(a:k<=1000):10000+4*(k:Int)<=20000+32*((0:Nat):Int):=by omega
theorem By{k:Nat}:20000+32*(k:Int)<=20000+32*(k:Int)+4*((0:Nat):Int):=by omega
theorem tQ{k:Nat}(a:k<=1000):wrap64 ((k:Int)+1)=(k:Int)+1:=by unfold wrap64;omega
theorem BA{k a:Nat}(b:k<a)(c:a<=40400):wrap64 ((k:Int)+1)=(k:Int)+1:=by unfold wrap64;omega
theorem xK{k a:Nat}(b:k<a):a-(intOf ((some (Value.int .i64 ((k:Int)+1))).getD (.int .i64 0))).toNat<a-(intOf ((some (Value.int .i64 (k:Int))).getD (.int .i64 0))).toNat:=by
 simp only[zU,intOf];omega
def ue(w w':World)(p:List aj)(inp:List Int)(fuel thr lg most:Int)(ps:List (Int×Nat))(e:Ending):Prop:=
 ac w w'/\
 (dh p inp.length fuel thr lg most ps≠0->e=.returned (.tuple #[.agg #[.int .i64 0,.int .i64 0,.slice none 0 0,.int .i64 0],.int .i64 (dh p inp.length fuel thr lg most ps)]))/\
 (dh p inp.length fuel thr lg most ps=0->∃g cap k:Nat,k<=100*(fuel.toNat+4)/\(ps.length<=1->0<k)/\e=.returned (.tuple #[.agg #[.int .i64 (cS p ⟨[],0,inp,fuel.toNat⟩).v,.int .i64 (cS p ⟨[],0,inp,fuel.toNat⟩).e,.slice (some ⟨g,0,none⟩) (bI p ⟨[],0,inp,fuel.toNat⟩).length cap,.int .i64 (k:Int)],.int .i64 0])/\
  w'.ownsRow 0 69 5 (.slice (some ⟨g,0,none⟩) (bI p ⟨[],0,inp,fuel.toNat⟩).length cap) (bI p ⟨[],0,inp,fuel.toNat⟩).length (((bI p ⟨[],0,inp,fuel.toNat⟩).map (lN 0)).flatMap fy))
theorem oH{p:List aj}{n:Nat}{c thr lg e:Int}{ps:List (Int×Nat)}(a:dh p n c thr lg e ps=0):fU p n c=0/\¬iB thr lg e/\(∀x∈ps,0<=x.1/\x.1<thr)/\c<e:=by
 unfold dh at a;split at a
 ·rename_i b;exact absurd a b
 split at a
 ·rename_i b;exact absurd a b
 rename_i b;split at a
 ·cases a
 rename_i g;split at a
 ·cases a
 rename_i i;split at a
 ·cases a
 rename_i l;refine⟨Classical.not_not.1 b,λf=>g (mz.2 f),λx k=>?_,by omega⟩;have j:ps.any (jh thr)=false:=by simpa using i
 have:=zI.1 j x k;unfold jh at this;simp at this;omega
theorem CG{p:List aj}{x:aA}(b:lH p)(c:eh p x):gJ (jC 0 p x):=by
 intro j q y a;obtain⟨rfl,rfl,rfl⟩:=mM a;exact⟨b,c,by decide⟩
theorem CF{p:List aj}{x:aA}:∀j,jC 0 p x j≠none->j∈[(0:Int)]:=λj a=>by rw[qB a];simp
theorem AX(p:List aj)(x:aA):lc (jC 0 p x) [0] =(bI p x).length:=by
 unfold lc;simp[iT,jC]
theorem sg(p:List aj)(x:aA):1<=(bI p x).length/\(bI p x).length<=x.fuel+1:=⟨by rw[dV];simp,wV p _ _ (lR)⟩
theorem sJ(p:List aj)(A d4 cn:Option Addr)(c gc f8:Nat)(F h1:Nat->Prop)(Z:List Int)(Y thr lg D:Int)(ps:List (Int×Nat))(w:World)(a9:cy w F A p)(hu:∀b,F b->b<w.heap.size)(S:p.length<=30)(g1:∀x∈p,x.ops.length<=200)(gb:∀x∈p,∀o∈x.ops,iG o/\dc o.n)(hv:aU w h1 d4 Z)(fq:Z.length<=100)(fp:∀x∈Z,dc x)
 (fd:cw w w.heap.size 2 cn ps.length (ps.flatMap iq)) (g5:ps.length<=1000) (hW:∀x∈ps,x.2<4294967296) (hC:¬(400<Y/\Y<=65536)):
 Calls Tryz.prog 32 #[aS p A c,.slice d4 Z.length gc,.int .i64 Y,.agg #[.int .i64 thr,.int .i64 lg,.int .i64 D],.slice cn ps.length f8] w λa w'=>ue w w' p Z Y thr lg D ps a:=by
 obtain⟨n,ea⟩:=eX p.length;obtain⟨q,eg⟩:=eX Z.length;obtain⟨a0,e7⟩:=eX ps.length;obtain⟨d5,c9⟩:=eX (w.alloc (.cells #[.slice A n c] 24));obtain⟨d6,cb⟩:=eX (d5.alloc (.cells #[.int .i64 thr,.int .i64 lg,.int .i64 D] 40));obtain⟨z,dv⟩:=eX (d6.alloc (.cells #[.int .i64 0,.int .i64 0,.slice none 0 0,.int .i64 0] 84));obtain⟨a3,b2⟩ :∃g,g=w.heap.size:=⟨_,rfl⟩
 have i6:ac w d5:=by rw[c9];exact oR.alloc _
 have gm:ac d5 d6:=by rw[cb];exact oR.alloc _
 have el:ac d6 z:=by rw[dv];exact oR.alloc _
 have bv:=i6.trans (gm.trans el);have gu:d5.heap.size=a3+1:=by rw[c9,b2];simp
 have c0:d6.heap.size=a3+1+1:=by rw[cb];simp[gu]
 have f7:ae z a3 24 #[.slice A n c]:=(gm.trans el).J (by rw[c9,b2];exact bN) nF;have c4:ae z (a3+1) 40 #[.int .i64 thr,.int .i64 lg,.int .i64 D]:=el.J (by rw[cb,<-gu];exact bN) nF;have hg:ae z (a3+1+1) 84 #[.int .i64 0,.int .i64 0,.slice none 0 0,.int .i64 0]:=by rw[dv,<-c0];exact bN
 have h4:Hd (Calls Tryz.prog 66 #[.agg #[.slice A n c],.slice d4 q gc,.int .i64 Y,.agg #[.int .i64 thr,.int .i64 lg,.int .i64 D],.slice cn a0 f8] z λa w'=>je z w' p Z Y thr lg D ps a):=hD (by
  have:=ve p A d4 cn c gc f8 F h1 Z Y thr lg D ps z (a9.U bv) (λb N=>lL (hu b N) bv.size) S g1 gb (hv.kp bv nG) fq fp (ed fd bv) g5;unfold aS at this;rw[<-ea,<-eg,<-e7] at this;exact this)
 have aE:=hD (aI g1 (aI gb (aI fp (aI fd (aI g5 (aI hW hC))))));have f4:=hD (aI ea (aI eg (aI e7 fq)));have an:=hD (aI f7 (aI c4 hg));have d1:=hD bv;have f2:=hD b2;have d3:=hD (aI c9.symm (aI cb.symm dv.symm));unfold aS;rw[<-ea,<-eg,<-e7];have it:=f7.I 0;have am:=c4.I 0;have cm:=c4.I 1;have iv:=c4.I 2;simp at it am cm iv;clear a9 hu S g1 gb hv fq fp fd g5 hW hC ea eg e7 c9 cb dv b2 i6 gm el bv gu c0 f7 c4 hg;go_enter Tryz.func32,Tryz.ntmps32;go_upto_region 1 with fail;rw[d3.O.1,d3.O.2.1,d3.O.2.2,<-f2.O];clear d3;go_wp2_with fail;refine h4.O.mono ?_;rintro a he ki;obtain⟨il,g9⟩:=eX (dh p Z.length Y thr lg D ps);have d2:=hD g9;obtain⟨es,ex⟩:=ki;rw[<-g9] at es ex;clear g9 h4 it am cm iv
 by_cases bf:il=0
 case neg=>
  obtain⟨v,rfl,gn⟩:=es bf;have l9:(il !=0)=true:=bT bf;have b1:=gn.J an.O.2.2 nF;obtain⟨k6,k7,k8,k9⟩:=b1.gE4;have hm:=b1.fz 0;have hn:=b1.fz 1;have dk:=b1.fz 2;have dl:=b1.fz 3;have h2:=hD b1;have h8:=hD (d1.O.trans gn);have iz:=hD bf;clear es ex gn b1 bf;go_wp2_with fail;have fj:=(((h2.O.s_ 0 (.int .i64 0)).s_ 1 (.int .i64 0)).s_ 2 (.slice none 0 0)).s_ 3 (.int .i64 0);refine bodyPost_ret (bU Tryz.results32 rfl (cs:=#[.int .i64 0,.int .i64 0,.slice none 0 0,.int .i64 0]) fj Tryz.underlying84 rfl (by kernel_rfl)) rfl ?_;refine⟨h8.O.trans' (aB (aB (aB (ag he (a3+1+1) _ _)))) (λb N=>.inr (by rw[N,f2.O];omega)),λ_=>?_,λd8=>absurd (d2.O.trans d8) iz.O⟩;rw[<-d2.O];rfl
 subst bf;obtain⟨tag,L,s0,rfl,b0,fn,hM,hQ,l3⟩:=ex rfl;obtain⟨bc,c6,f9,ka⟩:=oH d2.O.symm;obtain⟨hy,ds,kn⟩:=pG bc aE.O.1 aE.O.2.1 aE.O.2.2.1;obtain⟨x,ej⟩:=eX (⟨[],0,Z,Y.toNat⟩ :aA);rw[<-ej] at b0 ds;obtain⟨G,bk⟩:=eX (jC 0 p x);rw[<-bk] at b0;obtain⟨a1,g4⟩:=eX L.pb;obtain⟨Q,g0⟩:=eX s0.ths.length;obtain⟨X,fb⟩:=eX (100*(x.fuel+4):Nat);obtain⟨B,dq⟩:=eX ((bI p x).length:Nat);obtain⟨ii,g8⟩:=eX (dE s0 ⟨0,[]⟩ x);have f1:=hD (aI g8 fn);have l7:x.fuel=Y.toNat:=by rw[ej]
 have ku:x.fuel<=400:=by
  have K:=aE.O.2.2.2.2.2.2;have a4:=ds.fl;omega
 have kl:1<=thr/\thr<=8/\1<=D/\D<=1024:=by
  unfold iB at c6;omega
 have dp:1<=B/\B<=x.fuel+1:=by rw[dq];exact sg p x
 have e2:lc G [0] =B:=by rw[bk,AX,dq]
 have hZ:thr=(Q:Int):=by rw[g0,hM]
 obtain⟨a2,ek⟩:=eX (0:Nat);have ba:=hD ek
 have hr:CX G z he (10000+4*(a2:Int)) a1 D Q ⟨0,[]⟩ (λs=>pot 10 (B:Int) s<=(X:Int)/\(a2=0->s=ii)/\(a2=1->¬s.idle)):=
  ⟨tag,L,dE s0 ⟨0,[]⟩ x,by rw[ek];exact b0,g4.symm,hQ,g0.symm,λa=>(by simp[dE,gA,au] at a),by rw[fb];exact Bz (fn.pot (c:=10) ⟨0,[]⟩ x) dp.2 dp.1,λ_=>by rw[g8],λa=>by rw[ek] at a;cases a⟩
 have h5:=hD hr;have P:=hD (aI (show gJ G by rw[bk];exact CG hy ds) (aI (show ∀j,G j≠none->j∈[(0:Int)] by rw[bk];exact CF) (aI (show lc G [0]<=1000 by rw[e2];omega) (aI (show(lc G [0]:Int)<=D by rw[e2];omega) (show D<=1000000 by omega)))));have aw:=hD (aI bk (aI ej (aI fb (aI dq (aI e2 dp)))));have W:=hD (aI hZ (aI (show 1<=Q by omega) (aI (show Q<=8 by omega) (aI f9 (show X<=40400 by omega)))));have h8:=hD (d1.O.trans b0.U);have h2:=hD (aI (b0.U.J an.O.2.1 nF) (b0.U.J an.O.2.2 nF));have hP:a0<=1000:=by rw[f4.O.2.2.1];exact aE.O.2.2.2.2.1
 have f3:=hD hP;unfold ptr;rw[<-g4];have l9:((0:Int) !=0)=false:=rfl;clear es ex b0 fn hM hQ l3 bc c6 f9 ka hy ds kn ej bk g4 g0 fb dq g8 ek l7 ku kl dp e2 hZ hr hP;go_wp2_with fail
 go_loopw [33] (λi wr=>∃k:Nat,k<=a0/\i=.int .i64 k/\CX G z wr (10000+4*(k:Int)) a1 D Q ⟨0,[]⟩ (λs=>pot 10 (B:Int) s<=(X:Int)/\(k=0->s=ii)/\(k=1->¬s.idle))) (λi _=>a0-(intOf i).toNat)
 case atStart=>exact⟨a2,by rw[ba.O];exact yx _,by rw[ba.O];rfl,h5.O⟩
 case round=>
  obtain⟨k,e4,rfl,is,k2,c0,c7,ef,e8,ec,eb,cg⟩:=hrel;have C:=hD (aI c7 (aI ef (aI e8 (aI ec (aI eb cg)))));clear c7 ef e8 ec eb cg
  by_cases b4:k<a0
  ·have m4:(0:Int)<=(k:Int):=dN k
   have l0:(k:Int)<(a0:Int):=cN b4;have i0:wrap64 ((k:Int)+1)=(k:Int)+1:=tQ (lT e4 f3.O);have hN:k<ps.length:=by rw[<-f4.O.2.2.1];exact b4
   have e6:ps[k]?=some ps[k]:=gG hN;generalize ps[k] =y at*;have i3:=aE.O.2.2.2.2.2.1 y (yh e6);have l8:=W.O.2.2.2.1 y (yh e6);obtain⟨lz,m9,kd,am,cm⟩:=xn (ed aE.O.2.2.2.1 (d1.O.trans C.O.1.U)) e6;obtain⟨eL,i2⟩:=eX (y.1:Int);obtain⟨hl,fm⟩:=eX ((y.2:Int):Int);obtain⟨kk,hH⟩ :∃kk:Nat,eL=(kk:Int):=⟨eL.toNat,by omega⟩
   obtain⟨hf,e0⟩:=eX (wr.alloc (.cells #[.int .i64 eL,.int .u32 hl] 90));obtain⟨kb,fo⟩:=eX wr.heap.size;have gq:ac wr hf:=by rw[e0];exact oR.alloc _
   have hh:ae hf kb 90 #[.int .i64 eL,.int .u32 hl]:=by rw[e0,fo];exact bN
   have b3:kk<c0.ths.length:=by
    have K:=W.O.1;have a4:=C.O.2.2.2.1;omega
   have ei:=(C.O.1.at_ gq).pstep (jl:=[(0:Int)]) P.O.1 P.O.2.1 P.O.2.2.1 (Bt (lT e4 f3.O)) (by rw[C.O.2.2.1];exact P.O.2.2.2.1) (by rw[C.O.2.2.1];exact P.O.2.2.2.2) b3 y.2 i3;rw[C.O.2.1,<-hH,<-fm] at ei;unfold ptr at ei;rw[<-i2] at am;rw[<-fm] at cm;have az:=hD ei;have hc:=hD e0.symm;have j5:=hD fo;have j6:=hD gq;have d0:=hD b3;obtain⟨v0,v1⟩:=hh.gE2;subst kd;clear ei hN e6 i3 l8 i2 fm hH e0 fo gq hh b3;go_upto_region 7 with fail;rw[hc.O,<-j5.O];clear hc am cm;go_wp2_with fail;refine az.O.mono ?_;rintro a lw ⟨bs,V,rfl,a6,hX⟩;have j8:=hD (aI a6 ((C.O.1.at_ j6.O).step d0.O a6 hX));clear a6 hX az v0 v1;go_wp2_with fail;go_roundw
   case measure=>first|exact aG rfl b4|exact aG i0 b4
   case rel=>
    obtain⟨a6,ck,f5,ci,ge,gf⟩:=j8.O;obtain⟨c7,ef,e8,ec,eb,cg⟩:=C.O;refine⟨k+1,b4,by first|exact cK k|exact cH i0,ck,f5,V,by rw[Bs];exact ci,ge.trans ef,gf.trans e8,(md a6).trans ec,rW c7.r.inv.t ci.r.inv.t (nW a6) eb,?_⟩;refine⟨Ya (rj.le (c7.r.inv.step_dec (by decide) d0.O a6)) cg.1,λa=>absurd a (Nat.succ_ne_zero _),λa=>?_⟩;have l2:k=0:=by omega
    have K:=cg.2.1 l2;rw[K,f1.O.1] at a6;exact ur f1.O.2 a6
  ·have l0:¬(k:Int)<(a0:Int):=λa=>b4 (yB.1 a)
   obtain⟨f6,e1⟩:=eX (wr.alloc (.cells #[.int .i64 0,.int .i64 0,.slice none 0 0,.int .i64 0] 84));obtain⟨e,cf⟩:=eX wr.heap.size;have i8:ac wr f6:=by rw[e1];exact oR.alloc _
   have hi:ae f6 e 84 #[.int .i64 0,.int .i64 0,.slice none 0 0,.int .i64 0]:=by rw[e1,cf];exact bN
   have bt:is e=0:=fL C.O.1.h.tlt (by rw[cf];exact lR)
   have hs:tX G z f6 (20000+32*(a2:Int)) a1 D Q ⟨0,[]⟩ e 84 #[.int .i64 0,.int .i64 0,.slice none 0 0,.int .i64 (a2:Int)] (λs=>pot 10 (B:Int) s<=(X:Int)-(a2:Int)/\(a0<=1->a2=0->¬s.idle)):=
    ⟨is,k2,c0,by rw[ba.O];exact(C.O.1.at_ i8).le (Bx (lT e4 f3.O)),C.O.2.1,C.O.2.2.1,C.O.2.2.2.1,C.O.2.2.2.2.1,bt,by rw[ba.O];exact hi,by have:=C.O.2.2.2.2.2.1;have bf:=ba.O;show pot 10 (B:Int) c0<=(X:Int)-(a2:Int);omega,λm6 _=>by
     have m2:k=a0:=yT e4 (yA b4);have a4:=C.O.2.2.2.2.2.2
     by_cases a:k=0
     ·rw[a4.1 a,f1.O.1]
      exact pf
     ·exact a4.2 (by omega)⟩
   have j2:=hD hs;have cr:Hd (z.heap.size<=e):=hD (by rw[cf];exact C.O.1.U.size);have hd:=hD e1.symm;have h6:=hD cf;clear e1 cf i8 hi bt hs C h5;go_upto_region 10 with fail;rw[hd.O,<-h6.O];clear hd h6
   go_loopw [] (λwx=>∃k:Nat,k<=X/\tX G z wx (20000+32*(k:Int)) a1 D Q ⟨0,[]⟩ e 84 #[.int .i64 0,.int .i64 0,.slice none 0 0,.int .i64 (k:Int)] (λs=>pot 10 (B:Int) s<=(X:Int)-(k:Int)/\(a0<=1->k=0->¬s.idle))) (λwx=>X-(intOf ((wx.cell? ⟨e,3,none⟩).getD (.int .i64 0))).toNat)
   case atStart=>exact⟨a2,by rw[ba.O];exact yx _,j2.O⟩
   case round=>
    obtain⟨f,hG,ck,f5,V,E,b6,e9,ee,bo,ai,cd,ch⟩:=hrel;have bm:V.T.ks.length<=1000:=lT (E.r.inv.t.keys_le [0] P.O.2.1) P.O.2.2.1
    have e5:(V.T.ks.length:Int)<=(B:Int):=by
     rw[<-aw.O.2.2.2.2.1];exact Int.ofNat_le.2 (E.r.inv.t.keys_le [0] P.O.2.1)
    have cv:=hD (xm E.h E.r.inv bo bm);unfold ptr at cv;rw[b6] at cv;have m:=hD (aI E (aI b6 (aI e9 (aI ee (aI bo (aI ai (aI cd (aI ch (aI bm e5)))))))));clear E b6 e9 ee bo ai cd ch bm e5;go_wp2_with fail;refine cv.O.mono ?_;rintro a k5 ⟨b,rfl,N,ic⟩;have c1:=hD ic;have cp:=hD N;clear ic N cv
    cases b
    case true=>
     obtain⟨E,b6,e9,ee,bo,ai,cd,ch,bm,e5⟩:=m.O;have c8:=E.at_ c1.O;have ff:=E.r.inv.told_one E.outs (cp.O.1 rfl) (by rw[aw.O.1];exact tM 0 p x) (λm8 a=>qB (by rw[<-aw.O.1];exact a)) bo;obtain⟨ho,dm⟩:=c8.h.p7 (by decide);obtain⟨iw,a8,ce⟩:=fT dm;have fk:=xk c8.h;rw[b6,ce,E.dn] at fk;rw[E.dn] at ce
     have fw:V.T.hist≠[]:=λa=>by
      have K:=(ff.all ⟨x,cS p x,(aW p x).length⟩ (by rw[dV];exact zh ..)).2 nF;rw[a] at K
      cases K
     obtain⟨g,kf⟩ :∃g,iw=some ⟨g,0,none⟩:=by
      rw[E.dn,ce] at dm
      rcases dm.2 with⟨bc,c6⟩|⟨g,m0,cur,bc,_⟩
      ·exact absurd (yr c6) fw
      ·exact⟨g,by injection bc⟩
     subst kf;have bt:ck g=7:=ho g (by rw[ce];rfl);have ga:ck a1=1:=by rw[<-b6];exact(c8.h.p1 (by decide)).1
     have hE:e≠a1:=λa=>by rw[a,ga] at ai;exact absurd ai (by decide)
     have hF:e≠g:=λa=>by rw[a,bt] at ai;exact absurd ai (by decide)
     have b2:z.heap.size<=g:=E.new g (by rw[bt];decide);have hV:z.heap.size<=a1:=E.new a1 (by rw[ga];decide);obtain⟨S,e3⟩:=eX V.T.hist.length;have hJ:0<S:=by rw[e3];exact zK.2 fw
     have hL:V.T.hist.length<=1000000:=lT (lT E.r.inv.t.hist_le bm) (by decide);have cq:=hD fk;unfold ptr at cq;rw[<-e3] at cq;have k0:=hD c8.U;have j1:=hD (c1.O.J cd nF);have k1:=hD ff;have ar:=hD (aI hE (aI hF (aI b2 hV)));have hI:ps.length<=1->0<f:=λa9=>Nat.pos_of_ne_zero λa=>ch.2 (by rw[f4.O.2.2.1];exact a9) a (cp.O.1 rfl)
     have av:=hD (aI e3 (aI hJ (aI hL (aI hG hI))));clear E b6 e9 ee bo ai cd ch bm e5 c8 ff ho dm fk ce fw bt ga hE hF b2 hV e3 hJ hL hI m cp;go_wp2_with fail;refine cq.O.mono ?_;rintro a c3 ⟨rfl,_,gr,hS⟩;have f0:=hD (gr.J j1.O ar.O.1);have jn:Hd (ac z c3):=hD (k0.O.trans' gr (λb a=>.inr (by rw[a];exact ar.O.2.2.2)));obtain⟨d7,dw⟩:=eX (c3.setCell ⟨e,2,none⟩ (.slice (some ⟨g,0,none⟩) S a8));have go:aa (λb=>b=e) c3 d7:=by rw[dw];exact ag c3 e 2 _
     have h3:Hd (ae d7 e 84 #[.int .i64 0,.int .i64 0,.slice (some ⟨g,0,none⟩) S a8,.int .i64 (f:Int)]):=hD (by rw[dw];exact f0.O.s_ 2 _);have ji:Hd (ac z d7):=hD (jn.O.trans' go (λb a=>.inr (by rw[a];exact cr.O)));have g2:=go.owns hS (λb N a=>by cases N;exact ar.O.2.1 a.symm);rw[av.O.1] at g2;have c2:=vO g a8 0 V.T.hist d7 g2 av.O.2.2.1;rw[<-av.O.1] at c2;have c2:=hD c2;have ha:=hD dw.symm;have a7:=f0.O.I 2;have dk:=f0.O.fz 2;simp at a7;clear gr hS dw go g2 cq;go_upto_region 18 with fail;rw[ha.O];clear ha a7 dk;have a7:=h3.O.I 2;simp at a7;go_wp2_with fail;refine c2.O.mono ?_;rintro a bb ⟨rfl,l',gs,ih,er,gp⟩;have ft:=tw k1.O gs ih;have b8:=hD (gp.J h3.O ar.O.2.1);have h9:Hd (ac z bb):=hD (ji.O.trans' gp (λb a=>.inr (by rw[a];exact ar.O.2.2.1)));have fv:S=(bI p x).length:=by rw[av.O.1,<-gs.length_eq,ft,zY]
     rw[ft,fv] at er;obtain⟨m1,kv,gt⟩:=rF (l:=(bI p x).map (lN 0)) (by rw[zY];exact er) (i:=0) (u:=lN 0 ⟨x,cS p x,(aW p x).length⟩) (by rw[dV];rfl)
     cases kv
     obtain⟨bz,g7⟩:=eX ((cS p x).v);obtain⟨bx,g6⟩:=eX ((cS p x).e);have lk:bb.cell? ⟨g,3,none⟩=some (.int .i64 bz):=by rw[g7];exact gt 3 _ rfl
     have ll:bb.cell? ⟨g,4,none⟩=some (.int .i64 bx):=by rw[g6];exact gt 4 _ rfl
     have hz:=h9.O.J an.O.2.2 nF;have m3:(0:Int)<(S:Int):=yB.2 av.O.2.1;obtain⟨W8,dz⟩:=eX ((bb.setCell ⟨e,0,none⟩ (.int .i64 bz)).setCell ⟨e,1,none⟩ (.int .i64 bx));have em:aa (λb=>b=e) bb W8:=by rw[dz];exact aB (ag bb e 0 _)
     have hR:a3+1+1≠e:=λa=>by have K:=an.O.2.2.lt;have a4:=cr.O;omega
     have j0:Hd (ae W8 e 84 #[.int .i64 bz,.int .i64 bx,.slice (some ⟨g,0,none⟩) S a8,.int .i64 (f:Int)]):=hD (by rw[dz];exact(b8.O.s_ 0 _).s_ 1 _);have b7:=hD (em.J hz hR);have jj:Hd (ac z W8):=hD (h9.O.trans' em (λb a=>.inr (by rw[a];exact cr.O)));have hT:=em.owns er (λb N a=>by cases N;exact ar.O.2.1 a.symm);have b9:=hD (aI g7 (aI g6 (aI fv hT)));have hb:=hD dz.symm;clear a7;obtain⟨hj,hk,a7,c5⟩:=b8.O.gE4;have hm:=b8.O.fz 0;have hn:=b8.O.fz 1;have dk:=b8.O.fz 2;have dl:=b8.O.fz 3;clear gs ih er gp ft fv gt g7 g6 hz c2 dz em hR hT;go_upto_region 20 with fail;rw[hb.O];clear hb hj hk a7 c5 hm hn dk dl lk ll;obtain⟨hj,hk,a7,c5⟩:=j0.O.gE4;obtain⟨k6,k7,k8,k9⟩:=b7.O.gE4;have d8:=b7.O.fz 0;have bc:=b7.O.fz 1;have c6:=b7.O.fz 2;have f9:=b7.O.fz 3;go_wp2_with fail;have fj:=(((b7.O.s_ 0 (.int .i64 bz)).s_ 1 (.int .i64 bx)).s_ 2 (.slice (some ⟨g,0,none⟩) S a8)).s_ 3 (.int .i64 (f:Int));refine bodyPost_ret (bU Tryz.results32 rfl (cs:=#[.int .i64 bz,.int .i64 bx,.slice (some ⟨g,0,none⟩) S a8,.int .i64 (f:Int)]) fj Tryz.underlying84 rfl (by kernel_rfl)) rfl ?_;have ie:=aB (i:=3) (u:=.int .i64 (f:Int)) (aB (i:=2) (u:=.slice (some ⟨g,0,none⟩) S a8) (aB (i:=1) (u:=.int .i64 bx) (ag W8 (a3+1+1) 0 (.int .i64 bz))));refine⟨(d1.O.trans jj.O).trans' ie (λb N=>.inr (by rw[N,f2.O];omega)),λd8=>absurd d2.O.symm d8,λ_=>⟨g,a8,f,?_,av.O.2.2.2.2,?_,?_⟩⟩
     ·have K:=av.O.2.2.2.1
      rw[aw.O.2.2.1,aw.O.2.1] at K;exact K
     ·rw[<-aw.O.2.1,<-b9.O.1,<-b9.O.2.1,<-b9.O.2.2.1]
      rfl
     ·rw[<-aw.O.2.1,<-b9.O.2.2.1]
      refine ie.owns (by have:=b9.O.2.2.2;rw[<-b9.O.2.2.1] at this;exact this) (λb N a=>?_)
      cases N
      have K:=an.O.2.2.lt;have a4:=ar.O.2.2.1;have kc:g=a3+1+1:=a;omega
    case false=>
    have fx:¬V.idle:=λa=>by have:=cp.O.2 a;cases this
    obtain⟨eq,g3⟩:=eX (pot 10 (B:Int) V);have l4:=(m.O.1.r.inv.pot_pos (c:=10) (by decide) m.O.2.2.2.2.2.2.2.2.2).1
    have hO:f<X:=by
     have K:=m.O.1.r.inv.pot_pos (c:=10) (by decide) m.O.2.2.2.2.2.2.2.2.2;have a4:=K.2 fx;have kc:pot 10 (B:Int) V<=(X:Int)-(f:Int):=m.O.2.2.2.2.2.2.2.1.1;omega
    have ht:tX G z k5 (20000+32*(f:Int)+4*((0:Nat):Int)) a1 D Q ⟨0,[]⟩ e 84 #[.int .i64 0,.int .i64 0,.slice none 0 0,.int .i64 (f:Int)] (λs'=>lb 10 (B:Int) eq s' 0):=
     ⟨ck,f5,V,(m.O.1.at_ c1.O).le By,m.O.2.1,m.O.2.2.1,m.O.2.2.2.1,m.O.2.2.2.2.1,m.O.2.2.2.2.2.1,c1.O.J m.O.2.2.2.2.2.2.1 nF,by rw[g3];exact lb.start m.O.1.r.inv (by rw[m.O.2.2.2.1];exact W.O.2.1) fx⟩
    have j3:=hD ht;have j7:Hd (eq<=(X:Int)-(f:Int)):=hD (by rw[g3];exact m.O.2.2.2.2.2.2.2.1.1);have hA:=(m.O.1.U.trans c1.O).J an.O.2.1 nF;have am:=hA.I 0;simp at am;have cB:=hD (aI hO (m.O.2.2.2.2.2.2.1.I 3));clear fx ht g3 l4 hA m hO;go_wp2_with fail;clear am
    go_loopw [53] (λi wy=>∃H:Nat,H<=Q/\i=.int .i64 H/\tX G z wy (20000+32*(f:Int)+4*(H:Int)) a1 D Q ⟨0,[]⟩ e 84 #[.int .i64 0,.int .i64 0,.slice none 0 0,.int .i64 (f:Int)] (λs'=>lb 10 (B:Int) eq s' H)) (λi _=>Q-(intOf i).toNat)
    case atStart=>exact⟨0,yx _,rfl,j3.O⟩
    case round=>
     obtain⟨H,fr,rfl,lo,k3,gx,ab,br,bn,bq,bp,al,a5,dr⟩:=hrel;have R:=hD (aI ab (aI br (aI bn (aI bq (aI bp (aI al (aI a5 dr)))))));have c5:=a5.I 3;have dl:=a5.fz 3;simp at c5;clear ab br bn bq bp al a5 dr
     by_cases b5:H<Q
     ·have m5:(0:Int)<=(H:Int):=dN H
      have l1:(H:Int)<thr:=by rw[W.O.1];exact cN b5
      have i1:wrap64 ((H:Int)+1)=(H:Int)+1:=tQ (lT fr (lT W.O.2.2.1 (by decide)));have fa:f<4294967296:=by have:=W.O.2.2.2.2;omega
      have l6:=BL (i:=f) fa;have fs:H<gx.ths.length:=by rw[R.O.2.2.2.1];exact b5
      have az:=hD (R.O.1.pstep P.O.1 P.O.2.1 P.O.2.2.1 (Bu hG W.O.2.2.2.2 (lT fr W.O.2.2.1)) (by rw[R.O.2.2.1];exact P.O.2.2.2.1) (by rw[R.O.2.2.1];exact P.O.2.2.2.2) fs f fa);rw[R.O.2.1] at az;unfold ptr at az;have h7:=hD fs;clear fs fa dl;go_wp2_with fail;refine az.O.mono ?_;rintro a c3 ⟨bs,ln,rfl,ad,hY⟩;have jd:=hD (aI ad (aI (R.O.1.stepG h7.O ad hY) (R.O.1.h.tlt)));clear ad hY az c5 l6;go_wp2_with fail;go_roundw
      case measure=>first|exact aG rfl b5|exact aG i1 b5
      case rel=>
       obtain⟨ad,⟨h0,k4,ci,i4,ge,gf⟩,_⟩:=jd.O;obtain⟨ab,br,bn,bq,bp,al,a5,dr⟩:=R.O
       have l5:h0 e=0:=by
        by_cases a:h0 e=0
        ·exact a
        ·rcases i4.new e a with a9|a9
         ·exact absurd al a9
         ·exact absurd a5.lt (zC.2 a9)
       refine⟨H+1,b5,by first|exact cK H|exact cH i1,h0,k4,ln,by rw[Bv];exact ci,ge.trans br,gf.trans bn,(md ad).trans bq,rW ab.r.inv.t ci.r.inv.t (nW ad) bp,l5,i4.only.J a5 (λa=>a al),?_⟩;exact dr.step (ab.r.inv.step_dec (by decide) h7.O ad) (md ad)
     ·have l1:¬(H:Int)<thr:=by rw[W.O.1];exact λa=>b5 (yB.1 a)
      have b3:H=Q:=yT fr (yA b5)
      have hB:pot 10 (B:Int) gx+1<=eq:=by
       have:=R.O.2.2.2.2.2.2.2;rw[b3,<-R.O.2.2.2.1] at this;exact this.end_
      have m7:wrap64 ((f:Int)+1)=(f:Int)+1:=BA cB.O.1 W.O.2.2.2.2;have j4:=hD hB;have d0:=hD b3;clear hB b3;go_wp2_with fail;go_roundw
      case measure=>
       have la:(wr.setCell ⟨e,3,none⟩ (.int .i64 ((f:Int)+1))).cell? ⟨e,3,none⟩=some (.int .i64 ((f:Int)+1)):=(R.O.2.2.2.2.2.2.1.s_ 3 (.int .i64 ((f:Int)+1))).I 3;have lf:=cB.O.2;rw[la,lf];exact xK cB.O.1
      case rel=>
       obtain⟨ab,br,bn,bq,bp,al,a5,_⟩:=R.O;refine⟨f+1,cB.O.1,lo,k3,gx,(ab.off ((ag wr e 3 _).mono λb a=>by rw[a];exact al) (ab.U.trans' (ag wr e 3 _) (λb a=>.inr (by rw[a];exact cr.O)))).le ?_,br,bn,bq,bp,al,?_,?_⟩
       ·rw[d0.O]
        exact Bw W.O.2.2.1
       ·rw[kt]
        exact a5.s_ 3 _
       ·have K:=j4.O
        have a4:=j7.O;refine⟨?_,λ_ a=>absurd a (Nat.succ_ne_zero _)⟩;rw[Int.natCast_add];exact An K a4
attribute [local simp] dZ fR fK cU dT Region.binds dI dL Is ao Act.put
theorem rX(w:World):
 Calls Tryz.prog 64 #[] w λn w'=>∃A c,n=.returned (aS cP A c)/\cy w' (bC w w') A cP/\ac w w':=by
 obtain⟨a,F⟩:=eX (w.alloc (.cells #[.slice none 0 0] 24));have a3:ac w a:=by rw[F];exact oR.alloc _
 have E:ae a w.heap.size 24 #[.slice none 0 0]:=by rw[F];exact bN
 have a1:=E.I 0;have ad:=E.fz 0;simp at a1;obtain⟨g,V⟩:=eX w.heap.size;have a8:=hD F.symm;have Z:=hD a3;have S:=hD E;rw[<-V] at a1 ad S;have Y:=hD V;clear F a3 E V;obtain⟨C,x⟩:=eX (a.alloc (.cells #[.int .u8 12,.int .i64 1,.int .i64 0,.int .i64 0,.int .i64 1,.int .u8 13,.int .i64 0,.int .i64 0,.int .i64 0,.int .i64 0,.int .u8 3,.int .i64 1,.int .i64 1,.int .i64 1,.int .i64 0,.int .u8 14,.int .i64 0,.int .i64 1,.int .i64 0,.int .i64 0] 106));obtain⟨D,z⟩:=eX (C.alloc (.cells #[.int .u8 14,.int .i64 0,.int .i64 0,.int .i64 0,.int .i64 0] 106));obtain⟨l,H⟩:=eX (D.alloc (.cells #[.int .i64 1,.int .i64 2,.slice (some ⟨a.heap.size,0,none⟩) 4 4,.int .i64 1,.int .i64 1,.slice (some ⟨a.heap.size+1,0,none⟩) 1 1] 99));have X:C.heap.size=a.heap.size+1:=by rw[x];simp
 have a4:D.heap.size=a.heap.size+1+1:=by rw[z];simp[X]
 have W:ac a C:=by rw[x];exact oR.alloc _
 have Q:ac C D:=by rw[z];exact oR.alloc _
 have B:ac D l:=by rw[H];exact oR.alloc _
 have K:ae l a.heap.size 106 #[.int .u8 12,.int .i64 1,.int .i64 0,.int .i64 0,.int .i64 1,.int .u8 13,.int .i64 0,.int .i64 0,.int .i64 0,.int .i64 0,.int .u8 3,.int .i64 1,.int .i64 1,.int .i64 1,.int .i64 0,.int .u8 14,.int .i64 0,.int .i64 1,.int .i64 0,.int .i64 0]:=(Q.trans B).J (by rw[x];exact bN) nF;have N:ae l (a.heap.size+1) 106 #[.int .u8 14,.int .i64 0,.int .i64 0,.int .i64 0,.int .i64 0]:=B.J (by rw[z,<-X];exact bN) nF;have P:ae l (a.heap.size+1+1) 99 #[.int .i64 1,.int .i64 2,.slice (some ⟨a.heap.size,0,none⟩) 4 4,.int .i64 1,.int .i64 1,.slice (some ⟨a.heap.size+1,0,none⟩) 1 1]:=by rw[H,<-a4];exact bN
 have t:g<a.heap.size:=S.O.lt;have r:w.heap.size<=a.heap.size:=Z.O.size;have u:ae l g 24 #[.slice none 0 0]:=(W.trans (Q.trans B)).J S.O nF;have a6:=hD (aI u (aI K (aI N (aI P (aI t r)))));have a7:=hD (Z.O.trans (W.trans (Q.trans B)));have T:(((a.alloc (.cells #[.int .u8 12,.int .i64 1,.int .i64 0,.int .i64 0,.int .i64 1,.int .u8 13,.int .i64 0,.int .i64 0,.int .i64 0,.int .i64 0,.int .u8 3,.int .i64 1,.int .i64 1,.int .i64 1,.int .i64 0,.int .u8 14,.int .i64 0,.int .i64 1,.int .i64 0,.int .i64 0] 106)).alloc (.cells #[.int .u8 14,.int .i64 0,.int .i64 0,.int .i64 0,.int .i64 0] 106)).alloc (.cells #[.int .i64 1,.int .i64 2,.slice (some ⟨a.heap.size,0,none⟩) 4 4,.int .i64 1,.int .i64 1,.slice (some ⟨a.heap.size+1,0,none⟩) 1 1] 99))=l:=by rw[H,z,x]
 have a2:=u.I 0;have ai:=u.fz 0;simp at a2;rw[<-T] at a2 ai;have a5:=hD T;clear T u K N P W Q B X a4 x z H t r;go_enter Tryz.func64,Tryz.ntmps64;go_upto_region 1 with fail;rw[a8.O,<-Y.O];go_wp2_with fail;rw[a5.O];obtain⟨u,K,N,P,t,r⟩:=a6.O;have R:=ag l g 0 (.slice (some ⟨a.heap.size+1+1,0,none⟩) 2 2);refine bodyPost_ret (bS Tryz.results64 rfl (cs:=#[.slice (some ⟨a.heap.size+1+1,0,none⟩) 2 2]) (u.s_ 0 _) Tryz.underlying24 rfl (by kernel_rfl)) rfl ?_;have e:=R.J K (λn=>absurd n (Nat.ne_of_gt t));have q:=R.J N (λn=>absurd n (Nat.ne_of_gt (Nat.lt_succ_of_lt t)));have m:=R.J P (λn=>absurd n (Nat.ne_of_gt (Nat.lt_succ_of_lt (Nat.lt_succ_of_lt t))));refine⟨some ⟨a.heap.size+1+1,0,none⟩,2,rfl,?_,a7.O.trans' R (λb al=>.inr (by rw[al,Y.O];exact lR))⟩;have a0:bC w (l.setCell ⟨g,0,none⟩ (.slice (some ⟨a.heap.size+1+1,0,none⟩) 2 2)) (a.heap.size+1+1):=⟨lT r (by omega),m.lt⟩
 have ab:bC w (l.setCell ⟨g,0,none⟩ (.slice (some ⟨a.heap.size+1+1,0,none⟩) 2 2)) (a.heap.size+1):=⟨lT r (by omega),q.lt⟩
 have a9:bC w (l.setCell ⟨g,0,none⟩ (.slice (some ⟨a.heap.size+1+1,0,none⟩) 2 2)) a.heap.size:=⟨r,e.lt⟩
 generalize l.setCell ⟨g,0,none⟩ (.slice (some ⟨a.heap.size+1+1,0,none⟩) 2 2)=am at*;refine .inr ⟨_,_,rfl,λi y p=>?_⟩
 match i,p with
 |0,p=>
  cases p
  refine⟨a0,⟨_,m⟩,m.I 0,m.I 1,_,_,m.I 2,.inr ⟨_,_,rfl,λk o f=>⟨?_,⟨_,e⟩,λj v hv=>?_⟩⟩⟩
  ·exact a9
  ·match k,f with
   |0,f=>cases f;match j,hv with
    |0,hv=>cases hv;exact e.I 0
    |1,hv=>cases hv;exact e.I 1
    |2,hv=>cases hv;exact e.I 2
    |3,hv=>cases hv;exact e.I 3
    |4,hv=>cases hv;exact e.I 4
    |j+5,hv=>exact absurd (gS hv).1 (by simp[ep])
   |1,f=>cases f;match j,hv with
    |0,hv=>cases hv;exact e.I 5
    |1,hv=>cases hv;exact e.I 6
    |2,hv=>cases hv;exact e.I 7
    |3,hv=>cases hv;exact e.I 8
    |4,hv=>cases hv;exact e.I 9
    |j+5,hv=>exact absurd (gS hv).1 (by simp[ep])
   |2,f=>cases f;match j,hv with
    |0,hv=>cases hv;exact e.I 10
    |1,hv=>cases hv;exact e.I 11
    |2,hv=>cases hv;exact e.I 12
    |3,hv=>cases hv;exact e.I 13
    |4,hv=>cases hv;exact e.I 14
    |j+5,hv=>exact absurd (gS hv).1 (by simp[ep])
   |3,f=>cases f;match j,hv with
    |0,hv=>cases hv;exact e.I 15
    |1,hv=>cases hv;exact e.I 16
    |2,hv=>cases hv;exact e.I 17
    |3,hv=>cases hv;exact e.I 18
    |4,hv=>cases hv;exact e.I 19
    |j+5,hv=>exact absurd (gS hv).1 (by simp[ep])
   |k+4,f=>exact absurd (gS f).1 (by simp)
 |1,p=>
  cases p
  refine⟨a0,⟨_,m⟩,m.I 3,m.I 4,_,_,m.I 5,.inr ⟨_,_,rfl,λk o f=>⟨?_,⟨_,q⟩,λj v hv=>?_⟩⟩⟩
  ·exact ab
  ·match k,f with
   |0,f=>cases f;match j,hv with
    |0,hv=>cases hv;exact q.I 0
    |1,hv=>cases hv;exact q.I 1
    |2,hv=>cases hv;exact q.I 2
    |3,hv=>cases hv;exact q.I 3
    |4,hv=>cases hv;exact q.I 4
    |j+5,hv=>exact absurd (gS hv).1 (by simp[ep])
   |k+1,f=>exact absurd (gS f).1 (by simp)
 |i+2,p=>exact absurd (gS p).1 (by simp[cP])
theorem uk(w:World):Calls Tryz.prog 65 #[.int .i64 6] w λa w'=>a=.returned (.int .i64 1000)/\w=w':=by
 go_enter Tryz.func65,Tryz.ntmps65;go_wp2_with fail;go_ret;exact⟨rfl,rfl⟩
theorem xA{w:World}{cs:List Value}{n:Nat}{g t:Nat}{b:Nat}(a:ae w g t cs.toArray)(c:cs.length=n*b):cw w w.heap.size b (some ⟨g,0,none⟩) n cs:=
 ⟨c,λ_=>⟨⟨g,0,none⟩,rfl,a.lt,λj u e=>by rw[bE,yq,a.I,zi];exact e⟩⟩
theorem uw:dh cP 1 20 2 1 100 [(1,3)] =0:=by decide
theorem uv:cS cP ⟨[],0,[4],(20:Int).toNat⟩=⟨8,0⟩:=yl Prod.fst qw
theorem vT:bI cP ⟨[],0,[4],(20:Int).toNat⟩= [⟨mD,⟨8,0⟩,1⟩,⟨jp,⟨4,0⟩,0⟩]:=td
theorem jL(w:World):Calls Tryz.prog 31 #[] w λn w'=>n=.returned (.bool true)/\ac w w':=by
 go_enter Tryz.func31,Tryz.ntmps31;go_wp2_with fail;refine(rX _).mono ?_;rintro n j ⟨A,c,rfl,Y,a0⟩;have a4:=hD Y;have a6:=hD a0;clear Y a0;go_wp2_with fail;obtain⟨l,f⟩:=eX (j.alloc (.cells #[.int .i64 4] 2));obtain⟨e,q⟩:=eX (l.alloc (.cells #[.int .i64 1,.int .u32 3] 90));obtain⟨g,t⟩:=eX j.heap.size;have a1:ac j l:=by rw[f];exact oR.alloc _
 have F:ac l e:=by rw[q];exact oR.alloc _
 have a3:l.heap.size=g+1:=by rw[f,t];simp
 have z:ae e g 2 #[.int .i64 4]:=F.J (by rw[f,t];exact bN) nF;have R:ae e (g+1) 90 #[.int .i64 1,.int .u32 3]:=by rw[q,<-a3];exact bN
 have u:=a1.trans F
 have X:aU e (λ_=>True) (some ⟨g,0,none⟩) [4]:=.inr ⟨g,0,rfl,λ_=>⟨trivial,_,z⟩,λk i=>⟨trivial,by
  have:k=0:=by simp at i;exact i
  subst this;exact z.I 0⟩⟩
 have Z:=sJ cP A (some ⟨g,0,none⟩) (some ⟨g+1,0,none⟩) c 1 1 _ _ [4] 20 2 1 100 [(1,3)] e (a4.O.kp u nG) (λb ad=>lL ad.2 u.size) (by decide) (λx a=>by simp[cP] at a;rcases a with rfl|rfl<;>decide)
  (λx a o D=>⟨(Ay.wf x a).2 o D,by simp[cP] at a;rcases a with rfl|rfl<;>·simp at D;rcases D with rfl|rfl|rfl|rfl<;>exact⟨by decide,by decide⟩⟩) X (by decide) (λx a=>by simp at a;subst a;exact⟨by decide,by decide⟩) (xA R rfl) (by decide) (λx a=>by simp at a;subst a;decide) (by decide)
 have N:=hD Z;have a7:=hD (a6.O.trans u);have W:((j.alloc (.cells #[.int .i64 4] 2)).alloc (.cells #[.int .i64 1,.int .u32 3] 90))=e:=by rw[q,f]
 rw[W,<-t];clear f q t a1 F a3 z R u X Z W;refine N.O.mono ?_;clear N;rintro n m ⟨a2,_,V⟩;obtain⟨p,T,k,_,i,rfl,E⟩:=V uw;have ar:(0:Int)<(k:Int):=yB.2 (i (by decide));rw[vT] at E ⊢;rw[uv]
 have B:∀(k:Nat) (v:Value),([.int .u64 0,.string ⟨#[]⟩,.int .i64 1,.int .i64 8,.int .i64 0,.int .u64 0,.string ⟨#[1]⟩,.int .i64 0,.int .i64 4,.int .i64 0]:List Value)[k]?=some v->m.cell? ⟨p,k,none⟩=some v:=λk v hv=>by
  have:=World.ownsRow.cells E (g:=p) rfl k v hv;rw[bE,yq] at this;exact this
 have H:=B 2 _ rfl;have K:=B 6 _ rfl;have a8:=hD (a7.O.trans a2);obtain⟨Q,r⟩:=eX (m.alloc (.cells #[.int .i64 8,.int .i64 0,.slice (some ⟨p,0,none⟩) 2 T,.int .i64 (k:Int)] 84));obtain⟨ab,C⟩ :∃g,g=m.heap.size:=⟨_,rfl⟩
 have y:ac m Q:=by rw[r];exact oR.alloc _
 have S:ae Q ab 84 #[.int .i64 8,.int .i64 0,.slice (some ⟨p,0,none⟩) 2 T,.int .i64 (k:Int)]:=by rw[r,C];exact bN
 have H:=(y.I (block_lt_of_cell H) nF).trans H;have K:=(y.I (block_lt_of_cell K) nF).trans K;have P:=hD r.symm;have a5:=hD C;have a9:=hD (a8.O.trans y);obtain⟨ai,al,am,an⟩:=S.gE4;clear B E i V a2 r C y S;go_upto_region 2 with fail;rw[P.O,<-a5.O];clear P
 go_wp2_with (first|(go_at_call 65;refine(uk _).mono ?_;rintro n av ⟨rfl,rfl⟩)|fail)
 go_ret;exact⟨rfl,a9.O⟩
end
section
open Go.RowKit Go.Maps
theorem C7:∃i z,Tryz.prog.info? 90=some i/\i.zero=some z/\i.size=2/\i.bytes=16/\z.cells.size=2:=by
 have a:(Tryz.prog.info? 90).map (λi=>(i.zero.map λz=>z.cells.size,i.size,i.bytes))=some (some 2,2,16):=by kernel_rfl
 cases hi:Tryz.prog.info? 90 with
 |none=>rw[hi] at a;cases a
 |some i=>
  rw[hi] at a;simp only[yU,yC,yP] at a
  cases hz:i.zero with
  |none=>rw[hz] at a;cases a.1
  |some z=>
   rw[hz] at a;exact⟨i,z,rfl,hz,a.2.1,a.2.2,yz a.1⟩
theorem nP{w w':World}(a:w.grownBy w' (Value.slice none 0 0).ownBlock):ac w w':=(aa.refl (λ_=>False) w).grown a (λk b=>by cases b)
theorem vH{V:Array Oper}{o:Oper}{a:Act}{W:World}{p:Act->World->Prop}{Q:Exit->Act->World->Prop}{z:Prop}(E:o.guard=none)(s x:Operand)
 (e:o.op=.call {callee:=.builtin .append,args:=#[s,x],argTypes:=#[25,25]}) (N:a.eval s=.slice none 0 0) {b:List Int} {A:Option Addr} {n c:Nat} (S:a.eval x=.slice A n c) (H:n=b.length) (K:cw W W.heap.size 1 A b.length (b.map (Value.int .i64))) (Z:b.length<=1000)
 (r:∀m c' w',aU w' (bC W w') m b->ac W w'->p (a.put o.dst (.slice m n c')) w'):if Region.wanted o (yielded V a.tmps)=true then Oper.wp Tryz.prog o a W p Q else z:=by
 subst H;obtain⟨i,F,T,P,D⟩:=pW;refine gZ W E s x 25 e W.heap.size 2 i (.int .i64 0) 1 8 Tryz.underlying25 F T P D rfl (by decide) (.slice none 0 0) 0 [] N ⟨rfl,.inl ⟨rfl,rfl⟩⟩ W.heap.size A b.length c (b.map (Value.int .i64)) S K (λu R=>by obtain⟨y,_,rfl⟩:=yL.1 R;rfl) (by unfold maxLen;omega) (by omega) (lR) (λa0 w' l C Y=>?_);rw[yq,List.nil_append] at l;have e:=nP C
 rcases l.2 with⟨f,j⟩|⟨g,B,cur,f,j,q,X⟩
 ·subst f
  have:=r none 0 w' (.inl ⟨rfl,yr j⟩) e
  rwa [j] at this
 ·subst f
  have t:bC W w' g:=⟨by assumption,(yu.1 q).1⟩
  refine r _ B w' (.inr ⟨g,0,rfl,λ_=>⟨t,cur,q⟩,λk v=>⟨t,?_⟩⟩) e;have:=l.cells (g:=g) rfl k (.int .i64 (b.getD k 0)) (by rw[yJ,gG v,yc,gG v];rfl);rw[bE,yq] at this;rw[yq];exact this
theorem vI{X:Array Oper}{o:Oper}{a:Act}{W:World}{p:Act->World->Prop}{Q:Exit->Act->World->Prop}{v:Prop}(H:o.guard=none)(s x:Operand)
 (b:o.op=.call {callee:=.builtin .append,args:=#[s,x],argTypes:=#[82,82]}) (P:a.eval s=.slice none 0 0) {ps:List (Int×Nat)} {A:Option Addr} {n c:Nat} (S:a.eval x=.slice A n c) (N:n=ps.length) (r:cw W W.heap.size 2 A ps.length (ps.flatMap iq)) (a0:ps.length<=1000)
 (q:∀m c' w',cw w' w'.heap.size 2 m ps.length (ps.flatMap iq)->ac W w'->p (a.put o.dst (.slice m n c')) w'):if Region.wanted o (yielded X a.tmps)=true then Oper.wp Tryz.prog o a W p Q else v:=by
 subst N;obtain⟨i,z,K,T,R,F,V⟩:=C7
 refine gZ W H s x 82 b W.heap.size 90 i z 2 16 Tryz.underlying82 K T R F V (by decide) (.slice none 0 0) 0 [] P ⟨rfl,.inl ⟨rfl,rfl⟩⟩ W.heap.size A ps.length c (ps.flatMap iq) S r (λu l=>by
  obtain⟨y,_,t⟩:=List.mem_flatMap.1 l;simp[iq] at t
  rcases t with rfl|rfl<;>rfl) (by unfold maxLen;omega) (by omega) (lR) (λa1 w' k E Z=>?_)
 rw[yq,List.nil_append] at k;have b:=nP E
 rcases k.2 with⟨e,f⟩|⟨g,B,cur,e,f,C,Y⟩
 ·subst e
  have:=q none 0 w' ⟨by rw[yr f];rfl,λD=>absurd D (by omega)⟩ b
  rwa [f] at this
 ·subst e
  refine q _ B w' ⟨r.1,λ_=>⟨⟨g,0,none⟩,rfl,(yu.1 C).1,λj u l=>?_⟩⟩ b;exact k.cells (g:=g) rfl j u l
structure mv(w:World)(p:List aj)(inp:List Int)(fuel:Int)(ps:List (Int×Nat))(se rv rr:Int)(SA:Option Addr)(sn sc:Nat)(k:Int):Prop where
 bad:se≠0->rv=0/\rr=0/\sn=0/\k=0
 good:se=0->(0<=k/\k<=100*((fuel.toNat:Int)+4))/\rv=(cS p ⟨[],0,inp,fuel.toNat⟩).v/\rr=(cS p ⟨[],0,inp,fuel.toNat⟩).e/\sn=(bI p ⟨[],0,inp,fuel.toNat⟩).length/\
  w.ownsRow 0 69 5 (.slice SA sn sc) sn (((bI p ⟨[],0,inp,fuel.toNat⟩).map (lN 0)).flatMap fy)
theorem mv.U{w w':World}{p:List aj}{e:List Int}{b:Int}{ps:List (Int×Nat)}{j g f:Int}{a:Option Addr}{l i:Nat}{k:Int}(c:mv w p e b ps j g f a l i k)(u:ac w w'):mv w' p e b ps j g f a l i k:=
 ⟨c.bad,λm=>by
  obtain⟨n,o,q,r,t⟩:=c.good m;exact⟨n,o,q,r,u.owns t nG⟩⟩
def qY(w w':World)(p:List aj)(inp:List Int)(fuel thr lg most:Int)(ps:List (Int×Nat))(e:Ending):Prop:=
 ∃(rv rr:Int) (SA:Option Addr) (sn sc:Nat) (k:Int),e=.returned (.tuple #[.agg #[.int .i64 rv,.int .i64 rr,.slice SA sn sc,.int .i64 k],.int .i64 (dh p inp.length fuel thr lg most ps)])/\ac w w'/\mv w' p inp fuel ps (dh p inp.length fuel thr lg most ps) rv rr SA sn sc k
theorem ue.uni{w w':World}{p:List aj}{e:List Int}{c thr lg f:Int}{ps:List (Int×Nat)}{a:Ending}(j:ue w w' p e c thr lg f ps a):qY w w' p e c thr lg f ps a:=by
 obtain⟨i,l,m⟩:=j
 by_cases b:dh p e.length c thr lg f ps=0
 ·obtain⟨g,q,k,r,_,n,o⟩:=m b
  refine⟨_,_,_,_,_,_,by rw[b];exact n,i,λa=>absurd b a,λ_=>⟨⟨zD _,by omega⟩,rfl,rfl,rfl,o⟩⟩
 ·exact⟨0,0,none,0,0,0,l b,i,λ_=>⟨rfl,rfl,rfl,rfl⟩,λa=>absurd a b⟩
theorem CO{k n:Nat}(a:k<n)(b:n<=100000):wrap64 ((k:Int)+1)=(k:Int)+1:=by unfold wrap64;omega
def iE(W:World)(g:Nat)(v0 v1 v2 v3:Value):World:=(((W.setCell ⟨g,0,none⟩ v0).setCell ⟨g,1,none⟩ v1).setCell ⟨g,2,none⟩ v2).setCell ⟨g,3,none⟩ v3
theorem kV(W:World)(g:Nat)(v0 v1 v2 v3:Value):aa (λb=>b=g) W (iE W g v0 v1 v2 v3):=aB (aB (aB (ag W g 0 v0)))
def tD(W4 wx:World)(s15 s16:Value)(p:List aj)(inp:List Int)(fuel tt ll mm:Int)(ps:List (Int×Nat)):Prop:=
 ∃(g:Nat) (rv rr:Int) (SA:Option Addr) (sn sc:Nat) (k:Int),s15=.pointer (some ⟨g,0,none⟩)/\s16=.int .i64 (dh p inp.length fuel tt ll mm ps)/\ac W4 wx/\W4.heap.size<=g/\ae wx g 84 #[.int .i64 rv,.int .i64 rr,.slice SA sn sc,.int .i64 k]/\mv wx p inp fuel ps (dh p inp.length fuel tt ll mm ps) rv rr SA sn sc k
theorem mv.set4{w w':World}{p:List aj}{j:List Int}{e:Int}{ps:List (Int×Nat)}{o m l:Int}{c:Option Addr}{q n:Nat}{k:Int}(f:mv w p j e ps o m l c q n k){g:Nat}{cs:Array Value}(x:ae w g 84 cs)(z:aa (λb=>b=g) w w'):mv w' p j e ps o m l c q n k:=
 ⟨f.bad,λa=>by
  obtain⟨r,t,u,v,i⟩:=f.good a;exact⟨r,t,u,v,z.owns i (λb y a=>bl i x (by decide) (by rw[<-a];exact y))⟩⟩
attribute [local simp] dZ fR fK cU dT Region.binds dI dL Is ao Act.put
theorem vd(p:List aj)(A c8 ek el:Option Addr)(c e7 g2 dp:Nat)(v:List Int)(u a1 T X a2 V Y:Int)(ps a0:List (Int×Nat))(F:Nat->Prop)(w:World)
 (dq:jf w F A p) (f1:∀b,F b->b<w.heap.size) (fj:∀x∈p,∀o∈x.ops,iG o/\dc o.n) (f2:cw w w.heap.size 1 c8 v.length (v.map (Value.int .i64))) (f6:∀x∈v,dc x)
 (f3:cw w w.heap.size 2 ek ps.length (ps.flatMap iq)) (fa:∀x∈ps,x.2<4294967296) (f4:cw w w.heap.size 2 el a0.length (a0.flatMap iq)) (fb:∀x∈a0,x.2<4294967296) (ff:(ps.length:Int)+(a0.length:Int)<=9223372036854775807):
 Calls Tryz.prog 7 #[aS p A c,.slice c8 v.length e7,.int .i64 u,.agg #[.int .i64 a1,.int .i64 T,.int .i64 X],.agg #[.int .i64 a2,.int .i64 V,.int .i64 Y],.slice ek ps.length g2,.slice el a0.length dp] w λl w'=>l=.returned (.bool true)/\ac w w':=by
 obtain⟨n,ck⟩:=eX p.length;obtain⟨q,e4⟩:=eX v.length;obtain⟨b8,ch⟩:=eX ps.length;obtain⟨b9,ci⟩:=eX a0.length;obtain⟨c1,e3⟩:=eX ((b8:Int)+(b9:Int):Int);obtain⟨c9,bt⟩:=eX (w.alloc (.cells #[.slice A n c] 24));obtain⟨cb,bv⟩:=eX (c9.alloc (.cells #[.int .i64 a1,.int .i64 T,.int .i64 X] 40));obtain⟨al,cf⟩:=eX (cb.alloc (.cells #[.int .i64 a2,.int .i64 V,.int .i64 Y] 40));obtain⟨f,cg⟩:=eX w.heap.size;have fl:ac w c9:=by rw[bt];exact(aa.refl _ w).alloc _
 have e8:ac c9 cb:=by rw[bv];exact oR.alloc _
 have cp:ac cb al:=by rw[cf];exact oR.alloc _
 have ec:c9.heap.size=f+1:=by rw[bt,cg];simp
 have fq:cb.heap.size=f+1+1:=by rw[bv];simp[ec]
 have b6:ae al f 24 #[.slice A n c]:=(e8.trans cp).J (by rw[bt,cg];exact bN) nF;have bk:ae al (f+1) 40 #[.int .i64 a1,.int .i64 T,.int .i64 X]:=cp.J (by rw[bv,<-ec];exact bN) nF;have b7:ae al (f+1+1) 40 #[.int .i64 a2,.int .i64 V,.int .i64 Y]:=by rw[cf,<-fq];exact bN
 have e9:ac w al:=fl.trans (e8.trans cp)
 have bz:wrap64 ((b8:Int)+(b9:Int))=c1:=by
  rw[e3];rw[<-ch,<-ci] at ff;unfold wrap64;omega
 have gf:IntKind.i64.wrap ((b8:Int)+(b9:Int))=c1:=(cQ _).trans bz
 have eq:Hd (Calls Tryz.prog 30 #[.agg #[.slice A n c],.slice c8 q e7,.int .i64 u,.int .i64 c1] al λl w'=>vr al w' p q u c1 l):=hD (by
  have:=ti p A c8 c q e7 u c1 F al (dq.U e9);unfold aS at this;rw[<-ck] at this;exact this)
 have c4:=hD (aI b6 (aI bk b7));have fv:=hD e9;have D:=hD (aI ck (aI e4 (aI ch (aI ci e3))));have a3:=hD (aI dq (aI f1 (aI fj (aI f2 (aI f6 (aI f3 (aI fa (aI f4 fb))))))));have ft:=hD cg;have c7:=hD (aI bt.symm (aI bv.symm cf.symm));have ba:=b6.I 0;simp at ba;unfold aS;rw[<-ck,<-e4,<-ch,<-ci];clear ck e4 ch ci e3 bt bv cf cg fl e8 cp ec fq b6 bk b7 e9 dq f1 fj f2 f6 f3 fa f4 fb ff;go_enter Tryz.func7,Tryz.ntmps7;go_upto_region 1 with fail;rw[c7.O.1,c7.O.2.1,c7.O.2.2,<-ft.O];clear c7;go_wp2_with fail;refine eq.O.mono ?_;rintro l m ⟨b,rfl,am,c0⟩;have b5:=hD (fv.O.trans c0);have ar:=hD (aI (c0.J c4.O.1 nF) (aI (c0.J c4.O.2.1 nF) (c0.J c4.O.2.2 nF)));have em:=hD am;clear c0 am eq c4 ba bz gf
 cases b
 case true=>
  go_wp2_with fail;refine(jL _).mono ?_;rintro l d4 ⟨rfl,Z⟩;have aE:=hD Z;clear Z;go_wp2_with fail;go_ret;exact⟨rfl,aa.trans b5.O aE.O⟩
 obtain⟨fm,fn,fo,gt,fp⟩:=em.O rfl;have f8:b8<=1000:=by have:=D.O.2.2.2.2;omega
 have f9:b9<=1000:=by have:=D.O.2.2.2.2;omega
 have N:=hD (aI fm (aI fn (aI fo (aI f8 (aI f9 fp)))));clear fm fn fo gt fp f8 f9 em
 have cs:Hd (∀W,ac w W->Calls Tryz.prog 33 #[.agg #[.slice A n c]] W λl w'=>∃P ab,l=.returned (.agg #[.slice P n ab])/\cy w' (bC W w') P p/\ac W w'):=hD λW j=>by
  have:=rD A p c F W (a3.O.1.U j) (lT N.O.1 (by decide)) (λx gm=>lT (N.O.2.2.2.2.2 x gm) (by decide)) (λb am=>lL (a3.O.2.1 b am) j.size);unfold mX aS at this;rw[<-D.O.1] at this;exact this
 have d2:Hd (∀(W:World) (P ad ai:Option Addr) (ab c' b0:Nat) (c2 cr:Nat->Prop) (b3:List (Int×Nat)) (r:Nat) (cq cm cn:Int),cy W c2 P p->(∀b,c2 b->b<W.heap.size)->aU W cr ad v->cw W W.heap.size 2 ai b3.length (b3.flatMap iq)->r=b3.length->r<=1000->(∀x∈b3,x.2<4294967296)->
  Calls Tryz.prog 32 #[.agg #[.slice P n ab],.slice ad q c',.int .i64 u,.agg #[.int .i64 cq,.int .i64 cm,.int .i64 cn],.slice ai r b0] W λl w'=>qY W w' p v u cq cm cn b3 l):=hD λW P ad ai ab c' b0 c2 cr b3 r cq cm cn go C gp gq fk gr gs=>by
  have:=sJ p P ad ai ab c' b0 c2 cr v u cq cm cn b3 W go C N.O.1 N.O.2.2.2.2.2 a3.O.2.2.1 gp (by rw[<-D.O.2.1];exact N.O.2.1) a3.O.2.2.2.2.1 gq (by rw[<-fk];exact gr) gs N.O.2.2.1;unfold aS at this;rw[<-D.O.1,<-D.O.2.1,<-fk] at this;exact this.mono λl w' k=>k.uni
 have c5:Hd (q=v.length/\v.length<=1000):=hD ⟨D.O.2.1,by rw[<-D.O.2.1];exact lT N.O.2.1 (by decide)⟩;go_upto_region 3 with fail
 go_cut [15,16] (λs15 s16 wx=>tD m wx s15 s16 p v u a1 T X ps)
 case first=>
  have e:Hd (∀W,ac m W->ac m W/\W.cell? ⟨f,0,none⟩=some (.slice A n c)/\W.cell? ⟨f+1,0,none⟩=some (.int .i64 a1)/\W.cell? ⟨f+1,1,none⟩=some (.int .i64 T)/\W.cell? ⟨f+1,2,none⟩=some (.int .i64 X)):=hD λW j=>
   ⟨j,(j.J ar.O.1 nF).I 0,(j.J ar.O.2.1 nF).I 0,(j.J ar.O.2.1 nF).I 1,(j.J ar.O.2.1 nF).I 2⟩
  have av:Hd (∀(g:Nat) (W:World) (v0 v1 v2 v3:Value),(m).heap.size<=g->ac m W->ac m (iE W g v0 v1 v2 v3)/\(iE W g v0 v1 v2 v3).cell? ⟨f,0,none⟩=some (.slice A n c)/\(iE W g v0 v1 v2 v3).cell? ⟨f+1,0,none⟩=some (.int .i64 a1)/\(iE W g v0 v1 v2 v3).cell? ⟨f+1,1,none⟩=some (.int .i64 T)/\(iE W g v0 v1 v2 v3).cell? ⟨f+1,2,none⟩=some (.int .i64 X)):=hD λg W v0 v1 v2 v3 e1 j=>e.O _ (j.trans' (kV W g v0 v1 v2 v3) (λb l=>.inr (by rw[l];exact e1)))
  unfold iE at av;have g9:=e.O m oR
  go_region_held3 (λW=>ac m W/\W.cell? ⟨f,0,none⟩=some (.slice A n c)/\W.cell? ⟨f+1,0,none⟩=some (.int .i64 a1)/\W.cell? ⟨f+1,1,none⟩=some (.int .i64 T)/\W.cell? ⟨f+1,2,none⟩=some (.int .i64 X))
   (first|with_reducible exact av.O _ _ _ _ _ _ E.O K.O|with_reducible exact e.O _ (aa.alloc K.O _)|with_reducible exact e.O _ K.O|with_reducible exact e.O _ (aa.alloc a5.O _)|with_reducible exact e.O _ a5.O|with_reducible exact e.O _ (aa.alloc H.O _)|with_reducible exact e.O _ H.O|with_reducible exact e.O _ (aa.alloc B.O _)|with_reducible exact e.O _ B.O|with_reducible exact e.O _ (aa.drew B.O)|with_reducible exact e.O _ (aa.drew (aa.alloc oR _))|with_reducible exact e.O _ (aa.alloc oR _)|with_reducible exact e.O _ (aa.alloc (aa.drew oR) _)|with_reducible exact e.O _ (aa.drew oR)|with_reducible exact e.O _ oR|fail)
   (first
    |(go_at_call 33;refine(cs.O _ (aa.trans b5.O ?_)).mono ?_;(first|with_reducible exact aa.drew oR|with_reducible exact aa.drew (aa.alloc oR _)|with_reducible exact aa.alloc (aa.drew oR) _|fail);rintro l a6 ⟨P,ab,rfl,bx,b2⟩;have d0:=hD bx;(first|(have a:=hD (b2.J (ae.drew (ae.new m _ _)) nF);have E:Hd ((m).heap.size<=(m).heap.size):=hD (lR))|skip);have B:Hd (ac m a6):=hD (by refine aa.trans ?_ b2;first|with_reducible exact aa.drew oR|with_reducible exact aa.drew (aa.alloc oR _)|with_reducible exact aa.alloc (aa.drew oR) _);clear bx b2)
    |(go_at_call 32;refine(d1.O _ ?_).mono ?_;(first|with_reducible exact oR|with_reducible exact aa.alloc oR _|fail);rintro l W8 ⟨eb,ea,es,ef,fr,k,rfl,a9,bo⟩;have bc:=hD bo;(first|(have a:=hD (a9.J a.O nF))|(have a:=hD (a9.J (ae.new R _ _) nF);have E:Hd ((m).heap.size<=R.heap.size):=hD a5.O.size)|skip);have K:Hd (ac m W8):=hD (by refine aa.trans a5.O (aa.trans ?_ a9);first|with_reducible exact oR|with_reducible exact aa.alloc oR _);(first|(have ba:=a.O.I 0;have eg:=a.O.I 1;have ei:=a.O.I 2;have ej:=a.O.I 3;have g6:=a.O.fz 0;have dl:=a.O.fz 1;have dm:=a.O.fz 2;have dn:=a.O.fz 3;simp at ba eg ei ej)|skip);clear bo a9)
    |(refine vH rfl _ _ rfl rfl rfl c5.O.1 (ed a3.O.2.2.2.1 (aa.trans b5.O (by first|with_reducible exact B.O|with_reducible exact aa.alloc B.O _))) c5.O.2 ?_;intro ad c' Q bq a7;have cv:=hD bq;have az:Hd (ac a6 Q):=hD (by refine aa.trans ?_ a7;first|with_reducible exact oR|with_reducible exact aa.alloc oR _);(first|(have a:=hD (a7.J a.O nF))|(have a:=hD (a7.J (ae.new a6 _ _) nF);have E:Hd ((m).heap.size<=a6.heap.size):=hD B.O.size)|skip);have H:Hd (ac m Q):=hD (aa.trans B.O az.O);clear bq a7)
    |(refine vI (ps:=ps) rfl _ _ rfl rfl rfl D.O.2.2.1 (ed a3.O.2.2.2.2.2.1 (aa.trans b5.O (by first|with_reducible exact H.O|with_reducible exact aa.alloc H.O _))) (by rw[<-D.O.2.2.1];exact N.O.2.2.2.1) ?_;intro ai b0 R br a8;have a4:Hd (ac Q R):=hD (by refine aa.trans ?_ a8;first|with_reducible exact oR|with_reducible exact aa.alloc oR _);(first|(have a:=hD (a8.J a.O nF))|(have a:=hD (a8.J (ae.new Q _ _) nF);have E:Hd ((m).heap.size<=Q.heap.size):=hD H.O.size)|skip);have a5:Hd (ac m R):=hD (aa.trans H.O a4.O);have d1:Hd (∀W,ac R W->Calls Tryz.prog 32 #[.agg #[.slice P n ab],.slice ad q c',.int .i64 u,.agg #[.int .i64 a1,.int .i64 T,.int .i64 X],.slice ai b8 b0] W λl w'=>qY W w' p v u a1 T X ps l):=hD (λW j=>d2.O W _ _ _ _ _ _ _ _ ps b8 a1 T X (d0.O.kp (aa.trans az.O (aa.trans a4.O j)) nG) (λb am=>lL am.2 (aa.trans az.O (aa.trans a4.O j)).size) (cv.O.kp (aa.trans a4.O j) nG) (ed br j) D.O.2.2.1 N.O.2.2.2.1 a3.O.2.2.2.2.2.2.1);clear br a8)
    |fail)
  all_goals (
   go_wp2_with fail;go_meet)
  all_goals (first
   |exact⟨_,_,_,_,_,_,_,rfl,rfl,K.O.alloc _,K.O.size,bN,bc.O.U (oR.alloc _)⟩
   |exact⟨_,_,_,_,_,_,_,rfl,rfl,(av.O _ W8 _ _ _ _ E.O K.O).1,E.O,(((a.O.s_ 0 _).s_ 1 _).s_ 2 _).s_ 3 _,bc.O.set4 a.O (kV W8 _ _ _ _ _)⟩)
 case rest=>
  obtain⟨g,eb,ea,es,ef,fr,k,rfl,rfl,S,d8,bm,bn⟩:=hcut;obtain⟨t,ga⟩:=eX wc;subst ga;have bf:=hD (b5.O.trans S);have bb:=hD (aI (S.J ar.O.1 nF) (S.J ar.O.2.2 nF));have d3:=hD (aI bm bn);obtain⟨ee,e5⟩:=eX (dh p v.length u a1 T X ps);have c6:=hD e5;rw[<-e5];clear S d8 bm bn e5 ar b5;go_upto_region 4 with fail
  go_cut [17,18] (λs15 s16 wx=>tD t wx s15 s16 p v u a2 V Y a0)
  case first=>
   have e:Hd (∀W,ac t W->ac t W/\W.cell? ⟨f,0,none⟩=some (.slice A n c)/\W.cell? ⟨f+1+1,0,none⟩=some (.int .i64 a2)/\W.cell? ⟨f+1+1,1,none⟩=some (.int .i64 V)/\W.cell? ⟨f+1+1,2,none⟩=some (.int .i64 Y)):=hD λW j=>
    ⟨j,(j.J bb.O.1 nF).I 0,(j.J bb.O.2 nF).I 0,(j.J bb.O.2 nF).I 1,(j.J bb.O.2 nF).I 2⟩
   have av:Hd (∀(g:Nat) (W:World) (v0 v1 v2 v3:Value),(t).heap.size<=g->ac t W->ac t (iE W g v0 v1 v2 v3)/\(iE W g v0 v1 v2 v3).cell? ⟨f,0,none⟩=some (.slice A n c)/\(iE W g v0 v1 v2 v3).cell? ⟨f+1+1,0,none⟩=some (.int .i64 a2)/\(iE W g v0 v1 v2 v3).cell? ⟨f+1+1,1,none⟩=some (.int .i64 V)/\(iE W g v0 v1 v2 v3).cell? ⟨f+1+1,2,none⟩=some (.int .i64 Y)):=hD λg W v0 v1 v2 v3 e1 j=>e.O _ (j.trans' (kV W g v0 v1 v2 v3) (λb l=>.inr (by rw[l];exact e1)))
   unfold iE at av;have g9:=e.O t oR
   go_region_held3 (λW=>ac t W/\W.cell? ⟨f,0,none⟩=some (.slice A n c)/\W.cell? ⟨f+1+1,0,none⟩=some (.int .i64 a2)/\W.cell? ⟨f+1+1,1,none⟩=some (.int .i64 V)/\W.cell? ⟨f+1+1,2,none⟩=some (.int .i64 Y))
    (first|with_reducible exact av.O _ _ _ _ _ _ E.O K.O|with_reducible exact e.O _ (aa.alloc K.O _)|with_reducible exact e.O _ K.O|with_reducible exact e.O _ (aa.alloc a5.O _)|with_reducible exact e.O _ a5.O|with_reducible exact e.O _ (aa.alloc H.O _)|with_reducible exact e.O _ H.O|with_reducible exact e.O _ (aa.alloc B.O _)|with_reducible exact e.O _ B.O|with_reducible exact e.O _ (aa.drew B.O)|with_reducible exact e.O _ (aa.drew (aa.alloc oR _))|with_reducible exact e.O _ (aa.alloc oR _)|with_reducible exact e.O _ (aa.alloc (aa.drew oR) _)|with_reducible exact e.O _ (aa.drew oR)|with_reducible exact e.O _ oR|fail)
    (first
     |(go_at_call 33;refine(cs.O _ (aa.trans bf.O ?_)).mono ?_;(first|with_reducible exact aa.drew oR|with_reducible exact aa.drew (aa.alloc oR _)|with_reducible exact aa.alloc (aa.drew oR) _|fail);rintro l a6 ⟨P,ab,rfl,bx,b2⟩;have d0:=hD bx;(first|(have a:=hD (b2.J (ae.drew (ae.new t _ _)) nF);have E:Hd ((t).heap.size<=(t).heap.size):=hD (lR))|skip);have B:Hd (ac t a6):=hD (by refine aa.trans ?_ b2;first|with_reducible exact aa.drew oR|with_reducible exact aa.drew (aa.alloc oR _)|with_reducible exact aa.alloc (aa.drew oR) _);clear bx b2)
     |(go_at_call 32;refine(d1.O _ ?_).mono ?_;(first|with_reducible exact oR|with_reducible exact aa.alloc oR _|fail);rintro l W8 ⟨eb,ea,es,ef,fr,k,rfl,a9,bo⟩;have bc:=hD bo;(first|(have a:=hD (a9.J a.O nF))|(have a:=hD (a9.J (ae.new R _ _) nF);have E:Hd ((t).heap.size<=R.heap.size):=hD a5.O.size)|skip);have K:Hd (ac t W8):=hD (by refine aa.trans a5.O (aa.trans ?_ a9);first|with_reducible exact oR|with_reducible exact aa.alloc oR _);(first|(have ba:=a.O.I 0;have eg:=a.O.I 1;have ei:=a.O.I 2;have ej:=a.O.I 3;have g6:=a.O.fz 0;have dl:=a.O.fz 1;have dm:=a.O.fz 2;have dn:=a.O.fz 3;simp at ba eg ei ej)|skip);clear bo a9)
     |(refine vH rfl _ _ rfl rfl rfl c5.O.1 (ed a3.O.2.2.2.1 (aa.trans bf.O (by first|with_reducible exact B.O|with_reducible exact aa.alloc B.O _))) c5.O.2 ?_;intro ad c' Q bq a7;have cv:=hD bq;have az:Hd (ac a6 Q):=hD (by refine aa.trans ?_ a7;first|with_reducible exact oR|with_reducible exact aa.alloc oR _);(first|(have a:=hD (a7.J a.O nF))|(have a:=hD (a7.J (ae.new a6 _ _) nF);have E:Hd ((t).heap.size<=a6.heap.size):=hD B.O.size)|skip);have H:Hd (ac t Q):=hD (aa.trans B.O az.O);clear bq a7)
     |(refine vI (ps:=a0) rfl _ _ rfl rfl rfl D.O.2.2.2.1 (ed a3.O.2.2.2.2.2.2.2.1 (aa.trans bf.O (by first|with_reducible exact H.O|with_reducible exact aa.alloc H.O _))) (by rw[<-D.O.2.2.2.1];exact N.O.2.2.2.2.1) ?_;intro ai b0 R br a8;have a4:Hd (ac Q R):=hD (by refine aa.trans ?_ a8;first|with_reducible exact oR|with_reducible exact aa.alloc oR _);(first|(have a:=hD (a8.J a.O nF))|(have a:=hD (a8.J (ae.new Q _ _) nF);have E:Hd ((t).heap.size<=Q.heap.size):=hD H.O.size)|skip);have a5:Hd (ac t R):=hD (aa.trans H.O a4.O);have d1:Hd (∀W,ac R W->Calls Tryz.prog 32 #[.agg #[.slice P n ab],.slice ad q c',.int .i64 u,.agg #[.int .i64 a2,.int .i64 V,.int .i64 Y],.slice ai b9 b0] W λl w'=>qY W w' p v u a2 V Y a0 l):=hD (λW j=>d2.O W _ _ _ _ _ _ _ _ a0 b9 a2 V Y (d0.O.kp (aa.trans az.O (aa.trans a4.O j)) nG) (λb am=>lL am.2 (aa.trans az.O (aa.trans a4.O j)).size) (cv.O.kp (aa.trans a4.O j) nG) (ed br j) D.O.2.2.2.1 N.O.2.2.2.2.1 a3.O.2.2.2.2.2.2.2.2);clear br a8)
     |fail)
   all_goals (
    go_wp2_with fail;go_meet)
   all_goals (first
    |exact⟨_,_,_,_,_,_,_,rfl,rfl,K.O.alloc _,K.O.size,bN,bc.O.U (oR.alloc _)⟩
    |exact⟨_,_,_,_,_,_,_,rfl,rfl,(av.O _ W8 _ _ _ _ E.O K.O).1,E.O,(((a.O.s_ 0 _).s_ 1 _).s_ 2 _).s_ 3 _,bc.O.set4 a.O (kV W8 _ _ _ _ _)⟩)
  case rest=>
   obtain⟨h3,gx,gu,h2,b4,ha,h9,rfl,rfl,S,d8,bm,bn⟩:=hcut;obtain⟨fx,gb⟩:=eX wc;subst gb;have cB:=hD (bf.O.trans S);have f5:=S.J d3.O.1 nF;have aw:=hD (aI f5 (aI (d3.O.2.U S) (aI bm bn)));obtain⟨fs,e6⟩:=eX (dh p v.length u a2 V Y a0);have fw:=hD e6;rw[<-e6];clear S d8 bm bn e6 f5 bb bf d3 d2 cs
   by_cases bp:ee=0
   case neg=>
    have gn:(ee !=0)=true:=bT bp;clear bp;go_wp2_with fail;refine(jL _).mono ?_;rintro l d4 ⟨rfl,Z⟩;have aE:=hD Z;clear Z;go_wp2_with fail;go_ret;exact⟨rfl,aa.trans cB.O aE.O⟩
   by_cases dr:fs=0
   case neg=>
    have gn:(ee !=0)=false:=by rw[bp];rfl
    have h8:(fs !=0)=true:=bT dr;clear bp dr;go_wp2_with fail;refine(jL _).mono ?_;rintro l d4 ⟨rfl,Z⟩;have aE:=hD Z;clear Z;go_wp2_with fail;go_ret;exact⟨rfl,aa.trans cB.O aE.O⟩
   subst bp;subst dr;have ds:=aw.O.2.1.good c6.O.symm;have dv:=aw.O.2.2.2.good fw.O.symm;obtain⟨_,ex,eL,f0,d5⟩:=ds;obtain⟨_,b6,bk,b7,d6⟩:=dv;have dl:gx=eb:=b6.trans ex.symm;have dm:gu=ea:=bk.trans eL.symm;have dn:b4=ef:=b7.trans f0.symm;subst dl;subst dm;subst dn;obtain⟨L,dw⟩:=eX ((bI p ⟨[],0,v,u.toNat⟩).map (lN 0));have fd:b4=L.length:=by rw[dw,zY];exact b7
   rw[<-dw] at d5 d6;have c3:=hD (aI d5 (aI d6 fd));obtain⟨g0,g1,d7,S⟩:=aw.O.1.gE4;obtain⟨g3,g4,dk,g5⟩:=aw.O.2.2.1.gE4;have h7:((0:Int) !=0)=false:=rfl;clear ex eL f0 d5 b6 bk b7 d6 dw fd;go_wp2_with fail;clear g0 g1 d7 S g3 g4 dk g5
   go_loopw [19] (λi wr=>∃k:Nat,k<=b4/\i=.int .i64 k/\ac fx wr) (λi _=>b4-(intOf i).toNat)
   case atStart=>exact⟨0,yx _,rfl,oR⟩
   case round=>
    obtain⟨C,ge,rfl,b1⟩:=hrel;have er:=hD b1;have dz:=b1.J aw.O.1 nF;have e0:=b1.J aw.O.2.2.1 nF;have d7:=dz.I 2;simp[] at d7;have dk:=e0.I 2;simp[] at dk
    by_cases an:C<b4
    ·have h6:(0:Int)<=(C:Int):=dN C
     have gc:(C:Int)<(b4:Int):=cN an;have bz:wrap64 ((C:Int)+1)=(C:Int)+1:=CO an (by have:=aw.O.2.1.good c6.O.symm;have g7:=sg p ⟨[],0,v,u.toNat⟩;have cd:=N.O.2.2.1;rw[this.2.2.2.1];have ce:=(oH c6.O.symm).2.2.2;exact lT g7.2 (by show u.toNat+1<=100000;have g8:=(oH c6.O.symm).2.1;unfold iB at g8;omega));have f7:C<L.length:=by rw[<-c3.O.2.2];exact an
     have e2:L[C]?=some L[C]:=gG f7;generalize L[C] =y at*;have cd:=b1.owns c3.O.1 nG;have ce:=b1.owns c3.O.2.1 nG;rw[c3.O.2.2] at cd ce;obtain⟨h4,ds,z⟩:=rF cd e2;obtain⟨h5,dv,x⟩:=rF ce e2;subst ds;subst dv;have h1:=z 0 _ rfl;have hf:=z 1 _ rfl;have hg:=z 2 _ rfl;have hh:=z 3 _ rfl;have hi:=z 4 _ rfl;have h0:=x 0 _ rfl;have hb:=x 1 _ rfl;have hc:=x 2 _ rfl;have hd:=x 3 _ rfl;have he:=x 4 _ rfl;rw[yW] at h1 h0;clear z x cd ce e2 f7 b1 dz e0;go_wp2_with fail
     go_quiet (fail)
     go_wp2_with fail;go_roundw
     case measure=>first|exact aG rfl an|exact aG bz an
     case rel=>exact⟨C+1,an,by first|exact cK C|exact cH bz,er.O.drewN _⟩
    ·have gc:¬(C:Int)<(b4:Int):=λl=>an (yB.1 l)
     clear b1 dz e0 an ge;go_wp2_with fail;refine(jL _).mono ?_;rintro l d4 ⟨rfl,Z⟩;have aE:=hD Z;clear Z;go_wp2_with fail;go_ret;exact⟨rfl,aa.trans (cB.O.trans er.O) aE.O⟩
end
end Go.Proofs.YtmdocplknceilaaGreat
