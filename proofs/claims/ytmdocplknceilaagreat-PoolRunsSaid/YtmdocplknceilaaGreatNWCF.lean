import Derived.Test.YtmdocplknceilaaGreatNWCD
import Derived.Test.YtmdocplknceilaaGreatNWCE
set_option linter.all false
set_option maxRecDepth 100000
set_option maxHeartbeats 8000000
namespace Go.Proofs.YtmdocplknceilaaGreat
section
open Go.RowKit Go.Maps
theorem wB{thr b kk:Int}{c a:Nat}(g:thr=(c:Int))(i:1<=c)(l:c<=4)(m:a<256)(k:b=(a:Int))(j:kk=((a % c:Nat):Int)):
 b.tmod thr=kk/\thr≠0/\(thr==0)=false/\IntKind.i64.wrap b=b/\wrap64 b=b/\IntKind.i64.wrap kk=kk/\wrap64 kk=kk/\0<=kk/\0<=b/\(thr=0)=False:=by
 have d:thr≠0:=by omega
 have n:a % c<c:=Yj _ i;have e:wrap64 b=b:=by unfold wrap64;omega
 have f:wrap64 kk=kk:=by unfold wrap64;omega
 refine⟨?_,d,bF d,(aR _).trans e,e,(aR _).trans f,f,by omega,by omega,eq_false d⟩;rw[k,g,j,Int.tmod_eq_emod_of_nonneg (zD _)];rfl
theorem vl{k:Nat}(a:k<=2000):wrap64 ((k:Int)+1)=(k:Int)+1:=by unfold wrap64;omega
theorem C6{k:Nat}:10000+4*((k+1:Nat):Int)=10000+4*(k:Int)+4:=by omega
theorem C7{k:Nat}(a:k<=2000):10000+4*(k:Int)<=900000000:=by omega
theorem C5{k:Nat}(a:k<=2000):10000+4*(k:Int)<=1000000000:=by omega
theorem ul{n:Nat}(a:n<=401):(n:Int)<=500:=by omega
attribute [local simp] ew fe fD cL dP Region.binds dD dN Is ao Act.put
theorem wX(gc:uZ)(p:List ah)(A az ef:Option Addr)(c bn i6:Nat)(P:List Int)(u:Int)(t l:Nat)(ps:List Dt)(F:Nat->Prop)(w:World)(hd:t<256)(gu:l<256)
 (c0:fN w F A p) (g4:∀b,F b->b<w.heap.size) (hf:∀x∈p,∀o∈x.ops,jW o/\dJ o.n) (g5:cO w w.heap.size 1 az P.length (P.map (Value.int .i64))) (gp:∀x∈P,dJ x)
 (g8:cO w w.heap.size 2 ef ps.length (ps.flatMap A9)) (h2:∀x∈ps,x.1<256/\x.2<4294967296):
 Calls Tryz.prog 3 #[aP p A c,.slice az P.length bn,.int .i64 u,.int .u8 (t:Int),.int .u8 (l:Int),.slice ef ps.length i6] w λa w'=>a=.returned (.bool true)/\ac w w':=by
 obtain⟨n,bm⟩:=eX p.length;obtain⟨q,c8⟩:=eX P.length;obtain⟨a4,dr⟩:=eX ps.length;obtain⟨k8,e0⟩:=eX ((t:Int):Int);obtain⟨j2,dq⟩:=eX ((l:Int):Int);obtain⟨bf,c1⟩:=eX (w.alloc (.cells #[.slice A n c] 24));obtain⟨d0,dk⟩:=eX w.heap.size;have cB:ae bf d0 24 #[.slice A n c]:=by rw[c1,dk];exact bN
 have e7:ac w bf:=by rw[c1];exact(aa.refl _ w).alloc _
 have f5:Hd (Calls Tryz.prog 10 #[.agg #[.slice A n c],.slice az q bn,.int .i64 u,.int .i64 (a4:Int)] bf λa w'=>xw bf w' p q u a4 a):=hD (by
  have:=Az p A az c q bn u a4 F bf (c0.U e7);unfold aP at this;rw[<-bm] at this;exact this)
 have g9:∀(W:World),ac w W->(∀x∈p,x.ops.length<=200)->p.length<=30->q<=100->Calls Tryz.prog 12 #[.agg #[.slice A n c],.slice az q bn,.int .i64 u] W λa w'=>Du W w' p P u a:=by
  intro W d Z a0 al;have:=wV p A az c bn F F P u W (c0.U d) (lT a0 (by decide)) (λx N=>lT (Z x N) (by decide)) (kM g5 d) (by omega);unfold aP at this;rw[<-bm,<-c8] at this;exact this
 have fa:=hD g9;have cv:=hD gc;have eg:=hD cB;have hO:=hD e7;have a5:=hD (aI bm (aI c8 (aI dr (aI e0 dq))));have V:=hD (aI hd (aI gu (aI c0 (aI g4 (aI hf (aI gp (aI g8 h2)))))));have hM:=hD dk;have fk:=hD c1.symm;have hz:=cB.I 0;simp at hz;unfold aP;rw[<-bm,<-c8,<-dr,<-e0,<-dq];clear gc bm c8 dr e0 dq c1 dk cB e7 g9 hd gu c0 g4 hf g5 gp g8 h2;go_enter Tryz.func3,Tryz.ntmps3;go_upto_region 1 with fail;rw[fk.O,<-hM.O];clear fk;go_wp2_with fail;refine f5.O.mono ?_;rintro a i3 ⟨b,rfl,hb,e9⟩;have cm:=hD (hO.O.trans e9);have cg:=hD (e9.J eg.O nF);have f4:=hD hb;have hA:=cg.O.I 0;simp at hA;clear e9 hb f5 eg hz
 cases b
 case true=>
  go_wp2_with fail;refine(cv.O _).mono ?_;rintro a fv ⟨rfl,ad⟩;have bb:=hD ad;clear ad;go_wp2_with fail;go_ret;exact⟨rfl,aa.trans cm.O bb.O⟩
 obtain⟨e4,e5,hi,hj,e6⟩:=f4.O rfl;have Q:=hD (aI e4 (aI e5 (aI hi (aI hj e6))));have f9:=hD (fa.O i3 cm.O e6 e4 e5);clear e4 e5 hi hj e6 f4 fa;go_wp2_with fail;refine f9.O.mono ?_;rintro a bk ⟨cd,eb,ec⟩;have f6:=hD (cm.O.trans cd);have ei:=hD (cd.J cg.O nF);have hB:=ei.O.I 0;simp at hB;have kd:=hD cd;clear cd hA f9 cg;obtain⟨ho,b4⟩:=eX (js p P.length u)
 by_cases b1:ho=0
 ·obtain⟨B,D,rfl,d5⟩:=ec (b4.symm.trans b1)
  have kf:=hD d5;have hT:=hD (b4.symm.trans b1);have d3:=wT hT.O Q.O.2.2.2.2 V.O.2.2.2.2.1 V.O.2.2.2.2.2.1;obtain⟨x,N⟩:=eX (⟨[],0,P,u.toNat⟩ :aj);obtain⟨kp,gs⟩:=eX (sB ([]:List UInt8));obtain⟨a9,gt⟩:=eX ((u.toNat:Int):Int);have dz:bO ⟨[],0,P,u.toNat⟩ B D= #[.string kp,.int .i64 0,.slice B q D,.int .i64 a9]:=by rw[gs,gt,a5.O.2.1];rfl
  have ff:Hd (bO x B D= #[.string kp,.int .i64 0,.slice B q D,.int .i64 a9]):=hD (by rw[N];exact dz);rw[dz];rw[<-N] at d3;have ai:=hD d3;have ba:=hD N;obtain⟨H,c2⟩:=eX (bk.alloc (.cells #[.string kp,.int .i64 0,.slice B q D,.int .i64 a9] 30));obtain⟨X,dd⟩:=eX bk.heap.size;have bo:ac bk H:=by rw[c2];exact oR.alloc _
  have ej:Hd (ae H X 30 #[.string kp,.int .i64 0,.slice B q D,.int .i64 a9]):=hD (by rw[c2,dd];exact bN);have f7:=hD (f6.O.trans bo);have ek:=hD (bo.J ei.O nF);have fj:Hd (aL H (λb=>b<H.heap.size) B x.args):=hD (by rw[N];exact(d5.kp bo nG).mo λb hb=>lL hb.2 bo.size)
  have ex:Hd (Calls Tryz.prog 13 #[.agg #[.slice A n c],.agg #[.string kp,.int .i64 0,.slice B q D,.int .i64 a9]] H λa w'=>xr H w' (λb=>b<H.heap.size) p x a):=hD (by
   have:=xN (A:=A) (c:=c) (F:=F) ai.O.1.ok (x.fuel+1) x (Yf _) B D _ H (V.O.2.2.1.U f7.O) fj.O ai.O.2.1;unfold aP at this;rw[ff.O,<-a5.O.1] at this;exact this)
  have fl:=hD c2.symm;have hI:=hD dd;obtain⟨b7,b8,k9,ka⟩:=ej.O.gE4;have hC:=ek.O.I 0;simp at hC;clear eb ec b4 b1 d5 d3 N gs gt dz c2 dd bo hB;go_upto_region 4 with fail;rw[fl.O,<-hI.O];clear fl;go_wp2_with fail;refine ex.O.mono ?_;rintro a fs ⟨v,rfl,c5,hl,is⟩
  obtain⟨bq,bz,hv⟩ :∃bq bz,v=.slice bq (aK p x).length bz:=by
   obtain⟨l5,_,m,_⟩:=c5;exact bP m
  subst hv;obtain⟨nw,ds⟩:=eX ((aK p x).length);rw[<-ds];unfold eO;generalize (bH p x).v=k3;generalize (bH p x).e=k2;have hG:=hD c5;have aw:=hD ds;obtain⟨aE,c3⟩:=eX (fs.alloc (.cells #[.int .i64 k3,.int .i64 k2] 35));obtain⟨kv,gn⟩:=eX fs.heap.size;have ea:ac H aE:=by rw[c3];exact hl.trans (oR.alloc _)
  have er:Hd (bi aE (λb=>b<H.heap.size\/H.heap.size<=b) (.slice bq (aK p x).length bz) (aK p x)):=hD (c5.U (by rw[c3];exact oR.alloc _));have hP:=hD ea;have hQ:=hD (f7.O.trans ea);have fm:=hD c3.symm;have hJ:=hD gn
  have em:Hd (∃(thr ab:Int) (S lg:Nat),(thr=(S:Int)/\ab=(lg:Int)/\1<=S/\S<=4/\lg<=2)/\Calls Tryz.prog 14 #[.int .u8 k8,.int .u8 j2] aE λa w'=>a=.returned (.agg #[.int .i64 thr,.int .i64 ab,.int .i64 500])/\ac aE w'):=hD (by
   refine⟨_,_,t % 4+1,l % 3,⟨rfl,rfl,by omega,by omega,by omega⟩,?_⟩;have:=B4 t l V.O.1 V.O.2.1 aE;rw[<-a5.O.2.2.2.1,<-a5.O.2.2.2.2] at this;exact this)
  clear c5 hl is ds c3 gn ea b7 b8 k9 ka hC ex;go_upto_region 7 with fail;rw[fm.O,<-hJ.O];clear fm;obtain⟨thr,ab,S,lg,gf,g1⟩:=em.O;have E:=hD gf;have en:=hD g1;clear gf g1 em;go_wp2_with fail;refine en.O.mono ?_;rintro a ft ⟨rfl,hm⟩;obtain⟨W8,c4⟩:=eX (ft.alloc (.cells #[.int .i64 thr,.int .i64 ab,.int .i64 500] 40));obtain⟨Y,a2⟩:=eX ft.heap.size;have ce:ac aE W8:=by rw[c4];exact hm.trans (oR.alloc _)
  have b9:Hd (ae W8 Y 40 #[.int .i64 thr,.int .i64 ab,.int .i64 500]):=hD (by rw[c4,a2];exact bN);have cn:=hD (hQ.O.trans ce);have bv:=hD (hP.O.trans ce);have bt:=hD (bv.O.J ej.O nF);have hF:=hD (bv.O.J ek.O nF);have es:=hD (er.O.U ce);have fn:=hD c4.symm;have hL:=hD a2;clear hm c4 a2 ce en;go_upto_region 8 with fail;rw[fn.O,<-hL.O];clear fn
  have eq:Hd (∀W,ac W8 W->Calls Tryz.prog 16 #[.agg #[.slice A n c]] W λa w'=>∃a7 b5,a=.returned (.agg #[.slice a7 n b5])/\dg w' (bC W w') a7 p/\ac W w'):=hD λW d=>by
   have:=tm A p c F W (V.O.2.2.1.U (cn.O.trans d)) (lT Q.O.1 (by decide)) (λx N=>lT (Q.O.2.2.2.2 x N) (by decide)) (λb hb=>lL (V.O.2.2.2.1 b hb) (cn.O.trans d).size);unfold oO aP at this;rw[<-a5.O.1] at this;exact this
  have el:Hd (∀W a7 b5 br,ac W8 W->dg W br a7 p->(∀b,br b->b<W.heap.size)->Calls Tryz.prog 15 #[.agg #[.int .i64 thr,.int .i64 ab,.int .i64 500],.agg #[.slice a7 n b5],.agg #[.string kp,.int .i64 0,.slice B q D,.int .i64 a9]] W λa w'=>xn W w' p x S 1 500 a):=hD λW a7 b5 br d ib i7=>by
   have ic:(x.fuel:Int)+1<=500:=by
    have Z:x.fuel=u.toNat:=by rw[ba.O]
    have a0:=Q.O.2.2.1;have al:=ai.O.2.2;omega
   have ia:x.args.length<=100000:=by
    have Z:x.args=P:=by rw[ba.O]
    have a0:=Q.O.2.1;have al:=a5.O.2.1;rw[Z];omega
   have:=pD S lg 500 E.O.2.2.1 (lT E.O.2.2.2.1 (by decide)) (lT E.O.2.2.2.2 (by decide)) (by decide) (by decide) p a7 b5 br x B D _ W ib i7 ai.O.1 (lT Q.O.1 (by decide)) (λx N=>lT (Q.O.2.2.2.2 x N) (by decide)) (fj.O.kp (bv.O.trans d) nG) (λb hb=>lL hb (bv.O.trans d).size) ai.O.2.1 ia (by rw[ba.O]) ic;unfold aP at this;rw[ff.O,<-a5.O.1,<-E.O.1,<-E.O.2.1] at this;exact this
  have C:Hd (∀W,ac W8 W->ac W8 W/\W.cell? ⟨Y,0,none⟩=some (.int .i64 thr)/\W.cell? ⟨Y,1,none⟩=some (.int .i64 ab)/\W.cell? ⟨Y,2,none⟩=some (.int .i64 500)/\W.cell? ⟨d0,0,none⟩=some (.slice A n c)/\W.cell? ⟨X,0,none⟩=some (.string kp)/\W.cell? ⟨X,1,none⟩=some (.int .i64 0)/\W.cell? ⟨X,2,none⟩=some (.slice B q D)/\W.cell? ⟨X,3,none⟩=some (.int .i64 a9)):=hD λW d=>
   ⟨d,(d.J b9.O nF).I 0,(d.J b9.O nF).I 1,(d.J b9.O nF).I 2,(d.J hF.O nF).I 0,(d.J bt.O nF).I 0,(d.J bt.O nF).I 1,(d.J bt.O nF).I 2,(d.J bt.O nF).I 3⟩
  have d4:=C.O W8 oR
  go_region_held3 (λW=>ac W8 W/\W.cell? ⟨Y,0,none⟩=some (.int .i64 thr)/\W.cell? ⟨Y,1,none⟩=some (.int .i64 ab)/\W.cell? ⟨Y,2,none⟩=some (.int .i64 500)/\W.cell? ⟨d0,0,none⟩=some (.slice A n c)/\W.cell? ⟨X,0,none⟩=some (.string kp)/\W.cell? ⟨X,1,none⟩=some (.int .i64 0)/\W.cell? ⟨X,2,none⟩=some (.slice B q D)/\W.cell? ⟨X,3,none⟩=some (.int .i64 a9))
   (first|with_reducible exact C.O _ a6.O|with_reducible exact C.O _ (aa.drew a6.O)|with_reducible exact C.O _ hY.O|with_reducible exact C.O _ (aa.drew oR)|with_reducible exact C.O _ oR|fail)
   (first
    |(go_at_call 16;refine(eq.O W8.drew (aa.drew oR)).mono ?_;rintro a W9 ⟨a7,b5,rfl,h3,hn⟩;have hR:=hD h3;have a6:Hd (ac W8 W9):=hD (aa.trans (aa.drew oR) hn);clear h3 hn)
    |(go_at_call 15;refine(el.O W9 _ _ _ a6.O hR.O (λb hb=>hb.2)).mono ?_;rintro a fp ⟨k5,L,ht,rfl,d2,gm,gw,gD,h5⟩;have hN:=hD d2;have cp:=hD (aI gm (aI gw (aI gD h5)));have hY:Hd (ac W8 fp):=hD (a6.O.trans d2.U);clear d2 gm gw gD h5)
    |fail)
  clear d4 C eq el;obtain⟨G,b0⟩:=eX (kg 1 p x);obtain⟨bp,dv⟩:=eX L.pb
  have d1:nw<=401:=by
   have Z:=Ef p x;have a0:x.fuel=u.toNat:=by rw[ba.O]
   have al:=Q.O.2.2.1;rw[<-aw.O] at Z;omega
  have ge:gj G [1] =nw:=by rw[b0,tS,aw.O]
  have h6:pot 10 (nw:Int) (ez ht ⟨1,[]⟩ x)<=200*((nw:Int)+4):=by
   refine un (cp.O.1.pot (c:=10) ⟨1,[]⟩ x) ?_ d1 (by rw[aw.O];exact Bd p x);have a0:x.fuel=u.toNat:=by rw[ba.O]
   have al:=Q.O.2.2.1;omega
  have g3:pV G W9 fp (10000+4*((0:Nat):Int)) bp 500 S ⟨1,[]⟩ (λs=>pot 10 (nw:Int) s<=200*((nw:Int)+4)):=
   ⟨k5,L,ez ht ⟨1,[]⟩ x,by rw[b0];exact hN.O,dv.symm,cp.O.2.2.1,cp.O.2.1,λa=>(by simp[ez,iC,ay] at a),h6⟩
  have g7:gL G:=by rw[b0];exact vi ai.O.1 ai.O.2.1
  have g6:∀j,G j≠none->j∈[(1:Int)]:=by rw[b0];exact vh
  have f0:=hD g3;have e:=hD (aI g7 (aI g6 (aI ge (aI d1 b0))));have f8:=hD (cn.O.trans a6.O);have hH:=hD (es.O.U a6.O);unfold ptr;rw[<-dv];have gB:a4<=2000:=by have:=Q.O.2.2.2.1;omega
  have ck:=hD gB;clear b0 dv d1 ge h6 g3 g7 g6 gB hG er es;go_wp2_with fail
  go_loopw [19] (λi wr=>∃k:Nat,k<=a4/\i=.int .i64 k/\pV G W9 wr (10000+4*(k:Int)) bp 500 S ⟨1,[]⟩ (λs=>pot 10 (nw:Int) s<=200*((nw:Int)+4))) (λi _=>a4-(intOf i).toNat)
  case atStart=>exact⟨0,yx _,rfl,f0.O⟩
  case round=>
   obtain⟨k,dl,rfl,g2⟩:=hrel;have eL:=hD g2;clear g2
   by_cases b2:k<a4
   ·have l1:(0:Int)<=(k:Int):=dB k
    have ih:(k:Int)<(a4:Int):=cy b2;have hg:wrap64 ((k:Int)+1)=(k:Int)+1:=vl (lT dl ck.O);obtain⟨k6,hW,hu,R,a8,K,a3,an,ar⟩:=eL.O;have gx:k<ps.length:=by rw[<-a5.O.2.2.1];exact b2
    have am:ps[k]?=some ps[k]:=gG gx;generalize ps[k] =y at*;obtain⟨bx,cf,i8,b7,b8⟩:=Fg (kM V.O.2.2.2.2.2.2.1 f8.O) am;have e3:=V.O.2.2.2.2.2.2.2 y (yh am);have a2:=a6.O.J b9.O nF;obtain⟨hy,e1⟩:=eX ((y.1:Int):Int);obtain⟨fw,d9⟩:=eX ((y.2:Int):Int);obtain⟨kk,dm⟩:=eX (((y.1 % S:Nat):Int):Int);have iw:=wB E.O.1 E.O.2.2.1 E.O.2.2.2.1 e3.1 e1 dm;obtain⟨j5,j7,j8,jd,ji,jj,jn,k0,k1,j6⟩:=iw;have dp:y.1 % S<hu.ths.length:=by rw[a3];exact Yj _ E.O.2.2.1
    have c9:=λ(W:World) (d:ac wr W)=>(R.at_ d).pstep (jl:=[(1:Int)]) e.O.1 e.O.2.1 (by rw[e.O.2.2.1];exact lT e.O.2.2.2.1 (by decide)) (C5 (lT dl ck.O)) (by rw[e.O.2.2.1,K];exact ul e.O.2.2.2.1) (by rw[K];decide) dp y.2 e3.2
    rw[a8,<-dm,<-d9] at c9;unfold ptr at c9;rw[<-e1] at b7;rw[<-d9] at b8;have fd:=hD c9;have ci:=hD (aI R (aI a8 (aI K (aI a3 (aI an ar)))));have f3:=hD dp;subst i8;have v0:=a2.I 0;simp[] at v0;clear c9 R a8 K a3 an ar gx am e3 a2 e1 d9 dm dp;have C:Hd (∀W,ac W9 W->ac W9 W/\W.cell? ⟨bx,cf+k*2,none⟩=some (.int .u8 hy)/\W.cell? ⟨bx,cf+k*2+1,none⟩=some (.int .u32 fw)/\W.cell? ⟨Y,0,none⟩=some (.int .i64 thr)):=hD λW d=>⟨d,(d.I (block_lt_of_cell b7) nF).trans b7,(d.I (block_lt_of_cell b8) nF).trans b8,(d.I (block_lt_of_cell v0) nF).trans v0⟩
    have cw:Hd (ac W9 wr):=hD ci.O.1.U;have d4:=C.O wr cw.O;clear b7 b8 v0;go_upto_region 14 with fail
    go_region_held3 (λW=>ac W9 W/\W.cell? ⟨bx,cf+k*2,none⟩=some (.int .u8 hy)/\W.cell? ⟨bx,cf+k*2+1,none⟩=some (.int .u32 fw)/\W.cell? ⟨Y,0,none⟩=some (.int .i64 thr))
     (first|with_reducible exact C.O _ i1.O|with_reducible exact C.O _ (aa.drew cw.O)|with_reducible exact C.O _ cw.O|fail)
     (first
      |(go_at_call 17;refine(fd.O wr.drew (aa.drew oR)).mono ?_;rintro a bk ⟨bs,k4,rfl,av,he⟩;have fb:=hD (aI av ((ci.O.1.at_ (aa.drew (aa.refl _ wr))).step f3.O av he));have i1:Hd (ac W9 bk):=hD (by obtain⟨l7,kl,cb,_⟩:=fb.O.2;exact cb.U);clear av he)
      |fail)
    clear d4 C j5 j7 j8 jd ji jj jn k0 k1 j6 fd;go_wp2_with fail;go_roundw
    case measure=>first|exact au rfl b2|exact au hg b2
    case rel=>
     obtain⟨av,k7,hX,cb,j3,j4⟩:=fb.O;obtain⟨R,a8,K,a3,an,ar⟩:=ci.O;refine⟨k+1,b2,by first|exact cK k|exact cH hg,k7,hX,k4,by rw[C6];exact cb,j3.trans a8,j4.trans K,(nE av).trans a3,tJ R.r.inv.t cb.r.inv.t (pS av) an,?_⟩;exact Ya (sO.le (R.r.inv.step_dec (by decide) f3.O av)) ar
   ·have ih:¬(k:Int)<(a4:Int):=λa=>b2 (yB.1 a)
    obtain⟨k6,hW,hu,R,a8,K,a3,an,ar⟩:=eL.O;have a2:=(a6.O.trans R.U).J b9.O nF;have c6:=qH (jl:=[(1:Int)]) R e.O.1 e.O.2.1 (by rw[e.O.2.2.1];exact lT e.O.2.2.2.1 (by decide)) (by rw[e.O.2.2.1,K];exact ul e.O.2.2.2.1) (by rw[K];decide) an (by rw[a3];exact E.O.2.2.1) nw (lT e.O.2.2.2.1 (by decide)) (by rw[e.O.2.2.1];exact ar) (C7 (lT dl ck.O));rw[a8,K,a3,<-E.O.1] at c6;unfold ptr at c6;have f1:=hD c6;have v0:=a2.I 0;simp[] at v0;clear c6 R a8 K a3 an ar a2 f0;go_wp2_with fail;refine f1.O.mono ?_;rintro a kt ⟨rfl,l6,ki,b6,a1,c7,il,it,gN,gq⟩;obtain⟨hE,i4,da⟩:=bP (a1.h.p7 (by decide)).2
    have gr:b6.T.ks.length<=1000:=by
     have Z:=a1.r.inv.t.keys_le [1] e.O.2.1;have a0:=e.O.2.2.1;unfold gj at a0;have al:=e.O.2.2.2.1;omega
    have d8:=se a1.h;rw[c7,da,a1.dn] at d8;rw[a1.dn] at da;obtain⟨l0,go⟩:=eX b6.T.hist.length;have h4:W9.heap.size<=bp:=a1.new bp (by rw[<-c7,(a1.h.p1 (by decide)).1];decide);have hS:=hD h4;have ch:=hD d8;have f:=hD (aI a1 (aI c7 (aI gN (aI gq (aI gr go)))));unfold ptr at ch;clear a1 c7 il it gN gq da gr d8 go h4 v0 f1;go_wp2_with fail;refine ch.O.mono ?_;rintro a fq ⟨rfl,gb,h0,h1⟩;have fo:Hd (ac W9 fq):=hD (f.O.1.U.trans' h0 (λb a=>.inr (by rw[a];exact hS.O)))
    have db:=su b6.T.hist (aK p x) hE bq i4 bz 1 _ fq h1 (hH.O.U fo.O) (f.O.1.r.inv.told_one f.O.1.outs f.O.2.2.2.1 (by rw[e.O.2.2.2.2];exact pe 1 p x) (λj1 a=>mq (by rw[<-e.O.2.2.2.2];exact a)) f.O.2.2.1)
     (λg ie=>by
      obtain⟨l4,kn,l8⟩:=g;obtain⟨r,iz,_⟩:=(f.O.1.r.inv.t.hist _ _ _).1 ie;obtain⟨_,_,_,_,_,_,_,_,_,iv⟩:=f.O.1.r.inv.row_ok e.O.1 iz;exact iv) (lT f.O.1.r.inv.t.hist_le f.O.2.2.2.2.1) (by rw[<-aw.O];exact lT e.O.2.2.2.1 (by decide))
    rw[<-f.O.2.2.2.2.2,<-aw.O] at db;rw[<-f.O.2.2.2.2.2];have f2:=hD db;have hV:=hD gb;clear gb h0 h1 db ch;go_wp2_with fail;refine f2.O.mono ?_;rintro a fr ⟨rfl,e8⟩;have hZ:=hD (fo.O.trans e8);have ha:=si (hV.O.U e8) f.O.2.2.1 f.O.2.2.2.2.1;have h9:Calls Tryz.prog 21 #[ptr bp] fr λa w'=>kZ fr w' b6.T.rw a:=ha
    clear ha;have cr:=hD h9;unfold ptr at cr;clear e8 h9 f2;go_wp2_with fail;refine cr.O.mono ?_;rintro a i2 h7;obtain⟨kS,ku,rl,rfl,h8,hk,hr,ee,hs⟩:=kZ.row (n:=⟨1,[]⟩) h7 f.O.2.2.1
    have dw:rl.length=nw:=by
     have Z:=f.O.1.r.inv.keys_one f.O.1.outs f.O.2.2.2.1 (by rw[e.O.2.2.2.2];exact pe 1 p x) (λj1 a=>mq (by rw[<-e.O.2.2.2.2];exact a)) f.O.2.2.1;rw[aw.O,<-Z]
     have a0:=gY (rl.map (·.n)) b6.T.ks hr (λy e2=>by
      obtain⟨z,j0,rfl⟩:=yL.1 e2;exact(f.O.1.r.inv.t.ks _).2 (by rw[ee z j0];simp))
     have al:=gY b6.T.ks (rl.map (·.n)) f.O.1.r.inv.t.nodup (λy e2=>hs y ((f.O.1.r.inv.t.ks _).1 e2));rw[zY] at a0 al;omega
    have cq:=hD (aI h8 (aI ee dw));have i0:=hD (hZ.O.trans hk);rw[dw];clear h7 h8 hk hr ee hs dw cr;go_wp2_with fail
    go_loopw [23] (λi wx=>∃m:Nat,m<=nw/\i=.int .i64 m/\ac i2 wx) (λi _=>nw-(intOf i).toNat)
    case atStart=>exact⟨0,yx _,rfl,oR⟩
    case round=>
     obtain⟨m,ik,rfl,hc⟩:=hrel;have cs:=hD hc;clear hc
     by_cases b3:m<nw
     ·have l2:(0:Int)<=(m:Int):=dB m
      have ii:(m:Int)<(nw:Int):=cy b3;have hh:wrap64 ((m:Int)+1)=(m:Int)+1:=vl (lT ik (lT e.O.2.2.2.1 (by decide)));have gA:m<rl.length:=by rw[cq.O.2.2];exact b3
      have am:rl[m]?=some rl[m]:=gG gA;generalize rl[m] =y at*;have d7:=Bt (cs.O.owns cq.O.1 nG) am;obtain⟨fx,g0,_⟩:=f.O.1.r.inv.idle_over f.O.1.outs f.O.2.2.2.1 (cq.O.2.1 y (yh am));have kb:=d7 6 _ rfl;have kc:=d7 7 _ rfl;rw[fx] at kb;rw[g0] at kc;clear am gA d7 fx g0;go_wp2_with fail;go_roundw
      case measure=>first|exact au rfl b3|exact au hh b3
      case rel=>exact⟨m+1,b3,by first|exact cK m|exact cH hh,cs.O⟩
     ·have ii:¬(m:Int)<(nw:Int):=λa=>b3 (yB.1 a)
      go_wp2_with fail;refine(cv.O _).mono ?_;rintro a fv ⟨rfl,ad⟩;have bb:=hD ad;clear ad;go_wp2_with fail;go_ret;exact⟨rfl,((f8.O.trans (i0.O.trans cs.O)).trans bb.O)⟩
 ·have hv:=eb (λa=>b1 (b4.trans a))
  rw[<-b4] at hv;subst hv;have l3:(ho !=0)=true:=bT b1;clear eb ec b4 b1;go_wp2_with fail;refine(cv.O _).mono ?_;rintro a fv ⟨rfl,ad⟩;have bb:=hD ad;clear ad;go_wp2_with fail;go_ret;exact⟨rfl,aa.trans (f6.O.alloc _) bb.O⟩
theorem uW:uZ:=by
 intro w;have ai:=hD (vW w);go_enter Tryz.func11,Tryz.ntmps11;go_wp2_with fail;refine ai.O.mono ?_;rintro d W ⟨c5,cn,rfl,b7,bm⟩;have c0:=hD b7;have bx:=hD bm;clear b7 bm ai;unfold aP;obtain⟨l,D⟩:=eX (W.alloc (.cells #[.int .i64 4] 2));obtain⟨g,a1⟩:=eX W.heap.size;have Q:ac W l:=by rw[D];exact oR.alloc _
 have u:ae l g 2 #[.int .i64 4]:=by rw[D,a1];exact bN
 have an:aL l (λb=>b<l.heap.size) (some ⟨g,0,none⟩) fg.args:=.inr ⟨g,0,rfl,λ_=>⟨u.lt,_,u⟩,λk d9=>⟨u.lt,by
  have cb:fg.args.length=1:=rfl;have c9:k=0:=by omega
  subst c9;exact u.I 0⟩⟩
 have Z:=pD 2 1 100 (by decide) (by decide) (by decide) (by decide) (by decide) dA c5 cn _ fg (some ⟨g,0,none⟩) 1 _ l (c0.O.U Q) (λb p=>lL p.2 Q.size) qe (by decide) (λx ck=>(qe.wf x ck).1) an (λb p=>p) n8 (by decide) rfl (by decide);unfold aP bO at Z;have br:=hD Z;have bt:=hD D.symm;have bv:=hD a1;have bz:=hD (bx.O.trans Q);clear D a1 Q u an Z;go_wp2_with fail;rw[bt.O,<-bv.O];refine br.O.mono ?_;rintro d d2 ⟨da,L,cp,rfl,o,aw,b1,b2,ch⟩;obtain⟨G,m⟩:=eX (kg 1 dA fg);obtain⟨s,A⟩:=eX (ez cp ⟨1,[]⟩ fg);obtain⟨ab,K⟩:=eX L.pb;have P:s.T.rw ⟨1,[]⟩=some ⟨fg,1,0,⟨0,0⟩,false,0,false⟩:=by rw[A];simp[ez,iC,ay]
 have a6:(aK dA fg).length=2:=by rw[mz];rfl
 have Y:gj G [1] =2:=by rw[m,tS,a6]
 have b9:pot 10 (2:Nat) s<=200*(((2:Nat):Int)+4):=by
  rw[A];exact un (aw.pot (c:=10) ⟨1,[]⟩ fg) (by decide) (by decide) (by decide)
 rw[<-A,<-m] at o;have aE:gL G:=by rw[m];exact vi qe n8
 have a4:∀j,G j≠none->j∈[(1:Int)]:=by rw[m];exact vh
 have b4:s.ths.length=2:=by rw[A];exact b1
 have f:=sf o.h o.r.inv (n:=⟨1,[]⟩) (by rw[P];simp) (by have:=o.r.inv.t.keys_le [1] a4;unfold gj at Y;omega);have b3:¬s.idle:=λd=>by have:=d _ _ P;simp at this
 have a:=hD (aI o (aI b2 (aI K (aI P (aI a6 (aI Y (aI b9 (aI aE (aI a4 (aI b4 (aI b3 m)))))))))));rw[<-K] at f;unfold ptr at f;have al:=hD f;unfold ptr;rw[<-K];clear o aw b1 b2 ch m A K P a6 Y b9 aE a4 b4 f b3;go_wp2_with fail;refine al.O.mono ?_;rintro d d3 ⟨b,rfl,p,a9⟩
 have ce:b=false:=by
  cases b
  ·rfl
  ·exact absurd (p.1 rfl) a.O.2.2.2.2.2.2.2.2.2.2.1
 subst ce;have cB:=hD a9;have F:=qH (jl:=[(1:Int)]) (a.O.1.at_ a9) a.O.2.2.2.2.2.2.2.1 a.O.2.2.2.2.2.2.2.2.1 (by rw[a.O.2.2.2.2.2.1];decide) (by rw[a.O.2.2.2.2.2.1,a.O.2.1];decide) (by rw[a.O.2.1];decide) (n0:=⟨1,[]⟩) (by rw[a.O.2.2.2.1];simp) (by rw[a.O.2.2.2.2.2.2.2.2.2.1];decide) 2 (by decide) (by rw[a.O.2.2.2.2.2.1];exact a.O.2.2.2.2.2.2.1) (by decide);rw[a.O.2.2.2.2.2.2.2.2.2.1,<-a.O.2.2.1] at F;unfold ptr at F;have ad:=hD F;clear p a9 F al;go_wp2_with fail;refine ad.O.mono ?_;rintro d d0 ⟨rfl,db,c2,R,e,N,cf,cg,H,f⟩
 have b0:R.T.ks.length<=1000:=by
  have cb:=e.r.inv.t.keys_le [1] a.O.2.2.2.2.2.2.2.2.1;have X:=a.O.2.2.2.2.2.1;unfold gj at X;omega
 have a2:G 1=some (dA,fg):=by rw[a.O.2.2.2.2.2.2.2.2.2.2.2];exact pe 1 _ _
 have a3:∀a8,G a8≠none->a8=1:=λa8 d=>mq (by rw[<-a.O.2.2.2.2.2.2.2.2.2.2.2];exact d)
 have az:=vM (e.r.inv.told_one e.outs f a2 a3 H) e.ord.order;have a5:=e.r.inv.keys_one e.outs f a2 a3 H;rw[mz] at a5;have E:=e.dn;rw[az] at E
 obtain⟨C,am,av⟩ :∃C am,c2.dv=.slice (some ⟨C,0,none⟩) 2 am:=by
  have:=(e.h.p7 (by decide)).2;rw[E] at this
  rcases this.2 with⟨_,c8⟩|⟨g,c6,cur,c7,_⟩
  ·cases c8
  ·exact⟨g,c6,c7⟩
 have a0:=se e.h;rw[N,av,E] at a0;have b8:l.heap.size<=ab:=e.new ab (by rw[<-N,(e.h.p1 (by decide)).1];decide);have c1:=hD b8;have S:=hD a0;have i:=hD (aI e (aI N (aI H (aI f (aI b0 a5)))));unfold ptr at S;clear e N cf cg H f av b0 a0 b8 a2 a3 az a5 E ad;go_wp2_with fail;refine S.O.mono ?_;rintro d B ⟨rfl,ar,b5,b6⟩;have c3:Hd (ac l B):=hD (i.O.1.U.trans' b5 (λb d=>.inr (by rw[d];exact c1.O)))
 have q:∀(k:Nat) (v:Value),([.int .u64 1,.string ⟨#[1]⟩,.int .i64 0,.int .i64 4,.int .i64 0,.int .u64 1,.string ⟨#[]⟩,.int .i64 1,.int .i64 8,.int .i64 0]:List Value)[k]?=some v->B.cell? ⟨C,k,none⟩=some v:=λk v hv=>by
  have:=World.ownsRow.cells b6 (g:=C) rfl k v hv;rw[bw,yq] at this;exact this
 have cq:=q 1 _ rfl;have cr:=q 3 _ rfl;have cs:=q 7 _ rfl;have cv:=q 8 _ rfl;have cw:=q 9 _ rfl;have bk:=si ar i.O.2.2.1 i.O.2.2.2.2.1;have bf:Calls Tryz.prog 21 #[ptr ab] B λd w'=>kZ B w' R.T.rw d:=bk
 clear bk;have V:=hD bf;unfold ptr at V;clear ar b5 b6 q bf S;go_wp2_with fail;refine V.O.mono ?_;rintro d d1 ba;obtain⟨d5,d4,rl,rfl,ci,bn,bo,bp,bq⟩:=kZ.row (n:=⟨1,[]⟩) ba i.O.2.2.1
 have bb:rl.length=2:=by
  have X:=gY (rl.map (·.n)) R.T.ks bo (λy a7=>by
   obtain⟨z,cm,rfl⟩:=yL.1 a7;exact(i.O.1.r.inv.t.ks _).2 (by rw[bp z cm];simp))
  have cd:=gY R.T.ks (rl.map (·.n)) i.O.1.r.inv.t.nodup (λy a7=>bq y ((i.O.1.r.inv.t.ks _).1 a7));rw[zY] at X cd;have d7:=i.O.2.2.2.2.2;have d8:([⟨fg,⟨8,0⟩,1⟩,⟨j9,⟨4,0⟩,0⟩]:List cW).length=2:=rfl;omega
 have c4:=hD (c3.O.trans bn);rw[bb];clear ba ci bn bo bp bq bb V cq cr cs cv cw;go_wp2_with fail;go_ret;exact⟨rfl,bz.O.trans c4.O⟩
end
end Go.Proofs.YtmdocplknceilaaGreat
