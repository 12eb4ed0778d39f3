import Derived.Test.YtmdocplknceilaaGreatSWAT
import Derived.Deep.DeepCutAuto
set_option linter.all false
set_option maxRecDepth 100000
set_option maxHeartbeats 4000000
namespace Go.Proofs.YtmdocplknceilaaGreat
section
open Go.RowKit Go.Maps
theorem uG{l:Nat}(b:l≠0)(a:l<=65536):wrap64 ((l:Int)-1)=((l-1:Nat):Int)/\((l:Int)==0)=false:=by
 refine⟨by unfold wrap64;omega,bF (by omega)⟩
theorem xU{a n:Nat}(b:a<n)(c:n<=64):wrap64 ((a:Int)+1)=(a:Int)+1/\(0:Int)<=(a:Int)/\(a:Int)<(n:Int):=by
 refine⟨by unfold wrap64;omega,by omega,by omega⟩
section
variable {w w':World}{F F':Nat->Prop}{fb:Nat}{L:gl}{p:List aj}{f:Fr}
theorem A7{b o fn n e d c:Nat}{B:Option Addr}(l:w.cell? ⟨fb,0,none⟩=some (.slice (some ⟨b,o,none⟩) n e))(m:w.cell? ⟨fb,2,none⟩=some (.int .i64 (fn:Int)))(a:fn<n)
 (k:w.cell? ⟨b,o+fn*3+2,none⟩=some (.slice B d c)):Calls Tryz.prog 175 #[.pointer (some ⟨fb,0,none⟩)] w λg w'=>g=.returned (.slice B d c)/\ac w w':=by
 have i:=dN fn;have j:=cN a;clear a;go_enter Tryz.func175,Tryz.ntmps175;go_wp2_with fail
 go_quiet (fail)
 go_wp2_with fail;go_ret;exact⟨rfl,oR.drewN nq⟩
theorem aT.ops_at(l:aT w F fb L p f)(fn at_:Nat)(z:f.fn=fn)(x:aj)(n:p[fn]?=some x)(o:bQ)(i:x.ops[at_]?=some o):
 ∃a d c,(∀W,ac w W->Calls Tryz.prog 175 #[.pointer (some ⟨fb,0,none⟩)] W λu w'=>u=.returned (.slice (some ⟨a,d,none⟩) x.ops.length c)/\ac W w')/\
  (∀(j:Nat) (v:Value),(ep o)[j]?=some v->w.cell? ⟨a,d+at_*5+j,none⟩=some v):=by
 have g:=(gS n).1
 rcases l.fns with⟨_,e⟩|⟨b,D,y,e⟩
 ·rw[e] at g
  simp at g
 obtain⟨G,E,H,K,B,c,r,A⟩:=e fn x n
 rcases A with⟨_,k⟩|⟨a,d,k,C⟩
 ·rw[k] at i
  simp at i
 subst k;refine⟨a,d,c,λW m=>?_,(C at_ o i).2.2⟩;have q:=(l.kp m nG).J;have s:=q.I 0;have t:=q.I 2;simp[cC,y,z] at s t;exact A7 s t g ((m.I (p:=⟨b,D+fn*3+2,none⟩) (block_lt_of_cell r) nF).trans r)
theorem sM(c0:∀b,F b->b<w.heap.size)(Y:aT w F fb L p f)(c7:jw p)(m:fN p f)(c9:f.waits=none):
 Calls Tryz.prog 140 #[.pointer (some ⟨fb,0,none⟩)] w λe w'=>eC w w' F fb p (f.step p) e:=by
 have bq:=Y.J.I 6;have dm:=Y.J.fz 6;simp[cC] at bq
 by_cases b0:f.left=0
 ·have e1:f.step p=f.ended ⟨0,130⟩:=by unfold Fr.step;rw[yf b0]
  rw[e1];rw[b0] at bq;have b9:Hd (Calls Tryz.prog 173 #[.pointer (some ⟨fb,0,none⟩),.int .i64 130] w λe w'=>eC w w' F fb p (f.ended ⟨0,130⟩) e):=hD ((kG 130 c0 Y).mono λe w' k=>k.tell (λb m=>.inl m) Y.ff);generalize f.ended ⟨0,130⟩=Z at*;clear e1 c0 Y m c9 b0 dm c7;go_enter Tryz.func140,Tryz.ntmps140;go_wp2_with fail;refine b9.O.mono ?_;intro e w' k
  rcases k.ptr with⟨_,T⟩|⟨s,q,A,c',_,T,_⟩<;>
  ·subst T
   have aE:=hD k;clear k b9 bq;go_wp2_with fail;go_ret;exact aE.O
 ·obtain⟨l,b5⟩:=eX f.left
  rw[<-b5] at bq b0;have ds:l<=65536:=by rw[b5];exact m.lf
  obtain⟨e5,g7⟩:=uG b0 ds;have c3:=m.at1 (λo e=>by rw[c9] at e;cases e);obtain⟨dv,dq⟩:=ov (p:=p) (i:=f.fn) m.at0 c3;have c5:=c7.fn m.fn0 m.fn1;have dz:=c5.ops _ dv;obtain⟨fn,c6⟩ :∃fn:Nat,f.fn=(fn:Int):=ym m.fn0;obtain⟨a,bf⟩ :∃a:Nat,f.at_=(a:Int):=ym m.at0;have e2:=(jz m.fn0 m.fn1).2;obtain⟨fj,bm⟩:=eX ((bY p f.fn).ops.length);obtain⟨dl,fq,fs⟩:=xU (a:=a) (n:=fj) (by rw[bf] at c3;rw[bm];exact yB.1 c3) (by rw[bm];exact c5.o64);obtain⟨t,c1⟩:=eX (w.setCell ⟨fb,6,none⟩ (.int .i64 ((l-1:Nat):Int)));have cb:aa (λb=>b=fb) w t:=by rw[c1];exact ag _ _ _ _
  have bx:aT t F fb L p {f with left:=f.left-1}:=Y.td cb (by rw[c1,b5];exact Y.J.s_ 6 _) rfl rfl rfl rfl rfl rfl (Y.wp_keep cb) Y.rp
  have cq:f.step p=(if (dO p f.fn f.at_).k=12 then Fr.forks p {f with left:=f.left-1,at_:=f.at_+1} (dO p f.fn f.at_)
   else if (dO p f.fn f.at_).k=13\/(dO p f.fn f.at_).k=14 then Fr.joins {f with left:=f.left-1,at_:=f.at_+1} (dO p f.fn f.at_)
   else match gj (dO p f.fn f.at_) f.rg (f.at_+1) with
    |none=>Fr.ended {f with left:=f.left-1,at_:=f.at_+1} ⟨0,131⟩
    |some x=>({f with left:=f.left-1,at_:=x.2,rg:=x.1},none)):=by
   unfold Fr.step;rw[yb (by rw[<-b5];exact b0)];rfl
  obtain⟨a0,a2,c,ck,b4⟩:=bx.ops_at fn a c6 (bY p f.fn) (by rw[<-e2,c6,yo]) (dO p f.fn f.at_) (by rw[<-dq,bf,yo]);generalize dO p f.fn f.at_=o at*;have d3:=b4 0 _ rfl;have cd:=b4 1 _ rfl;have ec:=b4 2 _ rfl;have ee:=b4 3 _ rfl;have ef:=b4 4 _ rfl;rw[yW] at d3;rw[<-bm] at ck;have b8:=bx.J.I 7;simp[cC,bf] at b8
  have a7:Hd (∀W,ac t W->ac t W/\W.cell? ⟨fb,7,none⟩=some (.int .i64 (a:Int))/\W.cell? ⟨a0,a2+a*5,none⟩=some (.int .u8 o.k)/\W.cell? ⟨a0,a2+a*5+1,none⟩=some (.int .i64 o.d)/\W.cell? ⟨a0,a2+a*5+2,none⟩=some (.int .i64 o.a)/\W.cell? ⟨a0,a2+a*5+3,none⟩=some (.int .i64 o.b)/\W.cell? ⟨a0,a2+a*5+4,none⟩=some (.int .i64 o.n)):=hD λW dn=>by
   have e:∀(g j:Nat) (v:Value),t.cell? ⟨g,j,none⟩=some v->W.cell? ⟨g,j,none⟩=some v:=λg j v hv=>(dn.I (p:=⟨g,j,none⟩) (block_lt_of_cell hv) nF).trans hv
   exact⟨dn,e _ _ _ b8,e _ _ _ d3,e _ _ _ cd,e _ _ _ ec,e _ _ _ ee,e _ _ _ ef⟩
  obtain⟨Z,z⟩:=eX (f.step p);rw[<-z];rw[<-z] at cq;have b2:=hD cq;have eg:=hD bx;have aw:=hD Y;have ek:=hD c0;have a4:=hD m;have er:=hD c7;have H:=hD dz;have d5:=hD ck;have eq:=hD cb;have d4:=hD (aI b5 (aI c6 (aI bf bm)));have fp:=hD c9;have dk:=hD c1.symm;have el:=hD c5;clear Y c0 c7 m c9 bx cq z dz ck cb b5 c6 bf bm c1 b4 b8 d3 cd ec ee ef ds b0 c3 dv dq e2 c5;have fd:=(cQ ((l:Int)-1)).trans e5;have ft:=(cQ ((a:Int)+1)).trans dl;go_enter Tryz.func140,Tryz.ntmps140;go_upto_region 4 with fail;rw[dk.O];clear dk
  go_cut [3] (λs3 wx=>∃ai:Nat,s3=.pointer (some ⟨ai,0,none⟩)/\t.heap.size<=ai/\ae wx ai 106 #[.int .u8 o.k,.int .i64 o.d,.int .i64 o.a,.int .i64 o.b,.int .i64 o.n]/\ac t wx)
  case first=>
   have g6:=a7.O t oR;have ej:Hd (ae (t.alloc (.cells #[.int .u8 0,.int .i64 0,.int .i64 0,.int .i64 0,.int .i64 0] 106)) t.heap.size 106 #[.int .u8 0,.int .i64 0,.int .i64 0,.int .i64 0,.int .i64 0]):=hD (ae.new t _ _);have bv:Hd (ac t (t.alloc (.cells #[.int .u8 0,.int .i64 0,.int .i64 0,.int .i64 0,.int .i64 0] 106))):=hD (oR.alloc _)
   go_region_held3 (λw'=>ac t w'/\w'.cell? ⟨fb,7,none⟩=some (.int .i64 (a:Int))/\w'.cell? ⟨a0,a2+a*5,none⟩=some (.int .u8 o.k)/\w'.cell? ⟨a0,a2+a*5+1,none⟩=some (.int .i64 o.d)/\w'.cell? ⟨a0,a2+a*5+2,none⟩=some (.int .i64 o.a)/\w'.cell? ⟨a0,a2+a*5+3,none⟩=some (.int .i64 o.b)/\w'.cell? ⟨a0,a2+a*5+4,none⟩=some (.int .i64 o.n))
    (first|with_reducible exact a7.O _ E.O|with_reducible exact a7.O _ (aa.alloc E.O _)|with_reducible exact a7.O _ bv.O|with_reducible exact a7.O _ (aa.drew bv.O)|with_reducible exact a7.O _ (aa.drew oR)|with_reducible exact a7.O _ oR|(with_reducible refine a7.O _ ?_;with_reducible refine aa.setCell ?_ (Or.inr (lR)) _;repeat (first|with_reducible exact E.O|with_reducible refine aa.setCell ?_ (Or.inr (lR)) _))|(trace_state;fail))
    (first
     |(go_at_call 175;refine(d5.O t.drew (aa.drew oR)).mono ?_;rintro e N ⟨rfl,a1⟩;have E:Hd (ac t N):=hD (aa.trans (aa.drew oR) a1);clear a1)
     |(go_at_call 175;refine(d5.O _ (aa.drew bv.O)).mono ?_;rintro e N ⟨rfl,a1⟩;have E:Hd (ac t N):=hD (aa.trans (aa.drew bv.O) a1);have Q:=hD (a1.J ej.O nF);have fv:N.cell? ⟨t.heap.size,0,none⟩=some (.int .u8 0):=Q.O.I 0;have T:N.cell? ⟨t.heap.size,1,none⟩=some (.int .i64 0):=Q.O.I 1;have fw:N.cell? ⟨t.heap.size,2,none⟩=some (.int .i64 0):=Q.O.I 2;have fx:N.cell? ⟨t.heap.size,3,none⟩=some (.int .i64 0):=Q.O.I 3;have g0:N.cell? ⟨t.heap.size,4,none⟩=some (.int .i64 0):=Q.O.I 4;have g2:N.frozen? ⟨t.heap.size,0,none⟩=false:=Q.O.fz 0;have g3:N.frozen? ⟨t.heap.size,1,none⟩=false:=Q.O.fz 1;have g4:N.frozen? ⟨t.heap.size,2,none⟩=false:=Q.O.fz 2;have g5:N.frozen? ⟨t.heap.size,3,none⟩=false:=Q.O.fz 3;have ai:N.frozen? ⟨t.heap.size,4,none⟩=false:=Q.O.fz 4;clear a1)
     |fail)
   ·go_wp2_with fail
    go_meet
    case rel=>exact⟨N.heap.size,rfl,E.O.size,bN,E.O.alloc _⟩
   ·go_wp2_with fail
    go_meet
    case rel=>exact⟨t.heap.size,rfl,lR,((((Q.O.s_ 0 _).s_ 1 _).s_ 2 _).s_ 3 _).s_ 4 _,(((((E.O).setCell (p:=⟨t.heap.size,0,none⟩) (.inr (lR)) _).setCell (p:=⟨t.heap.size,1,none⟩) (.inr (lR)) _).setCell (p:=⟨t.heap.size,2,none⟩) (.inr (lR)) _).setCell (p:=⟨t.heap.size,3,none⟩) (.inr (lR)) _).setCell (p:=⟨t.heap.size,4,none⟩) (.inr (lR)) _⟩
  case rest=>
   obtain⟨ai,rfl,f1,ci,a1⟩:=hcut;have bc:=eg.O.kp a1 nG;have b8:=bc.J.I 7;have ad:=bc.J.fz 7;simp[cC,d4.O.2.2.1] at b8;have dw:¬ai=fb:=λe=>ae.ne_ ci bc.J (by decide) e
   have bt:=hD bc;have ei:=hD ci;have eL:=hD a1;have em:=hD dw;clear bc ci a1 f1 a7 dw e5 fd dl dm bq;go_upto_region 6 with fail;obtain⟨B,c2⟩:=eX (wc.setCell ⟨fb,7,none⟩ (.int .i64 ((a:Int)+1)));rw[<-c2];have bo:aa (λb=>b=fb) wc B:=by rw[c2];exact ag _ _ _ _
   obtain⟨y,c4⟩:=eX ({f with left:=f.left-1,at_:=f.at_+1}:Fr);have cn:y.rg=f.rg:=by rw[c4]
   have bz:aT B F fb L p y:=by
    rw[c4];exact bt.O.td bo (by rw[c2,d4.O.2.2.1];exact bt.O.J.s_ 7 _) rfl rfl rfl rfl rfl rfl (bt.O.wp_keep bo) bt.O.rp
   have dp:=bo.J ei.O em.O;obtain⟨X,a9,an,b1,av⟩:=dp.gE5;have a6:Hd (aa F w B):=hD (((eq.O.mono λb e=>by rw[e];exact aw.O.ff).trans (eL.O.mono λ_ e=>e.elim)).trans (bo.mono λb e=>by rw[e];exact aw.O.ff));have cf:Hd (∀b,F b->b<B.heap.size):=hD λb m=>lL (ek.O b m) a6.O.size
   have C:=hD bz;have S:=hD c4;have d8:=hD cn;obtain⟨bp,c8⟩:=eX y.rg.length;have a5:=hD c8;have cp:(bp:Int)=(bY p f.fn).rg:=by rw[c8,cn];exact a4.O.rl
   have az:=hD cp;have e0:bp<=16:=by have:=el.O.r16;rw[<-cp] at this;exact Int.ofNat_le.1 this
   have d6:=hD e0;have a3:=bz.J.I 5;simp[cC,<-c8] at a3;have ad:=bz.J.fz 7;clear c4 cn bz dp c8 cp e0 c2 bo b8;have f2:o.k=1\/o.k=10\/o.k=11\/o.k=12\/(o.k=13\/o.k=14)\/(2<=o.k/\o.k<=9):=by have:=H.O.k;omega
   rcases f2 with u|u|u|u|u|u
   ·have z:Z=({y with rg:=iX y.rg o.d o.n},none):=by
     rw[b2.O,yb (by omega),yb (by omega)];unfold gj;rw[yf u,S.O]
    obtain⟨d,K⟩ :∃d:Nat,o.d=(d:Int):=ym H.O.d.1;have V:d<bp:=by have:=H.O.dr (.inl (by omega));rw[K,<-az.O] at this;exact yB.1 this
    have e3:=dN d;have e4:=cN V;have a8:B.cell? ⟨L.rb,d,none⟩=some (.int .i64 (y.rg.getD d 0)):=ey C.O.rg (by rw[<-a5.O];exact V);have b6:B.frozen? ⟨L.rb,d,none⟩=false:=C.O.rg.fz d;have E:=hD z;have ce:=hD K;rw[u] at X;rw[K] at a9;clear z K V u;go_wp2_with fail
    go_still_tail 9,(by kernel_rfl)
    change wpList _ _ _ _ _ B.drew;obtain⟨R,P⟩:=eX B.drew;rw[<-P];have f3:R.cell? ⟨L.rb,d,none⟩=some (.int .i64 (y.rg.getD d 0)):=by rw[P];exact a8
    have f4:R.frozen? ⟨L.rb,d,none⟩=false:=by rw[P];exact b6
    have D:ac B R:=by rw[P];exact oR.drew
    have ab:=hD ((C.O.kp D nG).reg_put d o.n);have ba:=hD D;clear P D a8 b6 a3 X a9 an b1 av ad;go_wp2_with fail;go_ret;rw[E.O];refine⟨⟨L,?_⟩,a6.O.trans ((ba.O.mono λ_ e=>e.elim).trans ((ag R L.rb d (.int .i64 o.n)).mono λb e=>by rw[e];exact aw.O.fr)),rfl⟩;unfold iX;rw[ce.O,yo];exact ab.O.mo λb m=>.inl m
   ·have z:Z=({y with at_:=o.n},none):=by
     rw[b2.O,yb (by omega),yb (by omega)];unfold gj;rw[yb (by omega),yf u,S.O]
    have E:=hD z;have bn:=C.O.J.I 7;simp[cC] at bn;rw[u] at X;clear z u a3;go_wp2_with fail;go_ret;rw[E.O];have D:=ag B fb 7 (.int .i64 o.n);have ch:aT _ F fb L p {y with at_:=o.n}:=C.O.td D (C.O.J.s_ 7 _) rfl rfl rfl rfl rfl rfl (C.O.wp_keep D) C.O.rp;refine⟨⟨L,ch.mo λb m=>Or.inl m⟩,a6.O.trans (D.mono λb e=>by rw[e];exact aw.O.ff),rfl⟩
   ·obtain⟨r,cm⟩:=eX (cI y.rg o.a)
    have z:Z=({y with at_:=if r≠0 then o.n else y.at_},none):=by
     rw[b2.O,yb (by omega),yb (by omega)];unfold gj;rw[yb (by omega),yb (by omega),yf u,cm,S.O]
    obtain⟨d,K⟩ :∃d:Nat,o.a=(d:Int):=ym H.O.a.1;have V:d<bp:=by have:=H.O.ar (.inr (.inl u));rw[K,<-az.O] at this;exact yB.1 this
    have e3:=dN d;have e4:=cN V
    have a8:B.cell? ⟨L.rb,d,none⟩=some (.int .i64 r):=by
     have:=ey C.O.rg (i:=d) (by rw[<-a5.O];exact V);rw[cm,K];unfold cI;rw[yo];exact this
    have E:=hD z;have bn:=C.O.J.I 7;simp[cC] at bn;rw[u] at X;rw[K] at an;clear z K V u cm
    by_cases b7:r=0
    ·subst b7
     go_wp2_with fail
     go_quiet (fail)
     clear a3 X a9 an b1 av ad a8 bn;go_wp2_with fail;go_ret;rw[E.O];have D:ac B (B.drewN nq):=oR.drewN nq;exact⟨⟨L,(C.O.kp D nG).mo λb m=>.inl m⟩,a6.O.trans (D.mono λ_ e=>e.elim),rfl⟩
    ·have f5:(r==0)=false:=bF b7
     have f6:(r !=0)=true:=bT b7;have f7:decide (r=0)=false:=yd b7;have Q:=hD b7;clear b7;go_wp2_with fail
     go_quiet (fail)
     obtain⟨R,P⟩:=eX (B.drewN nq);rw[<-P];have D:ac B R:=by rw[P];exact oR.drewN nq
     have al:=C.O.kp D nG;have fm:=al.J.I 7;have g1:=al.J.fz 7;simp[cC] at fm;have g8:R.cell? ⟨ai,4,none⟩=some (.int .i64 o.n):=by rw[P];exact av
     have ab:=hD al;have ba:=hD D;clear a3 X a9 an b1 av ad a8 bn f5 f6 f7 al D P;go_wp2_with fail;go_ret;rw[E.O,yf Q.O];have d2:=ag R fb 7 (.int .i64 o.n);have ch:aT _ F fb L p {y with at_:=o.n}:=ab.O.td d2 (ab.O.J.s_ 7 _) rfl rfl rfl rfl rfl rfl (ab.O.wp_keep d2) ab.O.rp;exact⟨⟨L,ch.mo λb m=>Or.inl m⟩,a6.O.trans ((ba.O.mono λ_ e=>e.elim).trans (d2.mono λb e=>by rw[e];exact aw.O.ff)),rfl⟩
   ·have z:Z=y.forks p o:=by rw[b2.O,yf u,S.O]
    have bk:Calls Tryz.prog 176 #[.pointer (some ⟨fb,0,none⟩),eS o] B λe w'=>eC w w' F fb p Z e:=by
     rw[z];obtain⟨f8,f9,fa⟩:=H.O.fk u;refine(vU o cf.O C.O (by rw[S.O];exact a4.O.kl) (by rw[S.O];exact⟨a4.O.pth.1,a4.O.pth.2⟩) er.O ⟨f8,f9⟩ H.O.a.1 (by rw[<-a5.O,az.O];exact fa) (by rw[<-a5.O];exact d6.O) (by rw[S.O];exact lT (Nat.sub_le _ _) a4.O.lf)).mono ?_;intro e w' k;exact k.back a6.O (λb m=>.inl m)
    have G:=hD bk;unfold eS at G;rw[u] at X G;clear z bk u a3 ad;go_wp2_with fail;refine G.O.mono ?_;intro e w' k
    rcases k.ptr with⟨_,T⟩|⟨s,q,A,c',_,T,_⟩<;>
    ·subst T
     have aE:=hD k;clear k G X a9 an b1 av;go_wp2_with fail;go_ret;exact aE.O
   ·have z:Z=y.joins o:=by rw[b2.O,yb (by omega),yf u,S.O]
    have bk:Calls Tryz.prog 139 #[.pointer (some ⟨fb,0,none⟩),eS o] B λe w'=>eC w w' F fb p Z e:=by
     rw[z];refine(rU o cf.O C.O (by rw[S.O];exact a4.O.jn) (by rw[S.O];exact a4.O.kl) (by rw[d8.O,S.O];exact λk u=>(a4.O.ki k u).1) (λe=>⟨H.O.a.1,by rw[<-a5.O,az.O];exact H.O.ar (.inr (.inr e))⟩) (by rw[<-a5.O];exact d6.O)).mono ?_;intro e w' k;exact k.back a6.O (λb m=>.inl m)
    have G:=hD bk;unfold eS at G
    rcases u with u|u<;>
    ·rw[u] at X G
     clear z bk u a3 ad;go_wp2_with fail;refine G.O.mono ?_;intro e w' k
     rcases k.ptr with⟨_,T⟩|⟨s,q,A,c',_,T,_⟩<;>
     ·subst T
      have aE:=hD k;clear k G X a9 an b1 av;go_wp2_with fail;go_ret;exact aE.O
   ·have z:Z=match jY o.k (cI y.rg o.a) (cI y.rg o.b) with
     |none=>y.ended ⟨0,131⟩
     |some x=>({y with rg:=iX y.rg o.d x},none):=by
     rw[b2.O,yb (by omega),yb (by omega)];unfold gj;rw[yb (by omega),yb (by omega),yb (by omega),S.O];simp only
     cases jY o.k (cI f.rg o.a) (cI f.rg o.b)<;>rfl
    have b3:=xY fb L.rb L.rc (cC L p y) y.rg o B C.O.J rfl C.O.rg (by rw[d8.O];exact a4.O.ri) u ⟨H.O.a.1,by rw[<-a5.O,az.O];exact H.O.ar (.inl u)⟩ (λe=>⟨H.O.b.1,by rw[<-a5.O,az.O];exact H.O.br (by omega)⟩);have cr:¬o.k=1:=by omega
    have cs:¬o.k=10:=by omega
    have cv:¬o.k=11:=by omega
    have cB:¬o.k=12:=by omega
    have d0:¬o.k=13:=by omega
    have d1:¬o.k=14:=by omega
    have e6:(o.k==1)=false:=bF cr;have e7:(o.k==10)=false:=bF cs;have e8:(o.k==11)=false:=bF cv;have e9:(o.k==12)=false:=bF cB;have ea:(o.k==13)=false:=bF d0;have eb:(o.k==14)=false:=bF d1;obtain⟨d,K⟩ :∃d:Nat,o.d=(d:Int):=ym H.O.d.1;have V:d<bp:=by have:=H.O.dr (.inl (by omega));rw[K,<-az.O] at this;exact yB.1 this
    have e3:=dN d;have e4:=cN V;have a8:B.cell? ⟨L.rb,d,none⟩=some (.int .i64 (y.rg.getD d 0)):=ey C.O.rg (by rw[<-a5.O];exact V);have b6:B.frozen? ⟨L.rb,d,none⟩=false:=C.O.rg.fz d;have d7:=hD a8;have fo:=hD b6;have es:=hD a3;have ce:=hD K;have ex:Hd (B.cell? ⟨ai,1,none⟩=some (.int .i64 (d:Int))):=hD (by rw[<-K];exact a9)
    cases hcv:jY o.k (cI y.rg o.a) (cI y.rg o.b) with
    |none=>
     rw[hcv] at z b3;have G:=hD b3;unfold eS ul at G;have E:=hD z;clear z hcv b3 a8 b6 a3 K V u ad;go_wp2_with fail;refine G.O.mono ?_;rintro e bb ⟨rfl,am⟩
     have b9:Hd (Calls Tryz.prog 173 #[.pointer (some ⟨fb,0,none⟩),.int .i64 131] bb λe w'=>eC w w' F fb p Z e):=hD ((kG 131 (λb m=>lL (cf.O b m) am.size) (C.O.kp am nG)).mono λe w' k=>by
      rw[E.O];exact(k.tell (F:=F) (λb m=>.inl m) aw.O.ff).back (a6.O.trans (am.mono λ_ e=>e.elim)) (λb m=>.inl m))
     clear am G X a9 an b1 av cr cs cv cB d0 d1 e6 e7 e8 e9 ea eb;go_wp2_with fail;refine b9.O.mono ?_;intro e w' k
     rcases k.ptr with⟨_,T⟩|⟨s,q,A,c',_,T,_⟩<;>
     ·subst T
      have aE:=hD k;clear k b9;go_wp2_with fail;go_ret;exact aE.O
    |some v=>
     rw[hcv] at z b3;have G:=hD b3;unfold eS ul at G;have E:=hD z;clear z hcv b3 a8 b6 a3 K V u ad;go_wp2_with fail;refine G.O.mono ?_;rintro e bb ⟨rfl,am⟩;have cg:∀(g j:Nat) (v:Value),B.cell? ⟨g,j,none⟩=some v->bb.cell? ⟨g,j,none⟩=some v:=λg j v hv=>(am.I (p:=⟨g,j,none⟩) (block_lt_of_cell hv) nF).trans hv
     have cd:=cg _ _ _ ex.O;have fl:=cg _ _ _ es.O;have f0:=hD am;clear cg am G X a9 an b1 av cr cs cv cB d0 d1 e6 e7 e8 e9 ea eb;go_wp2_with fail
     go_still_tail 8,(by kernel_rfl)
     change wpList _ _ _ _ _ bb.drew;obtain⟨R,P⟩:=eX bb.drew;rw[<-P];have D:ac B R:=by rw[P];exact f0.O.drew
     have al:=C.O.kp D nG;have f3:R.cell? ⟨L.rb,d,none⟩=some (.int .i64 (y.rg.getD d 0)):=(D.I (p:=⟨L.rb,d,none⟩) (block_lt_of_cell d7.O) nF).trans d7.O;have f4:R.frozen? ⟨L.rb,d,none⟩=false:=al.rg.fz d;have ab:=hD (al.reg_put d v);have ba:=hD D;clear P D al cd fl;go_wp2_with fail;go_ret;rw[E.O];refine⟨⟨L,?_⟩,a6.O.trans ((ba.O.mono λ_ e=>e.elim).trans ((ag R L.rb d (.int .i64 v)).mono λb e=>by rw[e];exact aw.O.fr)),rfl⟩;unfold iX;rw[ce.O,yo];exact ab.O.mo λb m=>.inl m
end
def fZ:Array Value:=#[.int .u8 0,.string ⟨#[]⟩,.int .i64 0,.slice none 0 0,.int .i64 0,.int .i64 0,.int .i64 0]
theorem mh(s:gT)(A:Option Addr)(c:Nat):∃(v0:Int) (v1:ByteArray) (v2:Int) (v3:Option Addr) (b a:Nat) (v4 v5 v6:Int),hU s A c= #[.int .u8 v0,.string v1,.int .i64 v2,.slice v3 b a,.int .i64 v4,.int .i64 v5,.int .i64 v6]:=by
 cases s<;>exact⟨_,_,_,_,_,_,_,_,_,rfl⟩
def nZ(w w':World)(F:Nat->Prop)(fb:Nat)(p:List aj)(x:Fr×gT)(e:Ending):Prop:=
 ∃A c,e=.returned (.tuple #[.agg (hU x.2 A c),.int .i64 0])/\(∃L',aT w' (λb=>F b\/bC w w' b) fb L' p x.1)/\aa F w w'/\(∀t,x.2=.fork t->aU w' (bC w w') A t.args)
theorem tg{f:Fr}{o:bQ}(a:(f.joins o).2=none):(f.joins o).1.waits=none:=by
 unfold Fr.joins at a ⊢;split at a
 ·cases a
 ·rename_i c
  rw[yb c];simp only at a ⊢;split at a
  ·cases a
  ·rename_i b
   rw[yb b];split at a
   ·cases a
   ·rename_i d
    rw[yb d]
theorem jS(s:gT)(A:Option Addr)(c:Nat):(Tryz.prog.info? 181).map (·.size)=some (hU s A c).size:=by
 cases s<;>kernel_rfl
theorem bC.up{w c d:World}{b:Nat}(a:bC w c b)(e:c.heap.size<=d.heap.size):bC w d b:=⟨a.1,lL a.2 e⟩
theorem bC.dn{w c d:World}{b:Nat}(a:bC c d b)(e:w.heap.size<=c.heap.size):bC w d b:=⟨lT e a.1,a.2⟩
section
variable {w w':World}{F F':Nat->Prop}{fb:Nat}{L:gl}{p:List aj}{f:Fr}
theorem Br(a2:∀b,F b->b<w.heap.size)(aw:aT w F fb L p f)(a5:jw p)(a:fN p f)(b4:f.result=none)(r:f.waits=none):
 Calls Tryz.prog 86 #[.pointer (some ⟨fb,0,none⟩),.int .i64 1] w λc w'=>nZ w w' F fb p (f.run1 p) c:=by
 obtain⟨n,a3⟩:=eX (f.run1 p);rw[<-a3];obtain⟨X,N⟩:=eX (w.alloc (.cells fZ 181));have S:ac w X:=by rw[N];exact(aa.refl _ w).alloc _
 have Y:ae X w.heap.size 181 fZ:=by rw[N];exact bN
 have j:=aw.kp S nG;obtain⟨g,d⟩:=eX w.heap.size;rw[<-d] at Y;obtain⟨y,D⟩:=eX X;obtain⟨K,a4⟩:=eX f;have an:=hD (kM j a5.p0);have ar:Hd (Calls Tryz.prog 140 #[.pointer (some ⟨fb,0,none⟩)] y λc w'=>eC y w' F fb p (K.step p) c):=hD (by rw[D,a4];exact sM (λb a=>lL (a2 b a) S.size) j a5 a r);have av:Hd (n=bV (K.step p)):=hD (by rw[a3,a4];unfold Fr.run1;rw[r]);have u:Hd (aa F w y):=hD (by rw[D];exact S.mono λ_ c=>c.elim);have z:Hd (∀b,F b->F b\/bC w y b):=hD λb a=>.inl a
 have B:Hd (ae y g 181 fZ):=hD (by rw[D];exact Y);have H:Hd (¬F g):=hD λc=>by have:=a2 g c;rw[d] at this;exact absurd this (yQ _)
 have b7:=j.J.I 10;have b8:=j.J.I 11;have Q:=j.wp;rw[r] at Q;simp only at Q;simp[cC,Q,j.rp b4] at b7 b8;have W:=hD N.symm;have V:=hD d;have bb:=hD D;unfold fZ at W;clear aw j a5 a b4 r a3 N S Y d D a4 a2 Q;go_enter Tryz.func86,Tryz.ntmps86;go_upto_region 1 with fail;rw[W.O,<-V.O];clear W;go_wp2_with fail;refine an.O.mono ?_;rintro c w' ⟨rfl,rfl⟩;go_wp2_with fail;rw[<-bb.O];clear b7 b8 an
 go_loopw [48] (λi wr=>(i=.int .i64 0/\wr=y)\/(i=.int .i64 1/\n=(n.1,.more)/\(∃m,aT wr (λb=>(F b\/bC w wr b)/\b≠g) fb m p n.1)/\aa F w wr/\ae wr g 181 fZ)) (λi _=>1-(intOf i).toNat)
 case atStart=>exact .inl ⟨rfl,rfl⟩
 case round=>
  rcases hrel with⟨rfl,r⟩|⟨rfl,b5,b1,b3,e⟩
  ·rw[<-r] at ar u B z
   clear r;go_wp2_with fail;refine ar.O.mono ?_;intro c w' k
   rcases k.ptr with⟨v,a0⟩|⟨s,q,A,c',v,a0,_⟩
   ·subst a0
    obtain⟨⟨m,b6⟩,R,c3⟩:=k;have x:n=((K.step p).1,gT.more):=by rw[av.O];unfold bV;rw[v];rfl
    have P:=B.O.lt;have bf:Hd (n=(n.1,gT.more)):=hD (by rw[x])
    have bk:Hd (∃m,aT w' (λb=>(F b\/bC w w' b)/\b≠g) fb m p n.1):=hD (by
     rw[x];refine⟨m,b6.mo λb a=>⟨?_,λc=>?_⟩⟩
     ·rcases a with a|a
      ·exact(z.O b a).imp id λc=>c.up R.size
      ·exact .inr (a.dn u.O.size)
     ·rcases a with a|a
      ·exact H.O (c ▸ a)
      ·exact absurd P (zC.2 (c ▸ a.1)))
    have bm:Hd (aa F w w'):=hD (u.O.trans' R λb a=>(z.O b a).imp id λc=>c.1);have bn:=hD (R.J B.O H.O);clear b6 R c3 P x v;go_wp2_with fail;go_roundw
    case rel=>exact .inr ⟨rfl,bf.O,bk.O,bm.O,bn.O⟩
    case measure=>exact Nat.zero_lt_one
   ·subst a0
    have x:n=((K.step p).1,s):=by rw[av.O];unfold bV;rw[v];rfl
    have d:=k.2.1.J B.O H.O;obtain⟨j,az,aE⟩:=k;rw[v] at aE;obtain⟨q',G,c',o,c2,a1,b0⟩:=aE;injection o with o;injection o with o;injection o with o;injection o with o;subst o;obtain⟨v0,v1,v2,v3,a6,Z,v4,v5,v6,hv⟩:=mh s G c';rw[hv] at a1;obtain⟨c5,c6,c7,c8,c9,cb,cd⟩:=a1.gE7;have a7:=d.I 0;have a8:=d.I 1;have a9:=d.I 2;have ab:=d.I 3;have ad:=d.I 4;have ai:=d.I 5;have al:=d.I 6;simp[fZ] at a7 a8 a9 ab ad ai al;have br:=d.fz 0;have bt:=d.fz 1;have bv:=d.fz 2;have bx:=d.fz 3;have bz:=d.fz 4;have c0:=d.fz 5;have c1:=d.fz 6
    have C:ae (((((((w'.setCell ⟨g,0,none⟩ (.int .u8 v0)).setCell ⟨g,1,none⟩ (.string v1)).setCell ⟨g,2,none⟩ (.int .i64 v2)).setCell ⟨g,3,none⟩ (.slice v3 a6 Z)).setCell ⟨g,4,none⟩ (.int .i64 v4)).setCell ⟨g,5,none⟩ (.int .i64 v5)).setCell ⟨g,6,none⟩ (.int .i64 v6)) g 181 (hU s G c'):=by
     rw[hv];exact((((((d.s_ 0 (.int .u8 v0)).s_ 1 (.string v1)).s_ 2 (.int .i64 v2)).s_ 3 (.slice v3 a6 Z)).s_ 4 (.int .i64 v4)).s_ 5 (.int .i64 v5)).s_ 6 (.int .i64 v6)
    have E:aa (λb=>b=g) w' (((((((w'.setCell ⟨g,0,none⟩ (.int .u8 v0)).setCell ⟨g,1,none⟩ (.string v1)).setCell ⟨g,2,none⟩ (.int .i64 v2)).setCell ⟨g,3,none⟩ (.slice v3 a6 Z)).setCell ⟨g,4,none⟩ (.int .i64 v4)).setCell ⟨g,5,none⟩ (.int .i64 v5)).setCell ⟨g,6,none⟩ (.int .i64 v6)):=aB (aB (aB (aB (aB (aB (ag _ _ _ _))))));have b9:=hD j;have am:=hD az;have ba:=hD b0;have bc:=hD x;have T:=hD C;have l:=hD E;clear j az c2 a1 b0 x C E d hv v;go_wp2_with fail;refine bodyPost_ret (bU Tryz.results86 rfl T.O Tryz.underlying181 rfl (jS s G c')) rfl ?_;obtain⟨m,j⟩:=b9.O;have P:=B.O.lt
    have b2:∀b,F b\/bC wr w' b->¬b=g:=λb a c=>by
     rcases a with a|a
     ·exact H.O (c ▸ a)
     ·exact absurd P (zC.2 (c ▸ a.1))
    rw[bc.O];refine⟨G,c',rfl,⟨m,(j.kp l.O b2).mo λb a=>?_⟩,?_,λt c=>?_⟩
    ·rcases a with a|a
     ·exact(z.O b a).imp id λc=>(c.up am.O.size).up l.O.size
     ·exact .inr ((a.dn u.O.size).up l.O.size)
    ·exact(u.O.trans' am.O λb a=>(z.O b a).imp id λc=>c.1).trans' l.O λb a=>.inr (by rw[a];exact zl V.O.symm)
    ·exact((ba.O t c).kp l.O λb a=>b2 b (.inr a)).mo λb a=>(a.dn u.O.size).up l.O.size
  ·have bo:=hD b5
   have bp:=hD b1;have bq:=hD b3;have c4:=hD e;have a7:=e.I 0;have a8:=e.I 1;have a9:=e.I 2;have ab:=e.I 3;have ad:=e.I 4;have ai:=e.I 5;have al:=e.I 6;simp[fZ] at a7 a8 a9 ab ad ai al;have br:=e.fz 0;have bt:=e.fz 1;have bv:=e.fz 2;have bx:=e.fz 3;have bz:=e.fz 4;have c0:=e.fz 5;have c1:=e.fz 6;have C:ae (((((((wr.setCell ⟨g,0,none⟩ (.int .u8 1)).setCell ⟨g,1,none⟩ (.string ⟨#[]⟩)).setCell ⟨g,2,none⟩ (.int .i64 0)).setCell ⟨g,3,none⟩ (.slice none 0 0)).setCell ⟨g,4,none⟩ (.int .i64 0)).setCell ⟨g,5,none⟩ (.int .i64 0)).setCell ⟨g,6,none⟩ (.int .i64 0)) g 181 (hU .more none 0):=((((((e.s_ 0 _).s_ 1 _).s_ 2 _).s_ 3 _).s_ 4 _).s_ 5 _).s_ 6 _;have E:aa (λb=>b=g) wr (((((((wr.setCell ⟨g,0,none⟩ (.int .u8 1)).setCell ⟨g,1,none⟩ (.string ⟨#[]⟩)).setCell ⟨g,2,none⟩ (.int .i64 0)).setCell ⟨g,3,none⟩ (.slice none 0 0)).setCell ⟨g,4,none⟩ (.int .i64 0)).setCell ⟨g,5,none⟩ (.int .i64 0)).setCell ⟨g,6,none⟩ (.int .i64 0)):=aB (aB (aB (aB (aB (aB (ag _ _ _ _))))));have T:=hD C;have l:=hD E;clear b5 b1 b3 e C E;go_wp2_with fail;refine bodyPost_ret (bU Tryz.results86 rfl T.O Tryz.underlying181 rfl (jS .more none 0)) rfl ?_;obtain⟨m,j⟩:=bp.O;rw[bo.O];refine⟨none,0,rfl,⟨m,(j.kp l.O λb a=>a.2).mo λb a=>a.1.imp id λc=>c.up l.O.size⟩,bq.O.trans' l.O λb a=>.inr (by rw[a];exact zl V.O.symm),λt c=>by cases c⟩
theorem Bo(o:bQ)(aE:∀b,F b->b<w.heap.size)(c7:aT w F fb L p f)(b2:jw p)(a:fN p f)(ce:f.result=none)(E:f.waits=some o):
 Calls Tryz.prog 86 #[.pointer (some ⟨fb,0,none⟩),.int .i64 1] w λc w'=>nZ w w' F fb p (f.run1 p) c:=by
 obtain⟨x,b1⟩:=eX (f.run1 p);rw[<-b1];obtain⟨y,b0⟩:=eX (w.alloc (.cells fZ 181));have b5:ac w y:=by rw[b0];exact(aa.refl _ w).alloc _
 have bf:ae y w.heap.size 181 fZ:=by rw[b0];exact bN
 have e:=c7.kp b5 nG;obtain⟨g,d⟩:=eX w.heap.size;rw[<-d] at bf;obtain⟨n,V⟩:=eX (f.joins o);have b9:=hD (kM e b2.p0);have b4:=a.wt o E
 have cf:f.rg.length<=16:=by
  have e:=a.rl;have Z:=(b2.fn a.fn0 a.fn1).r16;omega
 have c9:o.k≠14->f.at_<(bY p f.fn).ops.length:=λc=>a.at1 (λdv c0=>by rw[E] at c0;cases c0;exact c)
 have av:Hd (Calls Tryz.prog 139 #[.pointer (some ⟨fb,0,none⟩),eS o] y λc w'=>eC y w' F fb p n c):=hD (by
  rw[V];exact rU o (λb a=>lL (aE b a) b5.size) e a.jn a.kl (λk d4=>(a.ki k d4).1) (λc=>⟨b4.2.1,b4.2.2 c⟩) cf)
 have cq:Hd (∀s,n.2=some s->x=(n.1,s)):=hD λs c=>by
  rw[b1];unfold Fr.run1;rw[E];simp only;rw[<-V];obtain⟨X,Y⟩:=n;simp only at c;subst c;rfl
 have cr:Hd (n.2=none->x=bV (n.1.step p)/\fN p n.1/\n.1.waits=none):=hD λc=>by
  refine⟨?_,?_,?_⟩
  ·rw[b1]
   unfold Fr.run1;rw[E];simp only;rw[<-V];obtain⟨X,Y⟩:=n;simp only at c;subst c;rfl
  ·rcases pX a o b4 c9 with⟨r,k,_⟩|k
   ·rw[<-V,c] at k;cases k
   ·rw[V];exact k
  ·rw[V] at c ⊢
   exact tg c
 have ba:Hd (¬F g):=hD λc=>by have:=aE g c;rw[d] at this;exact absurd this (yQ _)
 have bt:=e.J.I 10;have bv:=e.J.I 11;have a3:=e.wp;rw[E] at a3;simp only at a3;obtain⟨dw,d5,a3,a0⟩:=a3;simp[cC,a3,e.rp ce] at bt bv;have bn:=a0.I 0;have bo:=a0.I 1;have bp:=a0.I 2;have bq:=a0.I 3;have br:=a0.I 4;simp[ep] at bn bo bp bq br;have aw:Hd (aa F w y):=hD (b5.mono λ_ c=>c.elim);have b8:=hD bf;have cm:=hD aE;have cn:=hD b2;have bb:=hD b0.symm;have ar:=hD d;unfold fZ at bb;clear c7 e b2 a ce E b1 b0 b5 bf d aE a3 V b4 cf c9 d5 a0;unfold eS at av;go_enter Tryz.func86,Tryz.ntmps86;go_upto_region 1 with fail;rw[bb.O,<-ar.O];clear bb;go_wp2_with fail;refine b9.O.mono ?_;rintro c w' ⟨rfl,rfl⟩;go_wp2_with fail;refine av.O.mono ?_;intro c z k
 rcases k.ptr with⟨u,S⟩|⟨s,q,A,c',u,S,_⟩
 ·subst S
  obtain⟨ch,ci,ck⟩:=cr.O u;obtain⟨⟨v,ab⟩,G,_⟩:=k;obtain⟨a4,a2⟩:=eX z;obtain⟨az,bm⟩:=eX n.1
  have c8:∀b,F b\/bC y z b->b<z.heap.size:=λb a=>by
   rcases a with a|a
   ·exact lL (cm.O b a) (lT aw.O.size G.size)
   ·exact a.2
  have bx:Hd (Calls Tryz.prog 140 #[.pointer (some ⟨fb,0,none⟩)] a4 λc d7=>eC a4 d7 (λb=>F b\/bC y z b) fb p (az.step p) c):=hD (by rw[a2,bm];exact sM c8 ab cn.O ci ck);have bz:Hd (x=bV (az.step p)):=hD (by rw[ch,bm]);have B:Hd (aa F w a4):=hD (by rw[a2];exact aw.O.trans G);have H:Hd (∀b,F b\/bC y z b->F b\/bC w a4 b):=hD λb a=>by rw[a2];exact a.imp id λc=>c.dn aw.O.size
  have K:Hd (ae a4 g 181 fZ):=hD (by rw[a2];exact G.J b8.O ba.O)
  have Q:Hd (¬(F g\/bC y z g)):=hD λc=>by
   rcases c with c|c
   ·exact ba.O c
   ·exact absurd b8.O.lt (zC.2 c.1)
  have cp:=hD a2;clear ch ci ck ab G c8 bm u bt bv bn bo bp bq br b9 av a2;go_wp2_with fail;rw[<-cp.O]
  go_loopw [48] (λi wr=>(i=.int .i64 0/\wr=a4)\/(i=.int .i64 1/\x=(x.1,.more)/\(∃v,aT wr (λb=>(F b\/bC w wr b)/\b≠g) fb v p x.1)/\aa F w wr/\ae wr g 181 fZ)) (λi _=>1-(intOf i).toNat)
  case atStart=>exact .inl ⟨rfl,rfl⟩
  case round=>
   rcases hrel with⟨rfl,E⟩|⟨rfl,cg,cb,cd,m⟩
   ·rw[<-E] at bx B K H
    clear E;go_wp2_with fail;refine bx.O.mono ?_;intro c w' k
    rcases k.ptr with⟨u,S⟩|⟨s,q,A,c',u,S,_⟩
    ·subst S
     obtain⟨⟨v,ab⟩,G,d6⟩:=k;have D:x=((az.step p).1,gT.more):=by rw[bz.O];unfold bV;rw[u];rfl
     have a1:=K.O.lt;have cs:Hd (x=(x.1,gT.more)):=hD (by rw[D])
     have cv:Hd (∃v,aT w' (λb=>(F b\/bC w w' b)/\b≠g) fb v p x.1):=hD (by
      rw[D];refine⟨v,ab.mo λb a=>⟨?_,λc=>?_⟩⟩
      ·rcases a with a|a
       ·exact(H.O b a).imp id λc=>c.up G.size
       ·exact .inr (a.dn B.O.size)
      ·rcases a with a|a
       ·exact Q.O (c ▸ a)
       ·exact absurd a1 (zC.2 (c ▸ a.1)))
     have cB:Hd (aa F w w'):=hD (B.O.trans' G λb a=>(H.O b a).imp id λc=>c.1);have d0:=hD (G.J K.O Q.O);clear ab G d6 a1 D u;go_wp2_with fail;go_roundw
     case rel=>exact .inr ⟨rfl,cs.O,cv.O,cB.O,d0.O⟩
     case measure=>exact Nat.zero_lt_one
    ·subst S
     have D:x=((az.step p).1,s):=by rw[bz.O];unfold bV;rw[u];rfl
     have d:=k.2.1.J K.O Q.O;obtain⟨e,Z,a7⟩:=k;rw[u] at a7;obtain⟨q',C,c',j,bk,T,a8⟩:=a7;injection j with j;injection j with j;injection j with j;injection j with j;subst j;obtain⟨v0,v1,v2,v3,W,R,v4,v5,v6,hv⟩:=mh s C c';rw[hv] at T;obtain⟨d8,dk,dl,dm,dp,dq,dr⟩:=T.gE7;have ad:=d.I 0;have X:=d.I 1;have Y:=d.I 2;have ai:=d.I 3;have al:=d.I 4;have am:=d.I 5;have an:=d.I 6;simp[fZ] at ad X Y ai al am an;have c1:=d.fz 0;have n:=d.fz 1;have c2:=d.fz 2;have c3:=d.fz 3;have c4:=d.fz 4;have c5:=d.fz 5;have c6:=d.fz 6
     have N:ae (((((((w'.setCell ⟨g,0,none⟩ (.int .u8 v0)).setCell ⟨g,1,none⟩ (.string v1)).setCell ⟨g,2,none⟩ (.int .i64 v2)).setCell ⟨g,3,none⟩ (.slice v3 W R)).setCell ⟨g,4,none⟩ (.int .i64 v4)).setCell ⟨g,5,none⟩ (.int .i64 v5)).setCell ⟨g,6,none⟩ (.int .i64 v6)) g 181 (hU s C c'):=by
      rw[hv];exact((((((d.s_ 0 (.int .u8 v0)).s_ 1 (.string v1)).s_ 2 (.int .i64 v2)).s_ 3 (.slice v3 W R)).s_ 4 (.int .i64 v4)).s_ 5 (.int .i64 v5)).s_ 6 (.int .i64 v6)
     have P:aa (λb=>b=g) w' (((((((w'.setCell ⟨g,0,none⟩ (.int .u8 v0)).setCell ⟨g,1,none⟩ (.string v1)).setCell ⟨g,2,none⟩ (.int .i64 v2)).setCell ⟨g,3,none⟩ (.slice v3 W R)).setCell ⟨g,4,none⟩ (.int .i64 v4)).setCell ⟨g,5,none⟩ (.int .i64 v5)).setCell ⟨g,6,none⟩ (.int .i64 v6)):=aB (aB (aB (aB (aB (aB (ag _ _ _ _))))));have b6:=hD e;have a5:=hD Z;have b7:=hD a8;have bc:=hD D;have a6:=hD N;have l:=hD P;clear e Z bk T a8 D N P d hv u;go_wp2_with fail;refine bodyPost_ret (bU Tryz.results86 rfl a6.O Tryz.underlying181 rfl (jS s C c')) rfl ?_;obtain⟨v,e⟩:=b6.O;have a1:=K.O.lt
     have a9:∀b,(λb=>F b\/bC y z b) b\/bC wr w' b->¬b=g:=λb a c=>by
      rcases a with a|a
      ·exact Q.O (c ▸ a)
      ·exact absurd a1 (zC.2 (c ▸ a.1))
     rw[bc.O];refine⟨C,c',rfl,⟨v,(e.kp l.O a9).mo λb a=>?_⟩,?_,λt c=>?_⟩
     ·rcases a with a|a
      ·exact(H.O b a).imp id λc=>(c.up a5.O.size).up l.O.size
      ·exact .inr ((a.dn B.O.size).up l.O.size)
     ·exact(B.O.trans' a5.O λb a=>(H.O b a).imp id λc=>c.1).trans' l.O λb a=>.inr (by rw[a];exact zl ar.O.symm)
     ·exact((b7.O t c).kp l.O λb a=>a9 b (.inr a)).mo λb a=>(a.dn B.O.size).up l.O.size
   ·have d1:=hD cg
    have d2:=hD cb;have d3:=hD cd;have ds:=hD m;have ad:=m.I 0;have X:=m.I 1;have Y:=m.I 2;have ai:=m.I 3;have al:=m.I 4;have am:=m.I 5;have an:=m.I 6;simp[fZ] at ad X Y ai al am an;have c1:=m.fz 0;have n:=m.fz 1;have c2:=m.fz 2;have c3:=m.fz 3;have c4:=m.fz 4;have c5:=m.fz 5;have c6:=m.fz 6;have N:ae (((((((wr.setCell ⟨g,0,none⟩ (.int .u8 1)).setCell ⟨g,1,none⟩ (.string ⟨#[]⟩)).setCell ⟨g,2,none⟩ (.int .i64 0)).setCell ⟨g,3,none⟩ (.slice none 0 0)).setCell ⟨g,4,none⟩ (.int .i64 0)).setCell ⟨g,5,none⟩ (.int .i64 0)).setCell ⟨g,6,none⟩ (.int .i64 0)) g 181 (hU .more none 0):=((((((m.s_ 0 _).s_ 1 _).s_ 2 _).s_ 3 _).s_ 4 _).s_ 5 _).s_ 6 _;have P:aa (λb=>b=g) wr (((((((wr.setCell ⟨g,0,none⟩ (.int .u8 1)).setCell ⟨g,1,none⟩ (.string ⟨#[]⟩)).setCell ⟨g,2,none⟩ (.int .i64 0)).setCell ⟨g,3,none⟩ (.slice none 0 0)).setCell ⟨g,4,none⟩ (.int .i64 0)).setCell ⟨g,5,none⟩ (.int .i64 0)).setCell ⟨g,6,none⟩ (.int .i64 0)):=aB (aB (aB (aB (aB (aB (ag _ _ _ _))))));have a6:=hD N;have l:=hD P;clear cg cb cd m N P;go_wp2_with fail;refine bodyPost_ret (bU Tryz.results86 rfl a6.O Tryz.underlying181 rfl (jS .more none 0)) rfl ?_;obtain⟨v,e⟩:=d2.O;rw[d1.O];refine⟨none,0,rfl,⟨v,(e.kp l.O λb a=>a.2).mo λb a=>a.1.imp id λc=>c.up l.O.size⟩,d3.O.trans' l.O λb a=>.inr (by rw[a];exact zl ar.O.symm),λt c=>by cases c⟩
 ·subst S
  have D:x=(n.1,s):=cq.O s u;obtain⟨wr,b3⟩:=eX y;have B:Hd (aa F w wr):=hD (by rw[b3];exact aw.O);have H:Hd (∀b,F b->F b\/bC w wr b):=hD λb a=>.inl a
  have K:Hd (ae wr g 181 fZ):=hD (by rw[b3];exact b8.O);have Q:Hd (¬F g):=ba;rw[<-b3] at k;clear b3 bt bv bn bo bp bq br b9 av;have d:=k.2.1.J K.O Q.O;obtain⟨e,Z,a7⟩:=k;rw[u] at a7;obtain⟨q',C,c',j,bk,T,a8⟩:=a7;injection j with j;injection j with j;injection j with j;injection j with j;subst j;obtain⟨v0,v1,v2,v3,W,R,v4,v5,v6,hv⟩:=mh s C c';rw[hv] at T;obtain⟨d8,dk,dl,dm,dp,dq,dr⟩:=T.gE7;have ad:=d.I 0;have X:=d.I 1;have Y:=d.I 2;have ai:=d.I 3;have al:=d.I 4;have am:=d.I 5;have an:=d.I 6;simp[fZ] at ad X Y ai al am an;have c1:=d.fz 0;have n:=d.fz 1;have c2:=d.fz 2;have c3:=d.fz 3;have c4:=d.fz 4;have c5:=d.fz 5;have c6:=d.fz 6
  have N:ae (((((((z.setCell ⟨g,0,none⟩ (.int .u8 v0)).setCell ⟨g,1,none⟩ (.string v1)).setCell ⟨g,2,none⟩ (.int .i64 v2)).setCell ⟨g,3,none⟩ (.slice v3 W R)).setCell ⟨g,4,none⟩ (.int .i64 v4)).setCell ⟨g,5,none⟩ (.int .i64 v5)).setCell ⟨g,6,none⟩ (.int .i64 v6)) g 181 (hU s C c'):=by
   rw[hv];exact((((((d.s_ 0 (.int .u8 v0)).s_ 1 (.string v1)).s_ 2 (.int .i64 v2)).s_ 3 (.slice v3 W R)).s_ 4 (.int .i64 v4)).s_ 5 (.int .i64 v5)).s_ 6 (.int .i64 v6)
  have P:aa (λb=>b=g) z (((((((z.setCell ⟨g,0,none⟩ (.int .u8 v0)).setCell ⟨g,1,none⟩ (.string v1)).setCell ⟨g,2,none⟩ (.int .i64 v2)).setCell ⟨g,3,none⟩ (.slice v3 W R)).setCell ⟨g,4,none⟩ (.int .i64 v4)).setCell ⟨g,5,none⟩ (.int .i64 v5)).setCell ⟨g,6,none⟩ (.int .i64 v6)):=aB (aB (aB (aB (aB (aB (ag _ _ _ _))))));have b6:=hD e;have a5:=hD Z;have b7:=hD a8;have bc:=hD D;have a6:=hD N;have l:=hD P;clear e Z bk T a8 D N P d hv u;go_wp2_with fail;refine bodyPost_ret (bU Tryz.results86 rfl a6.O Tryz.underlying181 rfl (jS s C c')) rfl ?_;obtain⟨v,e⟩:=b6.O;have a1:=K.O.lt
  have a9:∀b,F b\/bC wr z b->¬b=g:=λb a c=>by
   rcases a with a|a
   ·exact Q.O (c ▸ a)
   ·exact absurd a1 (zC.2 (c ▸ a.1))
  rw[bc.O];refine⟨C,c',rfl,⟨v,(e.kp l.O a9).mo λb a=>?_⟩,?_,λt c=>?_⟩
  ·rcases a with a|a
   ·exact(H.O b a).imp id λc=>(c.up a5.O.size).up l.O.size
   ·exact .inr ((a.dn B.O.size).up l.O.size)
  ·exact(B.O.trans' a5.O λb a=>(H.O b a).imp id λc=>c.1).trans' l.O λb a=>.inr (by rw[a];exact zl ar.O.symm)
  ·exact((b7.O t c).kp l.O λb a=>a9 b (.inr a)).mo λb a=>(a.dn B.O.size).up l.O.size
end
theorem Cs:∃i,Tryz.prog.info? 3=some i/\i.zero=some (.int .i64 0)/\i.size=1/\i.bytes=8:=by
 have a:(Tryz.prog.info? 3).map (λi=>(i.zero,i.size,i.bytes))=some (some (.int .i64 0),1,8):=by kernel_rfl
 cases hi:Tryz.prog.info? 3 with
 |none=>rw[hi] at a;cases a
 |some i=>
  rw[hi] at a;simp only[yU,yC,yP] at a;exact⟨i,rfl,a⟩
theorem xB{w:World}{t:TypeId}(v:Value):cw (w.alloc (.cells #[v] t)) (w.heap.size+1) 1 (some ⟨w.heap.size,0,none⟩) 1 [v]:=
 ⟨by simp,λ_=>⟨_,rfl,by simp,λj u a=>by
  match j,a with
  |0,a=>simp at a;subst a;simp[Addr.add]⟩⟩
theorem zu7{w:World}{t:TypeId}(v:Value){k:Nat}(a:w.heap.size=k):cw (w.alloc (.cells #[v] t)) (k+1) 1 (some ⟨k,0,none⟩) 1 [v]:=by
 subst a;exact xB v
section
variable {w w':World}{F F':Nat->Prop}{fb:Nat}{L:gl}{p:List aj}{f:Fr}
theorem nu(c:∀b,F b->b<w.heap.size)(a:aT w F fb L p f)(e:jw p)(d:fN p f)(g:f.result=none):
 Calls Tryz.prog 86 #[.pointer (some ⟨fb,0,none⟩),.int .i64 1] w λi w'=>nZ w w' F fb p (f.run1 p) i:=by
 cases hw:f.waits with
 |none=>exact Br c a e d g hw
 |some o=>exact Bo o c a e d g hw
theorem aT.kids_at(d:aT w F fb L p f){A:Option Addr}{c:Nat}(e:L.kv=.slice A f.kd.length c):fO w A f.kd:=by
 rcases d.kv_form with⟨a,m⟩|⟨kb,c',a,_⟩
 ·rw[m];exact λi k b=>by simp at b
 ·rw[a] at e
  injection e with e1 e2 e3;subst e1;intro i k b;refine⟨kb,0,rfl,λj v hv=>?_⟩
  have n:j<4:=by
   have:=(gS hv).1
   simpa[fA] using this
  have l:=d.kd;rw[a] at l;have:=l.cells (g:=kb) rfl (i*4+j) v (by rw[iS _ _ j k b n];exact hv);rw[bE,yq] at this;rw[yq];exact this
def fE(f:Fr)(k:Nat):List Nat:=(List.range k).filter λi=>!(f.kd.getD i ⟨0,true,⟨0,0⟩⟩).given
theorem tB{f:Fr}{k:Nat}{y:cD}(a:f.kd[k]?=some y)(b:y.given=false):fE f (k+1)=fE f k++ [k]:=by
 unfold fE;rw[List.range_succ,List.filter_append]
 congr 1
 simp[yc,a,b]
theorem vo{f:Fr}{k:Nat}{y:cD}(a:f.kd[k]?=some y)(b:y.given=true):fE f (k+1)=fE f k:=by
 unfold fE;rw[List.range_succ,List.filter_append];simp[yc,a,b]
theorem vm(f:Fr)(k:Nat):(fE f k).length<=k:=by
 unfold fE;exact lT (List.length_filter_le _ _) (by simp)
def su(l:List Nat):List Value:=l.map λi:Nat=>Value.int .i64 ((i:Int)+1)
theorem xQ(q:aT w F fb L p f)(Y:p≠[])(H:f.kd.length<=16):
 Calls Tryz.prog 89 #[.pointer (some ⟨fb,0,none⟩)] w λx w'=>∃v,x=.returned v/\w'.ownsRow w.heap.size 3 1 v f.waitsOf.length (su f.waitsOf)/\ac w w':=by
 have a9:=hD (kM q Y);obtain⟨A,c,G⟩:=q.kv_any;have S:=q.kids_at G;have a5:=q.J.I 8;simp[cC,G] at a5;obtain⟨n,C⟩:=eX f.kd.length;rw[<-C] at a5 H;have a1:f.waitsOf=fE f n:=by rw[C];rfl
 rw[a1];obtain⟨aw,R,a2,a3,a4⟩:=Cs;have a7:=hD S;have N:=hD (aI C H);have t:=hD (aI R (aI a2 (aI a3 a4)));clear q Y G S C H a1 R a2 a3 a4;go_enter Tryz.func89,Tryz.ntmps89;go_wp2_with fail;refine a9.O.mono ?_;rintro x w' ⟨rfl,av⟩;subst av;go_wp2_with fail
 go_loopw [2,12] (λl i wr=>∃k:Nat,k<=n/\i=.int .i64 k/\wr.ownsRow w.heap.size 3 1 l (fE f k).length (su (fE f k))/\ac w wr) (λ_ i _=>n-(intOf i).toNat)
 case atStart=>exact⟨0,yx _,rfl,⟨by simp[fE,su],.inl ⟨rfl,rfl⟩⟩,oR⟩
 case round=>
  obtain⟨k,E,rfl,g,d⟩:=hrel
  by_cases a:k<n
  ·have b2:(0:Int)<=(k:Int):=dN k
   have am:(k:Int)<(n:Int):=cN a;have an:k<f.kd.length:=by rw[<-N.O.1];exact a
   have r:f.kd[k]?=some f.kd[k]:=gG an;obtain⟨b,o,al,j⟩:=a7.O.kp d k f.kd[k] r;generalize f.kd[k] =y at*;have a6:=j 0 _ rfl;have K:=j 1 _ rfl;have b0:=j 2 _ rfl;have b1:=j 3 _ rfl;rw[yW] at a6;subst al;have z:k<16:=lL a N.O.2;have s:wrap64 ((k:Int)+1)=(k:Int)+1:=nC z;have b3:=(cQ ((k:Int)+1)).trans s
   cases hg:y.given
   ·rw[hg] at K
    have D:=hD (tB r hg);have e:=hD g;have m:=hD d;obtain⟨az,B⟩:=eX ((fE f k).length);have W:az<16:=by rw[B];exact lM (vm f k) z
    rw[<-B] at e;have a8:=hD B;have P:=hD W;have Z:=d.size;have ab:=hD Z;clear j g d r hg B W Z z
    go_wp2_with (at_builtin;refine iI _ rfl (.tmp 20) (.tmp 23) 110 rfl w.heap.size 3 aw (.int .i64 0) 1 8 Tryz.underlying110 t.O.1 t.O.2.1 t.O.2.2.1 t.O.2.2.2 rfl (by decide) _ _ _ rfl ((e.O.alloc _).alloc _) _ _ _ _ _ rfl (zu7 _ (by simp)) ?c2 ?c3 ?c4 ?c5 ?_)
    case c2=>intro u a0;simp at a0;subst a0;rfl
    case c3=>exact lT (Nat.succ_le_of_lt P.O) (by unfold maxLen;decide)
    case c4=>exact lT (zP 8 (Nat.succ_le_of_lt P.O)) (by decide)
    case c5=>simp;have:=ab.O;omega
    intro b4 aE X Q ar;have V:=e.O.lt;have ad:=hD X;have ai:Hd (ac w aE):=hD (((m.O.alloc _).alloc _).grown Q (λk E=>.inr (V k E).1));clear X Q ar V a6 K b0 b1;go_wp2_with fail;go_roundw
    case rel=>exact⟨k+1,a,by first|exact cK k|exact cH s,by rw[D.O,yk,<-a8.O];unfold su;rw[yS];exact ad.O,ai.O⟩
    case measure=>first|exact aG rfl a|exact aG s a
   ·rw[hg] at K
    have D:=hD (vo r hg);have e:=hD g;have m:=hD d;clear j g d r hg z;go_wp2_with fail;go_roundw
    case rel=>exact⟨k+1,a,by first|exact cK k|exact cH s,by rw[D.O];exact e.O.alloc _,m.O.alloc _⟩
    case measure=>first|exact aG rfl a|exact aG s a
  ·have am:¬(k:Int)<(n:Int):=λx=>a (yB.1 x)
   have T:k=n:=yT E (yA a);rw[T] at g;have e:=hD g;have m:=hD d;clear g d T;go_wp2_with fail;go_ret;exact⟨_,rfl,e.O,m.O⟩
end
def fg(w:World)(g:Nat)(k:IntKind)(xs:List Int):Prop:=∀(i:Nat) (x:Int),xs[i]?=some x->w.cell? ⟨g,i,none⟩=some (.int k x)
theorem fg.kp{w w':World}{g:Nat}{k:IntKind}{c:List Int}(a:fg w g k c)(d:ac w w'):fg w' g k c:=λi x b=>
 (d.I (p:=⟨g,i,none⟩) (block_lt_of_cell (a i x b)) nF).trans (a i x b)
theorem fg.keep_{S:Nat->Prop}{w w':World}{g:Nat}{k:IntKind}{c:List Int}(a:fg w g k c)(e:aa S w w')(d:¬S g):fg w' g k c:=λi x b=>
 (e.I (p:=⟨g,i,none⟩) (block_lt_of_cell (a i x b)) d).trans (a i x b)
def gQ(pr:Int->Bool):List Int->Nat->Int
 | [],_=>-1
 |a :: l,k=>if pr a=true then(k:Int) else gQ pr l (k+1)
theorem oi(c:Int->Bool):∀(l:List Int) (k:Nat),decide ((0:Int)<=gQ c l k)=l.any c
 | [],k=>by simp[gQ]
 |a :: l,k=>by
  unfold gQ
  by_cases b:c a=true
  ·rw[yf b]
   simp[b]
  ·rw[yb b,oi c l (k+1)]
   simp[b]
def cZ(x:Int):Bool:=decide (0<=x/\x<=16)
theorem Bl(x:Int)(w:World):Calls Tryz.prog 218 #[.int .i64 x] w λd w'=>d=.returned (.bool (!cZ x))/\ac w w':=by
 by_cases b:x<0
 ·have a:cZ x=false:=yd (by omega)
  rw[a];have e:decide (x<0)=true:=yg b;go_enter Tryz.func218,Tryz.ntmps218;go_wp2_with fail;go_ret;exact⟨rfl,oR⟩
 ·have e:decide (x<0)=false:=yd b
  by_cases c:16<x
  ·have a:cZ x=false:=yd (by omega)
   rw[a];have g:decide (16<x)=true:=yg c;go_enter Tryz.func218,Tryz.ntmps218;go_wp2_with fail;go_ret;exact⟨rfl,oR⟩
  ·have a:cZ x=true:=yg (by omega)
   rw[a];have g:decide (16<x)=false:=yd c;go_enter Tryz.func218,Tryz.ntmps218;go_wp2_with fail;go_ret;exact⟨rfl,oR⟩
theorem uj(x regs:Int)(d:Nat)(w:World)(i:w.cell? ⟨d,0,none⟩=some (.int .i64 regs)):Calls Tryz.prog 222 #[.int .i64 x,.pointer (some ⟨d,0,none⟩)] w λg w'=>g=.returned (.bool (decide (regs<=x)))/\ac w w':=by
 obtain⟨b,a⟩:=eX (decide (regs<=x));rw[<-a]
 by_cases e:regs<=x
 ·have c:decide (regs<=x)=true:=yg e
  rw[c] at a;subst a;go_enter Tryz.func222,Tryz.ntmps222;go_wp2_with fail;go_ret;exact⟨rfl,oR⟩
 ·have c:decide (regs<=x)=false:=yd e
  rw[c] at a;subst a;go_enter Tryz.func222,Tryz.ntmps222;go_wp2_with fail;go_ret;exact⟨rfl,oR⟩
theorem eM{k n:Nat}(a:k<n)(b:n<=1000):wrap64 ((k:Int)+1)=(k:Int)+1:=by unfold wrap64;omega
theorem Cp(g:Nat)(a:List Int)(c:Nat)(w:World)(C:fg w g .i64 a)(t:a.length<=1000):
 Calls Tryz.prog 232 #[.slice (some ⟨g,0,none⟩) a.length c,.func (.func 218) #[] #[]] w λb w'=>b=.returned (.int .i64 (gQ (λx=>!cZ x) a 0))/\ac w w':=by
 obtain⟨r,v⟩:=eX (gQ (λx=>!cZ x) a 0);rw[<-v];have P:=hD v;have H:Hd (∀(x:Int) W,ac w W->Calls Tryz.prog 218 #[.int .i64 x] W λb w'=>b=.returned (.bool ((λx=>!cZ x) x))/\ac W w'):=hD (λx W _=>Bl x W);have K:=hD C;obtain⟨n,u⟩:=eX a.length;rw[<-u] at t ⊢;have A:=hD u;have N:=hD t;clear v C u t;go_enter Tryz.func232,Tryz.ntmps232;go_wp2_with fail
 go_loopw [8] (λi wr=>∃k:Nat,k<=n/\i=.int .i64 k/\gQ (λx=>!cZ x) (a.drop k) k=r/\ac w wr) (λi _=>n-(intOf i).toNat)
 case atStart=>exact⟨0,yx _,rfl,P.O.symm,oR⟩
 case round=>
  obtain⟨k,R,rfl,e,j⟩:=hrel
  by_cases d:k<n
  ·have V:(0:Int)<=(k:Int):=dN k
   have Q:(k:Int)<(n:Int):=cN d;have D:k<a.length:=by rw[<-A.O];exact d
   have S:=K.O.kp j k a[k] (gG D);rw[yM D] at e;unfold gQ at e;generalize a[k] =y at*;obtain⟨q,s⟩:=eX ((λx=>!cZ x) y:Bool);have m:(if q=true then(k:Int) else gQ (λx=>!cZ x) (a.drop (k+1)) (k+1))=r:=by rw[s];exact e
   have z:Hd (Calls Tryz.prog 218 ((λx:Int=>#[.int .i64 x]) y) wr λb w'=>b=.returned (.bool q)/\ac wr w'):=hD (by rw[s];exact H.O y wr j);have E:wrap64 ((k:Int)+1)=(k:Int)+1:=eM d N.O;have o:=hD j;clear e j s;simp only at z;go_wp2_with fail;refine z.O.mono ?_;rintro b T ⟨rfl,G⟩;have B:=hD (o.O.trans G);clear G S
   cases q
   ·have l:Hd (gQ (λx=>!cZ x) (a.drop (k+1)) (k+1)=r):=hD m
    clear m;go_wp2_with fail;go_roundw
    case rel=>exact⟨k+1,d,by first|exact cK k|exact cH E,l.O,B.O⟩
    case measure=>first|exact aG rfl d|exact aG E d
   ·have l:Hd ((k:Int)=r):=hD m
    clear m;go_wp2_with fail;go_ret;exact⟨by rw[<-l.O];rfl,B.O⟩
  ·have Q:¬(k:Int)<(n:Int):=λb=>d (yB.1 b)
   have:k=n:=yT R (yA d);subst this;rw[A.O,zq] at e;have l:=hD e;have o:=hD j;clear e j;go_wp2_with fail;go_ret;exact⟨by rw[<-l.O];rfl,o.O⟩
theorem Cn(g:Nat)(a:List Int)(c:Nat)(w:World)(d:fg w g .i64 a)(e:a.length<=1000):
 Calls Tryz.prog 217 #[.slice (some ⟨g,0,none⟩) a.length c,.func (.func 218) #[] #[]] w λb w'=>b=.returned (.bool (a.any (λx=>!cZ x)))/\ac w w':=by
 have j:=hD (Cp g a c w d e);rw[<-oi _ a 0];generalize gQ (λx=>!cZ x) a 0=r at*;generalize a.length=n at*;clear d e;go_enter Tryz.func217,Tryz.ntmps217;go_wp2_with fail;refine j.O.mono ?_;rintro b l ⟨rfl,i⟩;have k:=hD i;clear i;go_wp2_with fail;go_ret;exact⟨rfl,k.O⟩
theorem wj(g:Nat)(a:List Int)(c:Nat)(w:World)(D:fg w g .i64 a)(u:a.length<=1000)(regs:Int)(j:Nat)(E:w.cell? ⟨j,0,none⟩=some (.int .i64 regs)):
 Calls Tryz.prog 232 #[.slice (some ⟨g,0,none⟩) a.length c,.func (.func 222) #[] #[.pointer (some ⟨j,0,none⟩)]] w λb w'=>b=.returned (.int .i64 (gQ (λx=>decide (regs<=x)) a 0))/\ac w w':=by
 obtain⟨r,z⟩:=eX (gQ (λx=>decide (regs<=x)) a 0);rw[<-z];have R:=hD z;have N:Hd (∀(x:Int) W,ac w W->Calls Tryz.prog 222 #[.int .i64 x,.pointer (some ⟨j,0,none⟩)] W λb w'=>b=.returned (.bool ((λx=>decide (regs<=x)) x))/\ac W w'):=hD (λx W S=>uj x regs j W ((S.I (p:=⟨j,0,none⟩) (block_lt_of_cell E) nF).trans E));have P:=hD D;obtain⟨n,v⟩:=eX a.length;rw[<-v] at u ⊢;have B:=hD v;have Q:=hD u;clear z D v u;go_enter Tryz.func232,Tryz.ntmps232;go_wp2_with fail
 go_loopw [8] (λi wr=>∃k:Nat,k<=n/\i=.int .i64 k/\gQ (λx=>decide (regs<=x)) (a.drop k) k=r/\ac w wr) (λi _=>n-(intOf i).toNat)
 case atStart=>exact⟨0,yx _,rfl,R.O.symm,oR⟩
 case round=>
  obtain⟨k,V,rfl,e,l⟩:=hrel
  by_cases d:k<n
  ·have Z:(0:Int)<=(k:Int):=dN k
   have T:(k:Int)<(n:Int):=cN d;have G:k<a.length:=by rw[<-B.O];exact d
   have X:=P.O.kp l k a[k] (gG G);rw[yM G] at e;unfold gQ at e;generalize a[k] =y at*;obtain⟨s,t⟩:=eX ((λx=>decide (regs<=x)) y:Bool);have o:(if s=true then(k:Int) else gQ (λx=>decide (regs<=x)) (a.drop (k+1)) (k+1))=r:=by rw[t];exact e
   have A:Hd (Calls Tryz.prog 222 ((λx:Int=>#[.int .i64 x,.pointer (some ⟨j,0,none⟩)]) y) wr λb w'=>b=.returned (.bool s)/\ac wr w'):=hD (by rw[t];exact N.O y wr l);have H:wrap64 ((k:Int)+1)=(k:Int)+1:=eM d Q.O;have q:=hD l;clear e l t;simp only at A;go_wp2_with fail;refine A.O.mono ?_;rintro b Y ⟨rfl,K⟩;have C:=hD (q.O.trans K);clear K X
   cases s
   ·have m:Hd (gQ (λx=>decide (regs<=x)) (a.drop (k+1)) (k+1)=r):=hD o
    clear o;go_wp2_with fail;go_roundw
    case rel=>exact⟨k+1,d,by first|exact cK k|exact cH H,m.O,C.O⟩
    case measure=>first|exact aG rfl d|exact aG H d
   ·have m:Hd ((k:Int)=r):=hD o
    clear o;go_wp2_with fail;go_ret;exact⟨by rw[<-m.O];rfl,C.O⟩
  ·have T:¬(k:Int)<(n:Int):=λb=>d (yB.1 b)
   have:k=n:=yT V (yA d);subst this;rw[B.O,zq] at e;have m:=hD e;have q:=hD l;clear e l;go_wp2_with fail;go_ret;exact⟨by rw[<-m.O];rfl,q.O⟩
theorem we(g:Nat)(a:List Int)(c:Nat)(w:World)(e:fg w g .i64 a)(j:a.length<=1000)(regs:Int)(b:Nat)(i:w.cell? ⟨b,0,none⟩=some (.int .i64 regs)):
 Calls Tryz.prog 217 #[.slice (some ⟨g,0,none⟩) a.length c,.func (.func 222) #[] #[.pointer (some ⟨b,0,none⟩)]] w λd w'=>d=.returned (.bool (a.any (λx=>decide (regs<=x))))/\ac w w':=by
 have l:=hD (wj g a c w e j regs b i);rw[<-oi _ a 0];generalize gQ (λx=>decide (regs<=x)) a 0=r at*;generalize a.length=n at*;clear e j i;go_enter Tryz.func217,Tryz.ntmps217;go_wp2_with fail;refine l.O.mono ?_;rintro d o ⟨rfl,k⟩;have m:=hD k;clear k;go_wp2_with fail;go_ret;exact⟨rfl,m.O⟩
theorem uC:Keyed Tryz.prog 5:=Maps.int_keyed Tryz.underlying5
noncomputable def gk(f:Value->Option Value)(xs:List Int)(pv:Value):Value->Option Value:=xs.foldl (λf k=>gR f (.int .u8 k) (some pv)) f
theorem xO(f:Value->Option Value)(b:List Int)(x:Int)(a:Value):gk f (b++ [x]) a=gR (gk f b a) (.int .u8 x) (some a):=by
 unfold gk;rw[List.foldl_append];rfl
theorem js:∀(b:List Int) (f:Value->Option Value) (a:Value) (y:Int),(∀x∈b,x≠y)->gk f b a (.int .u8 y)=f (.int .u8 y)
 | [],f,a,y,_=>rfl
 |x :: b,f,a,y,d=>by
  have:=js b (gR f (.int .u8 x) (some a)) a y (λz e=>d z (yV _ e));unfold gk at this ⊢;rw[List.foldl_cons,this];exact ju _ _ (λc=>d x zh (by injection c with _ c;exact c.symm))
theorem tW:∀(b:List Int) (f:Value->Option Value) (a:Value) (y:Int),y∈b->gk f b a (.int .u8 y)=some a
 | [],f,a,y,d=>by cases d
 |x :: b,f,a,y,d=>by
  unfold gk;rw[List.foldl_cons]
  by_cases e:y∈b
  ·exact tW b _ a y e
  ·have:y=x:=by rcases yG.1 d with c|c;exact c;exact absurd c e
   subst this;have:=js b (gR f (.int .u8 y) (some a)) a y (λz g c=>e (c ▸ g));unfold gk at this;rw[this];exact jT _ _ _
def ap(d a b n:Bool):Value:=.agg #[.bool d,.bool a,.bool b,.bool n]
theorem jR(d a b n:Bool)(e:List Int)(g c m cnt:Nat)(f:Value->Option Value)(w:World)(W:aL Tryz.prog w 5 m f cnt)(a1:fg w g .u8 e)(a2:g≠m)(a9:∀x∈e,(Lit.int .u8 x).wf=true)(Z:∀x∈e,f (.int .u8 x)=none)(a6:e.Nodup)
 (Y:cnt+e.length<=1000):
 Calls Tryz.prog 233 #[ap d a b n,.map (some m),.slice (some ⟨g,0,none⟩) e.length c] w λo w'=>o=.returned (.tuple #[])/\aL Tryz.prog w' 5 m (gk f e (ap d a b n)) (cnt+e.length)/\aa (λb=>b=m) w w':=by
 obtain⟨v,y⟩:=eX (w.alloc (.cells #[.bool d,.bool a,.bool b,.bool n] 327));have B:ac w v:=by rw[y];exact(aa.refl _ w).alloc _
 have H:ae v w.heap.size 327 #[.bool d,.bool a,.bool b,.bool n]:=by rw[y];exact bN
 obtain⟨q,Q⟩:=eX w.heap.size;rw[<-Q] at H;obtain⟨s,N⟩:=eX e.length;have T:Hd (aL Tryz.prog v 5 m f cnt):=hD (W.only B nF);have an:=hD (a1.kp B);have S:=hD H;have az:=hD Q;have aw:=hD B;have D:=hD N;have C:=hD Y;have u:=hD (aI a9 (aI Z (aI a6 a2)));have V:=hD y.symm;rw[<-N] at C ⊢;unfold ap;clear W a1 a2 a9 Z a6 Y B H Q N y;go_enter Tryz.func233,Tryz.ntmps233;go_upto_region 1 with fail;rw[V.O,<-az.O];clear V;go_wp2_with fail
 go_loopw [10] (λi wr=>∃k:Nat,k<=s/\i=.int .i64 k/\aL Tryz.prog wr 5 m (gk f (e.take k) (ap d a b n)) (cnt+k)/\aa (λb=>b=m) v wr) (λi _=>s-(intOf i).toNat)
 case atStart=>exact⟨0,yx _,rfl,T.O,oR⟩
 case round=>
  obtain⟨k,a4,rfl,t,r⟩:=hrel
  by_cases l:k<s
  ·have bc:(0:Int)<=(k:Int):=dN k
   have b1:(k:Int)<(s:Int):=cN l;have A:k<e.length:=by rw[<-D.O];exact l
   have R:e[k]?=some e[k]:=gG A;have ba:=an.O.keep_ r u.O.2.2.2 k e[k] R;have P:e[k]∈e:=yN A
   have a7:∀x∈e.take k,x≠e[k]:=λx b5 o=>by
    obtain⟨j,z⟩:=yF b5
    have a3:j<k:=by
     have:=(gS z).1;rw[ze] at this;omega
    rw[List.getElem?_take_of_lt a3] at z;have b2:=(gS z).1;have:e[j] =e[k]:=by rw[<-o];exact(gS z).2
    exact List.pairwise_iff_getElem.1 u.O.2.2.1 j k b2 A a3 this
   have a0:gk f (e.take k) (ap d a b n) (.int .u8 e[k])=none:=by rw[js _ _ _ _ a7];exact u.O.2.1 _ P
   have a8:gk f (e.take (k+1)) (ap d a b n)=gR (gk f (e.take k) (ap d a b n)) (.int .u8 e[k]) (some (ap d a b n)):=by
    rw[yO,R];exact xO _ _ _ _
   have ab:=u.O.1 _ P;generalize e[k] =x at*;have b3:∃ai,keyOf Tryz.prog 5 (.int .u8 x)=some ai:=⟨_,Maps.keyOf_int_mk Tryz.underlying5 ab⟩
   obtain⟨ai,a5⟩:=b3;have X:=r.J S.O (T.O.ne S.O);obtain⟨b6,b7,b8,b9⟩:=X.gE4;have ad:wrap64 ((k:Int)+1)=(k:Int)+1:=eM l (lT (Yh _ _) C.O);have E:=hD t;have G:=hD r;have am:=hD a0;have aE:=hD a8;have ar:=hD a5;clear t r a0 a8 a5 R P a7 A ab X;go_wp2_with fail;refine oK E.O uC Tryz.underlying329 ar.O (lM (lT (Nat.add_le_add_left a4 cnt) C.O) (by unfold maxLen;decide)) ?_;intro bb K al;rw[show(gk f (e.take k) (ap d a b n) (.int .u8 x)).isSome=false by rw[am.O];rfl] at K;have av:=hD K;have b0:=hD (G.O.trans al);clear K al ba b6 b7 b8 b9;go_wp2_with fail;go_roundw
   case rel=>exact⟨k+1,l,by first|exact cK k|exact cH ad,by rw[aE.O];exact av.O,b0.O⟩
   case measure=>first|exact aG rfl l|exact aG ad l
  ·have b1:¬(k:Int)<(s:Int):=λo=>l (yB.1 o)
   have b4:k=s:=yT a4 (yA l);subst b4;rw[D.O,zr,<-D.O] at t;have E:=hD t;have G:=hD r;clear t r;go_wp2_with fail
   go_end0
   exact⟨rfl,E.O,(aw.O.mono λ_ o=>o.elim).trans G.O⟩
theorem dM(w:World)(k:IntKind)(a:List Int)(T:TypeId):fg (w.alloc (.cells (a.map (Value.int k)).toArray T)) w.heap.size k a:=λi x b=>by
 rw[(ae.new w T (a.map (Value.int k)).toArray).I];simp[b]
noncomputable def cx(l:List (List Int×Value)):Value->Option Value:=l.foldl (λf c=>gk f c.1 c.2) (λ_=>none)
theorem fV(l:List (List Int×Value))(b:List Int)(a:Value):cx (l++ [(b,a)])=gk (cx l) b a:=by
 unfold cx;rw[List.foldl_append];rfl
theorem fD(l:List (List Int×Value))(y:Int):(∀c∈l,∀x∈c.1,x≠y)->cx l (.int .u8 y)=none:=by
 unfold cx
 suffices a:∀(l:List (List Int×Value)) (f:Value->Option Value),f (.int .u8 y)=none->(∀c∈l,∀x∈c.1,x≠y)->l.foldl (λf c=>gk f c.1 c.2) f (.int .u8 y)=none from a l _ rfl
 intro l
 induction l with
 |nil=>intro f b _;exact b
 |cons c l e=>
  intro f b a;rw[List.foldl_cons];refine e _ ?_ (λc d=>a c (yV _ d));rw[js _ _ _ _ (a c zh)];exact b
theorem dD(l:List (List Int×Value))(y:Int)(i:Value)(c:List Int×Value)(e:List (List Int×Value))(m:y∈c.1)(g:c.2=i)(b:∀c∈e,∀x∈c.1,x≠y):cx (l++c :: e) (.int .u8 y)=some i:=by
 unfold cx;rw[List.foldl_append,List.foldl_cons];generalize l.foldl (λf c=>gk f c.1 c.2) (λ_=>none)=j;have a:gk j c.1 c.2 (.int .u8 y)=some i:=by rw[tW _ _ _ _ m,g]
 revert a b;generalize gk j c.1 c.2=k
 induction e generalizing k with
 |nil=>intro _ a;exact a
 |cons d e n=>
  intro b a;rw[List.foldl_cons];refine n _ (λc g=>b c (yV _ g)) ?_;rw[js _ _ _ _ (b d zh)];exact a
def fW:List (List Int×Value):=[([1],ap true false false true),([2],ap true true false false),([3,4,5,6,7,8,9],ap true true true false),([10],ap false false false true),([11],ap false true false true),([12],ap true true false true),([13],ap false false false false),([14],ap false true false false)]
theorem Cl(w:World):Calls Tryz.prog 220 #[] w λa w'=>a=.returned (.map (some w.heap.size))/\aL Tryz.prog w' 5 w.heap.size (cx fW) 14/\ac w w':=by
 obtain⟨e,r⟩:=eX (w.alloc (.map #[] 0));obtain⟨c,g⟩:=eX w.heap.size;have i:Hd (aL Tryz.prog e 5 c (cx []) 0):=hD (by rw[r,g];exact aL.made uC w);have E:Hd (aa (λb=>b=c) e e):=hD oR;have D:=hD r.symm;have C:=hD g;rw[<-g];clear r g;have ai:=@run_makeMap Tryz.prog;go_enter Tryz.func220,Tryz.ntmps220;go_upto_region 2 with fail;rw[D.O,<-C.O];go_wp2_with fail;refine(jR true false false true [1] e.heap.size 1 c 0 (cx []) _ (i.O.only ((aa.refl (λ_=>False) _).alloc _) nF) (dM e .u8 [1] _) (λa=>absurd (a ▸ i.O.lt) (yQ _)) (by decide) (λx d=>fD _ _ (by simp at d;first|(simp;done)|(simp;omega))) (by decide) (by decide)).mono ?_;rintro a S ⟨rfl,s,a0⟩;rw[<-fV] at s;have j:=hD s;have G:=hD (E.O.trans (((aa.refl (λb=>b=c) _).alloc _).trans a0));clear s a0 i E;go_wp2_with fail;refine(jR true true false false [2] S.heap.size 1 c 1 (cx [([1],ap true false false true)]) _ (j.O.only ((aa.refl (λ_=>False) _).alloc _) nF) (dM S .u8 [2] _) (λa=>absurd (a ▸ j.O.lt) (yQ _)) (by decide) (λx d=>fD _ _ (by simp at d;first|(simp;done)|(simp;omega))) (by decide) (by decide)).mono ?_;rintro a T ⟨rfl,t,a1⟩;rw[<-fV] at t;have k:=hD t;have H:=hD (G.O.trans (((aa.refl (λb=>b=c) _).alloc _).trans a1));clear t a1 j G;go_wp2_with fail;refine(jR true true true false [3,4,5,6,7,8,9] T.heap.size 7 c 2 (cx [([1],ap true false false true),([2],ap true true false false)]) _ (k.O.only ((aa.refl (λ_=>False) _).alloc _) nF) (dM T .u8 [3,4,5,6,7,8,9] _) (λa=>absurd (a ▸ k.O.lt) (yQ _)) (by decide) (λx d=>fD _ _ (by simp at d;first|(simp;done)|(simp;omega))) (by decide) (by decide)).mono ?_;rintro a V ⟨rfl,u,a2⟩;rw[<-fV] at u;have l:=hD u;have K:=hD (H.O.trans (((aa.refl (λb=>b=c) _).alloc _).trans a2));clear u a2 k H;go_wp2_with fail;refine(jR false false false true [10] V.heap.size 1 c 9 (cx [([1],ap true false false true),([2],ap true true false false),([3,4,5,6,7,8,9],ap true true true false)]) _ (l.O.only ((aa.refl (λ_=>False) _).alloc _) nF) (dM V .u8 [10] _) (λa=>absurd (a ▸ l.O.lt) (yQ _)) (by decide) (λx d=>fD _ _ (by simp at d;first|(simp;done)|(simp;omega))) (by decide) (by decide)).mono ?_;rintro a W ⟨rfl,v,a3⟩;rw[<-fV] at v;have m:=hD v;have N:=hD (K.O.trans (((aa.refl (λb=>b=c) _).alloc _).trans a3));clear v a3 l K;go_wp2_with fail;refine(jR false true false true [11] W.heap.size 1 c 10 (cx [([1],ap true false false true),([2],ap true true false false),([3,4,5,6,7,8,9],ap true true true false),([10],ap false false false true)]) _ (m.O.only ((aa.refl (λ_=>False) _).alloc _) nF) (dM W .u8 [11] _) (λa=>absurd (a ▸ m.O.lt) (yQ _)) (by decide) (λx d=>fD _ _ (by simp at d;first|(simp;done)|(simp;omega))) (by decide) (by decide)).mono ?_;rintro a X ⟨rfl,y,a4⟩;rw[<-fV] at y;have n:=hD y;have P:=hD (N.O.trans (((aa.refl (λb=>b=c) _).alloc _).trans a4));clear y a4 m N;go_wp2_with fail;refine(jR true true false true [12] X.heap.size 1 c 11 (cx [([1],ap true false false true),([2],ap true true false false),([3,4,5,6,7,8,9],ap true true true false),([10],ap false false false true),([11],ap false true false true)]) _ (n.O.only ((aa.refl (λ_=>False) _).alloc _) nF) (dM X .u8 [12] _) (λa=>absurd (a ▸ n.O.lt) (yQ _)) (by decide) (λx d=>fD _ _ (by simp at d;first|(simp;done)|(simp;omega))) (by decide) (by decide)).mono ?_;rintro a Y ⟨rfl,z,a5⟩;rw[<-fV] at z;have o:=hD z;have Q:=hD (P.O.trans (((aa.refl (λb=>b=c) _).alloc _).trans a5));clear z a5 n P;go_wp2_with fail;refine(jR false false false false [13] Y.heap.size 1 c 12 (cx [([1],ap true false false true),([2],ap true true false false),([3,4,5,6,7,8,9],ap true true true false),([10],ap false false false true),([11],ap false true false true),([12],ap true true false true)]) _ (o.O.only ((aa.refl (λ_=>False) _).alloc _) nF) (dM Y .u8 [13] _) (λa=>absurd (a ▸ o.O.lt) (yQ _)) (by decide) (λx d=>fD _ _ (by simp at d;first|(simp;done)|(simp;omega))) (by decide) (by decide)).mono ?_;rintro a Z ⟨rfl,A,a6⟩;rw[<-fV] at A;have q:=hD A;have R:=hD (Q.O.trans (((aa.refl (λb=>b=c) _).alloc _).trans a6));clear A a6 o Q;go_wp2_with fail;refine(jR false true false false [14] Z.heap.size 1 c 13 (cx [([1],ap true false false true),([2],ap true true false false),([3,4,5,6,7,8,9],ap true true true false),([10],ap false false false true),([11],ap false true false true),([12],ap true true false true),([13],ap false false false false)]) _ (q.O.only ((aa.refl (λ_=>False) _).alloc _) nF) (dM Z .u8 [14] _) (λa=>absurd (a ▸ q.O.lt) (yQ _)) (by decide) (λx d=>fD _ _ (by simp at d;first|(simp;done)|(simp;omega))) (by decide) (by decide)).mono ?_;rintro a W8 ⟨rfl,B,a7⟩;rw[<-fV] at B;have a8:=hD B;have a9:=hD (R.O.trans (((aa.refl (λb=>b=c) _).alloc _).trans a7));clear B a7 q R;go_wp2_with fail;go_ret
 have ad:ac w e:=by rw[<-D.O];exact(aa.refl _ w).alloc _
 exact⟨rfl,a8.O,ad.trans' a9.O λb ab=>.inr (by rw[ab,C.O];exact lR)⟩
def rP(k:Int):Bool:=decide (1<=k/\k<=9\/k=12)
def rN(k:Int):Bool:=decide (2<=k/\k<=9\/k=11\/k=12\/k=14)
def rO(k:Int):Bool:=decide (3<=k/\k<=9)
def rQ(k:Int):Bool:=decide (k=1\/k=10\/k=11\/k=12)
def uA(k:Int):Bool:=decide (1<=k/\k<=14)
theorem AF(k:Int):(cx fW (.int .u8 k)).getD (ap false false false false)=ap (rP k) (rN k) (rO k) (rQ k)/\(cx fW (.int .u8 k)).isSome=uA k:=by
 by_cases j:1<=k/\k<=14
 rotate_left
 ·have i:cx fW (.int .u8 k)=none:=fD _ _ (by simp[fW];omega)
  have b:rP k=false:=yd (by omega);have c:rN k=false:=yd (by omega);have d:rO k=false:=yd (by omega);have e:rQ k=false:=yd (by omega);have g:uA k=false:=yd (by omega);rw[i,b,c,d,e,g];exact⟨rfl,rfl⟩
 have a:k=1\/k=2\/k=3\/k=4\/k=5\/k=6\/k=7\/k=8\/k=9\/k=10\/k=11\/k=12\/k=13\/k=14:=by omega
 rcases a with a|a|a|a|a|a|a|a|a|a|a|a|a|a
 ·subst a
  have:cx fW (.int .u8 1)=some (ap true false false true):=dD [] 1 _ ([1],ap true false false true) [([2],ap true true false false),([3,4,5,6,7,8,9],ap true true true false),([10],ap false false false true),([11],ap false true false true),([12],ap true true false true),([13],ap false false false false),([14],ap false true false false)] (by simp) rfl (by simp);rw[this];exact⟨rfl,rfl⟩
 ·subst a
  have:cx fW (.int .u8 2)=some (ap true true false false):=dD [([1],ap true false false true)] 2 _ ([2],ap true true false false) [([3,4,5,6,7,8,9],ap true true true false),([10],ap false false false true),([11],ap false true false true),([12],ap true true false true),([13],ap false false false false),([14],ap false true false false)] (by simp) rfl (by simp);rw[this];exact⟨rfl,rfl⟩
 ·subst a
  have:cx fW (.int .u8 3)=some (ap true true true false):=dD [([1],ap true false false true),([2],ap true true false false)] 3 _ ([3,4,5,6,7,8,9],ap true true true false) [([10],ap false false false true),([11],ap false true false true),([12],ap true true false true),([13],ap false false false false),([14],ap false true false false)] (by simp) rfl (by simp);rw[this];exact⟨rfl,rfl⟩
 ·subst a
  have:cx fW (.int .u8 4)=some (ap true true true false):=dD [([1],ap true false false true),([2],ap true true false false)] 4 _ ([3,4,5,6,7,8,9],ap true true true false) [([10],ap false false false true),([11],ap false true false true),([12],ap true true false true),([13],ap false false false false),([14],ap false true false false)] (by simp) rfl (by simp);rw[this];exact⟨rfl,rfl⟩
 ·subst a
  have:cx fW (.int .u8 5)=some (ap true true true false):=dD [([1],ap true false false true),([2],ap true true false false)] 5 _ ([3,4,5,6,7,8,9],ap true true true false) [([10],ap false false false true),([11],ap false true false true),([12],ap true true false true),([13],ap false false false false),([14],ap false true false false)] (by simp) rfl (by simp);rw[this];exact⟨rfl,rfl⟩
 ·subst a
  have:cx fW (.int .u8 6)=some (ap true true true false):=dD [([1],ap true false false true),([2],ap true true false false)] 6 _ ([3,4,5,6,7,8,9],ap true true true false) [([10],ap false false false true),([11],ap false true false true),([12],ap true true false true),([13],ap false false false false),([14],ap false true false false)] (by simp) rfl (by simp);rw[this];exact⟨rfl,rfl⟩
 ·subst a
  have:cx fW (.int .u8 7)=some (ap true true true false):=dD [([1],ap true false false true),([2],ap true true false false)] 7 _ ([3,4,5,6,7,8,9],ap true true true false) [([10],ap false false false true),([11],ap false true false true),([12],ap true true false true),([13],ap false false false false),([14],ap false true false false)] (by simp) rfl (by simp);rw[this];exact⟨rfl,rfl⟩
 ·subst a
  have:cx fW (.int .u8 8)=some (ap true true true false):=dD [([1],ap true false false true),([2],ap true true false false)] 8 _ ([3,4,5,6,7,8,9],ap true true true false) [([10],ap false false false true),([11],ap false true false true),([12],ap true true false true),([13],ap false false false false),([14],ap false true false false)] (by simp) rfl (by simp);rw[this];exact⟨rfl,rfl⟩
 ·subst a
  have:cx fW (.int .u8 9)=some (ap true true true false):=dD [([1],ap true false false true),([2],ap true true false false)] 9 _ ([3,4,5,6,7,8,9],ap true true true false) [([10],ap false false false true),([11],ap false true false true),([12],ap true true false true),([13],ap false false false false),([14],ap false true false false)] (by simp) rfl (by simp);rw[this];exact⟨rfl,rfl⟩
 ·subst a
  have:cx fW (.int .u8 10)=some (ap false false false true):=dD [([1],ap true false false true),([2],ap true true false false),([3,4,5,6,7,8,9],ap true true true false)] 10 _ ([10],ap false false false true) [([11],ap false true false true),([12],ap true true false true),([13],ap false false false false),([14],ap false true false false)] (by simp) rfl (by simp);rw[this];exact⟨rfl,rfl⟩
 ·subst a
  have:cx fW (.int .u8 11)=some (ap false true false true):=dD [([1],ap true false false true),([2],ap true true false false),([3,4,5,6,7,8,9],ap true true true false),([10],ap false false false true)] 11 _ ([11],ap false true false true) [([12],ap true true false true),([13],ap false false false false),([14],ap false true false false)] (by simp) rfl (by simp);rw[this];exact⟨rfl,rfl⟩
 ·subst a
  have:cx fW (.int .u8 12)=some (ap true true false true):=dD [([1],ap true false false true),([2],ap true true false false),([3,4,5,6,7,8,9],ap true true true false),([10],ap false false false true),([11],ap false true false true)] 12 _ ([12],ap true true false true) [([13],ap false false false false),([14],ap false true false false)] (by simp) rfl (by simp);rw[this];exact⟨rfl,rfl⟩
 ·subst a
  have:cx fW (.int .u8 13)=some (ap false false false false):=dD [([1],ap true false false true),([2],ap true true false false),([3,4,5,6,7,8,9],ap true true true false),([10],ap false false false true),([11],ap false true false true),([12],ap true true false true)] 13 _ ([13],ap false false false false) [([14],ap false true false false)] (by simp) rfl (by simp);rw[this];exact⟨rfl,rfl⟩
 ·subst a
  have:cx fW (.int .u8 14)=some (ap false true false false):=dD [([1],ap true false false true),([2],ap true true false false),([3,4,5,6,7,8,9],ap true true true false),([10],ap false false false true),([11],ap false true false true),([12],ap true true false true),([13],ap false false false false)] 14 _ ([14],ap false true false false) [] (by simp) rfl (by simp);rw[this];exact⟨rfl,rfl⟩
def di(o:bQ):Bool:=uA o.k&&(cZ o.d&&cZ o.a&&cZ o.b)&&(rP o.k||o.d==0)&&(rN o.k||o.a==0)&&(rO o.k||o.b==0)&&(rQ o.k||o.n==0)
theorem tO(g:Nat)(a:List Int)(c:Nat)(w:World)(e:fg w g .i64 a)(i:a.length<=1000):
 Calls Tryz.prog 192 #[.slice (some ⟨g,0,none⟩) a.length c] w λd w'=>d=.returned (.bool (a.all cZ))/\ac w w':=by
 have b:=Cn g a c w e i;have j:a.all cZ= !(a.any λx=>!cZ x):=by rw[List.not_any_eq_all_not];simp
 rw[j];have l:=hD b;generalize a.any (λx=>!cZ x)=r at*;generalize a.length=n at*;clear b e i j;go_enter Tryz.func192,Tryz.ntmps192;go_wp2_with fail;refine l.O.mono ?_;rintro d o ⟨rfl,k⟩;have m:=hD k;clear k;go_wp2_with fail;go_ret;exact⟨rfl,m.O⟩
theorem ux(o:bQ)(b5:(Lit.int .u8 o.k).wf=true)(w:World):Calls Tryz.prog 195 #[eS o] w λy w'=>y=.returned (.bool (di o))/\ac w w':=by
 obtain⟨e,K⟩:=eX (w.alloc (.cells #[.int .u8 o.k,.int .i64 o.d,.int .i64 o.a,.int .i64 o.b,.int .i64 o.n] 106));have b6:ac w e:=by rw[K];exact(aa.refl _ w).alloc _
 have G:ae e w.heap.size 106 #[.int .u8 o.k,.int .i64 o.d,.int .i64 o.a,.int .i64 o.b,.int .i64 o.n]:=by rw[K];exact bN
 obtain⟨g,Z⟩:=eX w.heap.size;rw[<-Z] at G;obtain⟨a1,a2⟩:=AF o.k;obtain⟨v,a0⟩ :∃b,b=uA o.k:=⟨_,rfl⟩
 obtain⟨d,Y⟩ :∃b,b=rP o.k:=⟨_,rfl⟩
 obtain⟨a,V⟩ :∃b,b=rN o.k:=⟨_,rfl⟩
 obtain⟨b,X⟩:=eX (rO o.k);obtain⟨n,a3⟩ :∃b,b=rQ o.k:=⟨_,rfl⟩
 rw[<-Y,<-V,<-X,<-a3] at a1;rw[<-a0] at a2;obtain⟨r,a4⟩:=eX ((cZ o.d&&cZ o.a&&cZ o.b));obtain⟨b8,a5⟩ :∃x,x=(o.d==0):=⟨_,rfl⟩
 obtain⟨a9,a6⟩ :∃x,x=(o.a==0):=⟨_,rfl⟩
 obtain⟨E,a7⟩ :∃x,x=(o.b==0):=⟨_,rfl⟩
 obtain⟨t,a8⟩ :∃x,x=(o.n==0):=⟨_,rfl⟩
 have b4:di o=(v&&r&&(d||b8)&&(a||a9)&&(b||E)&&(n||t)):=by unfold di;rw[a0,a4,Y,V,X,a3,a5,a6,a7,a8]
 rw[b4];have bb:=hD (aI a5.symm (aI a6.symm (aI a7.symm a8.symm)));clear a5 a6 a7 a8
 have A:Hd (∀W j,aL Tryz.prog W 5 j (cx fW) 14->∀k,(Instr.lookup 329 (.map (some j)) (.int .u8 o.k) true).run Tryz.prog (W.drewN k)=.ok (.tuple #[ap d a b n,.bool v]) (W.drewN k)):=hD λW j i k=>by
  have:=(i.heap (w':=W.drewN k) rfl).look2 uC Tryz.underlying329 (z:=ap false false false false) (by kernel_rfl) (Maps.keyOf_int_mk Tryz.underlying5 b5);rw[a1,a2] at this;exact this
 have aw:Hd (∀W H,fg W H .i64 [o.d,o.a,o.b]->Calls Tryz.prog 192 #[.slice (some ⟨H,0,none⟩) 3 3] W λy w'=>y=.returned (.bool r)/\ac W w'):=hD λW H bf=>by
  have:=tO H [o.d,o.a,o.b] 3 W bf (by simp);rw[show [o.d,o.a,o.b].all cZ=r by rw[a4];simp[Bool.and_assoc]] at this;exact this
 have al:=hD G;have av:=hD b6;have ba:=hD Z;have az:=hD K.symm;have Q:=hD Cl;have m:Hd (∀W,ac e W->ac e W/\W.cell? ⟨g,0,none⟩=some (.int .u8 o.k)):=hD λW b2=>⟨b2,(b2.J G nF).I 0⟩
 clear G b6 Z K a1 a2 a0 Y V X a3 a4 b4 b5;unfold eS;go_enter Tryz.func195,Tryz.ntmps195;go_upto_region 1 with fail;rw[az.O,<-ba.O];clear az
 go_cut [3,4] (λs3 s4 wx=>s4=.bool v/\∃T:Nat,s3=.pointer (some ⟨T,0,none⟩)/\ae wx T 327 #[.bool d,.bool a,.bool b,.bool n]/\ac e wx)
 case first=>
  have c8:=m.O e oR;have b9:Hd (ae (e.alloc (.cells #[.bool false,.bool false,.bool false,.bool false] 327)) e.heap.size 327 #[.bool false,.bool false,.bool false,.bool false]):=hD (ae.new e _ _);have R:Hd (ac e (e.alloc (.cells #[.bool false,.bool false,.bool false,.bool false] 327))):=hD (oR.alloc _);have ar:Hd (∀W j,aL Tryz.prog W 5 j (cx fW) 14->(∀k,(Instr.lookup 329 (.map (some j)) (.int .u8 o.k) true).run Tryz.prog (W.drewN k)=.ok (.tuple #[.agg #[.bool d,.bool a,.bool b,.bool n],.bool v]) (W.drewN k))/\(Instr.lookup 329 (.map (some j)) (.int .u8 o.k) true).run Tryz.prog W=.ok (.tuple #[.agg #[.bool d,.bool a,.bool b,.bool n],.bool v]) W/\(Instr.lookup 329 (.map (some j)) (.int .u8 o.k) true).run Tryz.prog W.drew=.ok (.tuple #[.agg #[.bool d,.bool a,.bool b,.bool n],.bool v]) W.drew/\∀P,(Instr.lookup 329 (.map (some j)) (.int .u8 o.k) true).run Tryz.prog (W.alloc P)=.ok (.tuple #[.agg #[.bool d,.bool a,.bool b,.bool n],.bool v]) (W.alloc P)):=hD λW j i=>⟨A.O W j i,A.O W j i 0,A.O W j i 1,λP=>A.O (W.alloc P) j (i.only ((aa.refl (λ_=>False) _).alloc _) nF) 0⟩
  go_region_held3 (λw'=>ac e w'/\w'.cell? ⟨g,0,none⟩=some (.int .u8 o.k))
   (first|with_reducible exact m.O _ u.O|with_reducible exact m.O _ (aa.alloc u.O _)|with_reducible exact m.O _ R.O|with_reducible exact m.O _ (aa.drew R.O)|with_reducible exact m.O _ (aa.drew oR)|with_reducible exact m.O _ oR|with_reducible exact m.O _ (aa.drew u.O)|(with_reducible refine m.O _ ?_;with_reducible refine aa.setCell ?_ (Or.inr (lR)) _;repeat (first|with_reducible exact u.O|with_reducible refine aa.setCell ?_ (Or.inr (lR)) _))|(trace_state;fail))
   (first
    |(go_at_call 220;refine(Q.O e.drew).mono ?_;rintro y l ⟨rfl,i,q⟩;have u:Hd (ac e l):=hD (aa.trans (aa.drew oR) q);(simp only[World.size_drew] at i);obtain⟨bk,bm,bn,bo⟩:=ar.O _ _ i;have c1:=hD i;clear i q)
    |(go_at_call 220;refine(Q.O (e.alloc (.cells #[.bool false,.bool false,.bool false,.bool false] 327)).drew).mono ?_;rintro y l ⟨rfl,i,q⟩;have u:Hd (ac e l):=hD (aa.trans (aa.drew R.O) q);have s:=hD (q.J b9.O nF);(simp only[World.size_drew,World.size_alloc] at i);obtain⟨bk,bm,bn,bo⟩:=ar.O _ _ i;have c3:l.cell? ⟨e.heap.size,0,none⟩=some (.bool false):=s.O.I 0;have aE:l.cell? ⟨e.heap.size,1,none⟩=some (.bool false):=s.O.I 1;have b0:l.cell? ⟨e.heap.size,2,none⟩=some (.bool false):=s.O.I 2;have b1:l.cell? ⟨e.heap.size,3,none⟩=some (.bool false):=s.O.I 3;have c4:l.frozen? ⟨e.heap.size,0,none⟩=false:=s.O.fz 0;have c5:l.frozen? ⟨e.heap.size,1,none⟩=false:=s.O.fz 1;have c6:l.frozen? ⟨e.heap.size,2,none⟩=false:=s.O.fz 2;have c7:l.frozen? ⟨e.heap.size,3,none⟩=false:=s.O.fz 3;clear i q)
    |fail)
  ·go_wp2_with fail
   go_meet
   case rel=>exact⟨rfl,l.heap.size,rfl,bN,u.O.alloc _⟩
  ·go_wp2_with fail
   go_meet
   case rel=>exact⟨rfl,l.heap.size,rfl,bN,u.O.alloc _⟩
  ·go_wp2_with fail
   go_meet
   case rel=>exact⟨rfl,e.heap.size,rfl,(((s.O.s_ 0 _).s_ 1 _).s_ 2 _).s_ 3 _,((((u.O).setCell (p:=⟨e.heap.size,0,none⟩) (.inr (lR)) _).setCell (p:=⟨e.heap.size,1,none⟩) (.inr (lR)) _).setCell (p:=⟨e.heap.size,2,none⟩) (.inr (lR)) _).setCell (p:=⟨e.heap.size,3,none⟩) (.inr (lR)) _⟩
 case rest=>
  obtain⟨rfl,T,rfl,b3,q⟩:=hcut;have B:=q.J al.O nF;obtain⟨aE,b0,b1,bc⟩:=bb.O;have S:Hd (ac w wc):=hD (av.O.trans q);have ab:=B.I 1;have ad:=B.I 2;have ai:=B.I 3;simp at ab ad ai;have an:=hD b3;have am:=hD B;clear B b3 q al av A m Q
  cases v
  ·have c:=S
   clear ab ad ai aE b0 b1 bc;go_wp2_with fail;go_ret;exact⟨rfl,c.O⟩
  ·go_wp2_with fail
   refine(aw.O _ _ (dM wc .i64 [o.d,o.a,o.b] _)).mono ?_;rintro y c2 ⟨rfl,b7⟩;have N:=((aa.refl (λ_=>False) wc).alloc (.cells #[.int .i64 o.d,.int .i64 o.a,.int .i64 o.b] 3)).trans b7;have c:=hD (S.O.trans N);have C:=N.J am.O nF;have D:=N.J an.O nF;have bv:=C.I 1;have bx:=C.I 2;have bz:=C.I 3;have c0:=C.I 4;have bp:=D.I 0;have bq:=D.I 1;have br:=D.I 2;have bt:=D.I 3;simp at bv bx bz c0 bp bq br bt;clear b7 N C D ab ad ai aw an am S
   cases r
   ·go_wp2_with fail
    go_ret;exact⟨rfl,c.O⟩
   ·cases d
    ·cases b8
     ·go_wp2_with fail
      go_ret;exact⟨rfl,c.O⟩
     ·cases a
      ·cases a9
       ·go_wp2_with fail
        go_ret;exact⟨rfl,c.O⟩
       ·cases b
        ·cases E
         ·go_wp2_with fail
          go_ret;exact⟨rfl,c.O⟩
         ·cases n
          ·cases t
           ·go_wp2_with fail
            go_ret;exact⟨rfl,c.O⟩
           ·go_wp2_with fail
            go_ret;exact⟨rfl,c.O⟩
          ·go_wp2_with fail
           go_ret;exact⟨rfl,c.O⟩
        ·cases n
         ·cases t
          ·go_wp2_with fail
           go_ret;exact⟨rfl,c.O⟩
          ·go_wp2_with fail
           go_ret;exact⟨rfl,c.O⟩
         ·go_wp2_with fail
          go_ret;exact⟨rfl,c.O⟩
      ·cases b
       ·cases E
        ·go_wp2_with fail
         go_ret;exact⟨rfl,c.O⟩
        ·cases n
         ·cases t
          ·go_wp2_with fail
           go_ret;exact⟨rfl,c.O⟩
          ·go_wp2_with fail
           go_ret;exact⟨rfl,c.O⟩
         ·go_wp2_with fail
          go_ret;exact⟨rfl,c.O⟩
       ·cases n
        ·cases t
         ·go_wp2_with fail
          go_ret;exact⟨rfl,c.O⟩
         ·go_wp2_with fail
          go_ret;exact⟨rfl,c.O⟩
        ·go_wp2_with fail
         go_ret;exact⟨rfl,c.O⟩
    ·cases a
     ·cases a9
      ·go_wp2_with fail
       go_ret;exact⟨rfl,c.O⟩
      ·cases b
       ·cases E
        ·go_wp2_with fail
         go_ret;exact⟨rfl,c.O⟩
        ·cases n
         ·cases t
          ·go_wp2_with fail
           go_ret;exact⟨rfl,c.O⟩
          ·go_wp2_with fail
           go_ret;exact⟨rfl,c.O⟩
         ·go_wp2_with fail
          go_ret;exact⟨rfl,c.O⟩
       ·cases n
        ·cases t
         ·go_wp2_with fail
          go_ret;exact⟨rfl,c.O⟩
         ·go_wp2_with fail
          go_ret;exact⟨rfl,c.O⟩
        ·go_wp2_with fail
         go_ret;exact⟨rfl,c.O⟩
     ·cases b
      ·cases E
       ·go_wp2_with fail
        go_ret;exact⟨rfl,c.O⟩
       ·cases n
        ·cases t
         ·go_wp2_with fail
          go_ret;exact⟨rfl,c.O⟩
         ·go_wp2_with fail
          go_ret;exact⟨rfl,c.O⟩
        ·go_wp2_with fail
         go_ret;exact⟨rfl,c.O⟩
      ·cases n
       ·cases t
        ·go_wp2_with fail
         go_ret;exact⟨rfl,c.O⟩
        ·go_wp2_with fail
         go_ret;exact⟨rfl,c.O⟩
       ·go_wp2_with fail
        go_ret;exact⟨rfl,c.O⟩
theorem cO.at_{w:World}{F:Nat->Prop}{A:Option Addr}{d:List bQ}(e:cO w F A d){k:Nat}{x:bQ}(c:d[k]?=some x):∃b o,A=some ⟨b,o,none⟩/\∀(j:Nat) (v:Value),(ep x)[j]?=some v->w.cell? ⟨b,o+k*5+j,none⟩=some v:=by
 rcases e with⟨_,a⟩|⟨b,o,g,a⟩
 ·rw[a] at c;simp at c
 ·exact⟨b,o,g,(a k x c).2.2⟩
theorem cy.at_{w:World}{F:Nat->Prop}{A:Option Addr}{p:List aj}(e:cy w F A p){i:Nat}{x:aj}(d:p[i]?=some x):∃b o B c,A=some ⟨b,o,none⟩/\w.cell? ⟨b,o+i*3,none⟩=some (.int .i64 x.args)/\w.cell? ⟨b,o+i*3+1,none⟩=some (.int .i64 x.rg)/\w.cell? ⟨b,o+i*3+2,none⟩=some (.slice B x.ops.length c)/\cO w F B x.ops:=by
 rcases e with⟨_,a⟩|⟨b,o,g,a⟩
 ·rw[a] at d;simp at d
 ·obtain⟨_,_,j,k,B,c,l,m⟩:=a i x d
  exact⟨b,o,B,c,g,j,k,l,m⟩
theorem cO.U{w w':World}{F:Nat->Prop}{A:Option Addr}{a:List bQ}(b:cO w F A a)(c:ac w w'):cO w' F A a:=b.kp c nG
theorem cy.U{w w':World}{F:Nat->Prop}{A:Option Addr}{p:List aj}(a:cy w F A p)(b:ac w w'):cy w' F A p:=a.kp b nG
def dQ{α:Type}(pr:α->Bool):List α->Nat->Int
 | [],_=>-1
 |a :: l,k=>if pr a=true then(k:Int) else dQ pr l (k+1)
theorem kJ{α:Type}(c:α->Bool):∀(l:List α) (k:Nat),decide ((0:Int)<=dQ c l k)=l.any c
 | [],k=>by simp[dQ]
 |a :: l,k=>by
  unfold dQ
  by_cases b:c a=true
  ·rw[yf b]
   simp[b]
  ·rw[yb b,kJ c l (k+1)]
   simp[b]
def iG(o:bQ):Prop:=(Lit.int .u8 o.k).wf=true
theorem AT(o:bQ)(l:iG o)(w:World):Calls Tryz.prog 194 #[eS o] w λj w'=>j=.returned (.bool (!di o))/\ac w w':=by
 obtain⟨g,c⟩:=eX (w.alloc (.cells #[.int .u8 o.k,.int .i64 o.d,.int .i64 o.a,.int .i64 o.b,.int .i64 o.n] 106));have e:=hD (ux o l);have q:ac w g:=by rw[c];exact(aa.refl _ w).alloc _
 have s:=hD q;have t:=hD c.symm;have i:ae g w.heap.size 106 #[.int .u8 o.k,.int .i64 o.d,.int .i64 o.a,.int .i64 o.b,.int .i64 o.n]:=by rw[c];exact bN
 generalize di o=r at*;obtain⟨v,x,y,z,A⟩:=i.gE5;clear l c q i;unfold eS at e ⊢;go_enter Tryz.func194,Tryz.ntmps194;go_upto_region 1 with fail;rw[t.O];go_wp2_with fail;refine(e.O _).mono ?_;rintro j B ⟨rfl,m⟩;have u:=hD (s.O.trans m);clear m v x y z A;go_wp2_with fail;go_ret;exact⟨rfl,u.O⟩
theorem Co(A:Option Addr)(e:List bQ)(c:Nat)(w:World)(F:Nat->Prop)(N:cO w F A e)(B:e.length<=1000)(Q:∀x∈e,iG x):
 Calls Tryz.prog 219 #[.slice A e.length c,.func (.func 194) #[] #[]] w λl w'=>l=.returned (.int .i64 (dQ (λo=>!di o) e 0))/\ac w w':=by
 obtain⟨r,E⟩:=eX (dQ (λo=>!di o) e 0);rw[<-E];have X:=hD E;have V:=hD N;have Y:=hD Q;obtain⟨n,D⟩:=eX e.length;rw[<-D] at B ⊢;have G:=hD D;have W:=hD B;clear E N D B Q;go_enter Tryz.func219,Tryz.ntmps219;go_wp2_with fail
 go_loopw [8] (λi wr=>∃k:Nat,k<=n/\i=.int .i64 k/\dQ (λo=>!di o) (e.drop k) k=r/\ac w wr) (λi _=>n-(intOf i).toNat)
 case atStart=>exact⟨0,yx _,rfl,X.O.symm,oR⟩
 case round=>
  obtain⟨k,a1,rfl,j,s⟩:=hrel
  by_cases g:k<n
  ·have a4:(0:Int)<=(k:Int):=dN k
   have a0:(k:Int)<(n:Int):=cN g;have C:k<e.length:=by rw[<-G.O];exact g
   have P:e[k]?=some e[k]:=gG C;have R:=Y.O e[k] (yN C);rw[yM C] at j;unfold dQ at j;generalize e[k] =y at*
   (obtain⟨b,o,Z,m⟩:=(V.O.U s).at_ P;subst Z;have a2:=m 0 _ rfl;have a5:=m 1 _ rfl;have a6:=m 2 _ rfl;have a7:=m 3 _ rfl;have a8:=m 4 _ rfl;(rw[yW] at a2);clear m)
   obtain⟨K,z⟩:=eX ((λo=>!di o) y:Bool);have t:(if K=true then(k:Int) else dQ (λo=>!di o) (e.drop (k+1)) (k+1))=r:=by rw[z];exact j
   have u:=(show Hd (Calls Tryz.prog 194 (#[.agg #[.int .u8 y.k,.int .i64 y.d,.int .i64 y.a,.int .i64 y.b,.int .i64 y.n]]) wr λl w'=>l=.returned (.bool ((λo=>!di o) y))/\ac wr w') from hD (AT y R wr))
   rw[<-z] at u;have S:wrap64 ((k:Int)+1)=(k:Int)+1:=eM g W.O;have v:=hD s;clear j s z P R;go_wp2_with fail;refine u.O.mono ?_;rintro l a3 ⟨rfl,T⟩;have H:=hD (v.O.trans T);clear T u
   cases K
   ·have q:Hd (dQ (λo=>!di o) (e.drop (k+1)) (k+1)=r):=hD t
    clear t;go_wp2_with fail;go_roundw
    case rel=>exact⟨k+1,g,by first|exact cK k|exact cH S,q.O,H.O⟩
    case measure=>first|exact aG rfl g|exact aG S g
   ·have q:Hd ((k:Int)=r):=hD t
    clear t;go_wp2_with fail;go_ret;exact⟨by rw[<-q.O];rfl,H.O⟩
  ·have a0:¬(k:Int)<(n:Int):=λl=>g (yB.1 l)
   have:k=n:=yT a1 (yA g);subst this;rw[G.O,zq] at j;have q:=hD j;have v:=hD s;clear j s;go_wp2_with fail;go_ret;exact⟨by rw[<-q.O];rfl,v.O⟩
theorem Cm(A:Option Addr)(a:List bQ)(c:Nat)(w:World)(F:Nat->Prop)(d:cO w F A a)(e:a.length<=1000)(g:∀x∈a,iG x):
 Calls Tryz.prog 193 #[.slice A a.length c,.func (.func 194) #[] #[]] w λb w'=>b=.returned (.bool (a.any (λo=>!di o)))/\ac w w':=by
 have j:=hD (Co A a c w F d e g);rw[<-kJ _ a 0];generalize dQ (λo=>!di o) a 0=r at*;generalize a.length=n at*;clear d e g;go_enter Tryz.func193,Tryz.ntmps193;go_wp2_with fail;refine j.O.mono ?_;rintro b l ⟨rfl,i⟩;have k:=hD i;clear i;go_wp2_with fail;go_ret;exact⟨rfl,k.O⟩
def io(x:aj):Bool:=!(cZ x.args&&cZ x.rg)||decide (64<x.ops.length)||x.ops.any (λo=>!di o)
def kA(x:aj):Prop:=x.ops.length<=1000/\∀o∈x.ops,iG o
def vQ(x:aj)(B:Option Addr)(c:Nat):Value:=.agg #[.int .i64 x.args,.int .i64 x.rg,.slice B x.ops.length c]
theorem AU(x:aj)(B:Option Addr)(c:Nat)(F:Nat->Prop)(w:World)(E:cO w F B x.ops)(y:kA x):Calls Tryz.prog 191 #[vQ x B c] w λb w'=>b=.returned (.bool (io x))/\ac w w':=by
 obtain⟨a,n⟩:=eX x.ops.length;obtain⟨i,m⟩:=eX (w.alloc (.cells #[.int .i64 x.args,.int .i64 x.rg,.slice B a c] 99));have K:ac w i:=by rw[m];exact(aa.refl _ w).alloc _
 have j:ae i w.heap.size 99 #[.int .i64 x.args,.int .i64 x.rg,.slice B a c]:=by rw[m];exact bN
 obtain⟨g,t⟩:=eX w.heap.size;rw[<-t] at j;obtain⟨r,v⟩:=eX ((cZ x.args&&cZ x.rg));obtain⟨q,u⟩:=eX (x.ops.any (λo=>!di o));have H:io x=(!r||decide (64<a)||q):=by unfold io;rw[v,u,n]
 rw[H]
 have C:Hd (∀W k,fg W k .i64 [x.args,x.rg]->Calls Tryz.prog 192 #[.slice (some ⟨k,0,none⟩) 2 2] W λb w'=>b=.returned (.bool r)/\ac W w'):=hD λW k X=>by
  have:=tO k [x.args,x.rg] 2 W X (by simp);rw[show [x.args,x.rg].all cZ=r by rw[v];simp] at this;exact this
 have T:Hd (∀W,ac w W->Calls Tryz.prog 193 #[.slice B a c,.func (.func 194) #[] #[]] W λb w'=>b=.returned (.bool q)/\ac W w'):=hD λW Y=>by
  have:=Cm B x.ops c W F (E.U Y) y.1 y.2;rw[<-n,<-u] at this;exact this
 have A:=hD j;have S:=hD K;have R:=hD t;have D:=hD m.symm;obtain⟨a0,a1,a2⟩:=j.gE3;unfold vQ;rw[<-n];clear E y n m K j t v u H;go_enter Tryz.func191,Tryz.ntmps191;go_upto_region 1 with fail;rw[D.O,<-R.O];clear D;go_wp2_with fail;refine(C.O _ _ (dM i .i64 [x.args,x.rg] _)).mono ?_;rintro b a3 ⟨rfl,N⟩;have z:=((aa.refl (λ_=>False) i).alloc (.cells #[.int .i64 x.args,.int .i64 x.rg] 3)).trans N;have e:=hD (S.O.trans z);have G:=z.J A.O nF;have Q:=G.I 2;simp at Q;clear N z G a0 a1 a2 C A
 cases r
 ·go_wp2_with fail
  go_ret;exact⟨rfl,e.O⟩
 ·by_cases l:64<a
  ·have Z:decide ((64:Int)<(a:Int))=true:=yg (by omega)
   have d:decide (64<a)=true:=yg l;have s:=hD d;clear l d;go_wp2_with fail;go_ret;exact⟨by rw[s.O];rfl,e.O⟩
  ·have Z:decide ((64:Int)<(a:Int))=false:=yd (by omega)
   have d:decide (64<a)=false:=yd l;have s:=hD d;clear l d;go_wp2_with fail;refine(T.O _ e.O).mono ?_;rintro b a4 ⟨rfl,P⟩;have V:=hD (e.O.trans P);clear P Q;go_wp2_with fail;go_ret;exact⟨by rw[s.O];rfl,V.O⟩
theorem AL(A:Option Addr)(a:List aj)(c:Nat)(w:World)(F:Nat->Prop)(H:cy w F A a)(u:a.length<=1000)(N:∀x∈a,kA x):
 Calls Tryz.prog 221 #[.slice A a.length c,.func (.func 191) #[] #[]] w λg w'=>g=.returned (.int .i64 (dQ (io) a 0))/\ac w w':=by
 obtain⟨r,C⟩:=eX (dQ (io) a 0);rw[<-C];have V:=hD C;have S:=hD H;have W:=hD N;obtain⟨n,z⟩:=eX a.length;rw[<-z] at u ⊢;have D:=hD z;have T:=hD u;clear C H z u N;go_enter Tryz.func221,Tryz.ntmps221;go_wp2_with fail
 go_loopw [8] (λi wr=>∃k:Nat,k<=n/\i=.int .i64 k/\dQ (io) (a.drop k) k=r/\ac w wr) (λi _=>n-(intOf i).toNat)
 case atStart=>exact⟨0,yx _,rfl,V.O.symm,oR⟩
 case round=>
  obtain⟨k,a0,rfl,e,l⟩:=hrel
  by_cases d:k<n
  ·have a2:(0:Int)<=(k:Int):=dN k
   have Z:(k:Int)<(n:Int):=cN d;have v:k<a.length:=by rw[<-D.O];exact d
   have K:a[k]?=some a[k]:=gG v;have P:=W.O a[k] (yN v);rw[yM v] at e;unfold dQ at e;generalize a[k] =y at*
   (obtain⟨b,o,B,c',X,a3,a4,a5,Y⟩:=(S.O.U l).at_ K;subst X)
   obtain⟨G,t⟩:=eX ((io) y:Bool);have m:(if G=true then(k:Int) else dQ (io) (a.drop (k+1)) (k+1))=r:=by rw[t];exact e
   have q:=(show Hd (Calls Tryz.prog 191 (#[.agg #[.int .i64 y.args,.int .i64 y.rg,.slice B y.ops.length c']]) wr λg w'=>g=.returned (.bool ((io) y))/\ac wr w') from hD (AU y B c' F wr Y P))
   rw[<-t] at q;have Q:wrap64 ((k:Int)+1)=(k:Int)+1:=eM d T.O;have s:=hD l;clear e l t K P;go_wp2_with fail;refine q.O.mono ?_;rintro g a1 ⟨rfl,R⟩;have E:=hD (s.O.trans R);clear R q
   cases G
   ·have j:Hd (dQ (io) (a.drop (k+1)) (k+1)=r):=hD m
    clear m;go_wp2_with fail;go_roundw
    case rel=>exact⟨k+1,d,by first|exact cK k|exact cH Q,j.O,E.O⟩
    case measure=>first|exact aG rfl d|exact aG Q d
   ·have j:Hd ((k:Int)=r):=hD m
    clear m;go_wp2_with fail;go_ret;exact⟨by rw[<-j.O];rfl,E.O⟩
  ·have Z:¬(k:Int)<(n:Int):=λg=>d (yB.1 g)
   have:k=n:=yT a0 (yA d);subst this;rw[D.O,zq] at e;have j:=hD e;have s:=hD l;clear e l;go_wp2_with fail;go_ret;exact⟨by rw[<-j.O];rfl,s.O⟩
theorem AG(A:Option Addr)(a:List aj)(c:Nat)(w:World)(F:Nat->Prop)(d:cy w F A a)(e:a.length<=1000)(g:∀x∈a,kA x):
 Calls Tryz.prog 196 #[.slice A a.length c,.func (.func 191) #[] #[]] w λb w'=>b=.returned (.bool (a.any (io)))/\ac w w':=by
 have j:=hD (AL A a c w F d e g);rw[<-kJ _ a 0];generalize dQ (io) a 0=r at*;generalize a.length=n at*;clear d e g;go_enter Tryz.func196,Tryz.ntmps196;go_wp2_with fail;refine j.O.mono ?_;rintro b l ⟨rfl,i⟩;have k:=hD i;clear i;go_wp2_with fail;go_ret;exact⟨rfl,k.O⟩
def kg(p:List aj):Bool:=decide (p.length<=16)&& !(p.any io)
def aS(p:List aj)(A:Option Addr)(c:Nat):Value:=.agg #[.slice A p.length c]
theorem Af(p:List aj)(A:Option Addr)(c:Nat)(F:Nat->Prop)(w:World)(y:cy w F A p)(B:p.length<=1000)(C:∀x∈p,kA x):Calls Tryz.prog 149 #[aS p A c] w λd w'=>d=.returned (.bool (kg p))/\ac w w':=by
 obtain⟨n,j⟩:=eX p.length;obtain⟨a,i⟩:=eX (w.alloc (.cells #[.slice A n c] 24));have m:ac w a:=by rw[i];exact(aa.refl _ w).alloc _
 have v:ae a w.heap.size 24 #[.slice A n c]:=by rw[i];exact bN
 have o:=v.I 0;simp at o;obtain⟨g,k⟩:=eX w.heap.size;rw[<-k] at o;obtain⟨q,l⟩:=eX (p.any io);have z:kg p=(decide (n<=16)&& !q):=by unfold kg;rw[j,l]
 rw[z]
 have r:Hd (Calls Tryz.prog 196 #[.slice A n c,.func (.func 191) #[] #[]] a λd w'=>d=.returned (.bool q)/\ac a w'):=hD (by
  have:=AG A p c a F (y.U m) B C;rw[<-j,<-l] at this;exact this)
 have t:=hD m;have s:=hD k;have u:=hD i.symm;unfold aS;rw[<-j];clear y B C j i m v k l z
 by_cases e:n<=16
 ·have G:decide ((n:Int)<=16)=true:=yg (by omega)
  have b:decide (n<=16)=true:=yg e;rw[b];clear e b;go_enter Tryz.func149,Tryz.ntmps149;go_upto_region 1 with fail;rw[u.O,<-s.O];go_wp2_with fail;refine r.O.mono ?_;rintro d H ⟨rfl,D⟩;have E:=hD (t.O.trans D);clear D o r;go_wp2_with fail;go_ret;exact⟨by simp,E.O⟩
 ·have G:decide ((n:Int)<=16)=false:=yd (by omega)
  have b:decide (n<=16)=false:=yd e;rw[b];clear e b;go_enter Tryz.func149,Tryz.ntmps149;go_upto_region 1 with fail;rw[u.O,<-s.O];go_wp2_with fail;go_ret;exact⟨rfl,t.O⟩
end
end Go.Proofs.YtmdocplknceilaaGreat
