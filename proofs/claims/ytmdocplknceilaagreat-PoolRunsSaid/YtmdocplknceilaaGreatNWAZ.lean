import Derived.Test.YtmdocplknceilaaGreatNWAY
import Derived.Deep.DeepCutAuto
set_option linter.all false
set_option maxRecDepth 100000
set_option maxHeartbeats 2000000
namespace Go.Proofs.YtmdocplknceilaaGreat
section
open Go.RowKit Go.Maps
theorem vV{l:Nat}(b:l≠0)(a:l<=65536):wrap64 ((l:Int)-1)=((l-1:Nat):Int)/\((l:Int)==0)=false:=by
 refine⟨by unfold wrap64;omega,bF (by omega)⟩
theorem BK{a n:Nat}(b:a<n)(c:n<=64):wrap64 ((a:Int)+1)=(a:Int)+1/\(0:Int)<=(a:Int)/\(a:Int)<(n:Int):=by
 refine⟨by unfold wrap64;omega,by omega,by omega⟩
section
variable {w w':World}{F F':Nat->Prop}{fb:Nat}{L:ix}{p:List ah}{f:Fr}
theorem CJ{b o fn n e d c:Nat}{B:Option Addr}(l:w.cell? ⟨fb,0,none⟩=some (.slice (some ⟨b,o,none⟩) n e))(m:w.cell? ⟨fb,2,none⟩=some (.int .i64 (fn:Int)))(a:fn<n)
 (k:w.cell? ⟨b,o+fn*3+2,none⟩=some (.slice B d c)):Calls Tryz.prog 175 #[.pointer (some ⟨fb,0,none⟩)] w λg w'=>g=.returned (.slice B d c)/\ac w w':=by
 have i:=dB fn;have j:=cy a;clear a;go_enter Tryz.func175,Tryz.ntmps175;go_wp2_with fail
 go_quiet (fail)
 go_wp2_with fail;go_ret;exact⟨rfl,oR.drewN nq⟩
theorem aZ.ops_at(l:aZ w F fb L p f)(fn at_:Nat)(z:f.fn=fn)(x:ah)(n:p[fn]?=some x)(o:bI)(i:x.ops[at_]?=some o):
 ∃a d c,(∀W,ac w W->Calls Tryz.prog 175 #[.pointer (some ⟨fb,0,none⟩)] W λu w'=>u=.returned (.slice (some ⟨a,d,none⟩) x.ops.length c)/\ac W w')/\
  (∀(j:Nat) (v:Value),(eJ o)[j]?=some v->w.cell? ⟨a,d+at_*5+j,none⟩=some v):=by
 have g:=(gS n).1
 rcases l.fns with⟨_,e⟩|⟨b,D,y,e⟩
 ·rw[e] at g
  simp at g
 obtain⟨G,E,H,K,B,c,r,A⟩:=e fn x n
 rcases A with⟨_,k⟩|⟨a,d,k,C⟩
 ·rw[k] at i
  simp at i
 subst k;refine⟨a,d,c,λW m=>?_,(C at_ o i).2.2⟩;have q:=(l.kp m nG).J;have s:=q.I 0;have t:=q.I 2;simp[cY,y,z] at s t;exact CJ s t g ((m.I (p:=⟨b,D+fn*3+2,none⟩) (block_lt_of_cell r) nF).trans r)
theorem uu(c0:∀b,F b->b<w.heap.size)(Y:aZ w F fb L p f)(c7:gC p)(m:gK p f)(c9:f.waits=none):
 Calls Tryz.prog 140 #[.pointer (some ⟨fb,0,none⟩)] w λe w'=>eZ w w' F fb p (f.step p) e:=by
 have bq:=Y.J.I 6;have db:=Y.J.fz 6;simp[cY] at bq
 by_cases b0:f.left=0
 ·have dv:f.step p=f.ended ⟨0,130⟩:=by unfold Fr.step;rw[yf b0]
  rw[dv];rw[b0] at bq;have b9:Hd (Calls Tryz.prog 173 #[.pointer (some ⟨fb,0,none⟩),.int .i64 130] w λe w'=>eZ w w' F fb p (f.ended ⟨0,130⟩) e):=hD ((lP 130 c0 Y).mono λe w' k=>k.tell (λb m=>.inl m) Y.ff);generalize f.ended ⟨0,130⟩=Z at*;clear dv c0 Y m c9 b0 db c7;go_enter Tryz.func140,Tryz.ntmps140;go_wp2_with fail;refine b9.O.mono ?_;intro e w' k
  rcases k.ptr with⟨_,T⟩|⟨s,q,A,c',_,T,_⟩<;>
  ·subst T
   have aE:=hD k;clear k b9 bq;go_wp2_with fail;go_ret;exact aE.O
 ·obtain⟨l,b5⟩:=eX f.left
  rw[<-b5] at bq b0;have dm:l<=65536:=by rw[b5];exact m.lf
  obtain⟨e1,g2⟩:=vV b0 dm;have c3:=m.at1 (λo e=>by rw[c9] at e;cases e);obtain⟨dn,dl⟩:=kB (p:=p) (i:=f.fn) m.at0 c3;have c5:=c7.fn m.fn0 m.fn1;have dq:=c5.ops _ dn;obtain⟨fn,c6⟩ :∃fn:Nat,f.fn=(fn:Int):=ym m.fn0;obtain⟨a,bk⟩ :∃a:Nat,f.at_=(a:Int):=ym m.at0;have dw:=(gk m.fn0 m.fn1).2;obtain⟨f7,bn⟩:=eX ((bG p f.fn).ops.length);obtain⟨da,fj,fl⟩:=BK (a:=a) (n:=f7) (by rw[bk] at c3;rw[bn];exact yB.1 c3) (by rw[bn];exact c5.o64);obtain⟨t,c1⟩:=eX (w.setCell ⟨fb,6,none⟩ (.int .i64 ((l-1:Nat):Int)));have cb:aa (λb=>b=fb) w t:=by rw[c1];exact af _ _ _ _
  have bx:aZ t F fb L p {f with left:=f.left-1}:=Y.td cb (by rw[c1,b5];exact Y.J.s_ 6 _) rfl rfl rfl rfl rfl rfl (Y.wp_keep cb) Y.rp
  have cq:f.step p=(if (bu p f.fn f.at_).k=12 then Fr.forks p {f with left:=f.left-1,at_:=f.at_+1} (bu p f.fn f.at_)
   else if (bu p f.fn f.at_).k=13\/(bu p f.fn f.at_).k=14 then Fr.joins {f with left:=f.left-1,at_:=f.at_+1} (bu p f.fn f.at_)
   else match dE (bu p f.fn f.at_) f.rg (f.at_+1) with
    |none=>Fr.ended {f with left:=f.left-1,at_:=f.at_+1} ⟨0,131⟩
    |some x=>({f with left:=f.left-1,at_:=x.2,rg:=x.1},none)):=by
   unfold Fr.step;rw[yb (by rw[<-b5];exact b0)];rfl
  obtain⟨a0,a2,c,ck,b4⟩:=bx.ops_at fn a c6 (bG p f.fn) (by rw[<-dw,c6,yo]) (bu p f.fn f.at_) (by rw[<-dl,bk,yo]);generalize bu p f.fn f.at_=o at*;have d2:=b4 0 _ rfl;have cd:=b4 1 _ rfl;have e8:=b4 2 _ rfl;have e9:=b4 3 _ rfl;have ea:=b4 4 _ rfl;rw[yW] at d2;rw[<-bn] at ck;have b8:=bx.J.I 7;simp[cY,bk] at b8
  have a7:Hd (∀W,ac t W->ac t W/\W.cell? ⟨fb,7,none⟩=some (.int .i64 (a:Int))/\W.cell? ⟨a0,a2+a*5,none⟩=some (.int .u8 o.k)/\W.cell? ⟨a0,a2+a*5+1,none⟩=some (.int .i64 o.d)/\W.cell? ⟨a0,a2+a*5+2,none⟩=some (.int .i64 o.a)/\W.cell? ⟨a0,a2+a*5+3,none⟩=some (.int .i64 o.b)/\W.cell? ⟨a0,a2+a*5+4,none⟩=some (.int .i64 o.n)):=hD λW dd=>by
   have e:∀(g j:Nat) (v:Value),t.cell? ⟨g,j,none⟩=some v->W.cell? ⟨g,j,none⟩=some v:=λg j v hv=>(dd.I (p:=⟨g,j,none⟩) (block_lt_of_cell hv) nF).trans hv
   exact⟨dd,e _ _ _ b8,e _ _ _ d2,e _ _ _ cd,e _ _ _ e8,e _ _ _ e9,e _ _ _ ea⟩
  obtain⟨Z,z⟩:=eX (f.step p);rw[<-z];rw[<-z] at cq;have b2:=hD cq;have eb:=hD bx;have aw:=hD Y;have ef:=hD c0;have a4:=hD m;have ek:=hD c7;have H:=hD dq;have d4:=hD ck;have ej:=hD cb;have d3:=hD (aI b5 (aI c6 (aI bk bn)));have fd:=hD c9;have d9:=hD c1.symm;have eg:=hD c5;clear Y c0 c7 m c9 bx cq z dq ck cb b5 c6 bk bn c1 b4 b8 d2 cd e8 e9 ea dm b0 c3 dn dl dw c5;have f6:=(aR ((l:Int)-1)).trans e1;have fm:=(aR ((a:Int)+1)).trans da;go_enter Tryz.func140,Tryz.ntmps140;go_upto_region 4 with fail;rw[d9.O];clear d9
  go_cut [3] (λs3 wx=>∃ai:Nat,s3=.pointer (some ⟨ai,0,none⟩)/\t.heap.size<=ai/\ae wx ai 106 #[.int .u8 o.k,.int .i64 o.d,.int .i64 o.a,.int .i64 o.b,.int .i64 o.n]/\ac t wx)
  case first=>
   have g1:=a7.O t oR;have ee:Hd (ae (t.alloc (.cells #[.int .u8 0,.int .i64 0,.int .i64 0,.int .i64 0,.int .i64 0] 106)) t.heap.size 106 #[.int .u8 0,.int .i64 0,.int .i64 0,.int .i64 0,.int .i64 0]):=hD (ae.new t _ _);have bv:Hd (ac t (t.alloc (.cells #[.int .u8 0,.int .i64 0,.int .i64 0,.int .i64 0,.int .i64 0] 106))):=hD (oR.alloc _)
   go_region_held3 (λw'=>ac t w'/\w'.cell? ⟨fb,7,none⟩=some (.int .i64 (a:Int))/\w'.cell? ⟨a0,a2+a*5,none⟩=some (.int .u8 o.k)/\w'.cell? ⟨a0,a2+a*5+1,none⟩=some (.int .i64 o.d)/\w'.cell? ⟨a0,a2+a*5+2,none⟩=some (.int .i64 o.a)/\w'.cell? ⟨a0,a2+a*5+3,none⟩=some (.int .i64 o.b)/\w'.cell? ⟨a0,a2+a*5+4,none⟩=some (.int .i64 o.n))
    (first|with_reducible exact a7.O _ E.O|with_reducible exact a7.O _ (aa.alloc E.O _)|with_reducible exact a7.O _ bv.O|with_reducible exact a7.O _ (aa.drew bv.O)|with_reducible exact a7.O _ (aa.drew oR)|with_reducible exact a7.O _ oR|(with_reducible refine a7.O _ ?_;with_reducible refine aa.setCell ?_ (Or.inr (lR)) _;repeat (first|with_reducible exact E.O|with_reducible refine aa.setCell ?_ (Or.inr (lR)) _))|(trace_state;fail))
    (first
     |(go_at_call 175;refine(d4.O t.drew (aa.drew oR)).mono ?_;rintro e N ⟨rfl,a1⟩;have E:Hd (ac t N):=hD (aa.trans (aa.drew oR) a1);clear a1)
     |(go_at_call 175;refine(d4.O _ (aa.drew bv.O)).mono ?_;rintro e N ⟨rfl,a1⟩;have E:Hd (ac t N):=hD (aa.trans (aa.drew bv.O) a1);have Q:=hD (a1.J ee.O nF);have fo:N.cell? ⟨t.heap.size,0,none⟩=some (.int .u8 0):=Q.O.I 0;have T:N.cell? ⟨t.heap.size,1,none⟩=some (.int .i64 0):=Q.O.I 1;have fp:N.cell? ⟨t.heap.size,2,none⟩=some (.int .i64 0):=Q.O.I 2;have fq:N.cell? ⟨t.heap.size,3,none⟩=some (.int .i64 0):=Q.O.I 3;have fs:N.cell? ⟨t.heap.size,4,none⟩=some (.int .i64 0):=Q.O.I 4;have fv:N.frozen? ⟨t.heap.size,0,none⟩=false:=Q.O.fz 0;have fw:N.frozen? ⟨t.heap.size,1,none⟩=false:=Q.O.fz 1;have fx:N.frozen? ⟨t.heap.size,2,none⟩=false:=Q.O.fz 2;have g0:N.frozen? ⟨t.heap.size,3,none⟩=false:=Q.O.fz 3;have ai:N.frozen? ⟨t.heap.size,4,none⟩=false:=Q.O.fz 4;clear a1)
     |fail)
   ·go_wp2_with fail
    go_meet
    case rel=>exact⟨N.heap.size,rfl,E.O.size,bN,E.O.alloc _⟩
   ·go_wp2_with fail
    go_meet
    case rel=>exact⟨t.heap.size,rfl,lR,((((Q.O.s_ 0 _).s_ 1 _).s_ 2 _).s_ 3 _).s_ 4 _,(((((E.O).setCell (p:=⟨t.heap.size,0,none⟩) (.inr (lR)) _).setCell (p:=⟨t.heap.size,1,none⟩) (.inr (lR)) _).setCell (p:=⟨t.heap.size,2,none⟩) (.inr (lR)) _).setCell (p:=⟨t.heap.size,3,none⟩) (.inr (lR)) _).setCell (p:=⟨t.heap.size,4,none⟩) (.inr (lR)) _⟩
  case rest=>
   obtain⟨ai,rfl,er,ci,a1⟩:=hcut;have bf:=eb.O.kp a1 nG;have b8:=bf.J.I 7;have ad:=bf.J.fz 7;simp[cY,d3.O.2.2.1] at b8;have dp:¬ai=fb:=λe=>ae.ne_ ci bf.J (by decide) e
   have bt:=hD bf;have ec:=hD ci;have en:=hD a1;have ei:=hD dp;clear bf ci a1 er a7 dp e1 f6 da db bq;go_upto_region 6 with fail;obtain⟨B,c2⟩:=eX (wc.setCell ⟨fb,7,none⟩ (.int .i64 ((a:Int)+1)));rw[<-c2];have bp:aa (λb=>b=fb) wc B:=by rw[c2];exact af _ _ _ _
   obtain⟨y,c4⟩:=eX ({f with left:=f.left-1,at_:=f.at_+1}:Fr);have cn:y.rg=f.rg:=by rw[c4]
   have bz:aZ B F fb L p y:=by
    rw[c4];exact bt.O.td bp (by rw[c2,d3.O.2.2.1];exact bt.O.J.s_ 7 _) rfl rfl rfl rfl rfl rfl (bt.O.wp_keep bp) bt.O.rp
   have dk:=bp.J ec.O ei.O;obtain⟨X,a9,an,b1,av⟩:=dk.gE5;have a6:Hd (aa F w B):=hD (((ej.O.mono λb e=>by rw[e];exact aw.O.ff).trans (en.O.mono λ_ e=>e.elim)).trans (bp.mono λb e=>by rw[e];exact aw.O.ff));have cf:Hd (∀b,F b->b<B.heap.size):=hD λb m=>lL (ef.O b m) a6.O.size
   have C:=hD bz;have S:=hD c4;have d8:=hD cn;obtain⟨rl,c8⟩:=eX y.rg.length;have a5:=hD c8;have cp:(rl:Int)=(bG p f.fn).rg:=by rw[c8,cn];exact a4.O.rl
   have az:=hD cp;have ds:rl<=16:=by have:=eg.O.r16;rw[<-cp] at this;exact Int.ofNat_le.1 this
   have d5:=hD ds;have a3:=bz.J.I 5;simp[cY,<-c8] at a3;have ad:=bz.J.fz 7;clear c4 cn bz dk c8 cp ds c2 bp b8;have es:o.k=1\/o.k=10\/o.k=11\/o.k=12\/(o.k=13\/o.k=14)\/(2<=o.k/\o.k<=9):=by have:=H.O.k;omega
   rcases es with u|u|u|u|u|u
   ·have z:Z=({y with rg:=jh y.rg o.d o.n},none):=by
     rw[b2.O,yb (by omega),yb (by omega)];unfold dE;rw[yf u,S.O]
    obtain⟨d,K⟩ :∃d:Nat,o.d=(d:Int):=ym H.O.d.1;have V:d<rl:=by have:=H.O.dr (.inl (by omega));rw[K,<-az.O] at this;exact yB.1 this
    have dz:=dB d;have e0:=cy V;have a8:B.cell? ⟨L.rb,d,none⟩=some (.int .i64 (y.rg.getD d 0)):=eU C.O.rg (by rw[<-a5.O];exact V);have b6:B.frozen? ⟨L.rb,d,none⟩=false:=C.O.rg.fz d;have E:=hD z;have ce:=hD K;rw[u] at X;rw[K] at a9;clear z K V u;go_wp2_with fail
    go_still_tail 9,(by kernel_rfl)
    change wpList _ _ _ _ _ B.drew;obtain⟨R,P⟩:=eX B.drew;rw[<-P];have ex:R.cell? ⟨L.rb,d,none⟩=some (.int .i64 (y.rg.getD d 0)):=by rw[P];exact a8
    have eL:R.frozen? ⟨L.rb,d,none⟩=false:=by rw[P];exact b6
    have D:ac B R:=by rw[P];exact oR.drew
    have ab:=hD ((C.O.kp D nG).reg_put d o.n);have ba:=hD D;clear P D a8 b6 a3 X a9 an b1 av ad;go_wp2_with fail;go_ret;rw[E.O];refine⟨⟨L,?_⟩,a6.O.trans ((ba.O.mono λ_ e=>e.elim).trans ((af R L.rb d (.int .i64 o.n)).mono λb e=>by rw[e];exact aw.O.fr)),rfl⟩;unfold jh;rw[ce.O,yo];exact ab.O.mo λb m=>.inl m
   ·have z:Z=({y with at_:=o.n},none):=by
     rw[b2.O,yb (by omega),yb (by omega)];unfold dE;rw[yb (by omega),yf u,S.O]
    have E:=hD z;have bo:=C.O.J.I 7;simp[cY] at bo;rw[u] at X;clear z u a3;go_wp2_with fail;go_ret;rw[E.O];have D:=af B fb 7 (.int .i64 o.n);have ch:aZ _ F fb L p {y with at_:=o.n}:=C.O.td D (C.O.J.s_ 7 _) rfl rfl rfl rfl rfl rfl (C.O.wp_keep D) C.O.rp;refine⟨⟨L,ch.mo λb m=>Or.inl m⟩,a6.O.trans (D.mono λb e=>by rw[e];exact aw.O.ff),rfl⟩
   ·obtain⟨r,cm⟩:=eX (ct y.rg o.a)
    have z:Z=({y with at_:=if r≠0 then o.n else y.at_},none):=by
     rw[b2.O,yb (by omega),yb (by omega)];unfold dE;rw[yb (by omega),yb (by omega),yf u,cm,S.O]
    obtain⟨d,K⟩ :∃d:Nat,o.a=(d:Int):=ym H.O.a.1;have V:d<rl:=by have:=H.O.ar (.inr (.inl u));rw[K,<-az.O] at this;exact yB.1 this
    have dz:=dB d;have e0:=cy V
    have a8:B.cell? ⟨L.rb,d,none⟩=some (.int .i64 r):=by
     have:=eU C.O.rg (i:=d) (by rw[<-a5.O];exact V);rw[cm,K];unfold ct;rw[yo];exact this
    have E:=hD z;have bo:=C.O.J.I 7;simp[cY] at bo;rw[u] at X;rw[K] at an;clear z K V u cm
    by_cases b7:r=0
    ·subst b7
     go_wp2_with fail
     go_quiet (fail)
     clear a3 X a9 an b1 av ad a8 bo;go_wp2_with fail;go_ret;rw[E.O];have D:ac B (B.drewN nq):=oR.drewN nq;exact⟨⟨L,(C.O.kp D nG).mo λb m=>.inl m⟩,a6.O.trans (D.mono λ_ e=>e.elim),rfl⟩
    ·have f0:(r==0)=false:=bF b7
     have f1:(r !=0)=true:=bT b7;have f2:decide (r=0)=false:=yd b7;have Q:=hD b7;clear b7;go_wp2_with fail
     go_quiet (fail)
     obtain⟨R,P⟩:=eX (B.drewN nq);rw[<-P];have D:ac B R:=by rw[P];exact oR.drewN nq
     have al:=C.O.kp D nG;have f9:=al.J.I 7;have ft:=al.J.fz 7;simp[cY] at f9;have g3:R.cell? ⟨ai,4,none⟩=some (.int .i64 o.n):=by rw[P];exact av
     have ab:=hD al;have ba:=hD D;clear a3 X a9 an b1 av ad a8 bo f0 f1 f2 al D P;go_wp2_with fail;go_ret;rw[E.O,yf Q.O];have d1:=af R fb 7 (.int .i64 o.n);have ch:aZ _ F fb L p {y with at_:=o.n}:=ab.O.td d1 (ab.O.J.s_ 7 _) rfl rfl rfl rfl rfl rfl (ab.O.wp_keep d1) ab.O.rp;exact⟨⟨L,ch.mo λb m=>Or.inl m⟩,a6.O.trans ((ba.O.mono λ_ e=>e.elim).trans (d1.mono λb e=>by rw[e];exact aw.O.ff)),rfl⟩
   ·have z:Z=y.forks p o:=by rw[b2.O,yf u,S.O]
    have bm:Calls Tryz.prog 176 #[.pointer (some ⟨fb,0,none⟩),cR o] B λe w'=>eZ w w' F fb p Z e:=by
     rw[z];obtain⟨f3,f4,f5⟩:=H.O.fk u;refine(xV o cf.O C.O (by rw[S.O];exact a4.O.kl) (by rw[S.O];exact⟨a4.O.pth.1,a4.O.pth.2⟩) ek.O ⟨f3,f4⟩ H.O.a.1 (by rw[<-a5.O,az.O];exact f5) (by rw[<-a5.O];exact d5.O) (by rw[S.O];exact lT (Nat.sub_le _ _) a4.O.lf)).mono ?_;intro e w' k;exact k.back a6.O (λb m=>.inl m)
    have G:=hD bm;unfold cR at G;rw[u] at X G;clear z bm u a3 ad;go_wp2_with fail;refine G.O.mono ?_;intro e w' k
    rcases k.ptr with⟨_,T⟩|⟨s,q,A,c',_,T,_⟩<;>
    ·subst T
     have aE:=hD k;clear k G X a9 an b1 av;go_wp2_with fail;go_ret;exact aE.O
   ·have z:Z=y.joins o:=by rw[b2.O,yb (by omega),yf u,S.O]
    have bm:Calls Tryz.prog 139 #[.pointer (some ⟨fb,0,none⟩),cR o] B λe w'=>eZ w w' F fb p Z e:=by
     rw[z];refine(tH o cf.O C.O (by rw[S.O];exact a4.O.jn) (by rw[S.O];exact a4.O.kl) (by rw[d8.O,S.O];exact λk u=>(a4.O.ki k u).1) (λe=>⟨H.O.a.1,by rw[<-a5.O,az.O];exact H.O.ar (.inr (.inr e))⟩) (by rw[<-a5.O];exact d5.O)).mono ?_;intro e w' k;exact k.back a6.O (λb m=>.inl m)
    have G:=hD bm;unfold cR at G
    rcases u with u|u<;>
    ·rw[u] at X G
     clear z bm u a3 ad;go_wp2_with fail;refine G.O.mono ?_;intro e w' k
     rcases k.ptr with⟨_,T⟩|⟨s,q,A,c',_,T,_⟩<;>
     ·subst T
      have aE:=hD k;clear k G X a9 an b1 av;go_wp2_with fail;go_ret;exact aE.O
   ·have z:Z=match dt o.k (ct y.rg o.a) (ct y.rg o.b) with
     |none=>y.ended ⟨0,131⟩
     |some x=>({y with rg:=jh y.rg o.d x},none):=by
     rw[b2.O,yb (by omega),yb (by omega)];unfold dE;rw[yb (by omega),yb (by omega),yb (by omega),S.O];simp only
     cases dt o.k (ct f.rg o.a) (ct f.rg o.b)<;>rfl
    have b3:=BP fb L.rb L.rc (cY L p y) y.rg o B C.O.J rfl C.O.rg (by rw[d8.O];exact a4.O.ri) u ⟨H.O.a.1,by rw[<-a5.O,az.O];exact H.O.ar (.inl u)⟩ (λe=>⟨H.O.b.1,by rw[<-a5.O,az.O];exact H.O.br (by omega)⟩);have cr:¬o.k=1:=by omega
    have cs:¬o.k=10:=by omega
    have cv:¬o.k=11:=by omega
    have cw:¬o.k=12:=by omega
    have cB:¬o.k=13:=by omega
    have d0:¬o.k=14:=by omega
    have e2:(o.k==1)=false:=bF cr;have e3:(o.k==10)=false:=bF cs;have e4:(o.k==11)=false:=bF cv;have e5:(o.k==12)=false:=bF cw;have e6:(o.k==13)=false:=bF cB;have e7:(o.k==14)=false:=bF d0;obtain⟨d,K⟩ :∃d:Nat,o.d=(d:Int):=ym H.O.d.1;have V:d<rl:=by have:=H.O.dr (.inl (by omega));rw[K,<-az.O] at this;exact yB.1 this
    have dz:=dB d;have e0:=cy V;have a8:B.cell? ⟨L.rb,d,none⟩=some (.int .i64 (y.rg.getD d 0)):=eU C.O.rg (by rw[<-a5.O];exact V);have b6:B.frozen? ⟨L.rb,d,none⟩=false:=C.O.rg.fz d;have d7:=hD a8;have fa:=hD b6;have el:=hD a3;have ce:=hD K;have em:Hd (B.cell? ⟨ai,1,none⟩=some (.int .i64 (d:Int))):=hD (by rw[<-K];exact a9)
    cases hcv:dt o.k (ct y.rg o.a) (ct y.rg o.b) with
    |none=>
     rw[hcv] at z b3;have G:=hD b3;unfold cR fI at G;have E:=hD z;clear z hcv b3 a8 b6 a3 K V u ad;go_wp2_with fail;refine G.O.mono ?_;rintro e bb ⟨rfl,am⟩
     have b9:Hd (Calls Tryz.prog 173 #[.pointer (some ⟨fb,0,none⟩),.int .i64 131] bb λe w'=>eZ w w' F fb p Z e):=hD ((lP 131 (λb m=>lL (cf.O b m) am.size) (C.O.kp am nG)).mono λe w' k=>by
      rw[E.O];exact(k.tell (F:=F) (λb m=>.inl m) aw.O.ff).back (a6.O.trans (am.mono λ_ e=>e.elim)) (λb m=>.inl m))
     clear am G X a9 an b1 av cr cs cv cw cB d0 e2 e3 e4 e5 e6 e7;go_wp2_with fail;refine b9.O.mono ?_;intro e w' k
     rcases k.ptr with⟨_,T⟩|⟨s,q,A,c',_,T,_⟩<;>
     ·subst T
      have aE:=hD k;clear k b9;go_wp2_with fail;go_ret;exact aE.O
    |some v=>
     rw[hcv] at z b3;have G:=hD b3;unfold cR fI at G;have E:=hD z;clear z hcv b3 a8 b6 a3 K V u ad;go_wp2_with fail;refine G.O.mono ?_;rintro e bb ⟨rfl,am⟩;have cg:∀(g j:Nat) (v:Value),B.cell? ⟨g,j,none⟩=some v->bb.cell? ⟨g,j,none⟩=some v:=λg j v hv=>(am.I (p:=⟨g,j,none⟩) (block_lt_of_cell hv) nF).trans hv
     have cd:=cg _ _ _ em.O;have f8:=cg _ _ _ el.O;have eq:=hD am;clear cg am G X a9 an b1 av cr cs cv cw cB d0 e2 e3 e4 e5 e6 e7;go_wp2_with fail
     go_still_tail 8,(by kernel_rfl)
     change wpList _ _ _ _ _ bb.drew;obtain⟨R,P⟩:=eX bb.drew;rw[<-P];have D:ac B R:=by rw[P];exact eq.O.drew
     have al:=C.O.kp D nG;have ex:R.cell? ⟨L.rb,d,none⟩=some (.int .i64 (y.rg.getD d 0)):=(D.I (p:=⟨L.rb,d,none⟩) (block_lt_of_cell d7.O) nF).trans d7.O;have eL:R.frozen? ⟨L.rb,d,none⟩=false:=al.rg.fz d;have ab:=hD (al.reg_put d v);have ba:=hD D;clear P D al cd f8;go_wp2_with fail;go_ret;rw[E.O];refine⟨⟨L,?_⟩,a6.O.trans ((ba.O.mono λ_ e=>e.elim).trans ((af R L.rb d (.int .i64 v)).mono λb e=>by rw[e];exact aw.O.fr)),rfl⟩;unfold jh;rw[ce.O,yo];exact ab.O.mo λb m=>.inl m
end
def ij:Array Value:=#[.int .u8 0,.string ⟨#[]⟩,.int .i64 0,.slice none 0 0,.int .i64 0,.int .i64 0,.int .i64 0]
theorem nJ(s:iR)(A:Option Addr)(c:Nat):∃(v0:Int) (v1:ByteArray) (v2:Int) (v3:Option Addr) (b a:Nat) (v4 v5 v6:Int),iX s A c= #[.int .u8 v0,.string v1,.int .i64 v2,.slice v3 b a,.int .i64 v4,.int .i64 v5,.int .i64 v6]:=by
 cases s<;>exact⟨_,_,_,_,_,_,_,_,_,rfl⟩
def pW(w w':World)(F:Nat->Prop)(fb:Nat)(p:List ah)(x:Fr×iR)(e:Ending):Prop:=
 ∃A c,e=.returned (.tuple #[.agg (iX x.2 A c),.int .i64 0])/\(∃L',aZ w' (λb=>F b\/bC w w' b) fb L' p x.1)/\aa F w w'/\(∀t,x.2=.fork t->aL w' (bC w w') A t.args)
theorem uI{f:Fr}{o:bI}(a:(f.joins o).2=none):(f.joins o).1.waits=none:=by
 unfold Fr.joins at a ⊢;split at a
 ·cases a
 ·rename_i c
  rw[yb c];simp only at a ⊢;split at a
  ·cases a
  ·rename_i b
   rw[yb b];split at a
   ·cases a
   ·rename_i d
    rw[yb d]
theorem kV(s:iR)(A:Option Addr)(c:Nat):(Tryz.prog.info? 181).map (·.size)=some (iX s A c).size:=by
 cases s<;>kernel_rfl
theorem bC.up{w c d:World}{b:Nat}(a:bC w c b)(e:c.heap.size<=d.heap.size):bC w d b:=⟨a.1,lL a.2 e⟩
theorem bC.dn{w c d:World}{b:Nat}(a:bC c d b)(e:w.heap.size<=c.heap.size):bC w d b:=⟨lT e a.1,a.2⟩
section
variable {w w':World}{F F':Nat->Prop}{fb:Nat}{L:ix}{p:List ah}{f:Fr}
theorem C4(a2:∀b,F b->b<w.heap.size)(aw:aZ w F fb L p f)(a5:gC p)(a:gK p f)(b4:f.result=none)(r:f.waits=none):
 Calls Tryz.prog 86 #[.pointer (some ⟨fb,0,none⟩),.int .i64 1] w λc w'=>pW w w' F fb p (f.run1 p) c:=by
 obtain⟨n,a3⟩:=eX (f.run1 p);rw[<-a3];obtain⟨X,N⟩:=eX (w.alloc (.cells ij 181));have S:ac w X:=by rw[N];exact(aa.refl _ w).alloc _
 have Y:ae X w.heap.size 181 ij:=by rw[N];exact bN
 have j:=aw.kp S nG;obtain⟨g,d⟩:=eX w.heap.size;rw[<-d] at Y;obtain⟨y,D⟩:=eX X;obtain⟨K,a4⟩:=eX f;have an:=hD (lY j a5.p0);have ar:Hd (Calls Tryz.prog 140 #[.pointer (some ⟨fb,0,none⟩)] y λc w'=>eZ y w' F fb p (K.step p) c):=hD (by rw[D,a4];exact uu (λb a=>lL (a2 b a) S.size) j a5 a r);have av:Hd (n=cz (K.step p)):=hD (by rw[a3,a4];unfold Fr.run1;rw[r]);have u:Hd (aa F w y):=hD (by rw[D];exact S.mono λ_ c=>c.elim);have z:Hd (∀b,F b->F b\/bC w y b):=hD λb a=>.inl a
 have B:Hd (ae y g 181 ij):=hD (by rw[D];exact Y);have H:Hd (¬F g):=hD λc=>by have:=a2 g c;rw[d] at this;exact absurd this (yQ _)
 have b7:=j.J.I 10;have b8:=j.J.I 11;have Q:=j.wp;rw[r] at Q;simp only at Q;simp[cY,Q,j.rp b4] at b7 b8;have W:=hD N.symm;have V:=hD d;have bb:=hD D;unfold ij at W;clear aw j a5 a b4 r a3 N S Y d D a4 a2 Q;go_enter Tryz.func86,Tryz.ntmps86;go_upto_region 1 with fail;rw[W.O,<-V.O];clear W;go_wp2_with fail;refine an.O.mono ?_;rintro c w' ⟨rfl,rfl⟩;go_wp2_with fail;rw[<-bb.O];clear b7 b8 an
 go_loopw [48] (λi wr=>(i=.int .i64 0/\wr=y)\/(i=.int .i64 1/\n=(n.1,.more)/\(∃m,aZ wr (λb=>(F b\/bC w wr b)/\b≠g) fb m p n.1)/\aa F w wr/\ae wr g 181 ij)) (λi _=>1-(intOf i).toNat)
 case atStart=>exact .inl ⟨rfl,rfl⟩
 case round=>
  rcases hrel with⟨rfl,r⟩|⟨rfl,b5,b1,b3,e⟩
  ·rw[<-r] at ar u B z
   clear r;go_wp2_with fail;refine ar.O.mono ?_;intro c w' k
   rcases k.ptr with⟨v,a0⟩|⟨s,q,A,c',v,a0,_⟩
   ·subst a0
    obtain⟨⟨m,b6⟩,R,c4⟩:=k;have x:n=((K.step p).1,iR.more):=by rw[av.O];unfold cz;rw[v];rfl
    have P:=B.O.lt;have bk:Hd (n=(n.1,iR.more)):=hD (by rw[x])
    have bm:Hd (∃m,aZ w' (λb=>(F b\/bC w w' b)/\b≠g) fb m p n.1):=hD (by
     rw[x];refine⟨m,b6.mo λb a=>⟨?_,λc=>?_⟩⟩
     ·rcases a with a|a
      ·exact(z.O b a).imp id λc=>c.up R.size
      ·exact .inr (a.dn u.O.size)
     ·rcases a with a|a
      ·exact H.O (c ▸ a)
      ·exact absurd P (zC.2 (c ▸ a.1)))
    have bn:Hd (aa F w w'):=hD (u.O.trans' R λb a=>(z.O b a).imp id λc=>c.1);have bo:=hD (R.J B.O H.O);clear b6 R c4 P x v;go_wp2_with fail;go_roundw
    case rel=>exact .inr ⟨rfl,bk.O,bm.O,bn.O,bo.O⟩
    case measure=>exact Nat.zero_lt_one
   ·subst a0
    have x:n=((K.step p).1,s):=by rw[av.O];unfold cz;rw[v];rfl
    have d:=k.2.1.J B.O H.O;obtain⟨j,az,aE⟩:=k;rw[v] at aE;obtain⟨q',G,c',o,c3,a1,b0⟩:=aE;injection o with o;injection o with o;injection o with o;injection o with o;subst o;obtain⟨v0,v1,v2,v3,a6,Z,v4,v5,v6,hv⟩:=nJ s G c';rw[hv] at a1;obtain⟨c6,c7,c8,c9,cb,cd,ce⟩:=a1.gE7;have a7:=d.I 0;have a8:=d.I 1;have a9:=d.I 2;have ab:=d.I 3;have ad:=d.I 4;have ai:=d.I 5;have al:=d.I 6;simp[ij] at a7 a8 a9 ab ad ai al;have bt:=d.fz 0;have bv:=d.fz 1;have bx:=d.fz 2;have bz:=d.fz 3;have c0:=d.fz 4;have c1:=d.fz 5;have c2:=d.fz 6
    have C:ae (((((((w'.setCell ⟨g,0,none⟩ (.int .u8 v0)).setCell ⟨g,1,none⟩ (.string v1)).setCell ⟨g,2,none⟩ (.int .i64 v2)).setCell ⟨g,3,none⟩ (.slice v3 a6 Z)).setCell ⟨g,4,none⟩ (.int .i64 v4)).setCell ⟨g,5,none⟩ (.int .i64 v5)).setCell ⟨g,6,none⟩ (.int .i64 v6)) g 181 (iX s G c'):=by
     rw[hv];exact((((((d.s_ 0 (.int .u8 v0)).s_ 1 (.string v1)).s_ 2 (.int .i64 v2)).s_ 3 (.slice v3 a6 Z)).s_ 4 (.int .i64 v4)).s_ 5 (.int .i64 v5)).s_ 6 (.int .i64 v6)
    have E:aa (λb=>b=g) w' (((((((w'.setCell ⟨g,0,none⟩ (.int .u8 v0)).setCell ⟨g,1,none⟩ (.string v1)).setCell ⟨g,2,none⟩ (.int .i64 v2)).setCell ⟨g,3,none⟩ (.slice v3 a6 Z)).setCell ⟨g,4,none⟩ (.int .i64 v4)).setCell ⟨g,5,none⟩ (.int .i64 v5)).setCell ⟨g,6,none⟩ (.int .i64 v6)):=aJ (aJ (aJ (aJ (aJ (aJ (af _ _ _ _))))));have b9:=hD j;have am:=hD az;have ba:=hD b0;have bf:=hD x;have T:=hD C;have l:=hD E;clear j az c3 a1 b0 x C E d hv v;go_wp2_with fail;refine bodyPost_ret (aW Tryz.results86 rfl T.O Tryz.underlying181 rfl (kV s G c')) rfl ?_;obtain⟨m,j⟩:=b9.O;have P:=B.O.lt
    have b2:∀b,F b\/bC wr w' b->¬b=g:=λb a c=>by
     rcases a with a|a
     ·exact H.O (c ▸ a)
     ·exact absurd P (zC.2 (c ▸ a.1))
    rw[bf.O];refine⟨G,c',rfl,⟨m,(j.kp l.O b2).mo λb a=>?_⟩,?_,λt c=>?_⟩
    ·rcases a with a|a
     ·exact(z.O b a).imp id λc=>(c.up am.O.size).up l.O.size
     ·exact .inr ((a.dn u.O.size).up l.O.size)
    ·exact(u.O.trans' am.O λb a=>(z.O b a).imp id λc=>c.1).trans' l.O λb a=>.inr (by rw[a];exact zl V.O.symm)
    ·exact((ba.O t c).kp l.O λb a=>b2 b (.inr a)).mo λb a=>(a.dn u.O.size).up l.O.size
  ·have bp:=hD b5
   have bq:=hD b1;have br:=hD b3;have c5:=hD e;have a7:=e.I 0;have a8:=e.I 1;have a9:=e.I 2;have ab:=e.I 3;have ad:=e.I 4;have ai:=e.I 5;have al:=e.I 6;simp[ij] at a7 a8 a9 ab ad ai al;have bt:=e.fz 0;have bv:=e.fz 1;have bx:=e.fz 2;have bz:=e.fz 3;have c0:=e.fz 4;have c1:=e.fz 5;have c2:=e.fz 6;have C:ae (((((((wr.setCell ⟨g,0,none⟩ (.int .u8 1)).setCell ⟨g,1,none⟩ (.string ⟨#[]⟩)).setCell ⟨g,2,none⟩ (.int .i64 0)).setCell ⟨g,3,none⟩ (.slice none 0 0)).setCell ⟨g,4,none⟩ (.int .i64 0)).setCell ⟨g,5,none⟩ (.int .i64 0)).setCell ⟨g,6,none⟩ (.int .i64 0)) g 181 (iX .more none 0):=((((((e.s_ 0 _).s_ 1 _).s_ 2 _).s_ 3 _).s_ 4 _).s_ 5 _).s_ 6 _;have E:aa (λb=>b=g) wr (((((((wr.setCell ⟨g,0,none⟩ (.int .u8 1)).setCell ⟨g,1,none⟩ (.string ⟨#[]⟩)).setCell ⟨g,2,none⟩ (.int .i64 0)).setCell ⟨g,3,none⟩ (.slice none 0 0)).setCell ⟨g,4,none⟩ (.int .i64 0)).setCell ⟨g,5,none⟩ (.int .i64 0)).setCell ⟨g,6,none⟩ (.int .i64 0)):=aJ (aJ (aJ (aJ (aJ (aJ (af _ _ _ _))))));have T:=hD C;have l:=hD E;clear b5 b1 b3 e C E;go_wp2_with fail;refine bodyPost_ret (aW Tryz.results86 rfl T.O Tryz.underlying181 rfl (kV .more none 0)) rfl ?_;obtain⟨m,j⟩:=bq.O;rw[bp.O];refine⟨none,0,rfl,⟨m,(j.kp l.O λb a=>a.2).mo λb a=>a.1.imp id λc=>c.up l.O.size⟩,br.O.trans' l.O λb a=>.inr (by rw[a];exact zl V.O.symm),λt c=>by cases c⟩
theorem CZ(o:bI)(aE:∀b,F b->b<w.heap.size)(c8:aZ w F fb L p f)(b2:gC p)(a:gK p f)(cf:f.result=none)(E:f.waits=some o):
 Calls Tryz.prog 86 #[.pointer (some ⟨fb,0,none⟩),.int .i64 1] w λc w'=>pW w w' F fb p (f.run1 p) c:=by
 obtain⟨x,b1⟩:=eX (f.run1 p);rw[<-b1];obtain⟨y,b0⟩:=eX (w.alloc (.cells ij 181));have b5:ac w y:=by rw[b0];exact(aa.refl _ w).alloc _
 have bk:ae y w.heap.size 181 ij:=by rw[b0];exact bN
 have e:=c8.kp b5 nG;obtain⟨g,d⟩:=eX w.heap.size;rw[<-d] at bk;obtain⟨n,V⟩:=eX (f.joins o);have b9:=hD (lY e b2.p0);have b4:=a.wt o E
 have cg:f.rg.length<=16:=by
  have e:=a.rl;have Z:=(b2.fn a.fn0 a.fn1).r16;omega
 have cb:o.k≠14->f.at_<(bG p f.fn).ops.length:=λc=>a.at1 (λdq c1=>by rw[E] at c1;cases c1;exact c)
 have av:Hd (Calls Tryz.prog 139 #[.pointer (some ⟨fb,0,none⟩),cR o] y λc w'=>eZ y w' F fb p n c):=hD (by
  rw[V];exact tH o (λb a=>lL (aE b a) b5.size) e a.jn a.kl (λk d4=>(a.ki k d4).1) (λc=>⟨b4.2.1,b4.2.2 c⟩) cg)
 have cr:Hd (∀s,n.2=some s->x=(n.1,s)):=hD λs c=>by
  rw[b1];unfold Fr.run1;rw[E];simp only;rw[<-V];obtain⟨X,Y⟩:=n;simp only at c;subst c;rfl
 have cs:Hd (n.2=none->x=cz (n.1.step p)/\gK p n.1/\n.1.waits=none):=hD λc=>by
  refine⟨?_,?_,?_⟩
  ·rw[b1]
   unfold Fr.run1;rw[E];simp only;rw[<-V];obtain⟨X,Y⟩:=n;simp only at c;subst c;rfl
  ·rcases rC a o b4 cb with⟨r,k,_⟩|k
   ·rw[<-V,c] at k;cases k
   ·rw[V];exact k
  ·rw[V] at c ⊢
   exact uI c
 have ba:Hd (¬F g):=hD λc=>by have:=aE g c;rw[d] at this;exact absurd this (yQ _)
 have bv:=e.J.I 10;have bx:=e.J.I 11;have a3:=e.wp;rw[E] at a3;simp only at a3;obtain⟨dr,d5,a3,a0⟩:=a3;simp[cY,a3,e.rp cf] at bv bx;have bo:=a0.I 0;have bp:=a0.I 1;have bq:=a0.I 2;have br:=a0.I 3;have bt:=a0.I 4;simp[eJ] at bo bp bq br bt;have aw:Hd (aa F w y):=hD (b5.mono λ_ c=>c.elim);have b8:=hD bk;have cn:=hD aE;have cp:=hD b2;have bb:=hD b0.symm;have ar:=hD d;unfold ij at bb;clear c8 e b2 a cf E b1 b0 b5 bk d aE a3 V b4 cg cb d5 a0;unfold cR at av;go_enter Tryz.func86,Tryz.ntmps86;go_upto_region 1 with fail;rw[bb.O,<-ar.O];clear bb;go_wp2_with fail;refine b9.O.mono ?_;rintro c w' ⟨rfl,rfl⟩;go_wp2_with fail;refine av.O.mono ?_;intro c z k
 rcases k.ptr with⟨u,S⟩|⟨s,q,A,c',u,S,_⟩
 ·subst S
  obtain⟨ci,ck,cm⟩:=cs.O u;obtain⟨⟨v,ab⟩,G,_⟩:=k;obtain⟨a4,a2⟩:=eX z;obtain⟨az,bn⟩:=eX n.1
  have c9:∀b,F b\/bC y z b->b<z.heap.size:=λb a=>by
   rcases a with a|a
   ·exact lL (cn.O b a) (lT aw.O.size G.size)
   ·exact a.2
  have bz:Hd (Calls Tryz.prog 140 #[.pointer (some ⟨fb,0,none⟩)] a4 λc d8=>eZ a4 d8 (λb=>F b\/bC y z b) fb p (az.step p) c):=hD (by rw[a2,bn];exact uu c9 ab cp.O ck cm);have c0:Hd (x=cz (az.step p)):=hD (by rw[ci,bn]);have B:Hd (aa F w a4):=hD (by rw[a2];exact aw.O.trans G);have H:Hd (∀b,F b\/bC y z b->F b\/bC w a4 b):=hD λb a=>by rw[a2];exact a.imp id λc=>c.dn aw.O.size
  have K:Hd (ae a4 g 181 ij):=hD (by rw[a2];exact G.J b8.O ba.O)
  have Q:Hd (¬(F g\/bC y z g)):=hD λc=>by
   rcases c with c|c
   ·exact ba.O c
   ·exact absurd b8.O.lt (zC.2 c.1)
  have cq:=hD a2;clear ci ck cm ab G c9 bn u bv bx bo bp bq br bt b9 av a2;go_wp2_with fail;rw[<-cq.O]
  go_loopw [48] (λi wr=>(i=.int .i64 0/\wr=a4)\/(i=.int .i64 1/\x=(x.1,.more)/\(∃v,aZ wr (λb=>(F b\/bC w wr b)/\b≠g) fb v p x.1)/\aa F w wr/\ae wr g 181 ij)) (λi _=>1-(intOf i).toNat)
  case atStart=>exact .inl ⟨rfl,rfl⟩
  case round=>
   rcases hrel with⟨rfl,E⟩|⟨rfl,ch,cd,ce,m⟩
   ·rw[<-E] at bz B K H
    clear E;go_wp2_with fail;refine bz.O.mono ?_;intro c w' k
    rcases k.ptr with⟨u,S⟩|⟨s,q,A,c',u,S,_⟩
    ·subst S
     obtain⟨⟨v,ab⟩,G,d7⟩:=k;have D:x=((az.step p).1,iR.more):=by rw[c0.O];unfold cz;rw[u];rfl
     have a1:=K.O.lt;have cv:Hd (x=(x.1,iR.more)):=hD (by rw[D])
     have cw:Hd (∃v,aZ w' (λb=>(F b\/bC w w' b)/\b≠g) fb v p x.1):=hD (by
      rw[D];refine⟨v,ab.mo λb a=>⟨?_,λc=>?_⟩⟩
      ·rcases a with a|a
       ·exact(H.O b a).imp id λc=>c.up G.size
       ·exact .inr (a.dn B.O.size)
      ·rcases a with a|a
       ·exact Q.O (c ▸ a)
       ·exact absurd a1 (zC.2 (c ▸ a.1)))
     have cB:Hd (aa F w w'):=hD (B.O.trans' G λb a=>(H.O b a).imp id λc=>c.1);have d0:=hD (G.J K.O Q.O);clear ab G d7 a1 D u;go_wp2_with fail;go_roundw
     case rel=>exact .inr ⟨rfl,cv.O,cw.O,cB.O,d0.O⟩
     case measure=>exact Nat.zero_lt_one
    ·subst S
     have D:x=((az.step p).1,s):=by rw[c0.O];unfold cz;rw[u];rfl
     have d:=k.2.1.J K.O Q.O;obtain⟨e,Z,a7⟩:=k;rw[u] at a7;obtain⟨q',C,c',j,bm,T,a8⟩:=a7;injection j with j;injection j with j;injection j with j;injection j with j;subst j;obtain⟨v0,v1,v2,v3,W,R,v4,v5,v6,hv⟩:=nJ s C c';rw[hv] at T;obtain⟨d9,da,db,dd,dk,dl,dm⟩:=T.gE7;have ad:=d.I 0;have X:=d.I 1;have Y:=d.I 2;have ai:=d.I 3;have al:=d.I 4;have am:=d.I 5;have an:=d.I 6;simp[ij] at ad X Y ai al am an;have c2:=d.fz 0;have n:=d.fz 1;have c3:=d.fz 2;have c4:=d.fz 3;have c5:=d.fz 4;have c6:=d.fz 5;have c7:=d.fz 6
     have N:ae (((((((w'.setCell ⟨g,0,none⟩ (.int .u8 v0)).setCell ⟨g,1,none⟩ (.string v1)).setCell ⟨g,2,none⟩ (.int .i64 v2)).setCell ⟨g,3,none⟩ (.slice v3 W R)).setCell ⟨g,4,none⟩ (.int .i64 v4)).setCell ⟨g,5,none⟩ (.int .i64 v5)).setCell ⟨g,6,none⟩ (.int .i64 v6)) g 181 (iX s C c'):=by
      rw[hv];exact((((((d.s_ 0 (.int .u8 v0)).s_ 1 (.string v1)).s_ 2 (.int .i64 v2)).s_ 3 (.slice v3 W R)).s_ 4 (.int .i64 v4)).s_ 5 (.int .i64 v5)).s_ 6 (.int .i64 v6)
     have P:aa (λb=>b=g) w' (((((((w'.setCell ⟨g,0,none⟩ (.int .u8 v0)).setCell ⟨g,1,none⟩ (.string v1)).setCell ⟨g,2,none⟩ (.int .i64 v2)).setCell ⟨g,3,none⟩ (.slice v3 W R)).setCell ⟨g,4,none⟩ (.int .i64 v4)).setCell ⟨g,5,none⟩ (.int .i64 v5)).setCell ⟨g,6,none⟩ (.int .i64 v6)):=aJ (aJ (aJ (aJ (aJ (aJ (af _ _ _ _))))));have b6:=hD e;have a5:=hD Z;have b7:=hD a8;have bf:=hD D;have a6:=hD N;have l:=hD P;clear e Z bm T a8 D N P d hv u;go_wp2_with fail;refine bodyPost_ret (aW Tryz.results86 rfl a6.O Tryz.underlying181 rfl (kV s C c')) rfl ?_;obtain⟨v,e⟩:=b6.O;have a1:=K.O.lt
     have a9:∀b,(λb=>F b\/bC y z b) b\/bC wr w' b->¬b=g:=λb a c=>by
      rcases a with a|a
      ·exact Q.O (c ▸ a)
      ·exact absurd a1 (zC.2 (c ▸ a.1))
     rw[bf.O];refine⟨C,c',rfl,⟨v,(e.kp l.O a9).mo λb a=>?_⟩,?_,λt c=>?_⟩
     ·rcases a with a|a
      ·exact(H.O b a).imp id λc=>(c.up a5.O.size).up l.O.size
      ·exact .inr ((a.dn B.O.size).up l.O.size)
     ·exact(B.O.trans' a5.O λb a=>(H.O b a).imp id λc=>c.1).trans' l.O λb a=>.inr (by rw[a];exact zl ar.O.symm)
     ·exact((b7.O t c).kp l.O λb a=>a9 b (.inr a)).mo λb a=>(a.dn B.O.size).up l.O.size
   ·have d1:=hD ch
    have d2:=hD cd;have d3:=hD ce;have dp:=hD m;have ad:=m.I 0;have X:=m.I 1;have Y:=m.I 2;have ai:=m.I 3;have al:=m.I 4;have am:=m.I 5;have an:=m.I 6;simp[ij] at ad X Y ai al am an;have c2:=m.fz 0;have n:=m.fz 1;have c3:=m.fz 2;have c4:=m.fz 3;have c5:=m.fz 4;have c6:=m.fz 5;have c7:=m.fz 6;have N:ae (((((((wr.setCell ⟨g,0,none⟩ (.int .u8 1)).setCell ⟨g,1,none⟩ (.string ⟨#[]⟩)).setCell ⟨g,2,none⟩ (.int .i64 0)).setCell ⟨g,3,none⟩ (.slice none 0 0)).setCell ⟨g,4,none⟩ (.int .i64 0)).setCell ⟨g,5,none⟩ (.int .i64 0)).setCell ⟨g,6,none⟩ (.int .i64 0)) g 181 (iX .more none 0):=((((((m.s_ 0 _).s_ 1 _).s_ 2 _).s_ 3 _).s_ 4 _).s_ 5 _).s_ 6 _;have P:aa (λb=>b=g) wr (((((((wr.setCell ⟨g,0,none⟩ (.int .u8 1)).setCell ⟨g,1,none⟩ (.string ⟨#[]⟩)).setCell ⟨g,2,none⟩ (.int .i64 0)).setCell ⟨g,3,none⟩ (.slice none 0 0)).setCell ⟨g,4,none⟩ (.int .i64 0)).setCell ⟨g,5,none⟩ (.int .i64 0)).setCell ⟨g,6,none⟩ (.int .i64 0)):=aJ (aJ (aJ (aJ (aJ (aJ (af _ _ _ _))))));have a6:=hD N;have l:=hD P;clear ch cd ce m N P;go_wp2_with fail;refine bodyPost_ret (aW Tryz.results86 rfl a6.O Tryz.underlying181 rfl (kV .more none 0)) rfl ?_;obtain⟨v,e⟩:=d2.O;rw[d1.O];refine⟨none,0,rfl,⟨v,(e.kp l.O λb a=>a.2).mo λb a=>a.1.imp id λc=>c.up l.O.size⟩,d3.O.trans' l.O λb a=>.inr (by rw[a];exact zl ar.O.symm),λt c=>by cases c⟩
 ·subst S
  have D:x=(n.1,s):=cr.O s u;obtain⟨wr,b3⟩:=eX y;have B:Hd (aa F w wr):=hD (by rw[b3];exact aw.O);have H:Hd (∀b,F b->F b\/bC w wr b):=hD λb a=>.inl a
  have K:Hd (ae wr g 181 ij):=hD (by rw[b3];exact b8.O);have Q:Hd (¬F g):=ba;rw[<-b3] at k;clear b3 bv bx bo bp bq br bt b9 av;have d:=k.2.1.J K.O Q.O;obtain⟨e,Z,a7⟩:=k;rw[u] at a7;obtain⟨q',C,c',j,bm,T,a8⟩:=a7;injection j with j;injection j with j;injection j with j;injection j with j;subst j;obtain⟨v0,v1,v2,v3,W,R,v4,v5,v6,hv⟩:=nJ s C c';rw[hv] at T;obtain⟨d9,da,db,dd,dk,dl,dm⟩:=T.gE7;have ad:=d.I 0;have X:=d.I 1;have Y:=d.I 2;have ai:=d.I 3;have al:=d.I 4;have am:=d.I 5;have an:=d.I 6;simp[ij] at ad X Y ai al am an;have c2:=d.fz 0;have n:=d.fz 1;have c3:=d.fz 2;have c4:=d.fz 3;have c5:=d.fz 4;have c6:=d.fz 5;have c7:=d.fz 6
  have N:ae (((((((z.setCell ⟨g,0,none⟩ (.int .u8 v0)).setCell ⟨g,1,none⟩ (.string v1)).setCell ⟨g,2,none⟩ (.int .i64 v2)).setCell ⟨g,3,none⟩ (.slice v3 W R)).setCell ⟨g,4,none⟩ (.int .i64 v4)).setCell ⟨g,5,none⟩ (.int .i64 v5)).setCell ⟨g,6,none⟩ (.int .i64 v6)) g 181 (iX s C c'):=by
   rw[hv];exact((((((d.s_ 0 (.int .u8 v0)).s_ 1 (.string v1)).s_ 2 (.int .i64 v2)).s_ 3 (.slice v3 W R)).s_ 4 (.int .i64 v4)).s_ 5 (.int .i64 v5)).s_ 6 (.int .i64 v6)
  have P:aa (λb=>b=g) z (((((((z.setCell ⟨g,0,none⟩ (.int .u8 v0)).setCell ⟨g,1,none⟩ (.string v1)).setCell ⟨g,2,none⟩ (.int .i64 v2)).setCell ⟨g,3,none⟩ (.slice v3 W R)).setCell ⟨g,4,none⟩ (.int .i64 v4)).setCell ⟨g,5,none⟩ (.int .i64 v5)).setCell ⟨g,6,none⟩ (.int .i64 v6)):=aJ (aJ (aJ (aJ (aJ (aJ (af _ _ _ _))))));have b6:=hD e;have a5:=hD Z;have b7:=hD a8;have bf:=hD D;have a6:=hD N;have l:=hD P;clear e Z bm T a8 D N P d hv u;go_wp2_with fail;refine bodyPost_ret (aW Tryz.results86 rfl a6.O Tryz.underlying181 rfl (kV s C c')) rfl ?_;obtain⟨v,e⟩:=b6.O;have a1:=K.O.lt
  have a9:∀b,F b\/bC wr z b->¬b=g:=λb a c=>by
   rcases a with a|a
   ·exact Q.O (c ▸ a)
   ·exact absurd a1 (zC.2 (c ▸ a.1))
  rw[bf.O];refine⟨C,c',rfl,⟨v,(e.kp l.O a9).mo λb a=>?_⟩,?_,λt c=>?_⟩
  ·rcases a with a|a
   ·exact(H.O b a).imp id λc=>(c.up a5.O.size).up l.O.size
   ·exact .inr ((a.dn B.O.size).up l.O.size)
  ·exact(B.O.trans' a5.O λb a=>(H.O b a).imp id λc=>c.1).trans' l.O λb a=>.inr (by rw[a];exact zl ar.O.symm)
  ·exact((b7.O t c).kp l.O λb a=>a9 b (.inr a)).mo λb a=>(a.dn B.O.size).up l.O.size
end
theorem ve:∃i,Tryz.prog.info? 3=some i/\i.zero=some (.int .i64 0)/\i.size=1/\i.bytes=8:=by
 have a:(Tryz.prog.info? 3).map (λi=>(i.zero,i.size,i.bytes))=some (some (.int .i64 0),1,8):=by kernel_rfl
 cases hi:Tryz.prog.info? 3 with
 |none=>rw[hi] at a;cases a
 |some i=>
  rw[hi] at a;simp only[yU,yC,yP] at a;exact⟨i,rfl,a⟩
theorem Bn{w:World}{t:TypeId}(v:Value):cO (w.alloc (.cells #[v] t)) (w.heap.size+1) 1 (some ⟨w.heap.size,0,none⟩) 1 [v]:=
 ⟨by simp,λ_=>⟨_,rfl,by simp,λj u a=>by
  match j,a with
  |0,a=>simp at a;subst a;simp[Addr.add]⟩⟩
theorem wN{w:World}{t:TypeId}(v:Value){k:Nat}(a:w.heap.size=k):cO (w.alloc (.cells #[v] t)) (k+1) 1 (some ⟨k,0,none⟩) 1 [v]:=by
 subst a;exact Bn v
section
variable {w w':World}{F F':Nat->Prop}{fb:Nat}{L:ix}{p:List ah}{f:Fr}
theorem pi(c:∀b,F b->b<w.heap.size)(a:aZ w F fb L p f)(e:gC p)(d:gK p f)(g:f.result=none):
 Calls Tryz.prog 86 #[.pointer (some ⟨fb,0,none⟩),.int .i64 1] w λi w'=>pW w w' F fb p (f.run1 p) i:=by
 cases hw:f.waits with
 |none=>exact C4 c a e d g hw
 |some o=>exact CZ o c a e d g hw
theorem aZ.kids_at(d:aZ w F fb L p f){A:Option Addr}{c:Nat}(e:L.kv=.slice A f.kd.length c):gM w A f.kd:=by
 rcases d.kv_form with⟨a,m⟩|⟨kb,c',a,_⟩
 ·rw[m];exact λi k b=>by simp at b
 ·rw[a] at e
  injection e with e1 e2 e3;subst e1;intro i k b;refine⟨kb,0,rfl,λj v hv=>?_⟩
  have n:j<4:=by
   have:=(gS hv).1
   simpa[fY] using this
  have l:=d.kd;rw[a] at l;have:=l.cells (g:=kb) rfl (i*4+j) v (by rw[jI _ _ j k b n];exact hv);rw[bw,yq] at this;rw[yq];exact this
def gi(f:Fr)(k:Nat):List Nat:=(List.range k).filter λi=>!(f.kd.getD i ⟨0,true,⟨0,0⟩⟩).given
theorem uV{f:Fr}{k:Nat}{y:cZ}(a:f.kd[k]?=some y)(b:y.given=false):gi f (k+1)=gi f k++ [k]:=by
 unfold gi;rw[List.range_succ,List.filter_append]
 congr 1
 simp[yc,a,b]
theorem xm{f:Fr}{k:Nat}{y:cZ}(a:f.kd[k]?=some y)(b:y.given=true):gi f (k+1)=gi f k:=by
 unfold gi;rw[List.range_succ,List.filter_append];simp[yc,a,b]
theorem xl(f:Fr)(k:Nat):(gi f k).length<=k:=by
 unfold gi;exact lT (List.length_filter_le _ _) (by simp)
def ub(l:List Nat):List Value:=l.map λi:Nat=>Value.int .i64 ((i:Int)+1)
theorem BG(q:aZ w F fb L p f)(Y:p≠[])(H:f.kd.length<=16):
 Calls Tryz.prog 89 #[.pointer (some ⟨fb,0,none⟩)] w λx w'=>∃v,x=.returned v/\w'.ownsRow w.heap.size 3 1 v f.waitsOf.length (ub f.waitsOf)/\ac w w':=by
 have a9:=hD (lY q Y);obtain⟨A,c,G⟩:=q.kv_any;have S:=q.kids_at G;have a5:=q.J.I 8;simp[cY,G] at a5;obtain⟨n,C⟩:=eX f.kd.length;rw[<-C] at a5 H;have a1:f.waitsOf=gi f n:=by rw[C];rfl
 rw[a1];obtain⟨aw,R,a2,a3,a4⟩:=ve;have a7:=hD S;have N:=hD (aI C H);have t:=hD (aI R (aI a2 (aI a3 a4)));clear q Y G S C H a1 R a2 a3 a4;go_enter Tryz.func89,Tryz.ntmps89;go_wp2_with fail;refine a9.O.mono ?_;rintro x w' ⟨rfl,av⟩;subst av;go_wp2_with fail
 go_loopw [2,12] (λl i wr=>∃k:Nat,k<=n/\i=.int .i64 k/\wr.ownsRow w.heap.size 3 1 l (gi f k).length (ub (gi f k))/\ac w wr) (λ_ i _=>n-(intOf i).toNat)
 case atStart=>exact⟨0,yx _,rfl,⟨by simp[gi,ub],.inl ⟨rfl,rfl⟩⟩,oR⟩
 case round=>
  obtain⟨k,E,rfl,g,d⟩:=hrel
  by_cases a:k<n
  ·have b2:(0:Int)<=(k:Int):=dB k
   have am:(k:Int)<(n:Int):=cy a;have an:k<f.kd.length:=by rw[<-N.O.1];exact a
   have r:f.kd[k]?=some f.kd[k]:=gG an;obtain⟨b,o,al,j⟩:=a7.O.kp d k f.kd[k] r;generalize f.kd[k] =y at*;have a6:=j 0 _ rfl;have K:=j 1 _ rfl;have b0:=j 2 _ rfl;have b1:=j 3 _ rfl;rw[yW] at a6;subst al;have z:k<16:=lL a N.O.2;have s:wrap64 ((k:Int)+1)=(k:Int)+1:=kJ z;have b3:=(aR ((k:Int)+1)).trans s
   cases hg:y.given
   ·rw[hg] at K
    have D:=hD (uV r hg);have e:=hD g;have m:=hD d;obtain⟨az,B⟩:=eX ((gi f k).length);have W:az<16:=by rw[B];exact lM (xl f k) z
    rw[<-B] at e;have a8:=hD B;have P:=hD W;have Z:=d.size;have ab:=hD Z;clear j g d r hg B W Z z
    go_wp2_with (at_builtin;refine fV _ rfl (.tmp 20) (.tmp 23) 110 rfl w.heap.size 3 aw (.int .i64 0) 1 8 Tryz.underlying110 t.O.1 t.O.2.1 t.O.2.2.1 t.O.2.2.2 rfl (by decide) _ _ _ rfl ((e.O.alloc _).alloc _) _ _ _ _ _ rfl (wN _ (by simp)) ?c2 ?c3 ?c4 ?c5 ?_)
    case c2=>intro u a0;simp at a0;subst a0;rfl
    case c3=>exact lT (Nat.succ_le_of_lt P.O) (by unfold maxLen;decide)
    case c4=>exact lT (zP 8 (Nat.succ_le_of_lt P.O)) (by decide)
    case c5=>simp;have:=ab.O;omega
    intro b4 aE X Q ar;have V:=e.O.lt;have ad:=hD X;have ai:Hd (ac w aE):=hD (((m.O.alloc _).alloc _).grown Q (λk E=>.inr (V k E).1));clear X Q ar V a6 K b0 b1;go_wp2_with fail;go_roundw
    case rel=>exact⟨k+1,a,by first|exact cK k|exact cH s,by rw[D.O,yk,<-a8.O];unfold ub;rw[yS];exact ad.O,ai.O⟩
    case measure=>first|exact au rfl a|exact au s a
   ·rw[hg] at K
    have D:=hD (xm r hg);have e:=hD g;have m:=hD d;clear j g d r hg z;go_wp2_with fail;go_roundw
    case rel=>exact⟨k+1,a,by first|exact cK k|exact cH s,by rw[D.O];exact e.O.alloc _,m.O.alloc _⟩
    case measure=>first|exact au rfl a|exact au s a
  ·have am:¬(k:Int)<(n:Int):=λx=>a (yB.1 x)
   have T:k=n:=yT E (yA a);rw[T] at g;have e:=hD g;have m:=hD d;clear g d T;go_wp2_with fail;go_ret;exact⟨_,rfl,e.O,m.O⟩
end
def fS(w:World)(g:Nat)(k:IntKind)(xs:List Int):Prop:=∀(i:Nat) (x:Int),xs[i]?=some x->w.cell? ⟨g,i,none⟩=some (.int k x)
theorem fS.kp{w w':World}{g:Nat}{k:IntKind}{xs:List Int}(a:fS w g k xs)(c:ac w w'):fS w' g k xs:=λi x b=>
 (c.I (p:=⟨g,i,none⟩) (block_lt_of_cell (a i x b)) nF).trans (a i x b)
theorem fS.keep_{S:Nat->Prop}{w w':World}{g:Nat}{k:IntKind}{xs:List Int}(a:fS w g k xs)(d:aa S w w')(c:¬S g):fS w' g k xs:=λi x b=>
 (d.I (p:=⟨g,i,none⟩) (block_lt_of_cell (a i x b)) c).trans (a i x b)
def iP(pr:Int->Bool):List Int->Nat->Int
 | [],_=>-1
 |a :: l,k=>if pr a=true then(k:Int) else iP pr l (k+1)
theorem qg(c:Int->Bool):∀(l:List Int) (k:Nat),decide ((0:Int)<=iP c l k)=l.any c
 | [],k=>by simp[iP]
 |a :: l,k=>by
  unfold iP
  by_cases b:c a=true
  ·rw[yf b]
   simp[b]
  ·rw[yb b,qg c l (k+1)]
   simp[b]
def co(x:Int):Bool:=decide (0<=x/\x<=16)
theorem CV(x:Int)(w:World):Calls Tryz.prog 218 #[.int .i64 x] w λd w'=>d=.returned (.bool (!co x))/\ac w w':=by
 by_cases b:x<0
 ·have a:co x=false:=yd (by omega)
  rw[a];have e:decide (x<0)=true:=yg b;go_enter Tryz.func218,Tryz.ntmps218;go_wp2_with fail;go_ret;exact⟨rfl,oR⟩
 ·have e:decide (x<0)=false:=yd b
  by_cases c:16<x
  ·have a:co x=false:=yd (by omega)
   rw[a];have g:decide (16<x)=true:=yg c;go_enter Tryz.func218,Tryz.ntmps218;go_wp2_with fail;go_ret;exact⟨rfl,oR⟩
  ·have a:co x=true:=yg (by omega)
   rw[a];have g:decide (16<x)=false:=yd c;go_enter Tryz.func218,Tryz.ntmps218;go_wp2_with fail;go_ret;exact⟨rfl,oR⟩
theorem vG(x regs:Int)(d:Nat)(w:World)(i:w.cell? ⟨d,0,none⟩=some (.int .i64 regs)):Calls Tryz.prog 222 #[.int .i64 x,.pointer (some ⟨d,0,none⟩)] w λg w'=>g=.returned (.bool (decide (regs<=x)))/\ac w w':=by
 obtain⟨b,a⟩:=eX (decide (regs<=x));rw[<-a]
 by_cases e:regs<=x
 ·have c:decide (regs<=x)=true:=yg e
  rw[c] at a;subst a;go_enter Tryz.func222,Tryz.ntmps222;go_wp2_with fail;go_ret;exact⟨rfl,oR⟩
 ·have c:decide (regs<=x)=false:=yd e
  rw[c] at a;subst a;go_enter Tryz.func222,Tryz.ntmps222;go_wp2_with fail;go_ret;exact⟨rfl,oR⟩
theorem cG{k n:Nat}(a:k<n)(b:n<=1000):wrap64 ((k:Int)+1)=(k:Int)+1:=by unfold wrap64;omega
theorem DY(g:Nat)(xs:List Int)(c:Nat)(w:World)(B:fS w g .i64 xs)(s:xs.length<=1000):
 Calls Tryz.prog 232 #[.slice (some ⟨g,0,none⟩) xs.length c,.func (.func 218) #[] #[]] w λa w'=>a=.returned (.int .i64 (iP (λx=>!co x) xs 0))/\ac w w':=by
 obtain⟨r,u⟩:=eX (iP (λx=>!co x) xs 0);rw[<-u];have N:=hD u;have G:Hd (∀(x:Int) W,ac w W->Calls Tryz.prog 218 #[.int .i64 x] W λa w'=>a=.returned (.bool ((λx=>!co x) x))/\ac W w'):=hD (λx W _=>CV x W);have H:=hD B;obtain⟨n,t⟩:=eX xs.length;rw[<-t] at s ⊢;have z:=hD t;have K:=hD s;clear u B t s;go_enter Tryz.func232,Tryz.ntmps232;go_wp2_with fail
 go_loopw [8] (λi wr=>∃k:Nat,k<=n/\i=.int .i64 k/\iP (λx=>!co x) (xs.drop k) k=r/\ac w wr) (λi _=>n-(intOf i).toNat)
 case atStart=>exact⟨0,yx _,rfl,N.O.symm,oR⟩
 case round=>
  obtain⟨k,Q,rfl,d,e⟩:=hrel
  by_cases b:k<n
  ·have T:(0:Int)<=(k:Int):=dB k
   have P:(k:Int)<(n:Int):=cy b;have C:k<xs.length:=by rw[<-z.O];exact b
   have R:=H.O.kp e k xs[k] (gG C);rw[yM C] at d;unfold iP at d;generalize xs[k] =y at*;obtain⟨o,q⟩:=eX ((λx=>!co x) y:Bool);have l:(if o=true then(k:Int) else iP (λx=>!co x) (xs.drop (k+1)) (k+1))=r:=by rw[q];exact d
   have v:Hd (Calls Tryz.prog 218 ((λx:Int=>#[.int .i64 x]) y) wr λa w'=>a=.returned (.bool o)/\ac wr w'):=hD (by rw[q];exact G.O y wr e);have D:wrap64 ((k:Int)+1)=(k:Int)+1:=cG b K.O;have m:=hD e;clear d e q;simp only at v;go_wp2_with fail;refine v.O.mono ?_;rintro a S ⟨rfl,E⟩;have A:=hD (m.O.trans E);clear E R
   cases o
   ·have j:Hd (iP (λx=>!co x) (xs.drop (k+1)) (k+1)=r):=hD l
    clear l;go_wp2_with fail;go_roundw
    case rel=>exact⟨k+1,b,by first|exact cK k|exact cH D,j.O,A.O⟩
    case measure=>first|exact au rfl b|exact au D b
   ·have j:Hd ((k:Int)=r):=hD l
    clear l;go_wp2_with fail;go_ret;exact⟨by rw[<-j.O];rfl,A.O⟩
  ·have P:¬(k:Int)<(n:Int):=λa=>b (yB.1 a)
   have:k=n:=yT Q (yA b);subst this;rw[z.O,zq] at d;have j:=hD d;have m:=hD e;clear d e;go_wp2_with fail;go_ret;exact⟨by rw[<-j.O];rfl,m.O⟩
theorem DV(g:Nat)(xs:List Int)(c:Nat)(w:World)(b:fS w g .i64 xs)(d:xs.length<=1000):
 Calls Tryz.prog 217 #[.slice (some ⟨g,0,none⟩) xs.length c,.func (.func 218) #[] #[]] w λa w'=>a=.returned (.bool (xs.any (λx=>!co x)))/\ac w w':=by
 have i:=hD (DY g xs c w b d);rw[<-qg _ xs 0];generalize iP (λx=>!co x) xs 0=r at*;generalize xs.length=n at*;clear b d;go_enter Tryz.func217,Tryz.ntmps217;go_wp2_with fail;refine i.O.mono ?_;rintro a k ⟨rfl,e⟩;have j:=hD e;clear e;go_wp2_with fail;go_ret;exact⟨rfl,j.O⟩
theorem Ac(g:Nat)(xs:List Int)(c:Nat)(w:World)(C:fS w g .i64 xs)(t:xs.length<=1000)(regs:Int)(e:Nat)(D:w.cell? ⟨e,0,none⟩=some (.int .i64 regs)):
 Calls Tryz.prog 232 #[.slice (some ⟨g,0,none⟩) xs.length c,.func (.func 222) #[] #[.pointer (some ⟨e,0,none⟩)]] w λa w'=>a=.returned (.int .i64 (iP (λx=>decide (regs<=x)) xs 0))/\ac w w':=by
 obtain⟨r,v⟩:=eX (iP (λx=>decide (regs<=x)) xs 0);rw[<-v];have Q:=hD v;have K:Hd (∀(x:Int) W,ac w W->Calls Tryz.prog 222 #[.int .i64 x,.pointer (some ⟨e,0,none⟩)] W λa w'=>a=.returned (.bool ((λx=>decide (regs<=x)) x))/\ac W w'):=hD (λx W R=>vG x regs e W ((R.I (p:=⟨e,0,none⟩) (block_lt_of_cell D) nF).trans D));have N:=hD C;obtain⟨n,u⟩:=eX xs.length;rw[<-u] at t ⊢;have A:=hD u;have P:=hD t;clear v C u t;go_enter Tryz.func232,Tryz.ntmps232;go_wp2_with fail
 go_loopw [8] (λi wr=>∃k:Nat,k<=n/\i=.int .i64 k/\iP (λx=>decide (regs<=x)) (xs.drop k) k=r/\ac w wr) (λi _=>n-(intOf i).toNat)
 case atStart=>exact⟨0,yx _,rfl,Q.O.symm,oR⟩
 case round=>
  obtain⟨k,T,rfl,d,j⟩:=hrel
  by_cases b:k<n
  ·have Y:(0:Int)<=(k:Int):=dB k
   have S:(k:Int)<(n:Int):=cy b;have E:k<xs.length:=by rw[<-A.O];exact b
   have V:=N.O.kp j k xs[k] (gG E);rw[yM E] at d;unfold iP at d;generalize xs[k] =y at*;obtain⟨q,s⟩:=eX ((λx=>decide (regs<=x)) y:Bool);have m:(if q=true then(k:Int) else iP (λx=>decide (regs<=x)) (xs.drop (k+1)) (k+1))=r:=by rw[s];exact d
   have z:Hd (Calls Tryz.prog 222 ((λx:Int=>#[.int .i64 x,.pointer (some ⟨e,0,none⟩)]) y) wr λa w'=>a=.returned (.bool q)/\ac wr w'):=hD (by rw[s];exact K.O y wr j);have G:wrap64 ((k:Int)+1)=(k:Int)+1:=cG b P.O;have o:=hD j;clear d j s;simp only at z;go_wp2_with fail;refine z.O.mono ?_;rintro a X ⟨rfl,H⟩;have B:=hD (o.O.trans H);clear H V
   cases q
   ·have l:Hd (iP (λx=>decide (regs<=x)) (xs.drop (k+1)) (k+1)=r):=hD m
    clear m;go_wp2_with fail;go_roundw
    case rel=>exact⟨k+1,b,by first|exact cK k|exact cH G,l.O,B.O⟩
    case measure=>first|exact au rfl b|exact au G b
   ·have l:Hd ((k:Int)=r):=hD m
    clear m;go_wp2_with fail;go_ret;exact⟨by rw[<-l.O];rfl,B.O⟩
  ·have S:¬(k:Int)<(n:Int):=λa=>b (yB.1 a)
   have:k=n:=yT T (yA b);subst this;rw[A.O,zq] at d;have l:=hD d;have o:=hD j;clear d j;go_wp2_with fail;go_ret;exact⟨by rw[<-l.O];rfl,o.O⟩
theorem Aa(g:Nat)(xs:List Int)(c:Nat)(w:World)(d:fS w g .i64 xs)(i:xs.length<=1000)(regs:Int)(a:Nat)(e:w.cell? ⟨a,0,none⟩=some (.int .i64 regs)):
 Calls Tryz.prog 217 #[.slice (some ⟨g,0,none⟩) xs.length c,.func (.func 222) #[] #[.pointer (some ⟨a,0,none⟩)]] w λb w'=>b=.returned (.bool (xs.any (λx=>decide (regs<=x))))/\ac w w':=by
 have k:=hD (Ac g xs c w d i regs a e);rw[<-qg _ xs 0];generalize iP (λx=>decide (regs<=x)) xs 0=r at*;generalize xs.length=n at*;clear d i e;go_enter Tryz.func217,Tryz.ntmps217;go_wp2_with fail;refine k.O.mono ?_;rintro b m ⟨rfl,j⟩;have l:=hD j;clear j;go_wp2_with fail;go_ret;exact⟨rfl,l.O⟩
theorem vS:Keyed Tryz.prog 5:=Maps.int_keyed Tryz.underlying5
noncomputable def ir(f:Value->Option Value)(xs:List Int)(pv:Value):Value->Option Value:=xs.foldl (λf k=>iu f (.int .u8 k) (some pv)) f
theorem BD(f:Value->Option Value)(xs:List Int)(x:Int)(a:Value):ir f (xs++ [x]) a=iu (ir f xs a) (.int .u8 x) (some a):=by
 unfold ir;rw[List.foldl_append];rfl
theorem ko:∀(xs:List Int) (f:Value->Option Value) (a:Value) (y:Int),(∀x∈xs,x≠y)->ir f xs a (.int .u8 y)=f (.int .u8 y)
 | [],f,a,y,_=>rfl
 |x :: xs,f,a,y,c=>by
  have:=ko xs (iu f (.int .u8 x) (some a)) a y (λz d=>c z (yV _ d));unfold ir at this ⊢;rw[List.foldl_cons,this];exact kq _ _ (λb=>c x zh (by injection b with _ b;exact b.symm))
theorem vt:∀(xs:List Int) (f:Value->Option Value) (a:Value) (y:Int),y∈xs->ir f xs a (.int .u8 y)=some a
 | [],f,a,y,c=>by cases c
 |x :: xs,f,a,y,c=>by
  unfold ir;rw[List.foldl_cons]
  by_cases d:y∈xs
  ·exact vt xs _ a y d
  ·have:y=x:=by rcases yG.1 c with b|b;exact b;exact absurd b d
   subst this;have:=ko xs (iu f (.int .u8 y) (some a)) a y (λz e b=>d (b ▸ e));unfold ir at this;rw[this];exact jV _ _ _
def aq(d a b n:Bool):Value:=.agg #[.bool d,.bool a,.bool b,.bool n]
theorem kU(d a b n:Bool)(xs:List Int)(g c l cnt:Nat)(f:Value->Option Value)(w:World)(V:aN Tryz.prog w 5 l f cnt)(a0:fS w g .u8 xs)(a1:g≠l)(a8:∀x∈xs,(Lit.int .u8 x).wf=true)(Y:∀x∈xs,f (.int .u8 x)=none)(a5:xs.Nodup)
 (X:cnt+xs.length<=1000):
 Calls Tryz.prog 233 #[aq d a b n,.map (some l),.slice (some ⟨g,0,none⟩) xs.length c] w λm w'=>m=.returned (.tuple #[])/\aN Tryz.prog w' 5 l (ir f xs (aq d a b n)) (cnt+xs.length)/\aa (λb=>b=l) w w':=by
 obtain⟨u,v⟩:=eX (w.alloc (.cells #[.bool d,.bool a,.bool b,.bool n] 327));have A:ac w u:=by rw[v];exact(aa.refl _ w).alloc _
 have G:ae u w.heap.size 327 #[.bool d,.bool a,.bool b,.bool n]:=by rw[v];exact bN
 obtain⟨q,P⟩:=eX w.heap.size;rw[<-P] at G;obtain⟨r,K⟩:=eX xs.length;have S:Hd (aN Tryz.prog u 5 l f cnt):=hD (V.only A nF);have am:=hD (a0.kp A);have R:=hD G;have aw:=hD P;have av:=hD A;have C:=hD K;have B:=hD X;have t:=hD (aI a8 (aI Y (aI a5 a1)));have T:=hD v.symm;rw[<-K] at B ⊢;unfold aq;clear V a0 a1 a8 Y a5 X A G P K v;go_enter Tryz.func233,Tryz.ntmps233;go_upto_region 1 with fail;rw[T.O,<-aw.O];clear T;go_wp2_with fail
 go_loopw [10] (λi wr=>∃k:Nat,k<=r/\i=.int .i64 k/\aN Tryz.prog wr 5 l (ir f (xs.take k) (aq d a b n)) (cnt+k)/\aa (λb=>b=l) u wr) (λi _=>r-(intOf i).toNat)
 case atStart=>exact⟨0,yx _,rfl,S.O,oR⟩
 case round=>
  obtain⟨k,a3,rfl,s,o⟩:=hrel
  by_cases e:k<r
  ·have bb:(0:Int)<=(k:Int):=dB k
   have b0:(k:Int)<(r:Int):=cy e;have z:k<xs.length:=by rw[<-C.O];exact e
   have Q:xs[k]?=some xs[k]:=gG z;have b9:=am.O.keep_ o t.O.2.2.2 k xs[k] Q;have N:xs[k]∈xs:=yN z
   have a6:∀x∈xs.take k,x≠xs[k]:=λx b4 m=>by
    obtain⟨j,y⟩:=yF b4
    have a2:j<k:=by
     have:=(gS y).1;rw[ze] at this;omega
    rw[List.getElem?_take_of_lt a2] at y;have b1:=(gS y).1;have:xs[j] =xs[k]:=by rw[<-m];exact(gS y).2
    exact List.pairwise_iff_getElem.1 t.O.2.2.1 j k b1 z a2 this
   have Z:ir f (xs.take k) (aq d a b n) (.int .u8 xs[k])=none:=by rw[ko _ _ _ _ a6];exact t.O.2.1 _ N
   have a7:ir f (xs.take (k+1)) (aq d a b n)=iu (ir f (xs.take k) (aq d a b n)) (.int .u8 xs[k]) (some (aq d a b n)):=by
    rw[yO,Q];exact BD _ _ _ _
   have a9:=t.O.1 _ N;generalize xs[k] =x at*;have b2:∃ad,keyOf Tryz.prog 5 (.int .u8 x)=some ad:=⟨_,Maps.keyOf_int_mk Tryz.underlying5 a9⟩
   obtain⟨ad,a4⟩:=b2;have W:=o.J R.O (S.O.ne R.O);obtain⟨b5,b6,b7,b8⟩:=W.gE4;have ab:wrap64 ((k:Int)+1)=(k:Int)+1:=cG e (lT (Yh _ _) B.O);have D:=hD s;have E:=hD o;have al:=hD Z;have az:=hD a7;have an:=hD a4;clear s o Z a7 a4 Q N a6 z a9 W;go_wp2_with fail;refine qq D.O vS Tryz.underlying329 an.O (lM (lT (Nat.add_le_add_left a3 cnt) B.O) (by unfold maxLen;decide)) ?_;intro ba H ai;rw[show(ir f (xs.take k) (aq d a b n) (.int .u8 x)).isSome=false by rw[al.O];rfl] at H;have ar:=hD H;have aE:=hD (E.O.trans ai);clear H ai b9 b5 b6 b7 b8;go_wp2_with fail;go_roundw
   case rel=>exact⟨k+1,e,by first|exact cK k|exact cH ab,by rw[az.O];exact ar.O,aE.O⟩
   case measure=>first|exact au rfl e|exact au ab e
  ·have b0:¬(k:Int)<(r:Int):=λm=>e (yB.1 m)
   have b3:k=r:=yT a3 (yA e);subst b3;rw[C.O,zr,<-C.O] at s;have D:=hD s;have E:=hD o;clear s o;go_wp2_with fail
   go_end0
   exact⟨rfl,D.O,(av.O.mono λ_ m=>m.elim).trans E.O⟩
theorem eA(w:World)(k:IntKind)(xs:List Int)(T:TypeId):fS (w.alloc (.cells (xs.map (Value.int k)).toArray T)) w.heap.size k xs:=λi x a=>by
 rw[(ae.new w T (xs.map (Value.int k)).toArray).I];simp[a]
noncomputable def cX(l:List (List Int×Value)):Value->Option Value:=l.foldl (λf c=>ir f c.1 c.2) (λ_=>none)
theorem gV(l:List (List Int×Value))(xs:List Int)(a:Value):cX (l++ [(xs,a)])=ir (cX l) xs a:=by
 unfold cX;rw[List.foldl_append];rfl
theorem gg(l:List (List Int×Value))(y:Int):(∀c∈l,∀x∈c.1,x≠y)->cX l (.int .u8 y)=none:=by
 unfold cX
 suffices a:∀(l:List (List Int×Value)) (f:Value->Option Value),f (.int .u8 y)=none->(∀c∈l,∀x∈c.1,x≠y)->l.foldl (λf c=>ir f c.1 c.2) f (.int .u8 y)=none from a l _ rfl
 intro l
 induction l with
 |nil=>intro f b _;exact b
 |cons c l e=>
  intro f b a;rw[List.foldl_cons];refine e _ ?_ (λc d=>a c (yV _ d));rw[ko _ _ _ _ (a c zh)];exact b
theorem d6(l:List (List Int×Value))(y:Int)(i:Value)(c:List Int×Value)(e:List (List Int×Value))(m:y∈c.1)(g:c.2=i)(b:∀c∈e,∀x∈c.1,x≠y):cX (l++c :: e) (.int .u8 y)=some i:=by
 unfold cX;rw[List.foldl_append,List.foldl_cons];generalize l.foldl (λf c=>ir f c.1 c.2) (λ_=>none)=j;have a:ir j c.1 c.2 (.int .u8 y)=some i:=by rw[vt _ _ _ _ m,g]
 revert a b;generalize ir j c.1 c.2=k
 induction e generalizing k with
 |nil=>intro _ a;exact a
 |cons d e n=>
  intro b a;rw[List.foldl_cons];refine n _ (λc g=>b c (yV _ g)) ?_;rw[ko _ _ _ _ (b d zh)];exact a
def gX:List (List Int×Value):=[([1],aq true false false true),([2],aq true true false false),([3,4,5,6,7,8,9],aq true true true false),([10],aq false false false true),([11],aq false true false true),([12],aq true true false true),([13],aq false false false false),([14],aq false true false false)]
theorem DT(w:World):Calls Tryz.prog 220 #[] w λa w'=>a=.returned (.map (some w.heap.size))/\aN Tryz.prog w' 5 w.heap.size (cX gX) 14/\ac w w':=by
 obtain⟨e,r⟩:=eX (w.alloc (.map #[] 0));obtain⟨c,g⟩:=eX w.heap.size;have i:Hd (aN Tryz.prog e 5 c (cX []) 0):=hD (by rw[r,g];exact aN.made vS w);have E:Hd (aa (λb=>b=c) e e):=hD oR;have D:=hD r.symm;have C:=hD g;rw[<-g];clear r g;have ai:=@run_makeMap Tryz.prog;go_enter Tryz.func220,Tryz.ntmps220;go_upto_region 2 with fail;rw[D.O,<-C.O];go_wp2_with fail;refine(kU true false false true [1] e.heap.size 1 c 0 (cX []) _ (i.O.only ((aa.refl (λ_=>False) _).alloc _) nF) (eA e .u8 [1] _) (λa=>absurd (a ▸ i.O.lt) (yQ _)) (by decide) (λx d=>gg _ _ (by simp at d;first|(simp;done)|(simp;omega))) (by decide) (by decide)).mono ?_;rintro a S ⟨rfl,s,a0⟩;rw[<-gV] at s;have j:=hD s;have G:=hD (E.O.trans (((aa.refl (λb=>b=c) _).alloc _).trans a0));clear s a0 i E;go_wp2_with fail;refine(kU true true false false [2] S.heap.size 1 c 1 (cX [([1],aq true false false true)]) _ (j.O.only ((aa.refl (λ_=>False) _).alloc _) nF) (eA S .u8 [2] _) (λa=>absurd (a ▸ j.O.lt) (yQ _)) (by decide) (λx d=>gg _ _ (by simp at d;first|(simp;done)|(simp;omega))) (by decide) (by decide)).mono ?_;rintro a T ⟨rfl,t,a1⟩;rw[<-gV] at t;have k:=hD t;have H:=hD (G.O.trans (((aa.refl (λb=>b=c) _).alloc _).trans a1));clear t a1 j G;go_wp2_with fail;refine(kU true true true false [3,4,5,6,7,8,9] T.heap.size 7 c 2 (cX [([1],aq true false false true),([2],aq true true false false)]) _ (k.O.only ((aa.refl (λ_=>False) _).alloc _) nF) (eA T .u8 [3,4,5,6,7,8,9] _) (λa=>absurd (a ▸ k.O.lt) (yQ _)) (by decide) (λx d=>gg _ _ (by simp at d;first|(simp;done)|(simp;omega))) (by decide) (by decide)).mono ?_;rintro a V ⟨rfl,u,a2⟩;rw[<-gV] at u;have l:=hD u;have K:=hD (H.O.trans (((aa.refl (λb=>b=c) _).alloc _).trans a2));clear u a2 k H;go_wp2_with fail;refine(kU false false false true [10] V.heap.size 1 c 9 (cX [([1],aq true false false true),([2],aq true true false false),([3,4,5,6,7,8,9],aq true true true false)]) _ (l.O.only ((aa.refl (λ_=>False) _).alloc _) nF) (eA V .u8 [10] _) (λa=>absurd (a ▸ l.O.lt) (yQ _)) (by decide) (λx d=>gg _ _ (by simp at d;first|(simp;done)|(simp;omega))) (by decide) (by decide)).mono ?_;rintro a W ⟨rfl,v,a3⟩;rw[<-gV] at v;have m:=hD v;have N:=hD (K.O.trans (((aa.refl (λb=>b=c) _).alloc _).trans a3));clear v a3 l K;go_wp2_with fail;refine(kU false true false true [11] W.heap.size 1 c 10 (cX [([1],aq true false false true),([2],aq true true false false),([3,4,5,6,7,8,9],aq true true true false),([10],aq false false false true)]) _ (m.O.only ((aa.refl (λ_=>False) _).alloc _) nF) (eA W .u8 [11] _) (λa=>absurd (a ▸ m.O.lt) (yQ _)) (by decide) (λx d=>gg _ _ (by simp at d;first|(simp;done)|(simp;omega))) (by decide) (by decide)).mono ?_;rintro a X ⟨rfl,y,a4⟩;rw[<-gV] at y;have n:=hD y;have P:=hD (N.O.trans (((aa.refl (λb=>b=c) _).alloc _).trans a4));clear y a4 m N;go_wp2_with fail;refine(kU true true false true [12] X.heap.size 1 c 11 (cX [([1],aq true false false true),([2],aq true true false false),([3,4,5,6,7,8,9],aq true true true false),([10],aq false false false true),([11],aq false true false true)]) _ (n.O.only ((aa.refl (λ_=>False) _).alloc _) nF) (eA X .u8 [12] _) (λa=>absurd (a ▸ n.O.lt) (yQ _)) (by decide) (λx d=>gg _ _ (by simp at d;first|(simp;done)|(simp;omega))) (by decide) (by decide)).mono ?_;rintro a Y ⟨rfl,z,a5⟩;rw[<-gV] at z;have o:=hD z;have Q:=hD (P.O.trans (((aa.refl (λb=>b=c) _).alloc _).trans a5));clear z a5 n P;go_wp2_with fail;refine(kU false false false false [13] Y.heap.size 1 c 12 (cX [([1],aq true false false true),([2],aq true true false false),([3,4,5,6,7,8,9],aq true true true false),([10],aq false false false true),([11],aq false true false true),([12],aq true true false true)]) _ (o.O.only ((aa.refl (λ_=>False) _).alloc _) nF) (eA Y .u8 [13] _) (λa=>absurd (a ▸ o.O.lt) (yQ _)) (by decide) (λx d=>gg _ _ (by simp at d;first|(simp;done)|(simp;omega))) (by decide) (by decide)).mono ?_;rintro a Z ⟨rfl,A,a6⟩;rw[<-gV] at A;have q:=hD A;have R:=hD (Q.O.trans (((aa.refl (λb=>b=c) _).alloc _).trans a6));clear A a6 o Q;go_wp2_with fail;refine(kU false true false false [14] Z.heap.size 1 c 13 (cX [([1],aq true false false true),([2],aq true true false false),([3,4,5,6,7,8,9],aq true true true false),([10],aq false false false true),([11],aq false true false true),([12],aq true true false true),([13],aq false false false false)]) _ (q.O.only ((aa.refl (λ_=>False) _).alloc _) nF) (eA Z .u8 [14] _) (λa=>absurd (a ▸ q.O.lt) (yQ _)) (by decide) (λx d=>gg _ _ (by simp at d;first|(simp;done)|(simp;omega))) (by decide) (by decide)).mono ?_;rintro a W8 ⟨rfl,B,a7⟩;rw[<-gV] at B;have a8:=hD B;have a9:=hD (R.O.trans (((aa.refl (λb=>b=c) _).alloc _).trans a7));clear B a7 q R;go_wp2_with fail;go_ret
 have ad:ac w e:=by rw[<-D.O];exact(aa.refl _ w).alloc _
 exact⟨rfl,a8.O,ad.trans' a9.O λb ab=>.inr (by rw[ab,C.O];exact lR)⟩
end
end Go.Proofs.YtmdocplknceilaaGreat
