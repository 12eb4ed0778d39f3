import Derived.Test.YtmdocplknceilaaGreatRWAT
import Derived.Deep.DeepCutAuto
set_option linter.all false
set_option maxRecDepth 100000
set_option maxHeartbeats 4000000
namespace Go.Proofs.YtmdocplknceilaaGreat
section
open Go.RowKit Go.Maps
theorem wT{l:Nat}(b:l≠0)(a:l<=65536):wrap64 ((l:Int)-1)=((l-1:Nat):Int)/\((l:Int)==0)=false:=by
 refine⟨by unfold wrap64;omega,bF (by omega)⟩
theorem Cj{a n:Nat}(b:a<n)(c:n<=64):wrap64 ((a:Int)+1)=(a:Int)+1/\(0:Int)<=(a:Int)/\(a:Int)<(n:Int):=by
 refine⟨by unfold wrap64;omega,by omega,by omega⟩
section
variable {w w':World}{F F':Nat->Prop}{fb:Nat}{L:iC}{p:List ah}{f:Fr}
theorem Dj{b o fn n e d c:Nat}{B:Option Addr}(l:w.cell? ⟨fb,0,none⟩=some (.slice (some ⟨b,o,none⟩) n e))(m:w.cell? ⟨fb,2,none⟩=some (.int .i64 (fn:Int)))(a:fn<n)
 (k:w.cell? ⟨b,o+fn*3+2,none⟩=some (.slice B d c)):Calls Tryz.prog 175 #[.pointer (some ⟨fb,0,none⟩)] w λg w'=>g=.returned (.slice B d c)/\ac w w':=by
 have i:=dK fn;have j:=cO a;clear a;go_enter Tryz.func175,Tryz.ntmps175;go_wp2_with fail
 go_quiet (fail)
 go_wp2_with fail;go_ret;exact⟨rfl,oR.drewN nq⟩
theorem aZ.ops_at(l:aZ w F fb L p f)(fn at_:Nat)(z:f.fn=fn)(x:ah)(n:p[fn]?=some x)(o:bK)(i:x.ops[at_]?=some o):
 ∃a d c,(∀W,ac w W->Calls Tryz.prog 175 #[.pointer (some ⟨fb,0,none⟩)] W λu w'=>u=.returned (.slice (some ⟨a,d,none⟩) x.ops.length c)/\ac W w')/\
  (∀(j:Nat) (v:Value),(eR o)[j]?=some v->w.cell? ⟨a,d+at_*5+j,none⟩=some v):=by
 have g:=(gS n).1
 rcases l.fns with⟨_,e⟩|⟨b,D,y,e⟩
 ·rw[e] at g
  simp at g
 obtain⟨G,E,H,K,B,c,r,A⟩:=e fn x n
 rcases A with⟨_,k⟩|⟨a,d,k,C⟩
 ·rw[k] at i
  simp at i
 subst k;refine⟨a,d,c,λW m=>?_,(C at_ o i).2.2⟩;have q:=(l.kp m nG).J;have s:=q.I 0;have t:=q.I 2;simp[cY,y,z] at s t;exact Dj s t g ((m.I (p:=⟨b,D+fn*3+2,none⟩) (block_lt_of_cell r) nF).trans r)
theorem uO(bz:∀b,F b->b<w.heap.size)(Y:aZ w F fb L p f)(c6:gH p)(m:gQ p f)(c8:f.waits=none):
 Calls Tryz.prog 140 #[.pointer (some ⟨fb,0,none⟩)] w λe w'=>fy w w' F fb p (f.step p) e:=by
 have bp:=Y.J.I 6;have d9:=Y.J.fz 6;simp[cY] at bp
 by_cases b0:f.left=0
 ·have dq:f.step p=f.ended ⟨0,130⟩:=by unfold Fr.step;rw[yf b0]
  rw[dq];rw[b0] at bp;have b9:Hd (Calls Tryz.prog 173 #[.pointer (some ⟨fb,0,none⟩),.int .i64 130] w λe w'=>fy w w' F fb p (f.ended ⟨0,130⟩) e):=hD ((lW 130 bz Y).mono λe w' k=>k.tell (λb m=>.inl m) Y.ff);generalize f.ended ⟨0,130⟩=Z at*;clear dq bz Y m c8 b0 d9 c6;go_enter Tryz.func140,Tryz.ntmps140;go_wp2_with fail;refine b9.O.mono ?_;intro e w' k
  rcases k.ptr with⟨_,T⟩|⟨s,q,A,c',_,T,_⟩<;>
  ·subst T
   have aE:=hD k;clear k b9 bp;go_wp2_with fail;go_ret;exact aE.O
 ·obtain⟨l,b5⟩:=eX f.left
  rw[<-b5] at bp b0;have dk:l<=65536:=by rw[b5];exact m.lf
  obtain⟨dz,g1⟩:=wT b0 dk;have c2:=m.at1 (λo e=>by rw[c8] at e;cases e);obtain⟨dl,dd⟩:=kF (p:=p) (i:=f.fn) m.at0 c2;have c4:=c6.fn m.fn0 m.fn1;have dn:=c4.ops _ dl;obtain⟨fn,c5⟩ :∃fn:Nat,f.fn=(fn:Int):=ym m.fn0;obtain⟨a,bf⟩ :∃a:Nat,f.at_=(a:Int):=ym m.at0;have ds:=(gy m.fn0 m.fn1).2;obtain⟨f6,bm⟩:=eX ((bG p f.fn).ops.length);obtain⟨d8,fd,fj⟩:=Cj (a:=a) (n:=f6) (by rw[bf] at c2;rw[bm];exact yB.1 c2) (by rw[bm];exact c4.o64);obtain⟨t,c0⟩:=eX (w.setCell ⟨fb,6,none⟩ (.int .i64 ((l-1:Nat):Int)));have c9:aa (λb=>b=fb) w t:=by rw[c0];exact af _ _ _ _
  have bv:aZ t F fb L p {f with left:=f.left-1}:=Y.td c9 (by rw[c0,b5];exact Y.J.s_ 6 _) rfl rfl rfl rfl rfl rfl (Y.wp_keep c9) Y.rp
  have cp:f.step p=(if (bB p f.fn f.at_).k=12 then Fr.forks p {f with left:=f.left-1,at_:=f.at_+1} (bB p f.fn f.at_)
   else if (bB p f.fn f.at_).k=13\/(bB p f.fn f.at_).k=14 then Fr.joins {f with left:=f.left-1,at_:=f.at_+1} (bB p f.fn f.at_)
   else match dF (bB p f.fn f.at_) f.rg (f.at_+1) with
    |none=>Fr.ended {f with left:=f.left-1,at_:=f.at_+1} ⟨0,131⟩
    |some x=>({f with left:=f.left-1,at_:=x.2,rg:=x.1},none)):=by
   unfold Fr.step;rw[yb (by rw[<-b5];exact b0)];rfl
  obtain⟨a0,a2,c,ci,b4⟩:=bv.ops_at fn a c5 (bG p f.fn) (by rw[<-ds,c5,yo]) (bB p f.fn f.at_) (by rw[<-dd,bf,yo]);generalize bB p f.fn f.at_=o at*;have d1:=b4 0 _ rfl;have cb:=b4 1 _ rfl;have e6:=b4 2 _ rfl;have e7:=b4 3 _ rfl;have e8:=b4 4 _ rfl;rw[yW] at d1;rw[<-bm] at ci;have b8:=bv.J.I 7;simp[cY,bf] at b8
  have a7:Hd (∀W,ac t W->ac t W/\W.cell? ⟨fb,7,none⟩=some (.int .i64 (a:Int))/\W.cell? ⟨a0,a2+a*5,none⟩=some (.int .u8 o.k)/\W.cell? ⟨a0,a2+a*5+1,none⟩=some (.int .i64 o.d)/\W.cell? ⟨a0,a2+a*5+2,none⟩=some (.int .i64 o.a)/\W.cell? ⟨a0,a2+a*5+3,none⟩=some (.int .i64 o.b)/\W.cell? ⟨a0,a2+a*5+4,none⟩=some (.int .i64 o.n)):=hD λW da=>by
   have e:∀(g j:Nat) (v:Value),t.cell? ⟨g,j,none⟩=some v->W.cell? ⟨g,j,none⟩=some v:=λg j v hv=>(da.I (p:=⟨g,j,none⟩) (block_lt_of_cell hv) nF).trans hv
   exact⟨da,e _ _ _ b8,e _ _ _ d1,e _ _ _ cb,e _ _ _ e6,e _ _ _ e7,e _ _ _ e8⟩
  obtain⟨Z,z⟩:=eX (f.step p);rw[<-z];rw[<-z] at cp;have b2:=hD cp;have e9:=hD bv;have aw:=hD Y;have ec:=hD bz;have a4:=hD m;have ei:=hD c6;have H:=hD dn;have d3:=hD ci;have eg:=hD c9;have d2:=hD (aI b5 (aI c5 (aI bf bm)));have fa:=hD c8;have d7:=hD c0.symm;have ee:=hD c4;clear Y bz c6 m c8 bv cp z dn ci c9 b5 c5 bf bm c0 b4 b8 d1 cb e6 e7 e8 dk b0 c2 dl dd ds c4;have f5:=(aU ((l:Int)-1)).trans dz;have fl:=(aU ((a:Int)+1)).trans d8;go_enter Tryz.func140,Tryz.ntmps140;go_upto_region 4 with fail;rw[d7.O];clear d7
  go_cut [3] (λs3 wx=>∃ai:Nat,s3=.pointer (some ⟨ai,0,none⟩)/\t.heap.size<=ai/\ae wx ai 106 #[.int .u8 o.k,.int .i64 o.d,.int .i64 o.a,.int .i64 o.b,.int .i64 o.n]/\ac t wx)
  case first=>
   have g0:=a7.O t oR;have eb:Hd (ae (t.alloc (.cells #[.int .u8 0,.int .i64 0,.int .i64 0,.int .i64 0,.int .i64 0] 106)) t.heap.size 106 #[.int .u8 0,.int .i64 0,.int .i64 0,.int .i64 0,.int .i64 0]):=hD (ae.new t _ _);have bt:Hd (ac t (t.alloc (.cells #[.int .u8 0,.int .i64 0,.int .i64 0,.int .i64 0,.int .i64 0] 106))):=hD (oR.alloc _)
   go_region_held3 (λw'=>ac t w'/\w'.cell? ⟨fb,7,none⟩=some (.int .i64 (a:Int))/\w'.cell? ⟨a0,a2+a*5,none⟩=some (.int .u8 o.k)/\w'.cell? ⟨a0,a2+a*5+1,none⟩=some (.int .i64 o.d)/\w'.cell? ⟨a0,a2+a*5+2,none⟩=some (.int .i64 o.a)/\w'.cell? ⟨a0,a2+a*5+3,none⟩=some (.int .i64 o.b)/\w'.cell? ⟨a0,a2+a*5+4,none⟩=some (.int .i64 o.n))
    (first|with_reducible exact a7.O _ E.O|with_reducible exact a7.O _ (aa.alloc E.O _)|with_reducible exact a7.O _ bt.O|with_reducible exact a7.O _ (aa.drew bt.O)|with_reducible exact a7.O _ (aa.drew oR)|with_reducible exact a7.O _ oR|(with_reducible refine a7.O _ ?_;with_reducible refine aa.setCell ?_ (Or.inr (lR)) _;repeat (first|with_reducible exact E.O|with_reducible refine aa.setCell ?_ (Or.inr (lR)) _))|(trace_state;fail))
    (first
     |(go_at_call 175;refine(d3.O t.drew (aa.drew oR)).mono ?_;rintro e N ⟨rfl,a1⟩;have E:Hd (ac t N):=hD (aa.trans (aa.drew oR) a1);clear a1)
     |(go_at_call 175;refine(d3.O _ (aa.drew bt.O)).mono ?_;rintro e N ⟨rfl,a1⟩;have E:Hd (ac t N):=hD (aa.trans (aa.drew bt.O) a1);have Q:=hD (a1.J eb.O nF);have fm:N.cell? ⟨t.heap.size,0,none⟩=some (.int .u8 0):=Q.O.I 0;have T:N.cell? ⟨t.heap.size,1,none⟩=some (.int .i64 0):=Q.O.I 1;have fo:N.cell? ⟨t.heap.size,2,none⟩=some (.int .i64 0):=Q.O.I 2;have fp:N.cell? ⟨t.heap.size,3,none⟩=some (.int .i64 0):=Q.O.I 3;have fq:N.cell? ⟨t.heap.size,4,none⟩=some (.int .i64 0):=Q.O.I 4;have ft:N.frozen? ⟨t.heap.size,0,none⟩=false:=Q.O.fz 0;have fv:N.frozen? ⟨t.heap.size,1,none⟩=false:=Q.O.fz 1;have fw:N.frozen? ⟨t.heap.size,2,none⟩=false:=Q.O.fz 2;have fx:N.frozen? ⟨t.heap.size,3,none⟩=false:=Q.O.fz 3;have ai:N.frozen? ⟨t.heap.size,4,none⟩=false:=Q.O.fz 4;clear a1)
     |fail)
   ·go_wp2_with fail
    go_meet
    case rel=>exact⟨N.heap.size,rfl,E.O.size,bN,E.O.alloc _⟩
   ·go_wp2_with fail
    go_meet
    case rel=>exact⟨t.heap.size,rfl,lR,((((Q.O.s_ 0 _).s_ 1 _).s_ 2 _).s_ 3 _).s_ 4 _,(((((E.O).setCell (p:=⟨t.heap.size,0,none⟩) (.inr (lR)) _).setCell (p:=⟨t.heap.size,1,none⟩) (.inr (lR)) _).setCell (p:=⟨t.heap.size,2,none⟩) (.inr (lR)) _).setCell (p:=⟨t.heap.size,3,none⟩) (.inr (lR)) _).setCell (p:=⟨t.heap.size,4,none⟩) (.inr (lR)) _⟩
  case rest=>
   obtain⟨ai,rfl,eq,ch,a1⟩:=hcut;have bc:=e9.O.kp a1 nG;have b8:=bc.J.I 7;have ad:=bc.J.fz 7;simp[cY,d2.O.2.2.1] at b8;have dm:¬ai=fb:=λe=>ae.ne_ ch bc.J (by decide) e
   have bq:=hD bc;have ea:=hD ch;have el:=hD a1;have ef:=hD dm;clear bc ch a1 eq a7 dm dz f5 d8 d9 bp;go_upto_region 6 with fail;obtain⟨B,c1⟩:=eX (wc.setCell ⟨fb,7,none⟩ (.int .i64 ((a:Int)+1)));rw[<-c1];have bo:aa (λb=>b=fb) wc B:=by rw[c1];exact af _ _ _ _
   obtain⟨y,c3⟩:=eX ({f with left:=f.left-1,at_:=f.at_+1}:Fr);have cm:y.rg=f.rg:=by rw[c3]
   have bx:aZ B F fb L p y:=by
    rw[c3];exact bq.O.td bo (by rw[c1,d2.O.2.2.1];exact bq.O.J.s_ 7 _) rfl rfl rfl rfl rfl rfl (bq.O.wp_keep bo) bq.O.rp
   have db:=bo.J ea.O ef.O;obtain⟨X,a9,an,b1,av⟩:=db.gE5;have a6:Hd (aa F w B):=hD (((eg.O.mono λb e=>by rw[e];exact aw.O.ff).trans (el.O.mono λ_ e=>e.elim)).trans (bo.mono λb e=>by rw[e];exact aw.O.ff));have ce:Hd (∀b,F b->b<B.heap.size):=hD λb m=>lL (ec.O b m) a6.O.size
   have C:=hD bx;have S:=hD c3;have d6:=hD cm;obtain⟨rl,c7⟩:=eX y.rg.length;have a5:=hD c7;have cn:(rl:Int)=(bG p f.fn).rg:=by rw[c7,cm];exact a4.O.rl
   have az:=hD cn;have dp:rl<=16:=by have:=ee.O.r16;rw[<-cn] at this;exact Int.ofNat_le.1 this
   have d4:=hD dp;have a3:=bx.J.I 5;simp[cY,<-c7] at a3;have ad:=bx.J.fz 7;clear c3 cm bx db c7 cn dp c1 bo b8;have er:o.k=1\/o.k=10\/o.k=11\/o.k=12\/(o.k=13\/o.k=14)\/(2<=o.k/\o.k<=9):=by have:=H.O.k;omega
   rcases er with u|u|u|u|u|u
   ·have z:Z=({y with rg:=jq y.rg o.d o.n},none):=by
     rw[b2.O,yb (by omega),yb (by omega)];unfold dF;rw[yf u,S.O]
    obtain⟨d,K⟩ :∃d:Nat,o.d=(d:Int):=ym H.O.d.1;have V:d<rl:=by have:=H.O.dr (.inl (by omega));rw[K,<-az.O] at this;exact yB.1 this
    have dv:=dK d;have dw:=cO V;have a8:B.cell? ⟨L.rb,d,none⟩=some (.int .i64 (y.rg.getD d 0)):=fg C.O.rg (by rw[<-a5.O];exact V);have b6:B.frozen? ⟨L.rb,d,none⟩=false:=C.O.rg.fz d;have E:=hD z;have cd:=hD K;rw[u] at X;rw[K] at a9;clear z K V u;go_wp2_with fail
    go_still_tail 9,(by kernel_rfl)
    change wpList _ _ _ _ _ B.drew;obtain⟨R,P⟩:=eX B.drew;rw[<-P];have es:R.cell? ⟨L.rb,d,none⟩=some (.int .i64 (y.rg.getD d 0)):=by rw[P];exact a8
    have ex:R.frozen? ⟨L.rb,d,none⟩=false:=by rw[P];exact b6
    have D:ac B R:=by rw[P];exact oR.drew
    have ab:=hD ((C.O.kp D nG).reg_put d o.n);have ba:=hD D;clear P D a8 b6 a3 X a9 an b1 av ad;go_wp2_with fail;go_ret;rw[E.O];refine⟨⟨L,?_⟩,a6.O.trans ((ba.O.mono λ_ e=>e.elim).trans ((af R L.rb d (.int .i64 o.n)).mono λb e=>by rw[e];exact aw.O.fr)),rfl⟩;unfold jq;rw[cd.O,yo];exact ab.O.mo λb m=>.inl m
   ·have z:Z=({y with at_:=o.n},none):=by
     rw[b2.O,yb (by omega),yb (by omega)];unfold dF;rw[yb (by omega),yf u,S.O]
    have E:=hD z;have bn:=C.O.J.I 7;simp[cY] at bn;rw[u] at X;clear z u a3;go_wp2_with fail;go_ret;rw[E.O];have D:=af B fb 7 (.int .i64 o.n);have cg:aZ _ F fb L p {y with at_:=o.n}:=C.O.td D (C.O.J.s_ 7 _) rfl rfl rfl rfl rfl rfl (C.O.wp_keep D) C.O.rp;refine⟨⟨L,cg.mo λb m=>Or.inl m⟩,a6.O.trans (D.mono λb e=>by rw[e];exact aw.O.ff),rfl⟩
   ·obtain⟨r,ck⟩:=eX (ct y.rg o.a)
    have z:Z=({y with at_:=if r≠0 then o.n else y.at_},none):=by
     rw[b2.O,yb (by omega),yb (by omega)];unfold dF;rw[yb (by omega),yb (by omega),yf u,ck,S.O]
    obtain⟨d,K⟩ :∃d:Nat,o.a=(d:Int):=ym H.O.a.1;have V:d<rl:=by have:=H.O.ar (.inr (.inl u));rw[K,<-az.O] at this;exact yB.1 this
    have dv:=dK d;have dw:=cO V
    have a8:B.cell? ⟨L.rb,d,none⟩=some (.int .i64 r):=by
     have:=fg C.O.rg (i:=d) (by rw[<-a5.O];exact V);rw[ck,K];unfold ct;rw[yo];exact this
    have E:=hD z;have bn:=C.O.J.I 7;simp[cY] at bn;rw[u] at X;rw[K] at an;clear z K V u ck
    by_cases b7:r=0
    ·subst b7
     go_wp2_with fail
     go_quiet (fail)
     clear a3 X a9 an b1 av ad a8 bn;go_wp2_with fail;go_ret;rw[E.O];have D:ac B (B.drewN nq):=oR.drewN nq;exact⟨⟨L,(C.O.kp D nG).mo λb m=>.inl m⟩,a6.O.trans (D.mono λ_ e=>e.elim),rfl⟩
    ·have eL:(r==0)=false:=bF b7
     have f0:(r !=0)=true:=bT b7;have f1:decide (r=0)=false:=yd b7;have Q:=hD b7;clear b7;go_wp2_with fail
     go_quiet (fail)
     obtain⟨R,P⟩:=eX (B.drewN nq);rw[<-P];have D:ac B R:=by rw[P];exact oR.drewN nq
     have al:=C.O.kp D nG;have f8:=al.J.I 7;have fs:=al.J.fz 7;simp[cY] at f8;have g2:R.cell? ⟨ai,4,none⟩=some (.int .i64 o.n):=by rw[P];exact av
     have ab:=hD al;have ba:=hD D;clear a3 X a9 an b1 av ad a8 bn eL f0 f1 al D P;go_wp2_with fail;go_ret;rw[E.O,yf Q.O];have d0:=af R fb 7 (.int .i64 o.n);have cg:aZ _ F fb L p {y with at_:=o.n}:=ab.O.td d0 (ab.O.J.s_ 7 _) rfl rfl rfl rfl rfl rfl (ab.O.wp_keep d0) ab.O.rp;exact⟨⟨L,cg.mo λb m=>Or.inl m⟩,a6.O.trans ((ba.O.mono λ_ e=>e.elim).trans (d0.mono λb e=>by rw[e];exact aw.O.ff)),rfl⟩
   ·have z:Z=y.forks p o:=by rw[b2.O,yf u,S.O]
    have bk:Calls Tryz.prog 176 #[.pointer (some ⟨fb,0,none⟩),cR o] B λe w'=>fy w w' F fb p Z e:=by
     rw[z];obtain⟨f2,f3,f4⟩:=H.O.fk u;refine(AG o ce.O C.O (by rw[S.O];exact a4.O.kl) (by rw[S.O];exact⟨a4.O.pth.1,a4.O.pth.2⟩) ei.O ⟨f2,f3⟩ H.O.a.1 (by rw[<-a5.O,az.O];exact f4) (by rw[<-a5.O];exact d4.O) (by rw[S.O];exact lT (Nat.sub_le _ _) a4.O.lf)).mono ?_;intro e w' k;exact k.back a6.O (λb m=>.inl m)
    have G:=hD bk;unfold cR at G;rw[u] at X G;clear z bk u a3 ad;go_wp2_with fail;refine G.O.mono ?_;intro e w' k
    rcases k.ptr with⟨_,T⟩|⟨s,q,A,c',_,T,_⟩<;>
    ·subst T
     have aE:=hD k;clear k G X a9 an b1 av;go_wp2_with fail;go_ret;exact aE.O
   ·have z:Z=y.joins o:=by rw[b2.O,yb (by omega),yf u,S.O]
    have bk:Calls Tryz.prog 139 #[.pointer (some ⟨fb,0,none⟩),cR o] B λe w'=>fy w w' F fb p Z e:=by
     rw[z];refine(tZ o ce.O C.O (by rw[S.O];exact a4.O.jn) (by rw[S.O];exact a4.O.kl) (by rw[d6.O,S.O];exact λk u=>(a4.O.ki k u).1) (λe=>⟨H.O.a.1,by rw[<-a5.O,az.O];exact H.O.ar (.inr (.inr e))⟩) (by rw[<-a5.O];exact d4.O)).mono ?_;intro e w' k;exact k.back a6.O (λb m=>.inl m)
    have G:=hD bk;unfold cR at G
    rcases u with u|u<;>
    ·rw[u] at X G
     clear z bk u a3 ad;go_wp2_with fail;refine G.O.mono ?_;intro e w' k
     rcases k.ptr with⟨_,T⟩|⟨s,q,A,c',_,T,_⟩<;>
     ·subst T
      have aE:=hD k;clear k G X a9 an b1 av;go_wp2_with fail;go_ret;exact aE.O
   ·have z:Z=match du o.k (ct y.rg o.a) (ct y.rg o.b) with
     |none=>y.ended ⟨0,131⟩
     |some x=>({y with rg:=jq y.rg o.d x},none):=by
     rw[b2.O,yb (by omega),yb (by omega)];unfold dF;rw[yb (by omega),yb (by omega),yb (by omega),S.O];simp only
     cases du o.k (ct f.rg o.a) (ct f.rg o.b)<;>rfl
    have b3:=Cn fb L.rb L.rc (cY L p y) y.rg o B C.O.J rfl C.O.rg (by rw[d6.O];exact a4.O.ri) u ⟨H.O.a.1,by rw[<-a5.O,az.O];exact H.O.ar (.inl u)⟩ (λe=>⟨H.O.b.1,by rw[<-a5.O,az.O];exact H.O.br (by omega)⟩);have cq:¬o.k=1:=by omega
    have cr:¬o.k=10:=by omega
    have cs:¬o.k=11:=by omega
    have cv:¬o.k=12:=by omega
    have cw:¬o.k=13:=by omega
    have cB:¬o.k=14:=by omega
    have e0:(o.k==1)=false:=bF cq;have e1:(o.k==10)=false:=bF cr;have e2:(o.k==11)=false:=bF cs;have e3:(o.k==12)=false:=bF cv;have e4:(o.k==13)=false:=bF cw;have e5:(o.k==14)=false:=bF cB;obtain⟨d,K⟩ :∃d:Nat,o.d=(d:Int):=ym H.O.d.1;have V:d<rl:=by have:=H.O.dr (.inl (by omega));rw[K,<-az.O] at this;exact yB.1 this
    have dv:=dK d;have dw:=cO V;have a8:B.cell? ⟨L.rb,d,none⟩=some (.int .i64 (y.rg.getD d 0)):=fg C.O.rg (by rw[<-a5.O];exact V);have b6:B.frozen? ⟨L.rb,d,none⟩=false:=C.O.rg.fz d;have d5:=hD a8;have f9:=hD b6;have ej:=hD a3;have cd:=hD K;have ek:Hd (B.cell? ⟨ai,1,none⟩=some (.int .i64 (d:Int))):=hD (by rw[<-K];exact a9)
    cases hcv:du o.k (ct y.rg o.a) (ct y.rg o.b) with
    |none=>
     rw[hcv] at z b3;have G:=hD b3;unfold cR fL at G;have E:=hD z;clear z hcv b3 a8 b6 a3 K V u ad;go_wp2_with fail;refine G.O.mono ?_;rintro e bb ⟨rfl,am⟩
     have b9:Hd (Calls Tryz.prog 173 #[.pointer (some ⟨fb,0,none⟩),.int .i64 131] bb λe w'=>fy w w' F fb p Z e):=hD ((lW 131 (λb m=>lL (ce.O b m) am.size) (C.O.kp am nG)).mono λe w' k=>by
      rw[E.O];exact(k.tell (F:=F) (λb m=>.inl m) aw.O.ff).back (a6.O.trans (am.mono λ_ e=>e.elim)) (λb m=>.inl m))
     clear am G X a9 an b1 av cq cr cs cv cw cB e0 e1 e2 e3 e4 e5;go_wp2_with fail;refine b9.O.mono ?_;intro e w' k
     rcases k.ptr with⟨_,T⟩|⟨s,q,A,c',_,T,_⟩<;>
     ·subst T
      have aE:=hD k;clear k b9;go_wp2_with fail;go_ret;exact aE.O
    |some v=>
     rw[hcv] at z b3;have G:=hD b3;unfold cR fL at G;have E:=hD z;clear z hcv b3 a8 b6 a3 K V u ad;go_wp2_with fail;refine G.O.mono ?_;rintro e bb ⟨rfl,am⟩;have cf:∀(g j:Nat) (v:Value),B.cell? ⟨g,j,none⟩=some v->bb.cell? ⟨g,j,none⟩=some v:=λg j v hv=>(am.I (p:=⟨g,j,none⟩) (block_lt_of_cell hv) nF).trans hv
     have cb:=cf _ _ _ ek.O;have f7:=cf _ _ _ ej.O;have em:=hD am;clear cf am G X a9 an b1 av cq cr cs cv cw cB e0 e1 e2 e3 e4 e5;go_wp2_with fail
     go_still_tail 8,(by kernel_rfl)
     change wpList _ _ _ _ _ bb.drew;obtain⟨R,P⟩:=eX bb.drew;rw[<-P];have D:ac B R:=by rw[P];exact em.O.drew
     have al:=C.O.kp D nG;have es:R.cell? ⟨L.rb,d,none⟩=some (.int .i64 (y.rg.getD d 0)):=(D.I (p:=⟨L.rb,d,none⟩) (block_lt_of_cell d5.O) nF).trans d5.O;have ex:R.frozen? ⟨L.rb,d,none⟩=false:=al.rg.fz d;have ab:=hD (al.reg_put d v);have ba:=hD D;clear P D al cb f7;go_wp2_with fail;go_ret;rw[E.O];refine⟨⟨L,?_⟩,a6.O.trans ((ba.O.mono λ_ e=>e.elim).trans ((af R L.rb d (.int .i64 v)).mono λb e=>by rw[e];exact aw.O.fr)),rfl⟩;unfold jq;rw[cd.O,yo];exact ab.O.mo λb m=>.inl m
end
def ir:Array Value:=#[.int .u8 0,.string ⟨#[]⟩,.int .i64 0,.slice none 0 0,.int .i64 0,.int .i64 0,.int .i64 0]
theorem nR(s:iX)(A:Option Addr)(c:Nat):∃(v0:Int) (v1:ByteArray) (v2:Int) (v3:Option Addr) (b a:Nat) (v4 v5 v6:Int),jb s A c= #[.int .u8 v0,.string v1,.int .i64 v2,.slice v3 b a,.int .i64 v4,.int .i64 v5,.int .i64 v6]:=by
 cases s<;>exact⟨_,_,_,_,_,_,_,_,_,rfl⟩
def qk(w w':World)(F:Nat->Prop)(fb:Nat)(p:List ah)(x:Fr×iX)(e:Ending):Prop:=
 ∃A c,e=.returned (.tuple #[.agg (jb x.2 A c),.int .i64 0])/\(∃L',aZ w' (λb=>F b\/bl w w' b) fb L' p x.1)/\aa F w w'/\(∀t,x.2=.fork t->aJ w' (bl w w') A t.args)
theorem ve{f:Fr}{o:bK}(a:(f.joins o).2=none):(f.joins o).1.waits=none:=by
 unfold Fr.joins at a ⊢;split at a
 ·cases a
 ·rename_i c
  rw[yb c];simp only at a ⊢;split at a
  ·cases a
  ·rename_i b
   rw[yb b];split at a
   ·cases a
   ·rename_i d
    rw[yb d]
theorem kX(s:iX)(A:Option Addr)(c:Nat):(Tryz.prog.info? 181).map (·.size)=some (jb s A c).size:=by
 cases s<;>kernel_rfl
theorem bl.up{w c d:World}{b:Nat}(a:bl w c b)(e:c.heap.size<=d.heap.size):bl w d b:=⟨a.1,lL a.2 e⟩
theorem bl.dn{w c d:World}{b:Nat}(a:bl c d b)(e:w.heap.size<=c.heap.size):bl w d b:=⟨lT e a.1,a.2⟩
section
variable {w w':World}{F F':Nat->Prop}{fb:Nat}{L:iC}{p:List ah}{f:Fr}
theorem DC(a2:∀b,F b->b<w.heap.size)(aw:aZ w F fb L p f)(a5:gH p)(a:gQ p f)(b4:f.result=none)(r:f.waits=none):
 Calls Tryz.prog 86 #[.pointer (some ⟨fb,0,none⟩),.int .i64 1] w λc w'=>qk w w' F fb p (f.run1 p) c:=by
 obtain⟨n,a3⟩:=eX (f.run1 p);rw[<-a3];obtain⟨X,N⟩:=eX (w.alloc (.cells ir 181));have S:ac w X:=by rw[N];exact(aa.refl _ w).alloc _
 have Y:ae X w.heap.size 181 ir:=by rw[N];exact bN
 have e:=aw.kp S nG;obtain⟨g,d⟩:=eX w.heap.size;rw[<-d] at Y;obtain⟨y,D⟩:=eX X;obtain⟨K,a4⟩:=eX f;have an:=hD (mh e a5.p0);have ar:Hd (Calls Tryz.prog 140 #[.pointer (some ⟨fb,0,none⟩)] y λc w'=>fy y w' F fb p (K.step p) c):=hD (by rw[D,a4];exact uO (λb a=>lL (a2 b a) S.size) e a5 a r);have av:Hd (n=cz (K.step p)):=hD (by rw[a3,a4];unfold Fr.run1;rw[r]);have u:Hd (aa F w y):=hD (by rw[D];exact S.mono λ_ c=>c.elim);have z:Hd (∀b,F b->F b\/bl w y b):=hD λb a=>.inl a
 have B:Hd (ae y g 181 ir):=hD (by rw[D];exact Y);have H:Hd (¬F g):=hD λc=>by have:=a2 g c;rw[d] at this;exact absurd this (yQ _)
 have b7:=e.J.I 10;have b8:=e.J.I 11;have Q:=e.wp;rw[r] at Q;simp only at Q;simp[cY,Q,e.rp b4] at b7 b8;have W:=hD N.symm;have V:=hD d;have bb:=hD D;unfold ir at W;clear aw e a5 a b4 r a3 N S Y d D a4 a2 Q;go_enter Tryz.func86,Tryz.ntmps86;go_upto_region 1 with fail;rw[W.O,<-V.O];clear W;go_wp2_with fail;refine an.O.mono ?_;rintro c w' ⟨rfl,rfl⟩;go_wp2_with fail;rw[<-bb.O];clear b7 b8 an
 go_loopw [48] (λi wr=>(i=.int .i64 0/\wr=y)\/(i=.int .i64 1/\n=(n.1,.more)/\(∃m,aZ wr (λb=>(F b\/bl w wr b)/\b≠g) fb m p n.1)/\aa F w wr/\ae wr g 181 ir)) (λi _=>1-(intOf i).toNat)
 case atStart=>exact .inl ⟨rfl,rfl⟩
 case round=>
  rcases hrel with⟨rfl,r⟩|⟨rfl,b5,b1,b3,j⟩
  ·rw[<-r] at ar u B z
   clear r;go_wp2_with fail;refine ar.O.mono ?_;intro c w' k
   rcases k.ptr with⟨v,a0⟩|⟨s,q,A,c',v,a0,_⟩
   ·subst a0
    obtain⟨⟨m,b6⟩,R,c3⟩:=k;have x:n=((K.step p).1,iX.more):=by rw[av.O];unfold cz;rw[v];rfl
    have P:=B.O.lt;have bf:Hd (n=(n.1,iX.more)):=hD (by rw[x])
    have bk:Hd (∃m,aZ w' (λb=>(F b\/bl w w' b)/\b≠g) fb m p n.1):=hD (by
     rw[x];refine⟨m,b6.mo λb a=>⟨?_,λc=>?_⟩⟩
     ·rcases a with a|a
      ·exact(z.O b a).imp id λc=>c.up R.size
      ·exact .inr (a.dn u.O.size)
     ·rcases a with a|a
      ·exact H.O (c ▸ a)
      ·exact absurd P (zC.2 (c ▸ a.1)))
    have bm:Hd (aa F w w'):=hD (u.O.trans' R λb a=>(z.O b a).imp id λc=>c.1);have bn:=hD (R.J B.O H.O);clear b6 R c3 P x v;go_wp2_with fail;go_roundw
    case rel=>exact .inr ⟨rfl,bf.O,bk.O,bm.O,bn.O⟩
    case measure=>exact Nat.zero_lt_one
   ·subst a0
    have x:n=((K.step p).1,s):=by rw[av.O];unfold cz;rw[v];rfl
    have d:=k.2.1.J B.O H.O;obtain⟨e,az,aE⟩:=k;rw[v] at aE;obtain⟨q',G,c',o,c2,a1,b0⟩:=aE;injection o with o;injection o with o;injection o with o;injection o with o;subst o;obtain⟨v0,v1,v2,v3,a6,Z,v4,v5,v6,hv⟩:=nR s G c';rw[hv] at a1;obtain⟨c5,c6,c7,c8,c9,cb,cd⟩:=a1.gE7;have a7:=d.I 0;have a8:=d.I 1;have a9:=d.I 2;have ab:=d.I 3;have ad:=d.I 4;have ai:=d.I 5;have al:=d.I 6;simp[ir] at a7 a8 a9 ab ad ai al;obtain⟨br,bt,bv,bx,bz⟩:=d.fE5;have c0:=d.fz 5;have c1:=d.fz 6
    have C:ae (((((((w'.setCell ⟨g,0,none⟩ (.int .u8 v0)).setCell ⟨g,1,none⟩ (.string v1)).setCell ⟨g,2,none⟩ (.int .i64 v2)).setCell ⟨g,3,none⟩ (.slice v3 a6 Z)).setCell ⟨g,4,none⟩ (.int .i64 v4)).setCell ⟨g,5,none⟩ (.int .i64 v5)).setCell ⟨g,6,none⟩ (.int .i64 v6)) g 181 (jb s G c'):=by
     rw[hv];exact((((((d.s_ 0 (.int .u8 v0)).s_ 1 (.string v1)).s_ 2 (.int .i64 v2)).s_ 3 (.slice v3 a6 Z)).s_ 4 (.int .i64 v4)).s_ 5 (.int .i64 v5)).s_ 6 (.int .i64 v6)
    have E:aa (λb=>b=g) w' (((((((w'.setCell ⟨g,0,none⟩ (.int .u8 v0)).setCell ⟨g,1,none⟩ (.string v1)).setCell ⟨g,2,none⟩ (.int .i64 v2)).setCell ⟨g,3,none⟩ (.slice v3 a6 Z)).setCell ⟨g,4,none⟩ (.int .i64 v4)).setCell ⟨g,5,none⟩ (.int .i64 v5)).setCell ⟨g,6,none⟩ (.int .i64 v6)):=aD (aD (aD (aD (aD (aD (af _ _ _ _))))));have b9:=hD e;have am:=hD az;have ba:=hD b0;have bc:=hD x;have T:=hD C;have l:=hD E;clear e az c2 a1 b0 x C E d hv v;go_wp2_with fail;refine bodyPost_ret (aO Tryz.results86 rfl T.O Tryz.underlying181 rfl (kX s G c')) rfl ?_;obtain⟨m,e⟩:=b9.O;have P:=B.O.lt
    have b2:∀b,F b\/bl wr w' b->¬b=g:=λb a c=>by
     rcases a with a|a
     ·exact H.O (c ▸ a)
     ·exact absurd P (zC.2 (c ▸ a.1))
    rw[bc.O];refine⟨G,c',rfl,⟨m,(e.kp l.O b2).mo λb a=>?_⟩,?_,λt c=>?_⟩
    ·rcases a with a|a
     ·exact(z.O b a).imp id λc=>(c.up am.O.size).up l.O.size
     ·exact .inr ((a.dn u.O.size).up l.O.size)
    ·exact(u.O.trans' am.O λb a=>(z.O b a).imp id λc=>c.1).trans' l.O λb a=>.inr (by rw[a];exact zl V.O.symm)
    ·exact((ba.O t c).kp l.O λb a=>b2 b (.inr a)).mo λb a=>(a.dn u.O.size).up l.O.size
  ·have bo:=hD b5
   have bp:=hD b1;have bq:=hD b3;have c4:=hD j;have a7:=j.I 0;have a8:=j.I 1;have a9:=j.I 2;have ab:=j.I 3;have ad:=j.I 4;have ai:=j.I 5;have al:=j.I 6;simp[ir] at a7 a8 a9 ab ad ai al;obtain⟨br,bt,bv,bx,bz⟩:=j.fE5;have c0:=j.fz 5;have c1:=j.fz 6;have C:ae (((((((wr.setCell ⟨g,0,none⟩ (.int .u8 1)).setCell ⟨g,1,none⟩ (.string ⟨#[]⟩)).setCell ⟨g,2,none⟩ (.int .i64 0)).setCell ⟨g,3,none⟩ (.slice none 0 0)).setCell ⟨g,4,none⟩ (.int .i64 0)).setCell ⟨g,5,none⟩ (.int .i64 0)).setCell ⟨g,6,none⟩ (.int .i64 0)) g 181 (jb .more none 0):=((((((j.s_ 0 _).s_ 1 _).s_ 2 _).s_ 3 _).s_ 4 _).s_ 5 _).s_ 6 _;have E:aa (λb=>b=g) wr (((((((wr.setCell ⟨g,0,none⟩ (.int .u8 1)).setCell ⟨g,1,none⟩ (.string ⟨#[]⟩)).setCell ⟨g,2,none⟩ (.int .i64 0)).setCell ⟨g,3,none⟩ (.slice none 0 0)).setCell ⟨g,4,none⟩ (.int .i64 0)).setCell ⟨g,5,none⟩ (.int .i64 0)).setCell ⟨g,6,none⟩ (.int .i64 0)):=aD (aD (aD (aD (aD (aD (af _ _ _ _))))));have T:=hD C;have l:=hD E;clear b5 b1 b3 j C E;go_wp2_with fail;refine bodyPost_ret (aO Tryz.results86 rfl T.O Tryz.underlying181 rfl (kX .more none 0)) rfl ?_;obtain⟨m,e⟩:=bp.O;rw[bo.O];refine⟨none,0,rfl,⟨m,(e.kp l.O λb a=>a.2).mo λb a=>a.1.imp id λc=>c.up l.O.size⟩,bq.O.trans' l.O λb a=>.inr (by rw[a];exact zl V.O.symm),λt c=>by cases c⟩
theorem DA(o:bK)(aE:∀b,F b->b<w.heap.size)(c7:aZ w F fb L p f)(b2:gH p)(a:gQ p f)(ce:f.result=none)(E:f.waits=some o):
 Calls Tryz.prog 86 #[.pointer (some ⟨fb,0,none⟩),.int .i64 1] w λc w'=>qk w w' F fb p (f.run1 p) c:=by
 obtain⟨x,b1⟩:=eX (f.run1 p);rw[<-b1];obtain⟨y,b0⟩:=eX (w.alloc (.cells ir 181));have b5:ac w y:=by rw[b0];exact(aa.refl _ w).alloc _
 have bf:ae y w.heap.size 181 ir:=by rw[b0];exact bN
 have e:=c7.kp b5 nG;obtain⟨g,d⟩:=eX w.heap.size;rw[<-d] at bf;obtain⟨m,V⟩:=eX (f.joins o);have b9:=hD (mh e b2.p0);have b4:=a.wt o E
 have cf:f.rg.length<=16:=by
  have e:=a.rl;have Z:=(b2.fn a.fn0 a.fn1).r16;omega
 have c9:o.k≠14->f.at_<(bG p f.fn).ops.length:=λc=>a.at1 (λdm c0=>by rw[E] at c0;cases c0;exact c)
 have av:Hd (Calls Tryz.prog 139 #[.pointer (some ⟨fb,0,none⟩),cR o] y λc w'=>fy y w' F fb p m c):=hD (by
  rw[V];exact tZ o (λb a=>lL (aE b a) b5.size) e a.jn a.kl (λk d3=>(a.ki k d3).1) (λc=>⟨b4.2.1,b4.2.2 c⟩) cf)
 have cq:Hd (∀s,m.2=some s->x=(m.1,s)):=hD λs c=>by
  rw[b1];unfold Fr.run1;rw[E];simp only;rw[<-V];obtain⟨X,Y⟩:=m;simp only at c;subst c;rfl
 have cr:Hd (m.2=none->x=cz (m.1.step p)/\gQ p m.1/\m.1.waits=none):=hD λc=>by
  refine⟨?_,?_,?_⟩
  ·rw[b1]
   unfold Fr.run1;rw[E];simp only;rw[<-V];obtain⟨X,Y⟩:=m;simp only at c;subst c;rfl
  ·rcases rS a o b4 c9 with⟨r,k,_⟩|k
   ·rw[<-V,c] at k;cases k
   ·rw[V];exact k
  ·rw[V] at c ⊢
   exact ve c
 have ba:Hd (¬F g):=hD λc=>by have:=aE g c;rw[d] at this;exact absurd this (yQ _)
 have bt:=e.J.I 10;have bv:=e.J.I 11;have a3:=e.wp;rw[E] at a3;simp only at a3;obtain⟨dp,d4,a3,a0⟩:=a3;simp[cY,a3,e.rp ce] at bt bv;have bn:=a0.I 0;have bo:=a0.I 1;have bp:=a0.I 2;have bq:=a0.I 3;have br:=a0.I 4;simp[eR] at bn bo bp bq br;have aw:Hd (aa F w y):=hD (b5.mono λ_ c=>c.elim);have b8:=hD bf;have cm:=hD aE;have cn:=hD b2;have bb:=hD b0.symm;have ar:=hD d;unfold ir at bb;clear c7 e b2 a ce E b1 b0 b5 bf d aE a3 V b4 cf c9 d4 a0;unfold cR at av;go_enter Tryz.func86,Tryz.ntmps86;go_upto_region 1 with fail;rw[bb.O,<-ar.O];clear bb;go_wp2_with fail;refine b9.O.mono ?_;rintro c w' ⟨rfl,rfl⟩;go_wp2_with fail;refine av.O.mono ?_;intro c z k
 rcases k.ptr with⟨n,S⟩|⟨s,q,A,c',n,S,_⟩
 ·subst S
  obtain⟨ch,ci,ck⟩:=cr.O n;obtain⟨⟨v,ab⟩,G,_⟩:=k;obtain⟨a4,a2⟩:=eX z;obtain⟨az,bm⟩:=eX m.1
  have c8:∀b,F b\/bl y z b->b<z.heap.size:=λb a=>by
   rcases a with a|a
   ·exact lL (cm.O b a) (lT aw.O.size G.size)
   ·exact a.2
  have bx:Hd (Calls Tryz.prog 140 #[.pointer (some ⟨fb,0,none⟩)] a4 λc d6=>fy a4 d6 (λb=>F b\/bl y z b) fb p (az.step p) c):=hD (by rw[a2,bm];exact uO c8 ab cn.O ci ck);have bz:Hd (x=cz (az.step p)):=hD (by rw[ch,bm]);have B:Hd (aa F w a4):=hD (by rw[a2];exact aw.O.trans G);have H:Hd (∀b,F b\/bl y z b->F b\/bl w a4 b):=hD λb a=>by rw[a2];exact a.imp id λc=>c.dn aw.O.size
  have K:Hd (ae a4 g 181 ir):=hD (by rw[a2];exact G.J b8.O ba.O)
  have Q:Hd (¬(F g\/bl y z g)):=hD λc=>by
   rcases c with c|c
   ·exact ba.O c
   ·exact absurd b8.O.lt (zC.2 c.1)
  have cp:=hD a2;clear ch ci ck ab G c8 bm n bt bv bn bo bp bq br b9 av a2;go_wp2_with fail;rw[<-cp.O]
  go_loopw [48] (λi wr=>(i=.int .i64 0/\wr=a4)\/(i=.int .i64 1/\x=(x.1,.more)/\(∃v,aZ wr (λb=>(F b\/bl w wr b)/\b≠g) fb v p x.1)/\aa F w wr/\ae wr g 181 ir)) (λi _=>1-(intOf i).toNat)
  case atStart=>exact .inl ⟨rfl,rfl⟩
  case round=>
   rcases hrel with⟨rfl,E⟩|⟨rfl,cg,cb,cd,u⟩
   ·rw[<-E] at bx B K H
    clear E;go_wp2_with fail;refine bx.O.mono ?_;intro c w' k
    rcases k.ptr with⟨n,S⟩|⟨s,q,A,c',n,S,_⟩
    ·subst S
     obtain⟨⟨v,ab⟩,G,d5⟩:=k;have D:x=((az.step p).1,iX.more):=by rw[bz.O];unfold cz;rw[n];rfl
     have a1:=K.O.lt;have cs:Hd (x=(x.1,iX.more)):=hD (by rw[D])
     have cv:Hd (∃v,aZ w' (λb=>(F b\/bl w w' b)/\b≠g) fb v p x.1):=hD (by
      rw[D];refine⟨v,ab.mo λb a=>⟨?_,λc=>?_⟩⟩
      ·rcases a with a|a
       ·exact(H.O b a).imp id λc=>c.up G.size
       ·exact .inr (a.dn B.O.size)
      ·rcases a with a|a
       ·exact Q.O (c ▸ a)
       ·exact absurd a1 (zC.2 (c ▸ a.1)))
     have cw:Hd (aa F w w'):=hD (B.O.trans' G λb a=>(H.O b a).imp id λc=>c.1);have cB:=hD (G.J K.O Q.O);clear ab G d5 a1 D n;go_wp2_with fail;go_roundw
     case rel=>exact .inr ⟨rfl,cs.O,cv.O,cw.O,cB.O⟩
     case measure=>exact Nat.zero_lt_one
    ·subst S
     have D:x=((az.step p).1,s):=by rw[bz.O];unfold cz;rw[n];rfl
     have d:=k.2.1.J K.O Q.O;obtain⟨e,Z,a7⟩:=k;rw[n] at a7;obtain⟨q',C,c',j,bk,T,a8⟩:=a7;injection j with j;injection j with j;injection j with j;injection j with j;subst j;obtain⟨v0,v1,v2,v3,W,R,v4,v5,v6,hv⟩:=nR s C c';rw[hv] at T;obtain⟨d7,d8,d9,da,db,dd,dk⟩:=T.gE7;have ad:=d.I 0;have X:=d.I 1;have Y:=d.I 2;have ai:=d.I 3;have al:=d.I 4;have am:=d.I 5;have an:=d.I 6;simp[ir] at ad X Y ai al am an;obtain⟨c1,m,c2,c3,c4⟩:=d.fE5;have c5:=d.fz 5;have c6:=d.fz 6
     have N:ae (((((((w'.setCell ⟨g,0,none⟩ (.int .u8 v0)).setCell ⟨g,1,none⟩ (.string v1)).setCell ⟨g,2,none⟩ (.int .i64 v2)).setCell ⟨g,3,none⟩ (.slice v3 W R)).setCell ⟨g,4,none⟩ (.int .i64 v4)).setCell ⟨g,5,none⟩ (.int .i64 v5)).setCell ⟨g,6,none⟩ (.int .i64 v6)) g 181 (jb s C c'):=by
      rw[hv];exact((((((d.s_ 0 (.int .u8 v0)).s_ 1 (.string v1)).s_ 2 (.int .i64 v2)).s_ 3 (.slice v3 W R)).s_ 4 (.int .i64 v4)).s_ 5 (.int .i64 v5)).s_ 6 (.int .i64 v6)
     have P:aa (λb=>b=g) w' (((((((w'.setCell ⟨g,0,none⟩ (.int .u8 v0)).setCell ⟨g,1,none⟩ (.string v1)).setCell ⟨g,2,none⟩ (.int .i64 v2)).setCell ⟨g,3,none⟩ (.slice v3 W R)).setCell ⟨g,4,none⟩ (.int .i64 v4)).setCell ⟨g,5,none⟩ (.int .i64 v5)).setCell ⟨g,6,none⟩ (.int .i64 v6)):=aD (aD (aD (aD (aD (aD (af _ _ _ _))))));have b6:=hD e;have a5:=hD Z;have b7:=hD a8;have bc:=hD D;have a6:=hD N;have l:=hD P;clear e Z bk T a8 D N P d hv n;go_wp2_with fail;refine bodyPost_ret (aO Tryz.results86 rfl a6.O Tryz.underlying181 rfl (kX s C c')) rfl ?_;obtain⟨v,e⟩:=b6.O;have a1:=K.O.lt
     have a9:∀b,(λb=>F b\/bl y z b) b\/bl wr w' b->¬b=g:=λb a c=>by
      rcases a with a|a
      ·exact Q.O (c ▸ a)
      ·exact absurd a1 (zC.2 (c ▸ a.1))
     rw[bc.O];refine⟨C,c',rfl,⟨v,(e.kp l.O a9).mo λb a=>?_⟩,?_,λt c=>?_⟩
     ·rcases a with a|a
      ·exact(H.O b a).imp id λc=>(c.up a5.O.size).up l.O.size
      ·exact .inr ((a.dn B.O.size).up l.O.size)
     ·exact(B.O.trans' a5.O λb a=>(H.O b a).imp id λc=>c.1).trans' l.O λb a=>.inr (by rw[a];exact zl ar.O.symm)
     ·exact((b7.O t c).kp l.O λb a=>a9 b (.inr a)).mo λb a=>(a.dn B.O.size).up l.O.size
   ·have d0:=hD cg
    have d1:=hD cb;have d2:=hD cd;have dl:=hD u;have ad:=u.I 0;have X:=u.I 1;have Y:=u.I 2;have ai:=u.I 3;have al:=u.I 4;have am:=u.I 5;have an:=u.I 6;simp[ir] at ad X Y ai al am an;obtain⟨c1,m,c2,c3,c4⟩:=u.fE5;have c5:=u.fz 5;have c6:=u.fz 6;have N:ae (((((((wr.setCell ⟨g,0,none⟩ (.int .u8 1)).setCell ⟨g,1,none⟩ (.string ⟨#[]⟩)).setCell ⟨g,2,none⟩ (.int .i64 0)).setCell ⟨g,3,none⟩ (.slice none 0 0)).setCell ⟨g,4,none⟩ (.int .i64 0)).setCell ⟨g,5,none⟩ (.int .i64 0)).setCell ⟨g,6,none⟩ (.int .i64 0)) g 181 (jb .more none 0):=((((((u.s_ 0 _).s_ 1 _).s_ 2 _).s_ 3 _).s_ 4 _).s_ 5 _).s_ 6 _;have P:aa (λb=>b=g) wr (((((((wr.setCell ⟨g,0,none⟩ (.int .u8 1)).setCell ⟨g,1,none⟩ (.string ⟨#[]⟩)).setCell ⟨g,2,none⟩ (.int .i64 0)).setCell ⟨g,3,none⟩ (.slice none 0 0)).setCell ⟨g,4,none⟩ (.int .i64 0)).setCell ⟨g,5,none⟩ (.int .i64 0)).setCell ⟨g,6,none⟩ (.int .i64 0)):=aD (aD (aD (aD (aD (aD (af _ _ _ _))))));have a6:=hD N;have l:=hD P;clear cg cb cd u N P;go_wp2_with fail;refine bodyPost_ret (aO Tryz.results86 rfl a6.O Tryz.underlying181 rfl (kX .more none 0)) rfl ?_;obtain⟨v,e⟩:=d1.O;rw[d0.O];refine⟨none,0,rfl,⟨v,(e.kp l.O λb a=>a.2).mo λb a=>a.1.imp id λc=>c.up l.O.size⟩,d2.O.trans' l.O λb a=>.inr (by rw[a];exact zl ar.O.symm),λt c=>by cases c⟩
 ·subst S
  have D:x=(m.1,s):=cq.O s n;obtain⟨wr,b3⟩:=eX y;have B:Hd (aa F w wr):=hD (by rw[b3];exact aw.O);have H:Hd (∀b,F b->F b\/bl w wr b):=hD λb a=>.inl a
  have K:Hd (ae wr g 181 ir):=hD (by rw[b3];exact b8.O);have Q:Hd (¬F g):=ba;rw[<-b3] at k;clear b3 bt bv bn bo bp bq br b9 av;have d:=k.2.1.J K.O Q.O;obtain⟨e,Z,a7⟩:=k;rw[n] at a7;obtain⟨q',C,c',j,bk,T,a8⟩:=a7;injection j with j;injection j with j;injection j with j;injection j with j;subst j;obtain⟨v0,v1,v2,v3,W,R,v4,v5,v6,hv⟩:=nR s C c';rw[hv] at T;obtain⟨d7,d8,d9,da,db,dd,dk⟩:=T.gE7;have ad:=d.I 0;have X:=d.I 1;have Y:=d.I 2;have ai:=d.I 3;have al:=d.I 4;have am:=d.I 5;have an:=d.I 6;simp[ir] at ad X Y ai al am an;obtain⟨c1,m,c2,c3,c4⟩:=d.fE5;have c5:=d.fz 5;have c6:=d.fz 6
  have N:ae (((((((z.setCell ⟨g,0,none⟩ (.int .u8 v0)).setCell ⟨g,1,none⟩ (.string v1)).setCell ⟨g,2,none⟩ (.int .i64 v2)).setCell ⟨g,3,none⟩ (.slice v3 W R)).setCell ⟨g,4,none⟩ (.int .i64 v4)).setCell ⟨g,5,none⟩ (.int .i64 v5)).setCell ⟨g,6,none⟩ (.int .i64 v6)) g 181 (jb s C c'):=by
   rw[hv];exact((((((d.s_ 0 (.int .u8 v0)).s_ 1 (.string v1)).s_ 2 (.int .i64 v2)).s_ 3 (.slice v3 W R)).s_ 4 (.int .i64 v4)).s_ 5 (.int .i64 v5)).s_ 6 (.int .i64 v6)
  have P:aa (λb=>b=g) z (((((((z.setCell ⟨g,0,none⟩ (.int .u8 v0)).setCell ⟨g,1,none⟩ (.string v1)).setCell ⟨g,2,none⟩ (.int .i64 v2)).setCell ⟨g,3,none⟩ (.slice v3 W R)).setCell ⟨g,4,none⟩ (.int .i64 v4)).setCell ⟨g,5,none⟩ (.int .i64 v5)).setCell ⟨g,6,none⟩ (.int .i64 v6)):=aD (aD (aD (aD (aD (aD (af _ _ _ _))))));have b6:=hD e;have a5:=hD Z;have b7:=hD a8;have bc:=hD D;have a6:=hD N;have l:=hD P;clear e Z bk T a8 D N P d hv n;go_wp2_with fail;refine bodyPost_ret (aO Tryz.results86 rfl a6.O Tryz.underlying181 rfl (kX s C c')) rfl ?_;obtain⟨v,e⟩:=b6.O;have a1:=K.O.lt
  have a9:∀b,F b\/bl wr z b->¬b=g:=λb a c=>by
   rcases a with a|a
   ·exact Q.O (c ▸ a)
   ·exact absurd a1 (zC.2 (c ▸ a.1))
  rw[bc.O];refine⟨C,c',rfl,⟨v,(e.kp l.O a9).mo λb a=>?_⟩,?_,λt c=>?_⟩
  ·rcases a with a|a
   ·exact(H.O b a).imp id λc=>(c.up a5.O.size).up l.O.size
   ·exact .inr ((a.dn B.O.size).up l.O.size)
  ·exact(B.O.trans' a5.O λb a=>(H.O b a).imp id λc=>c.1).trans' l.O λb a=>.inr (by rw[a];exact zl ar.O.symm)
  ·exact((b7.O t c).kp l.O λb a=>a9 b (.inr a)).mo λb a=>(a.dn B.O.size).up l.O.size
end
theorem vE:∃i,Tryz.prog.info? 3=some i/\i.zero=some (.int .i64 0)/\i.size=1/\i.bytes=8:=by
 have a:(Tryz.prog.info? 3).map (λi=>(i.zero,i.size,i.bytes))=some (some (.int .i64 0),1,8):=by kernel_rfl
 cases hi:Tryz.prog.info? 3 with
 |none=>rw[hi] at a;cases a
 |some i=>
  rw[hi] at a;simp only[yU,yC,yP] at a;exact⟨i,rfl,a⟩
theorem BS{w:World}{t:TypeId}(v:Value):bP (w.alloc (.cells #[v] t)) (w.heap.size+1) 1 (some ⟨w.heap.size,0,none⟩) 1 [v]:=
 ⟨by simp,λ_=>⟨_,rfl,by simp,λj u a=>by
  match j,a with
  |0,a=>simp at a;subst a;simp[Addr.add]⟩⟩
theorem xt{w:World}{t:TypeId}(v:Value){k:Nat}(a:w.heap.size=k):bP (w.alloc (.cells #[v] t)) (k+1) 1 (some ⟨k,0,none⟩) 1 [v]:=by
 subst a;exact BS v
section
variable {w w':World}{F F':Nat->Prop}{fb:Nat}{L:iC}{p:List ah}{f:Fr}
theorem pF(c:∀b,F b->b<w.heap.size)(a:aZ w F fb L p f)(e:gH p)(d:gQ p f)(g:f.result=none):
 Calls Tryz.prog 86 #[.pointer (some ⟨fb,0,none⟩),.int .i64 1] w λi w'=>qk w w' F fb p (f.run1 p) i:=by
 cases hw:f.waits with
 |none=>exact DC c a e d g hw
 |some o=>exact DA o c a e d g hw
theorem aZ.kids_at(d:aZ w F fb L p f){A:Option Addr}{c:Nat}(e:L.kv=.slice A f.kd.length c):gR w A f.kd:=by
 rcases d.kv_form with⟨a,m⟩|⟨kb,c',a,_⟩
 ·rw[m];exact λi k b=>by simp at b
 ·rw[a] at e
  injection e with e1 e2 e3;subst e1;intro i k b;refine⟨kb,0,rfl,λj v hv=>?_⟩
  have n:j<4:=by
   have:=(gS hv).1
   simpa[gh] using this
  have l:=d.kd;rw[a] at l;have:=l.cells (g:=kb) rfl (i*4+j) v (by rw[jL _ _ j k b n];exact hv);rw[bg,yq] at this;rw[yq];exact this
def gv(f:Fr)(k:Nat):List Nat:=(List.range k).filter λi=>!(f.kd.getD i ⟨0,true,⟨0,0⟩⟩).given
theorem vv{f:Fr}{k:Nat}{y:cZ}(a:f.kd[k]?=some y)(b:y.given=false):gv f (k+1)=gv f k++ [k]:=by
 unfold gv;rw[List.range_succ,List.filter_append]
 congr 1
 simp[yc,a,b]
theorem xO{f:Fr}{k:Nat}{y:cZ}(a:f.kd[k]?=some y)(b:y.given=true):gv f (k+1)=gv f k:=by
 unfold gv;rw[List.range_succ,List.filter_append];simp[yc,a,b]
theorem xN(f:Fr)(k:Nat):(gv f k).length<=k:=by
 unfold gv;exact lT (List.length_filter_le _ _) (by simp)
def uz(l:List Nat):List Value:=l.map λi:Nat=>Value.int .i64 ((i:Int)+1)
theorem Cg(q:aZ w F fb L p f)(Y:p≠[])(H:f.kd.length<=16):
 Calls Tryz.prog 89 #[.pointer (some ⟨fb,0,none⟩)] w λx w'=>∃v,x=.returned v/\w'.ownsRow w.heap.size 3 1 v f.waitsOf.length (uz f.waitsOf)/\ac w w':=by
 have a9:=hD (mh q Y);obtain⟨A,c,G⟩:=q.kv_any;have S:=q.kids_at G;have a5:=q.J.I 8;simp[cY,G] at a5;obtain⟨n,C⟩:=eX f.kd.length;rw[<-C] at a5 H;have a1:f.waitsOf=gv f n:=by rw[C];rfl
 rw[a1];obtain⟨aw,R,a2,a3,a4⟩:=vE;have a7:=hD S;have N:=hD (aI C H);have t:=hD (aI R (aI a2 (aI a3 a4)));clear q Y G S C H a1 R a2 a3 a4;go_enter Tryz.func89,Tryz.ntmps89;go_wp2_with fail;refine a9.O.mono ?_;rintro x w' ⟨rfl,av⟩;subst av;go_wp2_with fail
 go_loopw [2,12] (λl i wr=>∃k:Nat,k<=n/\i=.int .i64 k/\wr.ownsRow w.heap.size 3 1 l (gv f k).length (uz (gv f k))/\ac w wr) (λ_ i _=>n-(intOf i).toNat)
 case atStart=>exact⟨0,yx _,rfl,⟨by simp[gv,uz],.inl ⟨rfl,rfl⟩⟩,oR⟩
 case round=>
  obtain⟨k,E,rfl,g,d⟩:=hrel
  by_cases a:k<n
  ·have b2:(0:Int)<=(k:Int):=dK k
   have am:(k:Int)<(n:Int):=cO a;have an:k<f.kd.length:=by rw[<-N.O.1];exact a
   have r:f.kd[k]?=some f.kd[k]:=gG an;obtain⟨b,o,al,j⟩:=a7.O.kp d k f.kd[k] r;generalize f.kd[k] =y at*;have a6:=j 0 _ rfl;have K:=j 1 _ rfl;have b0:=j 2 _ rfl;have b1:=j 3 _ rfl;rw[yW] at a6;subst al;have z:k<16:=lL a N.O.2;have s:wrap64 ((k:Int)+1)=(k:Int)+1:=kM z;have b3:=(aU ((k:Int)+1)).trans s
   cases hg:y.given
   ·rw[hg] at K
    have D:=hD (vv r hg);have e:=hD g;have m:=hD d;obtain⟨az,B⟩:=eX ((gv f k).length);have W:az<16:=by rw[B];exact lM (xN f k) z
    rw[<-B] at e;have a8:=hD B;have P:=hD W;have Z:=d.size;have ab:=hD Z;clear j g d r hg B W Z z
    go_wp2_with (at_builtin;refine fX _ rfl (.tmp 20) (.tmp 23) 110 rfl w.heap.size 3 aw (.int .i64 0) 1 8 Tryz.underlying110 t.O.1 t.O.2.1 t.O.2.2.1 t.O.2.2.2 rfl (by decide) _ _ _ rfl ((e.O.alloc _).alloc _) _ _ _ _ _ rfl (xt _ (by simp)) ?c2 ?c3 ?c4 ?c5 ?_)
    case c2=>intro u a0;simp at a0;subst a0;rfl
    case c3=>exact lT (Nat.succ_le_of_lt P.O) (by unfold maxLen;decide)
    case c4=>exact lT (zP 8 (Nat.succ_le_of_lt P.O)) (by decide)
    case c5=>simp;have:=ab.O;omega
    intro b4 aE X Q ar;have V:=e.O.lt;have ad:=hD X;have ai:Hd (ac w aE):=hD (((m.O.alloc _).alloc _).grown Q (λk E=>.inr (V k E).1));clear X Q ar V a6 K b0 b1;go_wp2_with fail;go_roundw
    case rel=>exact⟨k+1,a,by first|exact cK k|exact cH s,by rw[D.O,yk,<-a8.O];unfold uz;rw[yS];exact ad.O,ai.O⟩
    case measure=>first|exact aB rfl a|exact aB s a
   ·rw[hg] at K
    have D:=hD (xO r hg);have e:=hD g;have m:=hD d;clear j g d r hg z;go_wp2_with fail;go_roundw
    case rel=>exact⟨k+1,a,by first|exact cK k|exact cH s,by rw[D.O];exact e.O.alloc _,m.O.alloc _⟩
    case measure=>first|exact aB rfl a|exact aB s a
  ·have am:¬(k:Int)<(n:Int):=λx=>a (yB.1 x)
   have T:k=n:=yT E (yA a);rw[T] at g;have e:=hD g;have m:=hD d;clear g d T;go_wp2_with fail;go_ret;exact⟨_,rfl,e.O,m.O⟩
end
def fT(w:World)(g:Nat)(k:IntKind)(xs:List Int):Prop:=∀(i:Nat) (x:Int),xs[i]?=some x->w.cell? ⟨g,i,none⟩=some (.int k x)
theorem fT.kp{w w':World}{g:Nat}{k:IntKind}{xs:List Int}(a:fT w g k xs)(c:ac w w'):fT w' g k xs:=λi x b=>
 (c.I (p:=⟨g,i,none⟩) (block_lt_of_cell (a i x b)) nF).trans (a i x b)
theorem fT.keep_{S:Nat->Prop}{w w':World}{g:Nat}{k:IntKind}{xs:List Int}(a:fT w g k xs)(d:aa S w w')(c:¬S g):fT w' g k xs:=λi x b=>
 (d.I (p:=⟨g,i,none⟩) (block_lt_of_cell (a i x b)) c).trans (a i x b)
def iV(pr:Int->Bool):List Int->Nat->Int
 | [],_=>-1
 |a :: l,k=>if pr a=true then(k:Int) else iV pr l (k+1)
theorem qr(c:Int->Bool):∀(l:List Int) (k:Nat),decide ((0:Int)<=iV c l k)=l.any c
 | [],k=>by simp[iV]
 |a :: l,k=>by
  unfold iV
  by_cases b:c a=true
  ·rw[yf b]
   simp[b]
  ·rw[yb b,qr c l (k+1)]
   simp[b]
def co(x:Int):Bool:=decide (0<=x/\x<=16)
theorem Dv(x:Int)(w:World):Calls Tryz.prog 218 #[.int .i64 x] w λd w'=>d=.returned (.bool (!co x))/\ac w w':=by
 by_cases b:x<0
 ·have a:co x=false:=yd (by omega)
  rw[a];have e:decide (x<0)=true:=yg b;go_enter Tryz.func218,Tryz.ntmps218;go_wp2_with fail;go_ret;exact⟨rfl,oR⟩
 ·have e:decide (x<0)=false:=yd b
  by_cases c:16<x
  ·have a:co x=false:=yd (by omega)
   rw[a];have g:decide (16<x)=true:=yg c;go_enter Tryz.func218,Tryz.ntmps218;go_wp2_with fail;go_ret;exact⟨rfl,oR⟩
  ·have a:co x=true:=yg (by omega)
   rw[a];have g:decide (16<x)=false:=yd c;go_enter Tryz.func218,Tryz.ntmps218;go_wp2_with fail;go_ret;exact⟨rfl,oR⟩
theorem wz(x regs:Int)(d:Nat)(w:World)(i:w.cell? ⟨d,0,none⟩=some (.int .i64 regs)):Calls Tryz.prog 222 #[.int .i64 x,.pointer (some ⟨d,0,none⟩)] w λg w'=>g=.returned (.bool (decide (regs<=x)))/\ac w w':=by
 obtain⟨b,a⟩:=eX (decide (regs<=x));rw[<-a]
 by_cases e:regs<=x
 ·have c:decide (regs<=x)=true:=yg e
  rw[c] at a;subst a;go_enter Tryz.func222,Tryz.ntmps222;go_wp2_with fail;go_ret;exact⟨rfl,oR⟩
 ·have c:decide (regs<=x)=false:=yd e
  rw[c] at a;subst a;go_enter Tryz.func222,Tryz.ntmps222;go_wp2_with fail;go_ret;exact⟨rfl,oR⟩
theorem cX{k n:Nat}(a:k<n)(b:n<=1000):wrap64 ((k:Int)+1)=(k:Int)+1:=by unfold wrap64;omega
theorem EA(g:Nat)(xs:List Int)(c:Nat)(w:World)(B:fT w g .i64 xs)(s:xs.length<=1000):
 Calls Tryz.prog 232 #[.slice (some ⟨g,0,none⟩) xs.length c,.func (.func 218) #[] #[]] w λa w'=>a=.returned (.int .i64 (iV (λx=>!co x) xs 0))/\ac w w':=by
 obtain⟨r,u⟩:=eX (iV (λx=>!co x) xs 0);rw[<-u];have N:=hD u;have G:Hd (∀(x:Int) W,ac w W->Calls Tryz.prog 218 #[.int .i64 x] W λa w'=>a=.returned (.bool ((λx=>!co x) x))/\ac W w'):=hD (λx W _=>Dv x W);have H:=hD B;obtain⟨n,t⟩:=eX xs.length;rw[<-t] at s ⊢;have z:=hD t;have K:=hD s;clear u B t s;go_enter Tryz.func232,Tryz.ntmps232;go_wp2_with fail
 go_loopw [8] (λi wr=>∃k:Nat,k<=n/\i=.int .i64 k/\iV (λx=>!co x) (xs.drop k) k=r/\ac w wr) (λi _=>n-(intOf i).toNat)
 case atStart=>exact⟨0,yx _,rfl,N.O.symm,oR⟩
 case round=>
  obtain⟨k,Q,rfl,d,e⟩:=hrel
  by_cases b:k<n
  ·have T:(0:Int)<=(k:Int):=dK k
   have P:(k:Int)<(n:Int):=cO b;have C:k<xs.length:=by rw[<-z.O];exact b
   have R:=H.O.kp e k xs[k] (gG C);rw[yM C] at d;unfold iV at d;generalize xs[k] =y at*;obtain⟨o,q⟩:=eX ((λx=>!co x) y:Bool);have l:(if o=true then(k:Int) else iV (λx=>!co x) (xs.drop (k+1)) (k+1))=r:=by rw[q];exact d
   have v:Hd (Calls Tryz.prog 218 ((λx:Int=>#[.int .i64 x]) y) wr λa w'=>a=.returned (.bool o)/\ac wr w'):=hD (by rw[q];exact G.O y wr e);have D:wrap64 ((k:Int)+1)=(k:Int)+1:=cX b K.O;have m:=hD e;clear d e q;simp only at v;go_wp2_with fail;refine v.O.mono ?_;rintro a S ⟨rfl,E⟩;have A:=hD (m.O.trans E);clear E R
   cases o
   ·have j:Hd (iV (λx=>!co x) (xs.drop (k+1)) (k+1)=r):=hD l
    clear l;go_wp2_with fail;go_roundw
    case rel=>exact⟨k+1,b,by first|exact cK k|exact cH D,j.O,A.O⟩
    case measure=>first|exact aB rfl b|exact aB D b
   ·have j:Hd ((k:Int)=r):=hD l
    clear l;go_wp2_with fail;go_ret;exact⟨by rw[<-j.O];rfl,A.O⟩
  ·have P:¬(k:Int)<(n:Int):=λa=>b (yB.1 a)
   have:k=n:=yT Q (yA b);subst this;rw[z.O,zq] at d;have j:=hD d;have m:=hD e;clear d e;go_wp2_with fail;go_ret;exact⟨by rw[<-j.O];rfl,m.O⟩
theorem Ey(g:Nat)(xs:List Int)(c:Nat)(w:World)(b:fT w g .i64 xs)(d:xs.length<=1000):
 Calls Tryz.prog 217 #[.slice (some ⟨g,0,none⟩) xs.length c,.func (.func 218) #[] #[]] w λa w'=>a=.returned (.bool (xs.any (λx=>!co x)))/\ac w w':=by
 have i:=hD (EA g xs c w b d);rw[<-qr _ xs 0];generalize iV (λx=>!co x) xs 0=r at*;generalize xs.length=n at*;clear b d;go_enter Tryz.func217,Tryz.ntmps217;go_wp2_with fail;refine i.O.mono ?_;rintro a k ⟨rfl,e⟩;have j:=hD e;clear e;go_wp2_with fail;go_ret;exact⟨rfl,j.O⟩
theorem AO(g:Nat)(xs:List Int)(c:Nat)(w:World)(C:fT w g .i64 xs)(t:xs.length<=1000)(regs:Int)(e:Nat)(D:w.cell? ⟨e,0,none⟩=some (.int .i64 regs)):
 Calls Tryz.prog 232 #[.slice (some ⟨g,0,none⟩) xs.length c,.func (.func 222) #[] #[.pointer (some ⟨e,0,none⟩)]] w λa w'=>a=.returned (.int .i64 (iV (λx=>decide (regs<=x)) xs 0))/\ac w w':=by
 obtain⟨r,v⟩:=eX (iV (λx=>decide (regs<=x)) xs 0);rw[<-v];have Q:=hD v;have K:Hd (∀(x:Int) W,ac w W->Calls Tryz.prog 222 #[.int .i64 x,.pointer (some ⟨e,0,none⟩)] W λa w'=>a=.returned (.bool ((λx=>decide (regs<=x)) x))/\ac W w'):=hD (λx W R=>wz x regs e W ((R.I (p:=⟨e,0,none⟩) (block_lt_of_cell D) nF).trans D));have N:=hD C;obtain⟨n,u⟩:=eX xs.length;rw[<-u] at t ⊢;have A:=hD u;have P:=hD t;clear v C u t;go_enter Tryz.func232,Tryz.ntmps232;go_wp2_with fail
 go_loopw [8] (λi wr=>∃k:Nat,k<=n/\i=.int .i64 k/\iV (λx=>decide (regs<=x)) (xs.drop k) k=r/\ac w wr) (λi _=>n-(intOf i).toNat)
 case atStart=>exact⟨0,yx _,rfl,Q.O.symm,oR⟩
 case round=>
  obtain⟨k,T,rfl,d,j⟩:=hrel
  by_cases b:k<n
  ·have Y:(0:Int)<=(k:Int):=dK k
   have S:(k:Int)<(n:Int):=cO b;have E:k<xs.length:=by rw[<-A.O];exact b
   have V:=N.O.kp j k xs[k] (gG E);rw[yM E] at d;unfold iV at d;generalize xs[k] =y at*;obtain⟨q,s⟩:=eX ((λx=>decide (regs<=x)) y:Bool);have m:(if q=true then(k:Int) else iV (λx=>decide (regs<=x)) (xs.drop (k+1)) (k+1))=r:=by rw[s];exact d
   have z:Hd (Calls Tryz.prog 222 ((λx:Int=>#[.int .i64 x,.pointer (some ⟨e,0,none⟩)]) y) wr λa w'=>a=.returned (.bool q)/\ac wr w'):=hD (by rw[s];exact K.O y wr j);have G:wrap64 ((k:Int)+1)=(k:Int)+1:=cX b P.O;have o:=hD j;clear d j s;simp only at z;go_wp2_with fail;refine z.O.mono ?_;rintro a X ⟨rfl,H⟩;have B:=hD (o.O.trans H);clear H V
   cases q
   ·have l:Hd (iV (λx=>decide (regs<=x)) (xs.drop (k+1)) (k+1)=r):=hD m
    clear m;go_wp2_with fail;go_roundw
    case rel=>exact⟨k+1,b,by first|exact cK k|exact cH G,l.O,B.O⟩
    case measure=>first|exact aB rfl b|exact aB G b
   ·have l:Hd ((k:Int)=r):=hD m
    clear m;go_wp2_with fail;go_ret;exact⟨by rw[<-l.O];rfl,B.O⟩
  ·have S:¬(k:Int)<(n:Int):=λa=>b (yB.1 a)
   have:k=n:=yT T (yA b);subst this;rw[A.O,zq] at d;have l:=hD d;have o:=hD j;clear d j;go_wp2_with fail;go_ret;exact⟨by rw[<-l.O];rfl,o.O⟩
theorem AM(g:Nat)(xs:List Int)(c:Nat)(w:World)(d:fT w g .i64 xs)(i:xs.length<=1000)(regs:Int)(a:Nat)(e:w.cell? ⟨a,0,none⟩=some (.int .i64 regs)):
 Calls Tryz.prog 217 #[.slice (some ⟨g,0,none⟩) xs.length c,.func (.func 222) #[] #[.pointer (some ⟨a,0,none⟩)]] w λb w'=>b=.returned (.bool (xs.any (λx=>decide (regs<=x))))/\ac w w':=by
 have k:=hD (AO g xs c w d i regs a e);rw[<-qr _ xs 0];generalize iV (λx=>decide (regs<=x)) xs 0=r at*;generalize xs.length=n at*;clear d i e;go_enter Tryz.func217,Tryz.ntmps217;go_wp2_with fail;refine k.O.mono ?_;rintro b m ⟨rfl,j⟩;have l:=hD j;clear j;go_wp2_with fail;go_ret;exact⟨rfl,l.O⟩
theorem wO:Keyed Tryz.prog 5:=Maps.int_keyed Tryz.underlying5
noncomputable def iB(f:Value->Option Value)(xs:List Int)(pv:Value):Value->Option Value:=xs.foldl (λf k=>iW f (.int .u8 k) (some pv)) f
theorem Ce(f:Value->Option Value)(xs:List Int)(x:Int)(a:Value):iB f (xs++ [x]) a=iW (iB f xs a) (.int .u8 x) (some a):=by
 unfold iB;rw[List.foldl_append];rfl
theorem kr:∀(xs:List Int) (f:Value->Option Value) (a:Value) (y:Int),(∀x∈xs,x≠y)->iB f xs a (.int .u8 y)=f (.int .u8 y)
 | [],f,a,y,_=>rfl
 |x :: xs,f,a,y,c=>by
  have:=kr xs (iW f (.int .u8 x) (some a)) a y (λz d=>c z (yV _ d));unfold iB at this ⊢;rw[List.foldl_cons,this];exact kx _ _ (λb=>c x zh (by injection b with _ b;exact b.symm))
theorem vR:∀(xs:List Int) (f:Value->Option Value) (a:Value) (y:Int),y∈xs->iB f xs a (.int .u8 y)=some a
 | [],f,a,y,c=>by cases c
 |x :: xs,f,a,y,c=>by
  unfold iB;rw[List.foldl_cons]
  by_cases d:y∈xs
  ·exact vR xs _ a y d
  ·have:y=x:=by rcases yG.1 c with b|b;exact b;exact absurd b d
   subst this;have:=kr xs (iW f (.int .u8 y) (some a)) a y (λz e b=>d (b ▸ e));unfold iB at this;rw[this];exact kY _ _ _
def aq(d a b n:Bool):Value:=.agg #[.bool d,.bool a,.bool b,.bool n]
theorem kW(d a b n:Bool)(xs:List Int)(g c l cnt:Nat)(f:Value->Option Value)(w:World)(V:aS Tryz.prog w 5 l f cnt)(a0:fT w g .u8 xs)(a1:g≠l)(a8:∀x∈xs,(Lit.int .u8 x).wf=true)(Y:∀x∈xs,f (.int .u8 x)=none)(a5:xs.Nodup)
 (X:cnt+xs.length<=1000):
 Calls Tryz.prog 233 #[aq d a b n,.map (some l),.slice (some ⟨g,0,none⟩) xs.length c] w λm w'=>m=.returned (.tuple #[])/\aS Tryz.prog w' 5 l (iB f xs (aq d a b n)) (cnt+xs.length)/\aa (λb=>b=l) w w':=by
 obtain⟨u,v⟩:=eX (w.alloc (.cells #[.bool d,.bool a,.bool b,.bool n] 327));have A:ac w u:=by rw[v];exact(aa.refl _ w).alloc _
 have G:ae u w.heap.size 327 #[.bool d,.bool a,.bool b,.bool n]:=by rw[v];exact bN
 obtain⟨q,P⟩:=eX w.heap.size;rw[<-P] at G;obtain⟨r,K⟩:=eX xs.length;have S:Hd (aS Tryz.prog u 5 l f cnt):=hD (V.only A nF);have am:=hD (a0.kp A);have R:=hD G;have aw:=hD P;have av:=hD A;have C:=hD K;have B:=hD X;have t:=hD (aI a8 (aI Y (aI a5 a1)));have T:=hD v.symm;rw[<-K] at B ⊢;unfold aq;clear V a0 a1 a8 Y a5 X A G P K v;go_enter Tryz.func233,Tryz.ntmps233;go_upto_region 1 with fail;rw[T.O,<-aw.O];clear T;go_wp2_with fail
 go_loopw [10] (λi wr=>∃k:Nat,k<=r/\i=.int .i64 k/\aS Tryz.prog wr 5 l (iB f (xs.take k) (aq d a b n)) (cnt+k)/\aa (λb=>b=l) u wr) (λi _=>r-(intOf i).toNat)
 case atStart=>exact⟨0,yx _,rfl,S.O,oR⟩
 case round=>
  obtain⟨k,a3,rfl,s,o⟩:=hrel
  by_cases e:k<r
  ·have bb:(0:Int)<=(k:Int):=dK k
   have b0:(k:Int)<(r:Int):=cO e;have z:k<xs.length:=by rw[<-C.O];exact e
   have Q:xs[k]?=some xs[k]:=gG z;have b9:=am.O.keep_ o t.O.2.2.2 k xs[k] Q;have N:xs[k]∈xs:=yN z
   have a6:∀x∈xs.take k,x≠xs[k]:=λx b4 m=>by
    obtain⟨j,y⟩:=yF b4
    have a2:j<k:=by
     have:=(gS y).1;rw[ze] at this;omega
    rw[List.getElem?_take_of_lt a2] at y;have b1:=(gS y).1;have:xs[j] =xs[k]:=by rw[<-m];exact(gS y).2
    exact List.pairwise_iff_getElem.1 t.O.2.2.1 j k b1 z a2 this
   have Z:iB f (xs.take k) (aq d a b n) (.int .u8 xs[k])=none:=by rw[kr _ _ _ _ a6];exact t.O.2.1 _ N
   have a7:iB f (xs.take (k+1)) (aq d a b n)=iW (iB f (xs.take k) (aq d a b n)) (.int .u8 xs[k]) (some (aq d a b n)):=by
    rw[yO,Q];exact Ce _ _ _ _
   have a9:=t.O.1 _ N;generalize xs[k] =x at*;have b2:∃ad,keyOf Tryz.prog 5 (.int .u8 x)=some ad:=⟨_,Maps.keyOf_int_mk Tryz.underlying5 a9⟩
   obtain⟨ad,a4⟩:=b2;have W:=o.J R.O (S.O.ne R.O);obtain⟨b5,b6,b7,b8⟩:=W.gE4;have ab:wrap64 ((k:Int)+1)=(k:Int)+1:=cX e (lT (Yh _ _) B.O);have D:=hD s;have E:=hD o;have al:=hD Z;have az:=hD a7;have an:=hD a4;clear s o Z a7 a4 Q N a6 z a9 W;go_wp2_with fail;refine qE D.O wO Tryz.underlying329 an.O (lM (lT (Nat.add_le_add_left a3 cnt) B.O) (by unfold maxLen;decide)) ?_;intro ba H ai;rw[show(iB f (xs.take k) (aq d a b n) (.int .u8 x)).isSome=false by rw[al.O];rfl] at H;have ar:=hD H;have aE:=hD (E.O.trans ai);clear H ai b9 b5 b6 b7 b8;go_wp2_with fail;go_roundw
   case rel=>exact⟨k+1,e,by first|exact cK k|exact cH ab,by rw[az.O];exact ar.O,aE.O⟩
   case measure=>first|exact aB rfl e|exact aB ab e
  ·have b0:¬(k:Int)<(r:Int):=λm=>e (yB.1 m)
   have b3:k=r:=yT a3 (yA e);subst b3;rw[C.O,zr,<-C.O] at s;have D:=hD s;have E:=hD o;clear s o;go_wp2_with fail
   go_end0
   exact⟨rfl,D.O,(av.O.mono λ_ m=>m.elim).trans E.O⟩
theorem eB(w:World)(k:IntKind)(xs:List Int)(T:TypeId):fT (w.alloc (.cells (xs.map (Value.int k)).toArray T)) w.heap.size k xs:=λi x a=>by
 rw[(ae.new w T (xs.map (Value.int k)).toArray).I];simp[a]
noncomputable def cV(l:List (List Int×Value)):Value->Option Value:=l.foldl (λf c=>iB f c.1 c.2) (λ_=>none)
theorem hU(l:List (List Int×Value))(xs:List Int)(a:Value):cV (l++ [(xs,a)])=iB (cV l) xs a:=by
 unfold cV;rw[List.foldl_append];rfl
theorem gl(l:List (List Int×Value))(y:Int):(∀c∈l,∀x∈c.1,x≠y)->cV l (.int .u8 y)=none:=by
 unfold cV
 suffices a:∀(l:List (List Int×Value)) (f:Value->Option Value),f (.int .u8 y)=none->(∀c∈l,∀x∈c.1,x≠y)->l.foldl (λf c=>iB f c.1 c.2) f (.int .u8 y)=none from a l _ rfl
 intro l
 induction l with
 |nil=>intro f b _;exact b
 |cons c l e=>
  intro f b a;rw[List.foldl_cons];refine e _ ?_ (λc d=>a c (yV _ d));rw[kr _ _ _ _ (a c zh)];exact b
theorem eh(l:List (List Int×Value))(y:Int)(i:Value)(c:List Int×Value)(e:List (List Int×Value))(m:y∈c.1)(g:c.2=i)(b:∀c∈e,∀x∈c.1,x≠y):cV (l++c :: e) (.int .u8 y)=some i:=by
 unfold cV;rw[List.foldl_append,List.foldl_cons];generalize l.foldl (λf c=>iB f c.1 c.2) (λ_=>none)=j;have a:iB j c.1 c.2 (.int .u8 y)=some i:=by rw[vR _ _ _ _ m,g]
 revert a b;generalize iB j c.1 c.2=k
 induction e generalizing k with
 |nil=>intro _ a;exact a
 |cons d e n=>
  intro b a;rw[List.foldl_cons];refine n _ (λc g=>b c (yV _ g)) ?_;rw[kr _ _ _ _ (b d zh)];exact a
def im:List (List Int×Value):=[([1],aq true false false true),([2],aq true true false false),([3,4,5,6,7,8,9],aq true true true false),([10],aq false false false true),([11],aq false true false true),([12],aq true true false true),([13],aq false false false false),([14],aq false true false false)]
theorem Ew(w:World):Calls Tryz.prog 220 #[] w λa w'=>a=.returned (.map (some w.heap.size))/\aS Tryz.prog w' 5 w.heap.size (cV im) 14/\ac w w':=by
 obtain⟨e,r⟩:=eX (w.alloc (.map #[] 0));obtain⟨c,g⟩:=eX w.heap.size;have i:Hd (aS Tryz.prog e 5 c (cV []) 0):=hD (by rw[r,g];exact aS.made wO w);have E:Hd (aa (λb=>b=c) e e):=hD oR;have D:=hD r.symm;have C:=hD g;rw[<-g];clear r g;have ai:=@run_makeMap Tryz.prog;go_enter Tryz.func220,Tryz.ntmps220;go_upto_region 2 with fail;rw[D.O,<-C.O];go_wp2_with fail;refine(kW true false false true [1] e.heap.size 1 c 0 (cV []) _ (i.O.only ((aa.refl (λ_=>False) _).alloc _) nF) (eB e .u8 [1] _) (λa=>absurd (a ▸ i.O.lt) (yQ _)) (by decide) (λx d=>gl _ _ (by simp at d;first|(simp;done)|(simp;omega))) (by decide) (by decide)).mono ?_;rintro a S ⟨rfl,s,a0⟩;rw[<-hU] at s;have j:=hD s;have G:=hD (E.O.trans (((aa.refl (λb=>b=c) _).alloc _).trans a0));clear s a0 i E;go_wp2_with fail;refine(kW true true false false [2] S.heap.size 1 c 1 (cV [([1],aq true false false true)]) _ (j.O.only ((aa.refl (λ_=>False) _).alloc _) nF) (eB S .u8 [2] _) (λa=>absurd (a ▸ j.O.lt) (yQ _)) (by decide) (λx d=>gl _ _ (by simp at d;first|(simp;done)|(simp;omega))) (by decide) (by decide)).mono ?_;rintro a T ⟨rfl,t,a1⟩;rw[<-hU] at t;have k:=hD t;have H:=hD (G.O.trans (((aa.refl (λb=>b=c) _).alloc _).trans a1));clear t a1 j G;go_wp2_with fail;refine(kW true true true false [3,4,5,6,7,8,9] T.heap.size 7 c 2 (cV [([1],aq true false false true),([2],aq true true false false)]) _ (k.O.only ((aa.refl (λ_=>False) _).alloc _) nF) (eB T .u8 [3,4,5,6,7,8,9] _) (λa=>absurd (a ▸ k.O.lt) (yQ _)) (by decide) (λx d=>gl _ _ (by simp at d;first|(simp;done)|(simp;omega))) (by decide) (by decide)).mono ?_;rintro a V ⟨rfl,u,a2⟩;rw[<-hU] at u;have l:=hD u;have K:=hD (H.O.trans (((aa.refl (λb=>b=c) _).alloc _).trans a2));clear u a2 k H;go_wp2_with fail;refine(kW false false false true [10] V.heap.size 1 c 9 (cV [([1],aq true false false true),([2],aq true true false false),([3,4,5,6,7,8,9],aq true true true false)]) _ (l.O.only ((aa.refl (λ_=>False) _).alloc _) nF) (eB V .u8 [10] _) (λa=>absurd (a ▸ l.O.lt) (yQ _)) (by decide) (λx d=>gl _ _ (by simp at d;first|(simp;done)|(simp;omega))) (by decide) (by decide)).mono ?_;rintro a W ⟨rfl,v,a3⟩;rw[<-hU] at v;have m:=hD v;have N:=hD (K.O.trans (((aa.refl (λb=>b=c) _).alloc _).trans a3));clear v a3 l K;go_wp2_with fail;refine(kW false true false true [11] W.heap.size 1 c 10 (cV [([1],aq true false false true),([2],aq true true false false),([3,4,5,6,7,8,9],aq true true true false),([10],aq false false false true)]) _ (m.O.only ((aa.refl (λ_=>False) _).alloc _) nF) (eB W .u8 [11] _) (λa=>absurd (a ▸ m.O.lt) (yQ _)) (by decide) (λx d=>gl _ _ (by simp at d;first|(simp;done)|(simp;omega))) (by decide) (by decide)).mono ?_;rintro a X ⟨rfl,y,a4⟩;rw[<-hU] at y;have n:=hD y;have P:=hD (N.O.trans (((aa.refl (λb=>b=c) _).alloc _).trans a4));clear y a4 m N;go_wp2_with fail;refine(kW true true false true [12] X.heap.size 1 c 11 (cV [([1],aq true false false true),([2],aq true true false false),([3,4,5,6,7,8,9],aq true true true false),([10],aq false false false true),([11],aq false true false true)]) _ (n.O.only ((aa.refl (λ_=>False) _).alloc _) nF) (eB X .u8 [12] _) (λa=>absurd (a ▸ n.O.lt) (yQ _)) (by decide) (λx d=>gl _ _ (by simp at d;first|(simp;done)|(simp;omega))) (by decide) (by decide)).mono ?_;rintro a Y ⟨rfl,z,a5⟩;rw[<-hU] at z;have o:=hD z;have Q:=hD (P.O.trans (((aa.refl (λb=>b=c) _).alloc _).trans a5));clear z a5 n P;go_wp2_with fail;refine(kW false false false false [13] Y.heap.size 1 c 12 (cV [([1],aq true false false true),([2],aq true true false false),([3,4,5,6,7,8,9],aq true true true false),([10],aq false false false true),([11],aq false true false true),([12],aq true true false true)]) _ (o.O.only ((aa.refl (λ_=>False) _).alloc _) nF) (eB Y .u8 [13] _) (λa=>absurd (a ▸ o.O.lt) (yQ _)) (by decide) (λx d=>gl _ _ (by simp at d;first|(simp;done)|(simp;omega))) (by decide) (by decide)).mono ?_;rintro a Z ⟨rfl,A,a6⟩;rw[<-hU] at A;have q:=hD A;have R:=hD (Q.O.trans (((aa.refl (λb=>b=c) _).alloc _).trans a6));clear A a6 o Q;go_wp2_with fail;refine(kW false true false false [14] Z.heap.size 1 c 13 (cV [([1],aq true false false true),([2],aq true true false false),([3,4,5,6,7,8,9],aq true true true false),([10],aq false false false true),([11],aq false true false true),([12],aq true true false true),([13],aq false false false false)]) _ (q.O.only ((aa.refl (λ_=>False) _).alloc _) nF) (eB Z .u8 [14] _) (λa=>absurd (a ▸ q.O.lt) (yQ _)) (by decide) (λx d=>gl _ _ (by simp at d;first|(simp;done)|(simp;omega))) (by decide) (by decide)).mono ?_;rintro a W8 ⟨rfl,B,a7⟩;rw[<-hU] at B;have a8:=hD B;have a9:=hD (R.O.trans (((aa.refl (λb=>b=c) _).alloc _).trans a7));clear B a7 q R;go_wp2_with fail;go_ret
 have ad:ac w e:=by rw[<-D.O];exact(aa.refl _ w).alloc _
 exact⟨rfl,a8.O,ad.trans' a9.O λb ab=>.inr (by rw[ab,C.O];exact lR)⟩
def dS(k:Int):Bool:=decide (1<=k/\k<=9\/k=12)
def no(k:Int):Bool:=decide (2<=k/\k<=9\/k=11\/k=12\/k=14)
def ns(k:Int):Bool:=decide (3<=k/\k<=9)
def nu(k:Int):Bool:=decide (k=1\/k=10\/k=11\/k=12)
def rR(k:Int):Bool:=decide (1<=k/\k<=14)
theorem CQ(k:Int):(cV im (.int .u8 k)).getD (aq false false false false)=aq (dS k) (no k) (ns k) (nu k)/\(cV im (.int .u8 k)).isSome=rR k:=by
 by_cases j:1<=k/\k<=14
 rotate_left
 ·have i:cV im (.int .u8 k)=none:=gl _ _ (by simp[im];omega)
  have b:dS k=false:=yd (by omega);have c:no k=false:=yd (by omega);have d:ns k=false:=yd (by omega);have e:nu k=false:=yd (by omega);have g:rR k=false:=yd (by omega);rw[i,b,c,d,e,g];exact⟨rfl,rfl⟩
 have a:k=1\/k=2\/k=3\/k=4\/k=5\/k=6\/k=7\/k=8\/k=9\/k=10\/k=11\/k=12\/k=13\/k=14:=by omega
 rcases a with a|a|a|a|a|a|a|a|a|a|a|a|a|a
 ·subst a
  have:cV im (.int .u8 1)=some (aq true false false true):=eh [] 1 _ ([1],aq true false false true) [([2],aq true true false false),([3,4,5,6,7,8,9],aq true true true false),([10],aq false false false true),([11],aq false true false true),([12],aq true true false true),([13],aq false false false false),([14],aq false true false false)] (by simp) rfl (by simp);rw[this];exact⟨rfl,rfl⟩
 ·subst a
  have:cV im (.int .u8 2)=some (aq true true false false):=eh [([1],aq true false false true)] 2 _ ([2],aq true true false false) [([3,4,5,6,7,8,9],aq true true true false),([10],aq false false false true),([11],aq false true false true),([12],aq true true false true),([13],aq false false false false),([14],aq false true false false)] (by simp) rfl (by simp);rw[this];exact⟨rfl,rfl⟩
 ·subst a
  have:cV im (.int .u8 3)=some (aq true true true false):=eh [([1],aq true false false true),([2],aq true true false false)] 3 _ ([3,4,5,6,7,8,9],aq true true true false) [([10],aq false false false true),([11],aq false true false true),([12],aq true true false true),([13],aq false false false false),([14],aq false true false false)] (by simp) rfl (by simp);rw[this];exact⟨rfl,rfl⟩
 ·subst a
  have:cV im (.int .u8 4)=some (aq true true true false):=eh [([1],aq true false false true),([2],aq true true false false)] 4 _ ([3,4,5,6,7,8,9],aq true true true false) [([10],aq false false false true),([11],aq false true false true),([12],aq true true false true),([13],aq false false false false),([14],aq false true false false)] (by simp) rfl (by simp);rw[this];exact⟨rfl,rfl⟩
 ·subst a
  have:cV im (.int .u8 5)=some (aq true true true false):=eh [([1],aq true false false true),([2],aq true true false false)] 5 _ ([3,4,5,6,7,8,9],aq true true true false) [([10],aq false false false true),([11],aq false true false true),([12],aq true true false true),([13],aq false false false false),([14],aq false true false false)] (by simp) rfl (by simp);rw[this];exact⟨rfl,rfl⟩
 ·subst a
  have:cV im (.int .u8 6)=some (aq true true true false):=eh [([1],aq true false false true),([2],aq true true false false)] 6 _ ([3,4,5,6,7,8,9],aq true true true false) [([10],aq false false false true),([11],aq false true false true),([12],aq true true false true),([13],aq false false false false),([14],aq false true false false)] (by simp) rfl (by simp);rw[this];exact⟨rfl,rfl⟩
 ·subst a
  have:cV im (.int .u8 7)=some (aq true true true false):=eh [([1],aq true false false true),([2],aq true true false false)] 7 _ ([3,4,5,6,7,8,9],aq true true true false) [([10],aq false false false true),([11],aq false true false true),([12],aq true true false true),([13],aq false false false false),([14],aq false true false false)] (by simp) rfl (by simp);rw[this];exact⟨rfl,rfl⟩
 ·subst a
  have:cV im (.int .u8 8)=some (aq true true true false):=eh [([1],aq true false false true),([2],aq true true false false)] 8 _ ([3,4,5,6,7,8,9],aq true true true false) [([10],aq false false false true),([11],aq false true false true),([12],aq true true false true),([13],aq false false false false),([14],aq false true false false)] (by simp) rfl (by simp);rw[this];exact⟨rfl,rfl⟩
 ·subst a
  have:cV im (.int .u8 9)=some (aq true true true false):=eh [([1],aq true false false true),([2],aq true true false false)] 9 _ ([3,4,5,6,7,8,9],aq true true true false) [([10],aq false false false true),([11],aq false true false true),([12],aq true true false true),([13],aq false false false false),([14],aq false true false false)] (by simp) rfl (by simp);rw[this];exact⟨rfl,rfl⟩
 ·subst a
  have:cV im (.int .u8 10)=some (aq false false false true):=eh [([1],aq true false false true),([2],aq true true false false),([3,4,5,6,7,8,9],aq true true true false)] 10 _ ([10],aq false false false true) [([11],aq false true false true),([12],aq true true false true),([13],aq false false false false),([14],aq false true false false)] (by simp) rfl (by simp);rw[this];exact⟨rfl,rfl⟩
 ·subst a
  have:cV im (.int .u8 11)=some (aq false true false true):=eh [([1],aq true false false true),([2],aq true true false false),([3,4,5,6,7,8,9],aq true true true false),([10],aq false false false true)] 11 _ ([11],aq false true false true) [([12],aq true true false true),([13],aq false false false false),([14],aq false true false false)] (by simp) rfl (by simp);rw[this];exact⟨rfl,rfl⟩
 ·subst a
  have:cV im (.int .u8 12)=some (aq true true false true):=eh [([1],aq true false false true),([2],aq true true false false),([3,4,5,6,7,8,9],aq true true true false),([10],aq false false false true),([11],aq false true false true)] 12 _ ([12],aq true true false true) [([13],aq false false false false),([14],aq false true false false)] (by simp) rfl (by simp);rw[this];exact⟨rfl,rfl⟩
 ·subst a
  have:cV im (.int .u8 13)=some (aq false false false false):=eh [([1],aq true false false true),([2],aq true true false false),([3,4,5,6,7,8,9],aq true true true false),([10],aq false false false true),([11],aq false true false true),([12],aq true true false true)] 13 _ ([13],aq false false false false) [([14],aq false true false false)] (by simp) rfl (by simp);rw[this];exact⟨rfl,rfl⟩
 ·subst a
  have:cV im (.int .u8 14)=some (aq false true false false):=eh [([1],aq true false false true),([2],aq true true false false),([3,4,5,6,7,8,9],aq true true true false),([10],aq false false false true),([11],aq false true false true),([12],aq true true false true),([13],aq false false false false)] 14 _ ([14],aq false true false false) [] (by simp) rfl (by simp);rw[this];exact⟨rfl,rfl⟩
def cG(o:bK):Bool:=rR o.k&&(co o.d&&co o.a&&co o.b)&&(dS o.k||o.d==0)&&(no o.k||o.a==0)&&(ns o.k||o.b==0)&&(nu o.k||o.n==0)
theorem vI(g:Nat)(xs:List Int)(c:Nat)(w:World)(d:fT w g .i64 xs)(e:xs.length<=1000):
 Calls Tryz.prog 192 #[.slice (some ⟨g,0,none⟩) xs.length c] w λb w'=>b=.returned (.bool (xs.all co))/\ac w w':=by
 have a:=Ey g xs c w d e;have i:xs.all co= !(xs.any λx=>!co x):=by rw[List.not_any_eq_all_not];simp
 rw[i];have k:=hD a;generalize xs.any (λx=>!co x)=r at*;generalize xs.length=n at*;clear a d e i;go_enter Tryz.func192,Tryz.ntmps192;go_wp2_with fail;refine k.O.mono ?_;rintro b m ⟨rfl,j⟩;have l:=hD j;clear j;go_wp2_with fail;go_ret;exact⟨rfl,l.O⟩
theorem wJ(o:bK)(b5:(Lit.int .u8 o.k).wf=true)(w:World):Calls Tryz.prog 195 #[cR o] w λy w'=>y=.returned (.bool (cG o))/\ac w w':=by
 obtain⟨e,K⟩:=eX (w.alloc (.cells #[.int .u8 o.k,.int .i64 o.d,.int .i64 o.a,.int .i64 o.b,.int .i64 o.n] 106));have b6:ac w e:=by rw[K];exact(aa.refl _ w).alloc _
 have G:ae e w.heap.size 106 #[.int .u8 o.k,.int .i64 o.d,.int .i64 o.a,.int .i64 o.b,.int .i64 o.n]:=by rw[K];exact bN
 obtain⟨g,Z⟩:=eX w.heap.size;rw[<-Z] at G;obtain⟨a1,a2⟩:=CQ o.k;obtain⟨v,a0⟩ :∃b,b=rR o.k:=⟨_,rfl⟩
 obtain⟨d,Y⟩ :∃b,b=dS o.k:=⟨_,rfl⟩
 obtain⟨a,V⟩ :∃b,b=no o.k:=⟨_,rfl⟩
 obtain⟨b,X⟩:=eX (ns o.k);obtain⟨n,a3⟩ :∃b,b=nu o.k:=⟨_,rfl⟩
 rw[<-Y,<-V,<-X,<-a3] at a1;rw[<-a0] at a2;obtain⟨r,a4⟩:=eX ((co o.d&&co o.a&&co o.b));obtain⟨b8,a5⟩ :∃x,x=(o.d==0):=⟨_,rfl⟩
 obtain⟨a9,a6⟩ :∃x,x=(o.a==0):=⟨_,rfl⟩
 obtain⟨E,a7⟩ :∃x,x=(o.b==0):=⟨_,rfl⟩
 obtain⟨t,a8⟩ :∃x,x=(o.n==0):=⟨_,rfl⟩
 have b4:cG o=(v&&r&&(d||b8)&&(a||a9)&&(b||E)&&(n||t)):=by unfold cG;rw[a0,a4,Y,V,X,a3,a5,a6,a7,a8]
 rw[b4];have bb:=hD (aI a5.symm (aI a6.symm (aI a7.symm a8.symm)));clear a5 a6 a7 a8
 have A:Hd (∀W j,aS Tryz.prog W 5 j (cV im) 14->∀k,(Instr.lookup 329 (.map (some j)) (.int .u8 o.k) true).run Tryz.prog (W.drewN k)=.ok (.tuple #[aq d a b n,.bool v]) (W.drewN k)):=hD λW j i k=>by
  have:=(i.heap (w':=W.drewN k) rfl).look2 wO Tryz.underlying329 (z:=aq false false false false) (by kernel_rfl) (Maps.keyOf_int_mk Tryz.underlying5 b5);rw[a1,a2] at this;exact this
 have aw:Hd (∀W H,fT W H .i64 [o.d,o.a,o.b]->Calls Tryz.prog 192 #[.slice (some ⟨H,0,none⟩) 3 3] W λy w'=>y=.returned (.bool r)/\ac W w'):=hD λW H bf=>by
  have:=vI H [o.d,o.a,o.b] 3 W bf (by simp);rw[show [o.d,o.a,o.b].all co=r by rw[a4];simp[Bool.and_assoc]] at this;exact this
 have al:=hD G;have av:=hD b6;have ba:=hD Z;have az:=hD K.symm;have Q:=hD Ew;have m:Hd (∀W,ac e W->ac e W/\W.cell? ⟨g,0,none⟩=some (.int .u8 o.k)):=hD λW b2=>⟨b2,(b2.J G nF).I 0⟩
 clear G b6 Z K a1 a2 a0 Y V X a3 a4 b4 b5;unfold cR;go_enter Tryz.func195,Tryz.ntmps195;go_upto_region 1 with fail;rw[az.O,<-ba.O];clear az
 go_cut [3,4] (λs3 s4 wx=>s4=.bool v/\∃T:Nat,s3=.pointer (some ⟨T,0,none⟩)/\ae wx T 327 #[.bool d,.bool a,.bool b,.bool n]/\ac e wx)
 case first=>
  have c8:=m.O e oR;have b9:Hd (ae (e.alloc (.cells #[.bool false,.bool false,.bool false,.bool false] 327)) e.heap.size 327 #[.bool false,.bool false,.bool false,.bool false]):=hD (ae.new e _ _);have R:Hd (ac e (e.alloc (.cells #[.bool false,.bool false,.bool false,.bool false] 327))):=hD (oR.alloc _);have ar:Hd (∀W j,aS Tryz.prog W 5 j (cV im) 14->(∀k,(Instr.lookup 329 (.map (some j)) (.int .u8 o.k) true).run Tryz.prog (W.drewN k)=.ok (.tuple #[.agg #[.bool d,.bool a,.bool b,.bool n],.bool v]) (W.drewN k))/\(Instr.lookup 329 (.map (some j)) (.int .u8 o.k) true).run Tryz.prog W=.ok (.tuple #[.agg #[.bool d,.bool a,.bool b,.bool n],.bool v]) W/\(Instr.lookup 329 (.map (some j)) (.int .u8 o.k) true).run Tryz.prog W.drew=.ok (.tuple #[.agg #[.bool d,.bool a,.bool b,.bool n],.bool v]) W.drew/\∀P,(Instr.lookup 329 (.map (some j)) (.int .u8 o.k) true).run Tryz.prog (W.alloc P)=.ok (.tuple #[.agg #[.bool d,.bool a,.bool b,.bool n],.bool v]) (W.alloc P)):=hD λW j i=>⟨A.O W j i,A.O W j i 0,A.O W j i 1,λP=>A.O (W.alloc P) j (i.only ((aa.refl (λ_=>False) _).alloc _) nF) 0⟩
  go_region_held3 (λw'=>ac e w'/\w'.cell? ⟨g,0,none⟩=some (.int .u8 o.k))
   (first|with_reducible exact m.O _ u.O|with_reducible exact m.O _ (aa.alloc u.O _)|with_reducible exact m.O _ R.O|with_reducible exact m.O _ (aa.drew R.O)|with_reducible exact m.O _ (aa.drew oR)|with_reducible exact m.O _ oR|with_reducible exact m.O _ (aa.drew u.O)|(with_reducible refine m.O _ ?_;with_reducible refine aa.setCell ?_ (Or.inr (lR)) _;repeat (first|with_reducible exact u.O|with_reducible refine aa.setCell ?_ (Or.inr (lR)) _))|(trace_state;fail))
   (first
    |(go_at_call 220;refine(Q.O e.drew).mono ?_;rintro y l ⟨rfl,i,q⟩;have u:Hd (ac e l):=hD (aa.trans (aa.drew oR) q);(simp only[World.size_drew] at i);obtain⟨bk,bm,bn,bo⟩:=ar.O _ _ i;have c1:=hD i;clear i q)
    |(go_at_call 220;refine(Q.O (e.alloc (.cells #[.bool false,.bool false,.bool false,.bool false] 327)).drew).mono ?_;rintro y l ⟨rfl,i,q⟩;have u:Hd (ac e l):=hD (aa.trans (aa.drew R.O) q);have s:=hD (q.J b9.O nF);(simp only[World.size_drew,World.size_alloc] at i);obtain⟨bk,bm,bn,bo⟩:=ar.O _ _ i;have c3:l.cell? ⟨e.heap.size,0,none⟩=some (.bool false):=s.O.I 0;have aE:l.cell? ⟨e.heap.size,1,none⟩=some (.bool false):=s.O.I 1;have b0:l.cell? ⟨e.heap.size,2,none⟩=some (.bool false):=s.O.I 2;have b1:l.cell? ⟨e.heap.size,3,none⟩=some (.bool false):=s.O.I 3;have c4:l.frozen? ⟨e.heap.size,0,none⟩=false:=s.O.fz 0;have c5:l.frozen? ⟨e.heap.size,1,none⟩=false:=s.O.fz 1;have c6:l.frozen? ⟨e.heap.size,2,none⟩=false:=s.O.fz 2;have c7:l.frozen? ⟨e.heap.size,3,none⟩=false:=s.O.fz 3;clear i q)
    |fail)
  ·go_wp2_with fail
   go_meet
   case rel=>exact⟨rfl,l.heap.size,rfl,bN,u.O.alloc _⟩
  ·go_wp2_with fail
   go_meet
   case rel=>exact⟨rfl,l.heap.size,rfl,bN,u.O.alloc _⟩
  ·go_wp2_with fail
   go_meet
   case rel=>exact⟨rfl,e.heap.size,rfl,(((s.O.s_ 0 _).s_ 1 _).s_ 2 _).s_ 3 _,((((u.O).setCell (p:=⟨e.heap.size,0,none⟩) (.inr (lR)) _).setCell (p:=⟨e.heap.size,1,none⟩) (.inr (lR)) _).setCell (p:=⟨e.heap.size,2,none⟩) (.inr (lR)) _).setCell (p:=⟨e.heap.size,3,none⟩) (.inr (lR)) _⟩
 case rest=>
  obtain⟨rfl,T,rfl,b3,q⟩:=hcut;have B:=q.J al.O nF;obtain⟨aE,b0,b1,bc⟩:=bb.O;have S:Hd (ac w wc):=hD (av.O.trans q);have ab:=B.I 1;have ad:=B.I 2;have ai:=B.I 3;simp at ab ad ai;have an:=hD b3;have am:=hD B;clear B b3 q al av A m Q
  cases v
  ·have c:=S
   clear ab ad ai aE b0 b1 bc;go_wp2_with fail;go_ret;exact⟨rfl,c.O⟩
  ·go_wp2_with fail
   refine(aw.O _ _ (eB wc .i64 [o.d,o.a,o.b] _)).mono ?_;rintro y c2 ⟨rfl,b7⟩;have N:=((aa.refl (λ_=>False) wc).alloc (.cells #[.int .i64 o.d,.int .i64 o.a,.int .i64 o.b] 3)).trans b7;have c:=hD (S.O.trans N);have C:=N.J am.O nF;have D:=N.J an.O nF;have bv:=C.I 1;have bx:=C.I 2;have bz:=C.I 3;have c0:=C.I 4;have bp:=D.I 0;have bq:=D.I 1;have br:=D.I 2;have bt:=D.I 3;simp at bv bx bz c0 bp bq br bt;clear b7 N C D ab ad ai aw an am S
   cases r
   ·go_wp2_with fail
    go_ret;exact⟨rfl,c.O⟩
   ·cases d
    ·cases b8
     ·go_wp2_with fail
      go_ret;exact⟨rfl,c.O⟩
     ·cases a
      ·cases a9
       ·go_wp2_with fail
        go_ret;exact⟨rfl,c.O⟩
       ·cases b
        ·cases E
         ·go_wp2_with fail
          go_ret;exact⟨rfl,c.O⟩
         ·cases n
          ·cases t
           ·go_wp2_with fail
            go_ret;exact⟨rfl,c.O⟩
           ·go_wp2_with fail
            go_ret;exact⟨rfl,c.O⟩
          ·go_wp2_with fail
           go_ret;exact⟨rfl,c.O⟩
        ·cases n
         ·cases t
          ·go_wp2_with fail
           go_ret;exact⟨rfl,c.O⟩
          ·go_wp2_with fail
           go_ret;exact⟨rfl,c.O⟩
         ·go_wp2_with fail
          go_ret;exact⟨rfl,c.O⟩
      ·cases b
       ·cases E
        ·go_wp2_with fail
         go_ret;exact⟨rfl,c.O⟩
        ·cases n
         ·cases t
          ·go_wp2_with fail
           go_ret;exact⟨rfl,c.O⟩
          ·go_wp2_with fail
           go_ret;exact⟨rfl,c.O⟩
         ·go_wp2_with fail
          go_ret;exact⟨rfl,c.O⟩
       ·cases n
        ·cases t
         ·go_wp2_with fail
          go_ret;exact⟨rfl,c.O⟩
         ·go_wp2_with fail
          go_ret;exact⟨rfl,c.O⟩
        ·go_wp2_with fail
         go_ret;exact⟨rfl,c.O⟩
    ·cases a
     ·cases a9
      ·go_wp2_with fail
       go_ret;exact⟨rfl,c.O⟩
      ·cases b
       ·cases E
        ·go_wp2_with fail
         go_ret;exact⟨rfl,c.O⟩
        ·cases n
         ·cases t
          ·go_wp2_with fail
           go_ret;exact⟨rfl,c.O⟩
          ·go_wp2_with fail
           go_ret;exact⟨rfl,c.O⟩
         ·go_wp2_with fail
          go_ret;exact⟨rfl,c.O⟩
       ·cases n
        ·cases t
         ·go_wp2_with fail
          go_ret;exact⟨rfl,c.O⟩
         ·go_wp2_with fail
          go_ret;exact⟨rfl,c.O⟩
        ·go_wp2_with fail
         go_ret;exact⟨rfl,c.O⟩
     ·cases b
      ·cases E
       ·go_wp2_with fail
        go_ret;exact⟨rfl,c.O⟩
       ·cases n
        ·cases t
         ·go_wp2_with fail
          go_ret;exact⟨rfl,c.O⟩
         ·go_wp2_with fail
          go_ret;exact⟨rfl,c.O⟩
        ·go_wp2_with fail
         go_ret;exact⟨rfl,c.O⟩
      ·cases n
       ·cases t
        ·go_wp2_with fail
         go_ret;exact⟨rfl,c.O⟩
        ·go_wp2_with fail
         go_ret;exact⟨rfl,c.O⟩
       ·go_wp2_with fail
        go_ret;exact⟨rfl,c.O⟩
theorem dA.at_{w:World}{F:Nat->Prop}{A:Option Addr}{d:List bK}(e:dA w F A d){k:Nat}{x:bK}(c:d[k]?=some x):∃b o,A=some ⟨b,o,none⟩/\∀(j:Nat) (v:Value),(eR x)[j]?=some v->w.cell? ⟨b,o+k*5+j,none⟩=some v:=by
 rcases e with⟨_,a⟩|⟨b,o,g,a⟩
 ·rw[a] at c;simp at c
 ·exact⟨b,o,g,(a k x c).2.2⟩
theorem cW.at_{w:World}{F:Nat->Prop}{A:Option Addr}{p:List ah}(e:cW w F A p){i:Nat}{x:ah}(d:p[i]?=some x):∃b o B c,A=some ⟨b,o,none⟩/\w.cell? ⟨b,o+i*3,none⟩=some (.int .i64 x.args)/\w.cell? ⟨b,o+i*3+1,none⟩=some (.int .i64 x.rg)/\w.cell? ⟨b,o+i*3+2,none⟩=some (.slice B x.ops.length c)/\dA w F B x.ops:=by
 rcases e with⟨_,a⟩|⟨b,o,g,a⟩
 ·rw[a] at d;simp at d
 ·obtain⟨_,_,j,k,B,c,l,m⟩:=a i x d
  exact⟨b,o,B,c,g,j,k,l,m⟩
theorem dA.U{w w':World}{F:Nat->Prop}{A:Option Addr}{a:List bK}(b:dA w F A a)(c:ac w w'):dA w' F A a:=b.kp c nG
theorem cW.U{w w':World}{F:Nat->Prop}{A:Option Addr}{p:List ah}(a:cW w F A p)(b:ac w w'):cW w' F A p:=a.kp b nG
def eF{α:Type}(pr:α->Bool):List α->Nat->Int
 | [],_=>-1
 |a :: l,k=>if pr a=true then(k:Int) else eF pr l (k+1)
theorem ma{α:Type}(c:α->Bool):∀(l:List α) (k:Nat),decide ((0:Int)<=eF c l k)=l.any c
 | [],k=>by simp[eF]
 |a :: l,k=>by
  unfold eF
  by_cases b:c a=true
  ·rw[yf b]
   simp[b]
  ·rw[yb b,ma c l (k+1)]
   simp[b]
def jz(o:bK):Prop:=(Lit.int .u8 o.k).wf=true
theorem C9(o:bK)(l:jz o)(w:World):Calls Tryz.prog 194 #[cR o] w λj w'=>j=.returned (.bool (!cG o))/\ac w w':=by
 obtain⟨g,c⟩:=eX (w.alloc (.cells #[.int .u8 o.k,.int .i64 o.d,.int .i64 o.a,.int .i64 o.b,.int .i64 o.n] 106));have e:=hD (wJ o l);have q:ac w g:=by rw[c];exact(aa.refl _ w).alloc _
 have s:=hD q;have t:=hD c.symm;have i:ae g w.heap.size 106 #[.int .u8 o.k,.int .i64 o.d,.int .i64 o.a,.int .i64 o.b,.int .i64 o.n]:=by rw[c];exact bN
 generalize cG o=r at*;obtain⟨v,x,y,z,A⟩:=i.gE5;clear l c q i;unfold cR at e ⊢;go_enter Tryz.func194,Tryz.ntmps194;go_upto_region 1 with fail;rw[t.O];go_wp2_with fail;refine(e.O _).mono ?_;rintro j B ⟨rfl,m⟩;have u:=hD (s.O.trans m);clear m v x y z A;go_wp2_with fail;go_ret;exact⟨rfl,u.O⟩
theorem Ez(A:Option Addr)(xs:List bK)(c:Nat)(w:World)(F:Nat->Prop)(K:dA w F A xs)(z:xs.length<=1000)(P:∀x∈xs,jz x):
 Calls Tryz.prog 219 #[.slice A xs.length c,.func (.func 194) #[] #[]] w λj w'=>j=.returned (.int .i64 (eF (λo=>!cG o) xs 0))/\ac w w':=by
 obtain⟨r,D⟩:=eX (eF (λo=>!cG o) xs 0);rw[<-D];have W:=hD D;have T:=hD K;have X:=hD P;obtain⟨n,C⟩:=eX xs.length;rw[<-C] at z ⊢;have E:=hD C;have V:=hD z;clear D K C z P;go_enter Tryz.func219,Tryz.ntmps219;go_wp2_with fail
 go_loopw [8] (λi wr=>∃k:Nat,k<=n/\i=.int .i64 k/\eF (λo=>!cG o) (xs.drop k) k=r/\ac w wr) (λi _=>n-(intOf i).toNat)
 case atStart=>exact⟨0,yx _,rfl,W.O.symm,oR⟩
 case round=>
  obtain⟨k,a0,rfl,g,q⟩:=hrel
  by_cases e:k<n
  ·have a3:(0:Int)<=(k:Int):=dK k
   have Z:(k:Int)<(n:Int):=cO e;have B:k<xs.length:=by rw[<-E.O];exact e
   have N:xs[k]?=some xs[k]:=gG B;have Q:=X.O xs[k] (yN B);rw[yM B] at g;unfold eF at g;generalize xs[k] =y at*
   (obtain⟨b,o,Y,l⟩:=(T.O.U q).at_ N;subst Y;have a1:=l 0 _ rfl;have a4:=l 1 _ rfl;have a5:=l 2 _ rfl;have a6:=l 3 _ rfl;have a7:=l 4 _ rfl;(rw[yW] at a1);clear l)
   obtain⟨H,v⟩:=eX ((λo=>!cG o) y:Bool);have s:(if H=true then(k:Int) else eF (λo=>!cG o) (xs.drop (k+1)) (k+1))=r:=by rw[v];exact g
   have t:=(show Hd (Calls Tryz.prog 194 (#[.agg #[.int .u8 y.k,.int .i64 y.d,.int .i64 y.a,.int .i64 y.b,.int .i64 y.n]]) wr λj w'=>j=.returned (.bool ((λo=>!cG o) y))/\ac wr w') from hD (C9 y Q wr))
   rw[<-v] at t;have R:wrap64 ((k:Int)+1)=(k:Int)+1:=cX e V.O;have u:=hD q;clear g q v N Q;go_wp2_with fail;refine t.O.mono ?_;rintro j a2 ⟨rfl,S⟩;have G:=hD (u.O.trans S);clear S t
   cases H
   ·have m:Hd (eF (λo=>!cG o) (xs.drop (k+1)) (k+1)=r):=hD s
    clear s;go_wp2_with fail;go_roundw
    case rel=>exact⟨k+1,e,by first|exact cK k|exact cH R,m.O,G.O⟩
    case measure=>first|exact aB rfl e|exact aB R e
   ·have m:Hd ((k:Int)=r):=hD s
    clear s;go_wp2_with fail;go_ret;exact⟨by rw[<-m.O];rfl,G.O⟩
  ·have Z:¬(k:Int)<(n:Int):=λj=>e (yB.1 j)
   have:k=n:=yT a0 (yA e);subst this;rw[E.O,zq] at g;have m:=hD g;have u:=hD q;clear g q;go_wp2_with fail;go_ret;exact⟨by rw[<-m.O];rfl,u.O⟩
theorem Ex(A:Option Addr)(xs:List bK)(c:Nat)(w:World)(F:Nat->Prop)(b:dA w F A xs)(d:xs.length<=1000)(e:∀x∈xs,jz x):
 Calls Tryz.prog 193 #[.slice A xs.length c,.func (.func 194) #[] #[]] w λa w'=>a=.returned (.bool (xs.any (λo=>!cG o)))/\ac w w':=by
 have i:=hD (Ez A xs c w F b d e);rw[<-ma _ xs 0];generalize eF (λo=>!cG o) xs 0=r at*;generalize xs.length=n at*;clear b d e;go_enter Tryz.func193,Tryz.ntmps193;go_wp2_with fail;refine i.O.mono ?_;rintro a k ⟨rfl,g⟩;have j:=hD g;clear g;go_wp2_with fail;go_ret;exact⟨rfl,j.O⟩
def gi(x:ah):Bool:=!(co x.args&&co x.rg)||decide (64<x.ops.length)||x.ops.any (λo=>!cG o)
def lI(x:ah):Prop:=x.ops.length<=1000/\∀o∈x.ops,jz o
def sq(x:ah)(B:Option Addr)(c:Nat):Value:=.agg #[.int .i64 x.args,.int .i64 x.rg,.slice B x.ops.length c]
theorem Da(x:ah)(B:Option Addr)(c:Nat)(F:Nat->Prop)(w:World)(E:dA w F B x.ops)(y:lI x):Calls Tryz.prog 191 #[sq x B c] w λb w'=>b=.returned (.bool (gi x))/\ac w w':=by
 obtain⟨a,n⟩:=eX x.ops.length;obtain⟨i,m⟩:=eX (w.alloc (.cells #[.int .i64 x.args,.int .i64 x.rg,.slice B a c] 99));have K:ac w i:=by rw[m];exact(aa.refl _ w).alloc _
 have j:ae i w.heap.size 99 #[.int .i64 x.args,.int .i64 x.rg,.slice B a c]:=by rw[m];exact bN
 obtain⟨g,t⟩:=eX w.heap.size;rw[<-t] at j;obtain⟨r,v⟩:=eX ((co x.args&&co x.rg));obtain⟨q,u⟩:=eX (x.ops.any (λo=>!cG o));have H:gi x=(!r||decide (64<a)||q):=by unfold gi;rw[v,u,n]
 rw[H]
 have C:Hd (∀W k,fT W k .i64 [x.args,x.rg]->Calls Tryz.prog 192 #[.slice (some ⟨k,0,none⟩) 2 2] W λb w'=>b=.returned (.bool r)/\ac W w'):=hD λW k X=>by
  have:=vI k [x.args,x.rg] 2 W X (by simp);rw[show [x.args,x.rg].all co=r by rw[v];simp] at this;exact this
 have T:Hd (∀W,ac w W->Calls Tryz.prog 193 #[.slice B a c,.func (.func 194) #[] #[]] W λb w'=>b=.returned (.bool q)/\ac W w'):=hD λW Y=>by
  have:=Ex B x.ops c W F (E.U Y) y.1 y.2;rw[<-n,<-u] at this;exact this
 have A:=hD j;have S:=hD K;have R:=hD t;have D:=hD m.symm;obtain⟨a0,a1,a2⟩:=j.gE3;unfold sq;rw[<-n];clear E y n m K j t v u H;go_enter Tryz.func191,Tryz.ntmps191;go_upto_region 1 with fail;rw[D.O,<-R.O];clear D;go_wp2_with fail;refine(C.O _ _ (eB i .i64 [x.args,x.rg] _)).mono ?_;rintro b a3 ⟨rfl,N⟩;have z:=((aa.refl (λ_=>False) i).alloc (.cells #[.int .i64 x.args,.int .i64 x.rg] 3)).trans N;have e:=hD (S.O.trans z);have G:=z.J A.O nF;have Q:=G.I 2;simp at Q;clear N z G a0 a1 a2 C A
 cases r
 ·go_wp2_with fail
  go_ret;exact⟨rfl,e.O⟩
 ·by_cases l:64<a
  ·have Z:decide ((64:Int)<(a:Int))=true:=yg (by omega)
   have d:decide (64<a)=true:=yg l;have s:=hD d;clear l d;go_wp2_with fail;go_ret;exact⟨by rw[s.O];rfl,e.O⟩
  ·have Z:decide ((64:Int)<(a:Int))=false:=yd (by omega)
   have d:decide (64<a)=false:=yd l;have s:=hD d;clear l d;go_wp2_with fail;refine(T.O _ e.O).mono ?_;rintro b a4 ⟨rfl,P⟩;have V:=hD (e.O.trans P);clear P Q;go_wp2_with fail;go_ret;exact⟨by rw[s.O];rfl,V.O⟩
theorem CW(A:Option Addr)(xs:List ah)(c:Nat)(w:World)(F:Nat->Prop)(G:cW w F A xs)(t:xs.length<=1000)(K:∀x∈xs,lI x):
 Calls Tryz.prog 221 #[.slice A xs.length c,.func (.func 191) #[] #[]] w λe w'=>e=.returned (.int .i64 (eF (gi) xs 0))/\ac w w':=by
 obtain⟨r,z⟩:=eX (eF (gi) xs 0);rw[<-z];have T:=hD z;have R:=hD G;have V:=hD K;obtain⟨n,v⟩:=eX xs.length;rw[<-v] at t ⊢;have C:=hD v;have S:=hD t;clear z G v t K;go_enter Tryz.func221,Tryz.ntmps221;go_wp2_with fail
 go_loopw [8] (λi wr=>∃k:Nat,k<=n/\i=.int .i64 k/\eF (gi) (xs.drop k) k=r/\ac w wr) (λi _=>n-(intOf i).toNat)
 case atStart=>exact⟨0,yx _,rfl,T.O.symm,oR⟩
 case round=>
  obtain⟨k,Z,rfl,d,j⟩:=hrel
  by_cases a:k<n
  ·have a1:(0:Int)<=(k:Int):=dK k
   have Y:(k:Int)<(n:Int):=cO a;have u:k<xs.length:=by rw[<-C.O];exact a
   have H:xs[k]?=some xs[k]:=gG u;have N:=V.O xs[k] (yN u);rw[yM u] at d;unfold eF at d;generalize xs[k] =y at*
   (obtain⟨b,o,B,c',W,a2,a3,a4,X⟩:=(R.O.U j).at_ H;subst W)
   obtain⟨E,s⟩:=eX ((gi) y:Bool);have l:(if E=true then(k:Int) else eF (gi) (xs.drop (k+1)) (k+1))=r:=by rw[s];exact d
   have m:=(show Hd (Calls Tryz.prog 191 (#[.agg #[.int .i64 y.args,.int .i64 y.rg,.slice B y.ops.length c']]) wr λe w'=>e=.returned (.bool ((gi) y))/\ac wr w') from hD (Da y B c' F wr X N))
   rw[<-s] at m;have P:wrap64 ((k:Int)+1)=(k:Int)+1:=cX a S.O;have q:=hD j;clear d j s H N;go_wp2_with fail;refine m.O.mono ?_;rintro e a0 ⟨rfl,Q⟩;have D:=hD (q.O.trans Q);clear Q m
   cases E
   ·have g:Hd (eF (gi) (xs.drop (k+1)) (k+1)=r):=hD l
    clear l;go_wp2_with fail;go_roundw
    case rel=>exact⟨k+1,a,by first|exact cK k|exact cH P,g.O,D.O⟩
    case measure=>first|exact aB rfl a|exact aB P a
   ·have g:Hd ((k:Int)=r):=hD l
    clear l;go_wp2_with fail;go_ret;exact⟨by rw[<-g.O];rfl,D.O⟩
  ·have Y:¬(k:Int)<(n:Int):=λe=>a (yB.1 e)
   have:k=n:=yT Z (yA a);subst this;rw[C.O,zq] at d;have g:=hD d;have q:=hD j;clear d j;go_wp2_with fail;go_ret;exact⟨by rw[<-g.O];rfl,q.O⟩
theorem CR(A:Option Addr)(xs:List ah)(c:Nat)(w:World)(F:Nat->Prop)(b:cW w F A xs)(d:xs.length<=1000)(e:∀x∈xs,lI x):
 Calls Tryz.prog 196 #[.slice A xs.length c,.func (.func 191) #[] #[]] w λa w'=>a=.returned (.bool (xs.any (gi)))/\ac w w':=by
 have i:=hD (CW A xs c w F b d e);rw[<-ma _ xs 0];generalize eF (gi) xs 0=r at*;generalize xs.length=n at*;clear b d e;go_enter Tryz.func196,Tryz.ntmps196;go_wp2_with fail;refine i.O.mono ?_;rintro a k ⟨rfl,g⟩;have j:=hD g;clear g;go_wp2_with fail;go_ret;exact⟨rfl,j.O⟩
def iq(p:List ah):Bool:=decide (p.length<=16)&& !(p.any gi)
def aM(p:List ah)(A:Option Addr)(c:Nat):Value:=.agg #[.slice A p.length c]
theorem Cv(p:List ah)(A:Option Addr)(c:Nat)(F:Nat->Prop)(w:World)(y:cW w F A p)(B:p.length<=1000)(C:∀x∈p,lI x):Calls Tryz.prog 149 #[aM p A c] w λd w'=>d=.returned (.bool (iq p))/\ac w w':=by
 obtain⟨n,j⟩:=eX p.length;obtain⟨a,i⟩:=eX (w.alloc (.cells #[.slice A n c] 24));have m:ac w a:=by rw[i];exact(aa.refl _ w).alloc _
 have v:ae a w.heap.size 24 #[.slice A n c]:=by rw[i];exact bN
 have o:=v.I 0;simp at o;obtain⟨g,k⟩:=eX w.heap.size;rw[<-k] at o;obtain⟨q,l⟩:=eX (p.any gi);have z:iq p=(decide (n<=16)&& !q):=by unfold iq;rw[j,l]
 rw[z]
 have r:Hd (Calls Tryz.prog 196 #[.slice A n c,.func (.func 191) #[] #[]] a λd w'=>d=.returned (.bool q)/\ac a w'):=hD (by
  have:=CR A p c a F (y.U m) B C;rw[<-j,<-l] at this;exact this)
 have t:=hD m;have s:=hD k;have u:=hD i.symm;unfold aM;rw[<-j];clear y B C j i m v k l z
 by_cases e:n<=16
 ·have G:decide ((n:Int)<=16)=true:=yg (by omega)
  have b:decide (n<=16)=true:=yg e;rw[b];clear e b;go_enter Tryz.func149,Tryz.ntmps149;go_upto_region 1 with fail;rw[u.O,<-s.O];go_wp2_with fail;refine r.O.mono ?_;rintro d H ⟨rfl,D⟩;have E:=hD (t.O.trans D);clear D o r;go_wp2_with fail;go_ret;exact⟨by simp,E.O⟩
 ·have G:decide ((n:Int)<=16)=false:=yd (by omega)
  have b:decide (n<=16)=false:=yd e;rw[b];clear e b;go_enter Tryz.func149,Tryz.ntmps149;go_upto_region 1 with fail;rw[u.O,<-s.O];go_wp2_with fail;go_ret;exact⟨rfl,t.O⟩
end
end Go.Proofs.YtmdocplknceilaaGreat
