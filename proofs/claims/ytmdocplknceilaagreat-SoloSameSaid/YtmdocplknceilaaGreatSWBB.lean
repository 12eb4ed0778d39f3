import Derived.Test.YtmdocplknceilaaGreatSWBA
import Derived.Test.YtmdocplknceilaaGreatSWAD
set_option linter.all false
set_option maxRecDepth 100000
set_option maxHeartbeats 8000000
namespace Go.Proofs.YtmdocplknceilaaGreat
section
open Go.RowKit Go.Maps
theorem Cq:∃i z,Tryz.prog.info? 69=some i/\i.zero=some z/\i.size=5/\i.bytes=48/\z.cells.size=5:=by
 have a:(Tryz.prog.info? 69).map (λi=>(i.zero.map λz=>z.cells.size,i.size,i.bytes))=some (some 5,5,48):=by kernel_rfl
 cases hi:Tryz.prog.info? 69 with
 |none=>rw[hi] at a;cases a
 |some i=>
  rw[hi] at a;simp only[yU,yC,yP] at a
  cases hz:i.zero with
  |none=>rw[hz] at a;cases a.1
  |some z=>
   rw[hz] at a;exact⟨i,z,rfl,hz,a.2.1,a.2.2,yz a.1⟩
theorem sY{P:Program}{o:Oper}{a:Act}{w w':World}{b:Act->World->Prop}{Q:Exit->Act->World->Prop}(s x:Operand)(t:TypeId)(g:o.op=.call {callee:=.builtin .append,args:=#[s,x],argTypes:=#[t,t]}){c e d:Value}(j:a.eval s=c)(k:a.eval x=e)
 (i:(Builtin.append_ #[t,t] o.type #[c,e]).run P w=.ok d w') (f:b (a.put o.dst d) w'):o.wp P a w b Q:=by
 unfold Oper.wp execOp;simp only[g,resolve,invoke,builtin,Sem.run_bind,Sem.run_pure,Result.andThen_ok,List.map_toArray,zc,Yk,j,k,i];exact f
theorem qe{W:World}{q:Nat}(f:TypeId)(v1:Value)(l:List (Nm×Nat×aO))(u:Nm×Nat×aO)(g:W.ownsRow 0 69 5 v1 l.length (l.flatMap fy))(a:ae W q 69 (fy u).toArray)(D:l.length<=1000000):
 ∃d w',(Builtin.append_ #[52,52] f #[v1,.slice (some ⟨q,0,none⟩) 1 1]).run Tryz.prog W=.ok d w'/\w'.ownsRow 0 69 5 d (l++ [u]).length ((l++ [u]).flatMap fy)/\aa (λb=>v1.ownBlock=some b) W w'/\(∀b,d.ownBlock=some b->v1.ownBlock=some b\/W.heap.size<=b):=by
 obtain⟨i,z,p,v,t,o,x⟩:=Cq;obtain⟨d,w',m,A,B,C⟩:=ly (P:=Tryz.prog) W 0 52 f 69 i z 5 48 Tryz.underlying52 p v t o x (by decide) v1 l.length (l.flatMap fy) g W.heap.size (some ⟨q,0,none⟩) 1 1 (fy u) ⟨rfl,λ_=>⟨⟨q,0,none⟩,rfl,a.lt,λj y e=>by rw[bE,yq,a.I,zi];exact e⟩⟩ (λy e=>by simp[fy] at e;rcases e with rfl|rfl|rfl|rfl|rfl<;>rfl) (by unfold maxLen;omega) (by omega) (yx _);refine⟨d,w',m,?_,(aa.refl _ W).grown B (λk c=>.inl c),λb a=>?_⟩
 ·rw[yk,zL]
  simpa using A
 ·rcases C with c|c
  ·exact .inl (by rw[<-c];exact a)
  ·rw[c] at a
   exact .inr (zl (yz a))
def B6(w wx:World)(tag:Nat->Nat)(L3:cj)(s:PS)(n:Nm)(kn:Nat)(y:aO)(gn g5 tp:Nat)(cn cs:Array Value):Prop:=
 ∃tag4 dv,aR wx tag4 {L3 with dv:=dv,dn:=L3.dn++ [(n,kn,y)]} s/\aK w wx tag tag4/\ae wx gn 58 cn/\ae wx g5 181 cs/\(tag4 gn=0/\tag4 g5=0)/\tag4 tp=15
def B9(w W7 wx:World)(tag:Nat->Nat)(L:cj)(rows:Nm->Option aC)(cnt:Nat)(m:Nm)(b:Bool)(s15 s16:Value):Prop:=
 ∃gu,s15=.pointer (some ⟨gu,0,none⟩)/\s16=.bool b/\w.heap.size<=gu/\ae wx gu 58 #[.int .u64 m.job,.string (sB m.M)]/\bD wx (λb=>tag b=2) L.tb L.mb L.most rows cnt L.rp/\aa (λb=>tag b=2) W7 wx
section
variable {G:cG}{w w':World}{tag tag':Nat->Nat}{L L':cj}{s s':PS}{n:Nm}{r:aC}
attribute [local simp] dZ fR fK cU dT Region.binds dI dL Is ao Act.put
theorem uS{k tp:Nat}{th:Th}{p:List aj}{f:Fr}{y:aO}(N:fP G w tag L s k tp th r p f)(c6:(f.run1 p).2=.done y)(h5:jN L s):
 Calls Tryz.prog 46 #[ptr L.pb,ptr tp] w λa w'=>a=.returned (.tuple #[])/\cl w w' tag L s (eA s k) 4:=by
 have fw:=hD h5;have jl:Hd ((f.run1 p).1.kd.length=r.kn):=hD (by rw[(N.step.done y c6).2.1];exact N.hfi.kd);have m0:=hD (N.step.done y c6);clear h5;have D:=N.h;obtain⟨hI,d,av,fv,l3,dl,l5,l6,hQ,l7⟩:=D.thW N.htp N.hk;obtain⟨q,d5⟩:=eX (L.fp th.cur);have hi:=hQ N.hrun;rw[<-d5] at hi;subst hi;have ic:=dl.I 3;have ie:=dl.I 4;simp[dj] at ic ie;obtain⟨ck,cB⟩:=eX (w.alloc (.cells #[.int .u64 th.cur.job,.string (sB th.cur.M)] 58));have dw:ac w ck:=by rw[cB];exact(aa.refl _ w).alloc _
 obtain⟨X,d2⟩:=eX w.heap.size;have gs:ae ck X 58 #[.int .u64 th.cur.job,.string (sB th.cur.M)]:=by rw[cB,d2];exact bN
 have P:=D.U dw;obtain⟨ei,cp⟩:=P.p16 th.cur f N.hf (by simp);rw[N.hpr,<-d5] at ei;rw[N.hpr] at cp;have br:=hD (nu (P.tagB (i:=100+q) (by omega)) ei N.hP.ok (cp N.hfi.res) N.hfi.res);unfold nZ at br;obtain⟨f',c4⟩:=eX ((f.run1 p).1);rw[c6,<-c4] at br;simp only[hU,me] at br;have hN:=dw.J dl nF;have b5:=hN.I 5;simp[dj,ptr] at b5;have o:=hD N;have gn:=hD cB.symm;have g4:=hD d2;have ch:=hD P;have g8:=hD dw;have fx:=hD gs;have e6:=hD d5;have ji:=hD c4;have k0:=hD c6;have gf:=hD hI;have hl:tag X=0:=fL D.tlt (by rw[d2];exact lR);have g3:=hD hl
 have jj:Hd (f'.result=none->fN p f'):=hD λl0=>by
  rcases pH N.hP.ok (cp N.hfi.res) with⟨x,a,_⟩|⟨a,_⟩
  ·have:=(jb N.hfi.ok N.hfi.res (p:=p)).done x a
   rw[<-c4,l0] at this
   cases this.2.2
  ·rw[c4];exact a
 unfold ptr;clear N D hI l3 dl l5 l6 hQ l7 d5 cB dw d2 gs P ei cp c4 c6 hN hl;go_enter Tryz.func46,Tryz.ntmps46;go_upto_region 1 with fail;rw[gn.O,<-g4.O];clear gn ic ie
 go_upto_region 2 with(go_at_call 86;refine br.O.mono ?_;rintro a bf ⟨lz,m5,rfl,⟨bn,h0⟩,a1,l1⟩)
 clear br b5;obtain⟨Z,dk⟩ :∃v,v=y.v:=⟨_,rfl⟩
 obtain⟨Y,d8⟩ :∃v,v=y.e:=⟨_,rfl⟩
 rw[<-dk,<-d8];obtain⟨a5,d0⟩:=eX (bf.alloc (.cells #[.int .u8 4,.string ⟨#[]⟩,.int .i64 0,.slice none 0 0,.int .i64 0,.int .i64 Z,.int .i64 Y] 181));obtain⟨V,c5⟩:=eX bf.heap.size;rw[<-d0,<-c5];have cb:ac bf a5:=by rw[d0];exact oR.alloc _
 have bs:ae a5 V 181 #[.int .u8 4,.string ⟨#[]⟩,.int .i64 0,.slice none 0 0,.int .i64 0,.int .i64 Z,.int .i64 Y]:=by rw[d0,c5];exact bN
 obtain⟨bo,c8⟩ :∃t,t=ct tag ck bf (100+q):=⟨_,rfl⟩
 have h9:=ch.O.part (i:=100+q) a1
 have h1:aT bf (λb=>ct tag ck bf (100+q) b=100+q) q bn p f':=h0.mo λb K=>by
  rcases K with K|K
  ·exact(bu ch.O.tlt b (by rw[K];omega)).trans K
  ·exact fe K
 have hy:s.T.fm th.cur≠none:=by rw[o.O.hf];simp
 have cq:=h9.frame (n:=th.cur) e6.O hy (by rw[o.O.hpr];exact h1) (by rw[o.O.hpr];exact jj.O);rw[<-c8] at cq
 have h7:oP w a5 tag bo L {L with fl:=au L.fl th.cur bn} s k tp X V th f' #[.int .u8 4,.string ⟨#[]⟩,.int .i64 0,.slice none 0 0,.int .i64 0,.int .i64 Z,.int .i64 Y]:=⟨cq.U cb,((aK.U g8.O).trans (by rw[c8];exact aK.part ch.O.tlt (by omega) a1)).trans (aK.U cb),cb.J (a1.J fx.O (λa=>by rw[g3.O] at a;omega)) nF,bs,rfl,⟨by
  rw[c8];unfold ct;rw[yb (λa=>absurd fx.O.lt (zC.2 a.1))];exact g3.O,fL cq.tlt (by rw[c5];exact lR)⟩,⟨by rw[g4.O];exact lR,by rw[c5];exact lT g8.O.size a1.size⟩,by rw[c8,bu ch.O.tlt tp (by rw[gf.O];decide)];exact gf.O⟩
 have Q:=hD h7;have m1:=hD cb;clear d0 c5 cb c8 h9 h0 h1 hy cq h7;have gp:=hD (aI dk d8);obtain⟨F,b0⟩:=eX ({L with fl:=au L.fl th.cur bn}:cj);rw[<-b0] at Q;have g6:Hd (F= {L with fl:=au L.fl th.cur bn}):=hD b0;have c1:=Q.O.h;have hE:F.pb=L.pb:=by rw[b0]
 have d3:=(c1.p1 (by decide)).2;rw[hE] at d3;obtain⟨he,eq⟩:=c1.p7 (by decide);obtain⟨al,az,bk⟩:=fT eq;obtain⟨b1,hu⟩:=eX F.dn.length;rw[<-hu] at bk;have cm:=d3.I 13;simp[bi,bk] at cm;obtain⟨_,m6,m4,mg,l4,hO,_,_,hR,_⟩:=c1.thW (k:=k) (th:=th) (by rw[b0];exact o.O.htp) o.O.hk;have b5:=hO.I 5;have hj:=hR o.O.hrun;rw[hj,show F.fp th.cur=q by rw[b0];exact e6.O.symm] at b5;simp[dj,ptr] at b5;obtain⟨eg,_⟩:=c1.p16 th.cur f' (by show au s.T.fm th.cur _ th.cur=_;rw[ax]) (by simp);rw[show F.fp th.cur=q by rw[b0];exact e6.O.symm] at eg
 have g5:Hd (∀W,ac a5 W->Calls Tryz.prog 92 #[.pointer (some ⟨q,0,none⟩)] W λa w'=>a=.returned (.int .i64 (f'.kd.length:Int))/\W=w'):=hD λW a6=>by
  have:=AP (eg.kp a6 nG) (by show s.prog th.cur.job≠[];rw[o.O.hpr];exact o.O.hP.ok.p0);exact this
 have s0:=bs.I 0;have e0:=bs.I 5;have ai:=bs.I 6;simp[] at s0 e0 ai;obtain⟨dq,dr⟩:=Q.O.bn.gE2;have j2:=hD bs;have jd:=hD bk;have e4:=hD d3;have g2:Hd (a5.ownsRow 0 69 5 (.slice al b1 az) F.dn.length (F.dn.flatMap fy)):=hD (by rw[<-bk];exact eq);have g1:Hd (∀b,(Value.slice al b1 az).ownBlock=some b->bo b=7):=hD (by rw[<-bk];exact he);have j8:Hd (F.dn.length<=1000000):=hD (by rw[b0];exact fw.O.dn);obtain⟨c9,eL⟩:=eX ((f'.kd.length:Int):Int);rw[<-eL] at g5;have j7:Hd (fy (th.cur,f'.kd.length,y)= [.int .u64 th.cur.job,.string (sB th.cur.M),.int .i64 c9,.int .i64 Z,.int .i64 Y]):=hD (by rw[eL,dk,d8];rfl);clear bs a1 l1 c1 d3 he eq bk hu l4 hO hR hj eg b0 hE dk d8 eL;go_upto_region 17 with fail
 go_cut [] (λwx=>B6 w wx tag F {s with T:={s.T with fm:=au s.T.fm th.cur (some f')}} th.cur f'.kd.length y X V tp #[.int .u64 th.cur.job,.string (sB th.cur.M)] #[.int .u8 4,.string ⟨#[]⟩,.int .i64 0,.slice none 0 0,.int .i64 0,.int .i64 Z,.int .i64 Y])
 case rest=>
  obtain⟨B,ki,ba,fq,hc,hd,hH,hJ⟩:=hcut;have e2:=hD fq;have g0:=hD hc;have j3:=hD hd;have bc:=hD hH;have gm:=hD hJ;obtain⟨m,ek⟩:=eX ({F with dv:=ki,dn:=F.dn++ [(th.cur,f'.kd.length,y)]}:cj);rw[<-ek] at ba;obtain⟨bz,kk⟩:=eX wc;subst kk;have b6:Hd (m.pb=L.pb/\m.tps=L.tps/\m.fp=L.fp/\m.fn=L.fn/\m.dp=L.dp/\m.most=L.most/\m.n=L.n/\m.dn=L.dn++ [(th.cur,f'.kd.length,y)]):=hD (by rw[ek,g6.O];exact⟨rfl,rfl,rfl,rfl,rfl,rfl,rfl,rfl⟩);have bp:=hD ba;obtain⟨n0,ht⟩:=o.O.hn.key;have h2:=ba.U (aa.drew (aa.refl (λ_=>False) bz));obtain⟨eb,hg,h6,hS⟩:=(h2.p11 (by decide)).2.del (t:=119) gg Tryz.underlying119 ht 0;have f1:=(ba.p1 (by decide)).2;rw[b6.O.1] at f1;have gu:=f1.I 9;simp[bi] at gu;obtain⟨dq,dr⟩:=g0.O.gE2;change (Builtin.delete_ #[119,58] 0 #[.map (some m.fb),.agg #[.int .u64 th.cur.job,.string (sB th.cur.M)]]).run Tryz.prog bz.drew=.ok (.tuple #[]) eb at hg;have bq:=hD (aI h6 hS);clear ba fq hc hd hH hJ ek ht h2 h6 hS f1 cm b5 s0 e0 ai;go_upto_region 18 with fail
  go_still_tail 5,(by kernel_rfl)
  change wpList _ _ _ _ _ bz.drew;go_upto_region 19 with fail;have h3:=((bp.O.U (aa.drew (aa.refl (λ_=>False) bz))).same (i:=11) (bq.O.2.mono λb a=>by rw[a];exact(bp.O.p11 (by decide)).1)).frameGone (n:=th.cur) ⟨(bp.O.p11 (by decide)).1,bq.O.1⟩;obtain⟨cn,em⟩:=eX ((if (dP (λdm=>(au s.T.fm th.cur (some f') dm).map λ_=>ptr (m.fp dm)) (aP th.cur)).isSome then m.fn-1 else m.fn));have j6:Hd (cn<=m.fn):=hD (by rw[em];split<;>omega);obtain⟨ai,d6⟩:=eX ({s with T:={s.T with fm:=au s.T.fm th.cur none}}:PS)
  have h4:aR eb B {m with fn:=cn} ai:=by
   rw[em,d6];have:=h3;simp only[pN] at this;exact this
  have it:Hd (aK w eb tag B):=hD ((e2.O.trans (aK.U (aa.drew (aa.refl _ bz)))).trans (aK.same (i:=11) (by decide) (bq.O.2.mono λb a=>by rw[a];exact(bp.O.p11 (by decide)).1)));have hs:ai.ths[k]?=some th:=by rw[d6];exact o.O.hk
  have ga:=hD (qI h4 (k:=k) (th:=th) (by show m.tps[k]?=_;rw[b6.O.2.1];exact o.O.htp) hs);unfold ptr at ga;have ex:∀g,B g=0->g≠m.fb:=λg b9 a=>by have:=(bp.O.p11 (by decide)).1;rw[<-a,b9] at this;exact absurd this (by decide)
  have j0:=hD (bq.O.2.J (g0.O.drew) (ex X bc.O.1));have j4:=hD (bq.O.2.J (j3.O.drew) (ex V bc.O.2));have e7:=hD d6;clear h3 em d6 h4 hs ex gu dq dr hg
  go_upto_region 20 with(go_at_call 77;refine ga.O.mono ?_;rintro a z ⟨rfl,bb,dz⟩)
  obtain⟨i8,d7⟩:=eX ({ai with ths:=ai.ths.set k {th with cur:=fS,run:=false}}:PS);rw[<-d7] at bb;have fr:Hd (aK w z tag B):=hD (it.O.trans (aK.same (i:=15) (by decide) (dz.mono λb a=>by rw[a];exact gm.O)));have f0:∀g,B g=0->¬g=tp:=λg b9 a=>by have:=gm.O;rw[<-a,b9] at this;exact absurd this (by decide)
  have j1:=hD (dz.J j0.O (f0 X bc.O.1));have j5:=hD (dz.J j4.O (f0 V bc.O.2));have iv:=hD bb;have gb:=hD d7;have f4:i8.T.rw=s.T.rw/\i8.T.ks=s.T.ks:=by rw[d7,e7.O];exact⟨rfl,rfl⟩
  obtain⟨a4,f7⟩ :∃dm,dm=tV s.T th.cur r:=⟨_,rfl⟩
  obtain⟨fk,f9⟩ :∃b,b=eJ s.T th.cur r:=⟨_,rfl⟩
  obtain⟨rows,f5⟩ :∃f,f=(bh s.T th.cur r y true).rw:=⟨_,rfl⟩
  have bv:=hD (aI f7 (aI f9 f5))
  have g9:Hd (∀W,ac z W->Calls Tryz.prog 54 #[.pointer (some ⟨m.tb,0,none⟩),.agg #[.int .u64 th.cur.job,.string (sB th.cur.M)],.agg #[.int .i64 Z,.int .i64 Y]] W λa w'=>a=.returned (.tuple #[.agg #[.int .u64 a4.job,.string (sB a4.M)],.bool fk,.int .i64 0])/\bD w' (λb=>B b=2) m.tb m.mb m.most rows s.T.ks.length m.rp/\aa (λb=>B b=2) W w'):=hD λW a6=>by
   have c2:=bb.U a6;have hG:=c2.p2 (by decide);rw[f4.1,f4.2] at hG;have:=xN y (c2.tagB (by decide)) hG o.O.inv.t o.O.hr o.O.h2 o.O.hn;rw[<-f7,<-f9,<-f5] at this;unfold eT aP ew at this;rw[<-gp.O.1,<-gp.O.2] at this;exact this
  have hC:=(bb.p1 (by decide)).2;have hF:ae z L.pb 123 (bi {m with fn:=cn}):=by have:=hC;rw[show({m with fn:=cn}:cj).pb=L.pb from b6.O.1] at this;exact this
  have a9:Hd (∀W,aa (λb=>B b=2) z W->aa (λb=>B b=2) z W/\W.cell? ⟨L.pb,4,none⟩=some (.pointer (some ⟨m.tb,0,none⟩))/\W.cell? ⟨X,0,none⟩=some (.int .u64 th.cur.job)/\W.cell? ⟨X,1,none⟩=some (.string (sB th.cur.M))/\W.cell? ⟨V,5,none⟩=some (.int .i64 Z)/\W.cell? ⟨V,6,none⟩=some (.int .i64 Y)):=hD λW a6=>by
   have gx:¬B L.pb=2:=λa=>by have:=(bb.p1 (by decide)).1;rw[show({m with fn:=cn}:cj).pb=L.pb from b6.O.1,a] at this;exact absurd this (by decide)
   have fd:=a6.J j1.O (λa=>by have:=bc.O.1;rw[a] at this;exact absurd this (by decide));have i6:=a6.J j5.O (λa=>by have:=bc.O.2;rw[a] at this;exact absurd this (by decide));exact⟨a6,(a6.J hF gx).I 4,fd.I 0,fd.I 1,i6.I 5,i6.I 6⟩
  have l:=a9.O z oR;have e8:Hd (∀W,ac z W->aa (λb=>B b=2) z W):=hD λW a6=>a6.mono λ_ a=>a.elim
  have ge:Hd (∀b,z.heap.size<=b->¬B b=2):=hD λb K a=>by have:=fL bb.tlt K;rw[a] at this;exact absurd this (by decide)
  have ci:Hd (ac z (z.alloc (.cells #[.int .u64 0,.string ⟨#[]⟩] 58))):=hD (oR.alloc _);have iz:Hd (ae (z.alloc (.cells #[.int .u64 0,.string ⟨#[]⟩] 58)) z.heap.size 58 #[.int .u64 0,.string ⟨#[]⟩]):=hD (ae.new z _ _);have gc:Hd (w.heap.size<=z.heap.size):=hD fr.O.only.size;clear bb dz d7 f0 f4 f7 f9 f5 hC hF
  go_cut [15,16] (λs15 s16 wx=>B9 w z wx B m rows s.T.ks.length a4 fk s15 s16)
  case first=>
   go_region_held3 (λw'=>aa (λb=>B b=2) z w'/\w'.cell? ⟨L.pb,4,none⟩=some (.pointer (some ⟨m.tb,0,none⟩))/\w'.cell? ⟨X,0,none⟩=some (.int .u64 th.cur.job)/\w'.cell? ⟨X,1,none⟩=some (.string (sB th.cur.M))/\w'.cell? ⟨V,5,none⟩=some (.int .i64 Z)/\w'.cell? ⟨V,6,none⟩=some (.int .i64 Y))
    (first|with_reducible exact a9.O _ aw.O|with_reducible exact a9.O _ (aa.alloc aw.O _)|with_reducible exact a9.O _ (aa.drew aw.O)|with_reducible exact a9.O _ (e8.O _ ci.O)|with_reducible exact a9.O _ (e8.O _ (aa.drew ci.O))|with_reducible exact a9.O _ (aa.drew oR)|with_reducible exact a9.O _ oR|(with_reducible refine a9.O _ ?_;with_reducible refine aa.setCell ?_ (Or.inr (lR)) _;repeat (first|with_reducible exact aw.O|with_reducible refine aa.setCell ?_ (Or.inr (lR)) _))|fail)
    (first
     |(go_at_call 54;refine(g9.O z.drew (aa.drew oR)).mono ?_;rintro a W8 ⟨rfl,cg,a1⟩;have aw:Hd (aa (λb=>B b=2) z W8):=hD (aa.trans (aa.drew oR) a1);have e9:=hD cg;clear a1 cg)
     |(go_at_call 54;refine(g9.O _ (aa.drew ci.O)).mono ?_;rintro a W8 ⟨rfl,cg,a1⟩;have aw:Hd (aa (λb=>B b=2) z W8):=hD (aa.trans (e8.O _ (aa.drew ci.O)) a1);have bx:=hD (a1.J iz.O (ge.O _ (lR)));have e9:=hD cg;have m7:W8.cell? ⟨z.heap.size,0,none⟩=some (.int .u64 0):=bx.O.I 0;have gx:W8.cell? ⟨z.heap.size,1,none⟩=some (.string ⟨#[]⟩):=bx.O.I 1;have m8:W8.frozen? ⟨z.heap.size,0,none⟩=false:=bx.O.fz 0;have m9:W8.frozen? ⟨z.heap.size,1,none⟩=false:=bx.O.fz 1;clear a1 cg)
     |fail)
   all_goals (
    go_wp2_with fail;go_meet)
   case rel=>
    have b3:=(aa.refl (λ_=>False) W8).alloc (.cells #[.int .u64 a4.job,.string (sB a4.M)] 58);exact⟨W8.heap.size,rfl,rfl,lT gc.O aw.O.size,bN,e9.O.kp b3 nG,aw.O.trans (b3.mono λ_ a=>a.elim)⟩
   case rel=>
    have l2:=(bx.O.s_ 0 (.int .u64 a4.job)).s_ 1 (.string (sB a4.M));have hM:aa (λb=>b=z.heap.size) W8 ((W8.setCell ⟨z.heap.size,0,none⟩ (.int .u64 a4.job)).setCell ⟨z.heap.size,1,none⟩ (.string (sB a4.M))):=(ag _ _ 0 _).trans (ag _ _ 1 _);exact⟨z.heap.size,rfl,rfl,gc.O,l2,e9.O.kp hM (λb K a=>ge.O b (by rw[a];exact lR) K),aw.O.trans' hM (λb a=>.inr (by rw[a];exact lR))⟩
  case rest=>
   obtain⟨mk,rfl,rfl,ll,ff,ih,fj⟩:=hcut;have c2:=(iv.O.same (i:=2) fj).fill2 (T':=bh s.T th.cur r y true) (rp':=m.rp) (by rw[<-bv.O.2.2];exact ih) (by rw[gb.O,e7.O];rfl);have fs:Hd (aK w wc tag B):=hD (fr.O.trans (aK.same (i:=2) (by decide) fj));obtain⟨e1,f6⟩:=eX ({s with T:=bh s.T th.cur r y true,ths:=s.ths.set k {th with cur:=fS,run:=false}}:PS)
   have ej:aR wc B {m with fn:=cn} e1:=by
    rw[f6];have:=c2;rw[gb.O,e7.O] at this;exact this
   have ar:=hD f6
   have e3:Hd (LK L {m with fn:=cn} s e1 0):=hD (by
    obtain⟨l8,bn,n1,l9,la,le,lf,lg⟩:=b6.O;have c3:=j6.O;rw[l9] at c3;refine⟨l8,le,bn,la,by rw[show({m with fn:=cn}:cj).n=L.n from lf];omega,by show(cn:Int)<=_;omega,by rw[ar.O];simp,[(th.cur,r.kn,y)],by rw[ar.O];unfold bh;rfl,?_⟩;show m.dn=_;rw[lg,ji.O,jl.O])
   obtain⟨gq,el⟩:=eX ({m with fn:=cn}:cj);have g7:Hd (gq.pb=L.pb/\gq.tps=L.tps):=hD (by rw[el];exact⟨b6.O.1,b6.O.2.1⟩);rw[<-el] at ej e3;clear el;have ft:=hD ej
   have hh:Hd (eA s k=if eJ s.T th.cur r=true then dS e1 k (dd th.cur) else e1):=hD (by
    unfold eA;rw[PS.th_eq o.O.hk,o.O.hr,o.O.hf];simp only;rw[o.O.hpr,k0.O];simp only;rw[ar.O])
   clear c2 ej f6 ll ih fj
   cases fk with
   |false=>
    clear ff;go_wp2_with fail
    go_end0
    rw[hh.O,yb (by rw[<-bv.O.2.1];decide)];exact⟨rfl,B,_,ft.O,fs.O,e3.O.mo (by decide)⟩
   |true=>
    have f8:a4=dd th.cur:=by rw[bv.O.1];unfold tV;rw[yf bv.O.2.1.symm]
    have hA:cR (dd th.cur):=⟨o.O.hn.1,lT (by show th.cur.M.dropLast.length<=th.cur.M.length;rw[List.length_dropLast];omega) o.O.hn.2.1,λc c3=>o.O.hn.2.2 c (List.dropLast_subset _ c3)⟩
    obtain⟨x,ad⟩ :∃x,s.ds[k]?=some x:=⟨s.ds[k]'(by rw[o.O.inv.nlen];exact(gS o.O.hk).1),gG _⟩
    have er:=(o.O.inv.th k th o.O.hk).free o.O.ha;rw[PS.dq_eq ad] at er;have e5:=hD (qH (k:=k) (tp:=tp) (th:={th with cur:=fS,run:=false}) (x:=x) (n:=a4) ft.O (by rw[ar.O];exact o.O.inv.many) (by rw[g7.O.2];exact o.O.htp) (by rw[ar.O];exact List.getElem?_set_self (gS o.O.hk).1) (by rw[f8];exact hA) (by rw[ar.O];exact o.O.inv.nnodup) (by rw[ar.O];exact ad) er (by rw[ar.O];exact fw.O.nm));rw[g7.O.1] at e5;unfold ptr aP ew at e5;have k1:=hD f8;clear f8 hA ad er;obtain⟨n2,fd⟩:=ff.gE2;clear ff
    go_wp2_with (go_at_call 93;refine e5.O.mono ?_;rintro a m2 ⟨rfl,lk⟩)
    go_end0
    rw[hh.O,yf bv.O.2.1.symm,<-k1.O];exact⟨rfl,(cl.then (d:=0) fs.O e3.O lk).mo (by decide)⟩
 case first=>
  obtain⟨R,ab⟩:=eX a5.drew;have ce:ac a5 R:=by rw[ab];exact oR.drew
  obtain⟨b7,d1⟩:=eX (R.alloc (.cells #[.int .u64 th.cur.job,.string (sB th.cur.M),.int .i64 c9,.int .i64 Z,.int .i64 Y] 69));have b3:ac R b7:=by rw[d1];exact oR.alloc _
  have gt:ae b7 R.heap.size 69 #[.int .u64 th.cur.job,.string (sB th.cur.M),.int .i64 c9,.int .i64 Z,.int .i64 Y]:=by rw[d1];exact bN
  obtain⟨ln,a7,hb,ec,ee,gr⟩:=qe (W:=b7) (q:=R.heap.size) 52 (.slice al b1 az) F.dn (th.cur,f'.kd.length,y) (b3.owns (ce.owns g2.O nG) nG) (by rw[j7.O];exact gt) j8.O;obtain⟨b2,am,aE,hv⟩ :∃n A c,ln=.slice A n c:=⟨_,fT ec⟩
  subst hv;obtain⟨k9,h8⟩:=eX (a7.setCell ⟨L.pb,13,none⟩ (.slice am b2 aE));have d4:ae a7 L.pb 123 (bi F):=ee.J (b3.J (ce.J e4.O nF) nF) (λa=>bl g2.O e4.O (by decide) a);have jn:=hD d4;have fo:Hd (R.cell? ⟨L.pb,13,none⟩=some (.slice al b1 az)):=hD (by rw[ab];exact cm);have ii:Hd (b7.cell? ⟨L.pb,13,none⟩=some (.slice al b1 az)):=hD ((b3.I (p:=⟨L.pb,13,none⟩) (ce.J e4.O nF).lt nF).trans fo.O);have k8:Hd (R.cell? ⟨tp,5,none⟩=some (.pointer (some ⟨q,0,none⟩))):=hD (by rw[ab];exact b5);have k4:Hd (R.cell? ⟨X,0,none⟩=some (.int .u64 th.cur.job)):=hD (by rw[ab];exact dq);have k5:Hd (R.cell? ⟨X,1,none⟩=some (.string (sB th.cur.M))):=hD (by rw[ab];exact dr);have k6:Hd (R.cell? ⟨V,5,none⟩=some (.int .i64 Z)):=hD (by rw[ab];exact e0);have k7:Hd (R.cell? ⟨V,6,none⟩=some (.int .i64 Y)):=hD (by rw[ab];exact ai);have il:Hd (a7.cell? ⟨L.pb,13,none⟩=some (.slice al b1 az)):=hD (by rw[d4.I 13];simp[bi,jd.O]);have is:Hd (a7.frozen? ⟨L.pb,13,none⟩=false):=hD (d4.fz 13);have iw:=hD hb;have bt:=hD ce;have k3:Hd (a5.drew=R):=hD ab.symm;have k2:=hD d1.symm;have ea:=hD h8.symm;have an:=hD (aI ec (aI ee (aI gr b3)));clear ab d1 h8 ce b3 gt hb ec ee gr d4 cm b5 dq dr s0 e0 ai
  refine sZ (by kernel_rfl) (gL R [(14,b7),(15,a7),(18,k9)]) [Is (.pointer (some ⟨L.pb,0,none⟩)),Is (.pointer (some ⟨L.pb,0,none⟩)),Is (.pointer (some ⟨L.pb,0,none⟩)),Is (.pointer (some ⟨L.pb,13,none⟩)),Is (.slice al b1 az),Is (.agg #[.int .u64 th.cur.job,.string (sB th.cur.M)]),ao tp 0,ao tp 0,ao tp 5,ao q 0,Is (.int .i64 c9),ao V 5,Is (.agg #[.int .i64 Z,.int .i64 Y]),Is (.agg #[.int .u64 th.cur.job,.string (sB th.cur.M),.int .i64 c9,.int .i64 Z,.int .i64 Y]),Is (.slice (some ⟨R.heap.size,0,none⟩) 1 1),Is (.slice am b2 aE),Is (.pointer (some ⟨L.pb,0,none⟩)),Is (.pointer (some ⟨L.pb,13,none⟩)),λ_ _=>True] (by kernel_rfl)
   ⟨sT,sT,sT,sT,sT,sT,sT,sT,sT,sT,sT,sT,sT,sT,sT,sT,sT,sT,(λ_ _ _ _ _=>trivial),trivial⟩ (by rw[k3.O];exact gL.start _ _) ⟨?_,?_,?_,?_,?_,?_,?_,?_,?_,?_,?_,?_,?_,?_,?_,?_,?_,?_,?_,trivial⟩ ?_
  iterate 4
   ·intro dn u H E S C l j a0 e
    refine ak rfl ?_;simp at j e ⊢
    try simp only[j] at e
    go_simp;exact e _ _ (l.skip (by simp)) rfl
  ·intro dn u H E S C l j a0 e
   refine ak rfl ?_;simp at j e ⊢;simp only[j] at e
   have fa:dn 15=false:=by
    cases h15:dn 15 with
    |false=>rfl
    |true=>
     have i3:=C 15 _ rfl h15;simp[aY] at i3;have kb:dn 4=true:=by simp[i3]
     rw[kb] at E;cases E
   have c3:H.cell? ⟨L.pb,13,none⟩=some (.slice al b1 az):=by
    rcases l.mem with rfl|⟨x,ad,P,rfl⟩
    ·exact fo.O
    ·simp only[yG,List.not_mem_nil,or_false] at ad
     rcases ad with rfl|rfl|rfl
     ·exact ii.O
     ·rw[fa] at P;cases P
     ·have cf:=C 18 _ rfl P
      simp[aY] at cf;have c0:dn 15=true:=by simp[cf]
      rw[c0] at fa;cases fa
   go_simp;exact e _ _ (l.skip (by simp)) rfl
  ·intro dn u H E S C l j a0 e
   refine ak rfl ?_;simp at j e ⊢
   have a3:dn 14=false:=by
    cases h14:dn 14 with
    |false=>rfl
    |true=>
     have hY:=C 14 _ rfl h14;simp[aY] at hY;have b8:dn 13=true:=by simp[hY]
     have hZ:=C 13 _ rfl b8;simp[aY] at hZ;have kc:dn 5=true:=by simp[hZ]
     rw[kc] at E;cases E
   have D:=l;simp[gL,a3] at D;have a2:=D.1.symm;subst a2;have lo:=k4.O;have lw:=k5.O;go_simp;exact e _ _ (l.skip (by simp)) rfl
  iterate 3
   ·intro dn u H E S C l j a0 e
    refine ak rfl ?_;simp at j e ⊢
    try simp only[j] at e
    go_simp;exact e _ _ (l.skip (by simp)) rfl
  ·intro dn u H E S C l j a0 e
   refine ak rfl ?_;simp at j e ⊢;simp only[j] at e
   have a3:dn 14=false:=by
    cases h14:dn 14 with
    |false=>rfl
    |true=>
     have i0:=C 14 _ rfl h14;simp[aY] at i0;have b8:dn 13=true:=by simp[i0]
     have i1:=C 13 _ rfl b8;simp[aY] at i1;have ef:dn 10=true:=by simp[i1]
     have i2:=C 10 _ rfl ef;simp[aY] at i2;have kf:dn 9=true:=by simp[i2]
     rw[kf] at E;cases E
   have c3:H.cell? ⟨tp,5,none⟩=some (.pointer (some ⟨q,0,none⟩)):=by
    rcases l.mem with rfl|⟨x,ad,P,rfl⟩
    ·exact k8.O
    ·simp only[yG,List.not_mem_nil,or_false] at ad
     rcases ad with rfl|rfl|rfl
     ·rw[a3] at P;cases P
     ·have b4:=C 15 _ rfl P
      simp[aY] at b4;have a8:dn 14=true:=by simp[b4]
      rw[a8] at a3;cases a3
     ·have i4:=C 18 _ rfl P
      simp[aY] at i4;have a8:dn 14=true:=by simp[i4]
      rw[a8] at a3;cases a3
   go_simp;exact e _ _ (l.skip (by simp)) rfl
  ·intro dn u H E S C l j a0 e
   refine ak rfl ?_;simp at j e ⊢;simp only[j] at e
   have a3:dn 14=false:=by
    cases h14:dn 14 with
    |false=>rfl
    |true=>
     have hT:=C 14 _ rfl h14;simp[aY] at hT;have b8:dn 13=true:=by simp[hT]
     have hV:=C 13 _ rfl b8;simp[aY] at hV;have ef:dn 10=true:=by simp[hV]
     rw[ef] at E;cases E
   have D:=l;simp[gL,a3] at D;have a2:=D.1.symm;subst a2;go_simp;refine(g5.O _ bt.O).mono ?_;rintro a m3 ⟨rfl,rfl⟩;exact e _ _ (l.skip (by simp)) rfl
  ·intro dn u H E S C l j a0 e
   refine ak rfl ?_;simp at j e ⊢;go_simp;exact e _ _ (l.skip (by simp)) rfl
  ·intro dn u H E S C l j a0 e
   refine ak rfl ?_;simp at j e ⊢;simp only[j] at e
   have a3:dn 14=false:=by
    cases h14:dn 14 with
    |false=>rfl
    |true=>
     have hW:=C 14 _ rfl h14;simp[aY] at hW;have b8:dn 13=true:=by simp[hW]
     have hX:=C 13 _ rfl b8;simp[aY] at hX;have ka:dn 12=true:=by simp[hX]
     rw[ka] at E;cases E
   have D:=l;simp[gL,a3] at D;have a2:=D.1.symm;subst a2;have lo:=k6.O;have lw:=k7.O;go_simp;exact e _ _ (l.skip (by simp)) rfl
  ·intro dn u H E S C l j a0 e
   refine ak rfl ?_;simp at j e ⊢;simp only[j] at e;go_simp;exact e _ _ (l.skip (by simp)) rfl
  ·intro dn u H E S C l j a0 e
   refine ak rfl ?_;simp at j e ⊢;simp only[j] at e;have D:=l;simp[gL,E] at D;obtain⟨D,f3⟩:=D;have a2:=D.symm;subst a2;go_simp;rw[k2.O];exact e _ _ (by simp[gL,bK,f3]) rfl
  ·intro dn u H E S C l j a0 e
   refine ak rfl ?_;simp at j e ⊢;have b4:=S;simp[aY] at b4;have a8:dn 14=true:=by simp[b4]
   have D:=l;simp[gL,a8,E] at D;obtain⟨D,f3⟩:=D;have a2:=D.symm;subst a2;refine sY (.tmp 97) (.tmp 107) 52 rfl (by simpa[Act.eval] using j.1) (by simpa[Act.eval] using j.2.1) iw.O ?_;exact e _ _ (by simp[gL,bK,a8,f3]) rfl
  iterate 2
   ·intro dn u H E S C l j a0 e
    refine ak rfl ?_;simp at j e ⊢
    try simp only[j] at e
    go_simp;exact e _ _ (l.skip (by simp)) rfl
  ·intro dn u H E S C l j a0 e
   refine ak rfl ?_;simp at j e ⊢;simp only[j] at e;have cf:=S;simp[aY] at cf;have c0:dn 15=true:=by simp[cf]
   have b4:=C 15 _ rfl c0;simp[aY] at b4;have a8:dn 14=true:=by simp[b4]
   have D:=l;simp[gL,a8,c0,E] at D;have a2:=D.symm;subst a2;have mm:=il.O;have mp:=is.O;go_simp;rw[ea.O];exact e _ (by simp[gL,bK,a8,c0])
  ·intro u H dn es l j
   simp at j ⊢;simp[gL,es 14 (by decide),es 15 (by decide),es 18 (by decide)] at l;subst l;have f2:F.pb=L.pb:=by rw[g6.O]
   have cd:aa (λb=>b=L.pb) a7 H:=by rw[<-ea.O];exact ag _ _ _ _
   have cr:=Q.O.h.U (bt.O.trans an.O.2.2.2);have fb:aa (λb=>bo b=7) b7 a7:=an.O.2.1.mono g1.O;obtain⟨B,bm⟩ :∃t,t=ct bo b7 a7 7:=⟨_,rfl⟩
   have cv:=cr.part (i:=7) fb;rw[<-bm] at cv;have c7:B L.pb=1:=by have:=(cv.p1 (by decide)).1;rw[f2] at this;exact this
   have kv:ae H L.pb 123 (bi {F with dv:=.slice am b2 aE,dn:=F.dn++ [(th.cur,f'.kd.length,y)]}):=by
    rw[<-ea.O];have:=jn.O.s_ 13 (.slice am b2 aE)
    simpa[bi] using this
   have hB:∀b,(Value.slice am b2 aE).ownBlock=some b->B b=7:=λb K=>by
    have ku:b<a7.heap.size:=sm an.O.1 K
    rcases an.O.2.2.1 b K with a|a
    ·have:=g1.O b a
     rw[bm,bu cr.tlt b (by rw[this];decide)];exact this
    ·rw[bm]
     exact fe ⟨a,ku⟩
   have ba:aR H B {F with dv:=.slice am b2 aE,dn:=F.dn++ [(th.cur,f'.kd.length,y)]} {s with T:={s.T with fm:=au s.T.fm th.cur (some f')}}:=
    (cv.kp (i:=1) (tag':=B) cd (λb a=>by rw[a];exact c7) (λ_ _=>rfl) (λb K=>lL (cv.tlt b K) cd.size)).fillD ⟨by rw[show({F with dv:=Value.slice am b2 aE,dn:=F.dn++ [(th.cur,f'.kd.length,y)]}:cj).pb=L.pb from f2];exact c7,by rw[show({F with dv:=Value.slice am b2 aE,dn:=F.dn++ [(th.cur,f'.kd.length,y)]}:cj).pb=L.pb from f2];exact kv⟩ ⟨hB,cd.owns an.O.1 (λb K a=>by have:=hB b K;rw[a,c7] at this;exact absurd this (by decide))⟩
   have e2:Hd (aK w H tag B):=hD (((Q.O.go.trans (aK.U (bt.O.trans an.O.2.2.2))).trans (by rw[bm];exact aK.part cr.tlt (by decide) fb)).trans (aK.same (i:=1) (by decide) (cd.mono λb a=>by rw[a];exact c7)))
   have hz:∀g,bo g=0->g<a5.heap.size->B g=0:=λg b9 kl=>by
    rw[bm];unfold ct;rw[yb (λa=>absurd (lL kl (bt.O.trans an.O.2.2.2).size) (zC.2 a.1))];exact b9
   have hm:=hz X Q.O.t0.1 Q.O.bn.lt;have ho:=hz V Q.O.t0.2 Q.O.bs.lt;have hL:∀(g:Nat) (T:TypeId) (cs:Array Value),bo g=0->B g=0->ae a5 g T cs->ae H g T cs:=λg T cs b9 P K=>cd.J (fb.J ((bt.O.trans an.O.2.2.2).J K nF) (λa=>by rw[b9] at a;exact absurd a (by decide))) (λa=>by rw[a,c7] at P;exact absurd P (by decide))
   go_wp2_with fail;go_meet
   case rel=>exact⟨B,_,ba,e2.O,hL _ _ _ Q.O.t0.1 hm Q.O.bn,hL _ _ _ Q.O.t0.2 ho j2.O,⟨hm,ho⟩,by rw[bm,bu cr.tlt tp (by rw[Q.O.tp15];decide)];exact Q.O.tp15⟩
end
section
variable {G:cG}{w w':World}{tag tag':Nat->Nat}{L L':cj}{s s':PS}{n:Nm}{r:aC}
theorem xk(d:aR w tag L s):
 Calls Tryz.prog 20 #[ptr L.pb] w λa w'=>a=.returned L.dv/\aR w' tag {L with dv:=.slice none 0 0,dn:=[]} s/\aa (λb=>b=L.pb) w w'/\w'.ownsRow 0 69 5 L.dv L.dn.length (L.dn.flatMap fy):=by
 obtain⟨p,f⟩:=d.p1 (by decide);obtain⟨o,k⟩:=d.p7 (by decide);obtain⟨A,B,e⟩:=fT k;have v:=f.I 13;have C:=f.fz 13;simp[bi,e] at v;have q:=hD d;have t:=hD f;have g:=hD p;have m:=hD (aI o k);rw[e];have u:=hD e;generalize L.dn.length=D at*;unfold ptr;clear d p f o k e;go_enter Tryz.func20,Tryz.ntmps20;go_wp2_with fail;go_ret;have l:aa (λb=>b=L.pb) w (w.setCell ⟨L.pb,13,none⟩ (.slice none 0 0)):=ag _ _ _ _;have x:=(q.O.same (i:=1) (l.mono λb a=>by rw[a];exact g.O)).mono (Y:=[1,7]) (λj _ z=>by rw[yw.1 z];simp);have c:=t.O.s_ 13 (.slice none 0 0);have y:=x.fillD (dv':=.slice none 0 0) (dn':=[]) ⟨g.O,by simpa[bi] using c⟩ ⟨λb c=>(by cases c),⟨by simp,.inl ⟨rfl,rfl⟩⟩⟩;refine⟨rfl,y,l,?_⟩;rw[<-u.O];exact l.owns m.O.2 (λb c a=>by have:=m.O.1 b c;rw[a,g.O] at this;exact absurd this (by decide))
def ug(w w':World)(most:Int)(e:Ending):Prop:=∃tb mb,e=.returned (.tuple #[.pointer (some ⟨tb,0,none⟩),.int .i64 0])/\bD w' (λb=>w.heap.size<=b/\b<w'.heap.size) tb mb most (λ_=>none) 0 (λ_=>0)/\ac w w'
theorem sU(a:Int)(k:1<=a)(l:a<=4096)(w:World):
 Calls Tryz.prog 55 #[.int .i64 a] w λb w'=>ug w w' a b:=by
 have o:¬a<1:=by omega
 have p:¬4096<a:=by omega
 have m:=@run_makeMap Tryz.prog;go_enter Tryz.func55,Tryz.ntmps55;go_wp2_with fail
 go_ret2
 have i:aL Tryz.prog (w.alloc (.map #[] 0)) 58 w.heap.size (λ_=>none) 0:=aL.made gg w;have j:ac w (w.alloc (.map #[] 0)):=oR.alloc _;have d:ac (w.alloc (.map #[] 0)) ((w.alloc (.map #[] 0)).alloc (.cells #[.int .i64 a,.map (some w.heap.size)] 198)):=oR.alloc _
 have c:ae ((w.alloc (.map #[] 0)).alloc (.cells #[.int .i64 a,.map (some w.heap.size)] 198)) (w.heap.size+1) 198 #[.int .i64 a,.map (some w.heap.size)]:=by
  rw[<-iF w (.map #[] 0)];exact bN
 have g:=c.lt;refine⟨w.heap.size+1,w.heap.size,rfl,⟨⟨by omega,g⟩,⟨lR,by omega⟩,c,?_,λn r f=>(by cases f),λn q e=>absurd rfl e⟩,j.trans d⟩;have:=i.only d nF
 have b:dP (λn:Nm=>(Option.map (λ_=>Value.pointer (some ⟨0,0,none⟩)) (none:Option aC)))=λ_=>none:=by
  funext v;unfold dP;split<;>rfl
 rw[show(dP λn=>(((λ_=>none:Nm->Option aC) n).map λ_=>Value.pointer (some ⟨0,0,none⟩)))=λ_=>none from b];exact this
end
theorem nO(rows:Nm->Option aC)(n:Nm):∀(l:List Nat) (i:Nat) (f:Fr),bG rows n (l++ [i]) f=(bG rows n l f).give i (jK rows (aD n i))
 | [],i,f=>rfl
 |a :: l,i,f=>by
  simp only[Ye,bG];exact nO rows n l i _
theorem mn(rows:Nm->Option aC)(n:Nm):∀(l:List Nat) (f:Fr) (i:Nat),i ∉ l->(bG rows n l f).kd[i]?=f.kd[i]?
 | [],f,i,_=>rfl
 |a :: l,f,i,c=>by
  simp only[bG];rw[mn rows n l _ i (λb=>c (yV _ b))];simp only[Fr.give];rw[List.getElem?_set_ne (λb=>c (by rw[b];exact zh))]
theorem mj(rows:Nm->Option aC)(n:Nm)(p:List aj):∀(l:List Nat) (f:Fr),fN p f->(∀i∈l,i<f.kd.length/\dc (jK rows (aD n i)).v)->fN p (bG rows n l f)/\(bG rows n l f).result=f.result/\(bG rows n l f).kd.length=f.kd.length
 | [],f,b,_=>⟨b,rfl,rfl⟩
 |a :: l,f,b,e=>by
  have d:=e a zh;have c:(f.give a (jK rows (aD n a))).kd.length=f.kd.length:=by simp[Fr.give]
  have:=mj rows n p l (f.give a (jK rows (aD n a))) (vY b d.2 d.1) λi g=>by rw[c];exact e i (yV _ g)
  simp only[bG];exact⟨this.1,this.2.1.trans rfl,this.2.2.trans c⟩
theorem vl(f:Fr){j i:Nat}(b:f.waitsOf[j]?=some i):(∃k,f.kd[i]?=some k/\k.given=false)/\i ∉ f.waitsOf.take j:=by
 constructor
 ·have a:=yh b
  unfold Fr.waitsOf at a;obtain⟨d,e⟩:=Yg.1 a;have c:=zw.1 d;refine⟨f.kd[i],gG c,?_⟩
  simpa[yc,gG c] using e
 ·intro a
  obtain⟨m,a⟩:=yF a;rw[List.getElem?_take] at a;split at a
  ·rename_i l
   have g:f.waitsOf.Nodup:=(List.nodup_range (n:=f.kd.length)).filter _;have:=(List.getElem?_inj (gS a).1 g).1 (a.trans b.symm);omega
  ·cases a
theorem Cx{G:cG}{t:TS}{n:Nm}{r:aC}{p:List aj}{x:aA}{i:Nat}(b:bW G t)(m:t.rw n=some r)(F:r.opn=0)(f:G n.job=some (p,x))(j:i<r.kn)(e:jw p)(y:eh p r.tk):∃c,t.rw (aD n i)=some c/\dc c.res.v/\jK t.rw (aD n i)=c.res:=by
 have l:=lW (rows:=t.rw) (n:=n) (kn:=r.kn) (by have:=(b.row n r m).opn;omega) i j;obtain⟨B,C,c,k,d,a,o,q,D,E⟩:=b.child m j;rw[f] at d
 cases d
 have u:c.sa=6:=by
  simp only[bZ,a] at l
  simpa using l
 obtain⟨B,C,g,H,A⟩:=(b.row _ c a).node;rw[oq,f] at g
 cases g
 have z:c.res=cS p k:=by rw[(A.over u).2.1,q]
 refine⟨c,a,?_,by unfold jK;rw[a]⟩;rw[z];exact(nB e ((nB e y).2 k (yh o))).1.1
theorem De{w:World}{base e n k:Nat}{b:TypeId}{v:Value}{f:List Value}(c:w.ownsRow base b e v n f)(hv:v.ownBlock=some k):base<=k:=by
 rcases c.2 with⟨a,_⟩|⟨g,i,cur,a,d,_⟩
 ·subst a;cases hv
 ·subst a;cases hv;exact d
theorem xf{w:World}{base a:Nat}{b:TypeId}{d n:Nat}{v:Value}{e:List Value}(c:w.ownsRow base b d v n e)(k:a<=base):w.ownsRow a b d v n e:=
 ⟨c.1,c.2.imp id (λ⟨g,f,cur,i,j,l⟩=>⟨g,f,cur,i,lT k j,l⟩)⟩
theorem pO{w:World}{g:Nat}{T:TypeId}(a:ae w g T #[.int .u64 0,.string ⟨#[]⟩,.string ⟨#[]⟩,.int .i64 0,.slice none 0 0,.int .i64 0,.int .u8 0,.int .i64 0,.int .i64 0,.int .i64 0]):w.cell? ⟨g,0,none⟩=some (.int .u64 0)/\w.cell? ⟨g,1,none⟩=some (.string ⟨#[]⟩)/\w.cell? ⟨g,2,none⟩=some (.string ⟨#[]⟩)/\w.cell? ⟨g,3,none⟩=some (.int .i64 0)/\w.cell? ⟨g,4,none⟩=some (.slice none 0 0)/\w.cell? ⟨g,5,none⟩=some (.int .i64 0)/\w.cell? ⟨g,6,none⟩=some (.int .u8 0)/\w.cell? ⟨g,7,none⟩=some (.int .i64 0)/\w.cell? ⟨g,8,none⟩=some (.int .i64 0)/\w.cell? ⟨g,9,none⟩=some (.int .i64 0)/\w.frozen? ⟨g,0,none⟩=false/\w.frozen? ⟨g,1,none⟩=false/\w.frozen? ⟨g,2,none⟩=false/\w.frozen? ⟨g,3,none⟩=false/\w.frozen? ⟨g,4,none⟩=false/\w.frozen? ⟨g,5,none⟩=false/\w.frozen? ⟨g,6,none⟩=false/\w.frozen? ⟨g,7,none⟩=false/\w.frozen? ⟨g,8,none⟩=false/\w.frozen? ⟨g,9,none⟩=false:=
 ⟨a.I 0,a.I 1,a.I 2,a.I 3,a.I 4,a.I 5,a.I 6,a.I 7,a.I 8,a.I 9,a.fz 0,a.fz 1,a.fz 2,a.fz 3,a.fz 4,a.fz 5,a.fz 6,a.fz 7,a.fz 8,a.fz 9⟩
def vq(wr:World)(tag3:Nat->Nat)(L3:cj)(s:PS)(n:Nm)(gn q:Nat)(v:Value)(l:List Int)(f:Fr):Prop:=
 aR wr tag3 L3 {s with T:={s.T with fm:=au s.T.fm n (some f)}}/\ae wr gn 58 #[.int .u64 n.job,.string (sB n.M)]/\wr.ownsRow 0 3 1 v l.length (l.map (Value.int .i64))
def vu(wo wx:World)(job:Int)(kp x2:ByteArray)(x3:Int)(x4:Nat)(x5 x6 x7 rv re:Int)(s13:Value):Prop:=∃(A:Option Addr) (c g:Nat),s13=.pointer (some ⟨g,0,none⟩)/\ae wx g 60 #[.int .u64 job,.string kp,.string x2,.int .i64 x3,.slice A x4 c,.int .i64 x5,.int .u8 x6,.int .i64 x7,.int .i64 rv,.int .i64 re]/\ac wo wx
section
variable {G:cG}{w w':World}{tag tag':Nat->Nat}{L L':cj}{s s':PS}{n:Nm}{r:aC}
theorem uU(er:gJ G){k tp:Nat}{th:Th}{p:List aj}{f:Fr}(z:fP G w tag L s k tp th r p f)(bz:(f.run1 p).2=.join):
 Calls Tryz.prog 46 #[ptr L.pb,ptr tp] w λe w'=>e=.returned (.tuple #[])/\cl w w' tag L s (eA s k) 4:=by
 have h3:=hD er;have dw:=hD (z.step.join bz);clear er;have c1:=z.h;obtain⟨fq,d,av,fv,hs,c2,hu,hy,g5,hA⟩:=c1.thW z.htp z.hk;obtain⟨q,bv⟩:=eX (L.fp th.cur);have f4:=g5 z.hrun;rw[<-bv] at f4;subst f4;have g9:=c2.I 3;have b1:=c2.I 4;simp[dj] at g9 b1;obtain⟨b7,bf⟩:=eX (w.alloc (.cells #[.int .u64 th.cur.job,.string (sB th.cur.M)] 58));have c3:ac w b7:=by rw[bf];exact(aa.refl _ w).alloc _
 obtain⟨y,bo⟩:=eX w.heap.size;have eg:ae b7 y 58 #[.int .u64 th.cur.job,.string (sB th.cur.M)]:=by rw[bf,bo];exact bN
 have ad:=c1.U c3;obtain⟨ck,b8⟩:=ad.p16 th.cur f z.hf (by simp);rw[z.hpr,<-bv] at ck;rw[z.hpr] at b8;have X:=hD (nu (ad.tagB (i:=100+q) (by omega)) ck z.hP.ok (b8 z.hfi.res) z.hfi.res);unfold nZ at X;obtain⟨f',al⟩:=eX ((f.run1 p).1);rw[bz,<-al] at X;simp only[hU,mf] at X;have g4:=c3.J c2 nF;have P:=g4.I 5;simp[dj,ptr] at P;have l:=hD z;have ee:=hD bf.symm;have e4:=hD bo;have b3:=hD ad;have e6:=hD c3;have dv:=hD eg;have e7:=hD bv;have c6:=hD al;have h5:=hD bz;have eb:=hD fq;have am:tag y=0:=fL c1.tlt (by rw[bo];exact lR);have e2:=hD am
 have e0:Hd (f'.result=none->fN p f'):=hD λS=>by
  rcases pH z.hP.ok (b8 z.hfi.res) with⟨x,e,_⟩|⟨e,_⟩
  ·have:=(jb z.hfi.ok z.hfi.res (p:=p)).done x e
   rw[<-al,S] at this
   cases this.2.2
  ·rw[al];exact e
 unfold ptr;clear z c1 fq hs c2 hu hy g5 hA bv bf c3 bo eg ad ck b8 al bz g4 am;go_enter Tryz.func46,Tryz.ntmps46;go_upto_region 1 with fail;rw[ee.O,<-e4.O];clear ee g9 b1
 go_upto_region 2 with(go_at_call 86;refine X.O.mono ?_;rintro e a4 ⟨hO,hS,rfl,⟨az,cf⟩,K,g3⟩)
 clear X P;obtain⟨C,bk⟩:=eX (a4.alloc (.cells #[.int .u8 3,.string ⟨#[]⟩,.int .i64 0,.slice none 0 0,.int .i64 0,.int .i64 0,.int .i64 0] 181));obtain⟨ek,an⟩:=eX a4.heap.size;rw[<-bk,<-an];have aE:ac a4 C:=by rw[bk];exact oR.alloc _
 have bs:ae C ek 181 #[.int .u8 3,.string ⟨#[]⟩,.int .i64 0,.slice none 0 0,.int .i64 0,.int .i64 0,.int .i64 0]:=by rw[bk,an];exact bN
 obtain⟨m,aw⟩ :∃t,t=ct tag b7 a4 (100+q):=⟨_,rfl⟩
 have f0:=b3.O.part (i:=100+q) K
 have ej:aT a4 (λb=>ct tag b7 a4 (100+q) b=100+q) q az p f':=cf.mo λb H=>by
  rcases H with H|H
  ·exact(bu b3.O.tlt b (by rw[H];omega)).trans H
  ·exact fe H
 have fd:s.T.fm th.cur≠none:=by rw[l.O.hf];simp
 have a2:=f0.frame (n:=th.cur) e7.O fd (by rw[l.O.hpr];exact ej) (by rw[l.O.hpr];exact e0.O);rw[<-aw] at a2
 have ex:oP w C tag m L {L with fl:=au L.fl th.cur az} s k tp y ek th f' #[.int .u8 3,.string ⟨#[]⟩,.int .i64 0,.slice none 0 0,.int .i64 0,.int .i64 0,.int .i64 0]:=⟨a2.U aE,((aK.U e6.O).trans (by rw[aw];exact aK.part b3.O.tlt (by omega) K)).trans (aK.U aE),aE.J (K.J dv.O (λe=>by rw[e2.O] at e;omega)) nF,bs,rfl,⟨by
  rw[aw];unfold ct;rw[yb (λe=>absurd dv.O.lt (zC.2 e.1))];exact e2.O,fL a2.tlt (by rw[an];exact lR)⟩,⟨by rw[e4.O];exact lR,by rw[an];exact lT e6.O.size K.size⟩,by rw[aw,bu b3.O.tlt tp (by rw[eb.O];decide)];exact eb.O⟩
 have D:=hD ex;have hP:=hD aE;clear bk an aE aw f0 cf ej fd a2 ex;have ai:=D.O.h;have d4:ae C L.pb 123 (bi {L with fl:=au L.fl th.cur az}):=(ai.p1 (by decide)).2;have c0:=ai.p2 (by decide)
 have X:Hd (eA s k=if r.opn≠0 then {s with T:=gN s.T th.cur r 3 f',ths:=s.ths.set k {th with cur:=fS,run:=false}} else {s with T:=gN s.T th.cur r 2 (bG s.T.rw th.cur f'.waitsOf f')}):=hD (by
  unfold eA;rw[PS.th_eq l.O.hk,l.O.hr,l.O.hf];simp only;rw[l.O.hpr,h5.O];simp only;rw[c6.O])
 have a3:Hd (∀W,aa (λb=>m b=2) C W->aa (λb=>m b=2) C W/\W.cell? ⟨L.pb,4,none⟩=some (.pointer (some ⟨L.tb,0,none⟩))/\W.cell? ⟨y,0,none⟩=some (.int .u64 th.cur.job)/\W.cell? ⟨y,1,none⟩=some (.string (sB th.cur.M))):=hD λW o=>by
  have a5:¬m L.pb=2:=λe=>by have:=(ai.p1 (by decide)).1;have a2:m L.pb=1:=this;rw[e] at a2;exact absurd a2 (by decide)
  have a9:=o.J D.O.bn (λe=>by have:=D.O.t0.1;rw[e] at this;exact absurd this (by decide));exact⟨o,(o.J d4 a5).I 4,a9.I 0,a9.I 1⟩
 have Y:=a3.O C oR;have s0:=bs.I 0;simp at s0
 by_cases a8:r.opn=0
 ·have b4:=hD a8
  have cd:Hd (∀W,ac C W->Calls Tryz.prog 88 #[.pointer (some ⟨L.tb,0,none⟩),.agg #[.int .u64 th.cur.job,.string (sB th.cur.M)]] W λe w'=>e=.returned (.tuple #[.bool false,.int .i64 0])/\ac W w'):=hD λW o=>by
   have:=CS (c0.kp o nG) l.O.hn l.O.hr l.O.h2 a8;unfold aP ew at this;exact this
  clear bs K g3 ai d4 c0 a8;go_upto_region 6 with fail
  go_region_held3 (λw'=>aa (λb=>m b=2) C w'/\w'.cell? ⟨L.pb,4,none⟩=some (.pointer (some ⟨L.tb,0,none⟩))/\w'.cell? ⟨y,0,none⟩=some (.int .u64 th.cur.job)/\w'.cell? ⟨y,1,none⟩=some (.string (sB th.cur.M)))
   (first|with_reducible exact a3.O _ B.O|with_reducible exact a3.O _ (aa.drew oR)|with_reducible exact a3.O _ oR|fail)
   (first
    |(go_at_call 88;refine(cd.O _ (aa.drew oR)).mono ?_;rintro e N ⟨rfl,b0⟩;have b6:Hd (ac C N):=hD ((aa.drew oR).trans b0);have B:Hd (aa (λb=>m b=2) C N):=hD (b6.O.mono λ_ e=>e.elim);clear b0)
    |fail)
  have hl:∃u:cj,u= {L with fl:=au L.fl th.cur az}:=⟨_,rfl⟩
  obtain⟨u,cp⟩:=hl;have R:=D.O.h.U b6.O;rw[<-cp] at R;have V:Hd (u.pb=L.pb/\u.tb=L.tb/\u.tps=L.tps/\u.fp th.cur=q/\u.dn=L.dn/\u.most=L.most/\u.dp=L.dp/\u.n=L.n/\u.fn=L.fn):=hD (by rw[cp];exact⟨rfl,rfl,rfl,e7.O.symm,rfl,rfl,rfl,rfl,rfl⟩);have gx:Hd (aK w N tag m):=hD (D.O.go.trans (aK.U b6.O));have eq:=b6.O.J D.O.bn nF;have gq:=hD eq;have h0:Hd (m y=0/\m tp=15):=hD ⟨D.O.t0.1,D.O.tp15⟩
  have cr:∀(W:World) (sT:TS),aR W m u {s with T:=sT}->W.cell? ⟨tp,5,none⟩=some (.pointer (some ⟨q,0,none⟩)):=λW sT cq=>by
   obtain⟨_,hW,hR,it,j3,ht,_,_,hz,_⟩:=cq.thW (k:=k) (tp:=tp) (th:=th) (by rw[V.O.2.2.1];exact l.O.htp) l.O.hk;have P:=ht.I 5;have hi:=hz l.O.hrun;rw[hi,V.O.2.2.2.1] at P;simp[dj,ptr] at P;exact P
  have ec:=hD cr;have P:=cr N _ R;have es:f'.kd.length=r.kn:=by have:=dw.O.2.2.2.1;rw[<-c6.O] at this;rw[this];exact l.O.hfi.kd
  have S:f'.result=none:=by have:=dw.O.2.2.1;rw[<-c6.O] at this;exact this
  have ab:=hD (aI es S);have bb:=e0.O S
  have cB:∀(W:World) (F:Fr),aR W m u {s with T:={s.T with fm:=au s.T.fm th.cur (some F)}}->aT W (λb=>m b=100+q) q (u.fl th.cur) p F:=λW F cq=>by
   obtain⟨cg,_⟩:=cq.p16 th.cur F (by show au s.T.fm th.cur _ th.cur=_;rw[ax]) (by simp);rw[V.O.2.2.2.1] at cg;have:=cg;rw[show({s with T:={s.T with fm:=au s.T.fm th.cur (some F)}}:PS).prog th.cur.job=p from l.O.hpr] at this;exact this
  have gt:=hD cB;obtain⟨pl,bt⟩:=eX (f'.waitsOf.map λi:Nat=>(i:Int)+1:List Int);obtain⟨nw,bq⟩:=eX pl.length;have br:nw=f'.waitsOf.length:=by rw[bq,bt,zY]
  have c9:=hD (aI bt (aI bq br))
  have hb:Hd (Calls Tryz.prog 89 #[.pointer (some ⟨q,0,none⟩)] N λe w'=>∃A c,e=.returned (.slice A nw c)/\w'.ownsRow 0 3 1 (.slice A nw c) pl.length (pl.map (Value.int .i64))/\(∀b,(Value.slice A nw c).ownBlock=some b->N.heap.size<=b)/\ac N w'):=hD (by
   refine(xQ (cB N f' R) l.O.hP.ok.p0 bb.kl).mono ?_;rintro e W ⟨v,rfl,v1,v2⟩;obtain⟨A,c,rfl⟩:=fT v1;have a5:su f'.waitsOf=pl.map (Value.int .i64):=by rw[bt,List.map_map];rfl
   rw[<-br] at v1;refine⟨A,c,by rw[br],?_,λb H=>?_,v2⟩
   ·rw[a5] at v1
    rw[<-bq];exact xf v1 (yx _)
   ·exact De v1 H)
  have h6:Hd (∀b,N.heap.size<=b->m b=0):=hD λb H=>fL R.tlt H
  have gn:=hD R
  have fs:nw<=16:=by
   have ad:f'.waitsOf.length<=f'.kd.length:=by unfold Fr.waitsOf;exact lT (List.length_filter_le _ _) (by simp)
   have:=bb.kl;omega
  have ha:=hD fs;have gs:=hD bb;clear R cp eq cr es S bb cB bt bq br Y s0 fs
  go_wp2_with (go_at_call 89;refine hb.O.mono ?_;rintro e ef ⟨A,ei,rfl,v1,v2,c4⟩;have h8:=hD v1;have h9:=hD v2;have c8:=hD c4;clear v1 v2 c4 P)
  go_loopw [59] (λi wr=>∃j:Nat,j<=nw/\i=.int .i64 j/\vq wr m u s th.cur y q (.slice A nw ei) pl (bG s.T.rw th.cur (f'.waitsOf.take j) f')/\aa (λb=>m b=100+q) ef wr) (λi _=>nw-(intOf i).toNat)
  case atStart=>exact⟨0,yx _,rfl,⟨gn.O.U c8.O,c8.O.J gq.O nF,h8.O⟩,oR⟩
  case round=>
   obtain⟨j,iz,rfl,⟨E,b9,ba⟩,cm⟩:=hrel;have cn:vq wr m u s th.cur y q (.slice A nw ei) pl (bG s.T.rw th.cur (f'.waitsOf.take j) f'):=⟨E,b9,ba⟩
   have e1:=hD cn;have e3:=hD cm
   by_cases ar:j<nw
   ·obtain⟨i,a7⟩ :∃i,f'.waitsOf[j]?=some i:=⟨f'.waitsOf[j]'(by rw[<-c9.O.2.2];exact ar),gG _⟩
    obtain⟨⟨kd,d1,f7⟩,f8⟩:=vl f' a7;have d0:i<r.kn:=by have:=(gS d1).1;rw[ab.O.1] at this;exact this
    obtain⟨j7,am,_⟩:=l.O.hg;have S:=λi a7=>Cx (i:=i) l.O.inv.t l.O.hr b4.O am a7 l.O.hP.ok l.O.hT
    obtain⟨c,cs,f2,f3⟩:=S i d0;obtain⟨a1,cv⟩:=eX (bG s.T.rw th.cur (f'.waitsOf.take j) f')
    obtain⟨b2,dr,c5⟩:=mj s.T.rw th.cur p (f'.waitsOf.take j) f' gs.O λg6 hj=>by
     have fa:g6∈f'.waitsOf:=List.mem_of_mem_take hj;unfold Fr.waitsOf at fa;have fb:=zw.1 (Yg.1 fa).1;refine⟨fb,?_⟩;obtain⟨c',a9,hJ,hL⟩:=S g6 (by rw[<-ab.O.1];exact fb);rw[hL];exact hJ
    have ds:=mn s.T.rw th.cur (f'.waitsOf.take j) f' i f8;rw[<-cv] at E b2 dr c5 ds;have bp:a1.kd[i]?=some kd:=ds.trans d1
    have f5:bG s.T.rw th.cur (f'.waitsOf.take (j+1)) f'= {a1 with kd:=a1.kd.set i ⟨kd.into,true,c.res⟩}:=by
     rw[yO,a7];show bG s.T.rw th.cur (f'.waitsOf.take j++ [i]) f'=_;rw[nO,<-cv,f3];unfold Fr.give;rw[yc,bp];rfl
    obtain⟨ci,bn⟩ :∃g:Fr,g= {a1 with kd:=a1.kd.set i ⟨kd.into,true,c.res⟩}:=⟨_,rfl⟩
    have em:fN p ci:=by
     have:=vY b2 f2 (by rw[c5,ab.O.1];exact d0);unfold Fr.give at this;rw[yc,bp] at this;rw[bn];exact this
    have c7:=hD (aI f5 (aI bn em));obtain⟨_,_,_,_,_,_,_,_,_,d3⟩:=l.O.inv.row_ok h3.O cs;obtain⟨d,bm⟩:=eX ((i:Int)+1:Int);have fk:pl[j]?=some d:=by rw[c9.O.1,yJ,a7,bm];rfl
    obtain⟨j5,j6,hv,hV⟩:=C9 ba fk
    cases hv
    obtain⟨kp,d2⟩:=eX (sB (aD th.cur i).M);obtain⟨dq,d6⟩ :∃v,v=c.res.v:=⟨_,rfl⟩
    obtain⟨dm,d5⟩ :∃v,v=c.res.e:=⟨_,rfl⟩
    obtain⟨ga,ft⟩ :∃v,v=sB c.tk.M:=⟨_,rfl⟩
    obtain⟨gb,fw⟩ :∃v,v=c.tk.fn:=⟨_,rfl⟩
    obtain⟨gc,fx⟩ :∃v,v=c.tk.args.length:=⟨_,rfl⟩
    obtain⟨ge,g0⟩ :∃v:Int,v=(c.tk.fuel:Int):=⟨_,rfl⟩
    obtain⟨gf,g1⟩ :∃v:Int,v=(c.sa:Int):=⟨_,rfl⟩
    obtain⟨gm,g2⟩ :∃v,v=c.opn:=⟨_,rfl⟩
    have h4:Hd (∀W,Calls Tryz.prog 90 #[.string (sB th.cur.M),.int .i64 d] W λe w'=>e=.returned (.tuple #[.string kp,.bool true])/\ac W w'):=hD λW=>by
     have f9:=d3.2.1;have:=n5 th.cur.M l.O.hn.2 (i+1) (Yh 1 _) (by have:=b2.kl;rw[c5,ab.O.1] at this;omega) W;unfold pY at this;rw[yb (λe=>by rw[show(aD th.cur i).M=th.cur.M++ [UInt8.ofNat (i+1)] from rfl,yk,e] at f9;simp at f9)] at this;rw[bm,d2];exact this
    have h1:Hd (∀W,ac wr W->Calls Tryz.prog 51 #[.pointer (some ⟨L.tb,0,none⟩),.agg #[.int .u64 th.cur.job,.string kp]] W λe w'=>∃Z c',e=.returned (.tuple #[.agg #[.int .u64 th.cur.job,.string kp,.string ga,.int .i64 gb,.slice Z gc c',.int .i64 ge,.int .u8 gf,.int .i64 gm,.int .i64 dq,.int .i64 dm],.bool true])/\ac W w'):=hD λW o=>by
     have fo:=(E.U o).p2 (by decide);rw[V.O.2.1] at fo;have d7:=Ci fo d3 cs;unfold aP ew ir at d7;rw[show(aD th.cur i).job=th.cur.job from rfl,<-d2,<-ft,<-fw,<-fx,<-g0,<-g1,<-g2,<-d6,<-d5] at d7;exact d7.mono λe hQ ⟨Z,c',a5,_,ho⟩=>⟨Z,c',a5,ho⟩
    have h2:Hd (∀W,ac wr W->Calls Tryz.prog 91 #[.pointer (some ⟨q,0,none⟩),.int .i64 d,.agg #[.int .i64 dq,.int .i64 dm]] W λe w'=>e=.returned (.int .i64 0)/\aT w' (λb=>m b=100+q) q (u.fl th.cur) p ci/\aa (λb=>m b=100+q) W w'):=hD λW o=>by
     have a6:=E.U o;have:=AD i kd c.res (a6.tagB (by omega)) (gt.O W a1 a6) l.O.hP.ok.p0 bp f7 (dr.trans ab.O.2) b2.kl;unfold eT at this;rw[bm,d6,d5,bn];exact this
    have P:=ec.O wr _ E;have fj:ae wr L.pb 123 (bi u):=by have:=(E.p1 (by decide)).2;rw[V.O.1] at this;exact this
    have fr:u.tb=L.tb:=V.O.2.1
    have bc:Hd (∀W,ac wr W->ac wr W/\W.cell? ⟨L.pb,4,none⟩=some (.pointer (some ⟨L.tb,0,none⟩))/\W.cell? ⟨y,0,none⟩=some (.int .u64 th.cur.job)/\W.cell? ⟨y,1,none⟩=some (.string (sB th.cur.M))/\W.cell? ⟨tp,5,none⟩=some (.pointer (some ⟨q,0,none⟩))):=hD λW o=>by
     have a9:=o.J b9 nF;refine⟨o,?_,a9.I 0,a9.I 1,ec.O W _ (E.U o)⟩;rw[<-fr];exact(o.J fj nF).I 4
    have he:Hd (aR wr m u {s with T:={s.T with fm:=au s.T.fm th.cur (some a1)}}):=hD E;have Y:=bc.O wr oR;obtain⟨j1,j2⟩:=jP ar;have hm:=eM ar (lT ha.O (by decide));have j0:=(cQ _).trans hm;clear E b9 ba cm cn a7 d1 f7 f8 d0 am S cs f2 f3 cv b2 dr c5 ds bp f5 bn em d3 bm fk d2 d6 d5 ft fw fx g0 g1 g2 fj fr P
    go_upto_region 13 with(go_at_call 90;refine(h4.O _).mono ?_;rintro e a ⟨rfl,g7⟩;have a0:=hD g7;clear g7)
    clear Y;have Y:=bc.O a a0.O;have cb:Hd (ac a (a.alloc (.cells #[.int .u64 0,.string ⟨#[]⟩,.string ⟨#[]⟩,.int .i64 0,.slice none 0 0,.int .i64 0,.int .u8 0,.int .i64 0,.int .i64 0,.int .i64 0] 60))):=hD (oR.alloc _);have dz:Hd (ac a a.drew):=hD (aa.drew oR);have ea:Hd (ac a (a.alloc (.cells #[.int .u64 0,.string ⟨#[]⟩,.string ⟨#[]⟩,.int .i64 0,.slice none 0 0,.int .i64 0,.int .u8 0,.int .i64 0,.int .i64 0,.int .i64 0] 60)).drew):=hD (aa.drew cb.O);have gp:Hd (ae (a.alloc (.cells #[.int .u64 0,.string ⟨#[]⟩,.string ⟨#[]⟩,.int .i64 0,.slice none 0 0,.int .i64 0,.int .u8 0,.int .i64 0,.int .i64 0,.int .i64 0] 60)) a.heap.size 60 #[.int .u64 0,.string ⟨#[]⟩,.string ⟨#[]⟩,.int .i64 0,.slice none 0 0,.int .i64 0,.int .u8 0,.int .i64 0,.int .i64 0,.int .i64 0]):=hD (ae.new a _ _);have hd:Hd (∀W,ac (a.alloc (.cells #[.int .u64 0,.string ⟨#[]⟩,.string ⟨#[]⟩,.int .i64 0,.slice none 0 0,.int .i64 0,.int .u8 0,.int .i64 0,.int .i64 0,.int .i64 0] 60)).drew W->ae W a.heap.size 60 #[.int .u64 0,.string ⟨#[]⟩,.string ⟨#[]⟩,.int .i64 0,.slice none 0 0,.int .i64 0,.int .u8 0,.int .i64 0,.int .i64 0,.int .i64 0]):=hD λW o=>o.J gp.O.drew nF
    have Q:Hd (∀W,ac a W->ac a W/\W.cell? ⟨L.pb,4,none⟩=some (.pointer (some ⟨L.tb,0,none⟩))/\W.cell? ⟨y,0,none⟩=some (.int .u64 th.cur.job)):=hD λW o=>by
     have:=bc.O W (a0.O.trans o);exact⟨o,this.2.1,this.2.2.1⟩
    have e5:Hd (∀(W:World) (v0 v1 v2 v3 v4 v5 v6 v7 v8 v9:Value),ac a W->ac a ((((((((((W.setCell ⟨a.heap.size,0,none⟩ v0).setCell ⟨a.heap.size,1,none⟩ v1).setCell ⟨a.heap.size,2,none⟩ v2).setCell ⟨a.heap.size,3,none⟩ v3).setCell ⟨a.heap.size,4,none⟩ v4).setCell ⟨a.heap.size,5,none⟩ v5).setCell ⟨a.heap.size,6,none⟩ v6).setCell ⟨a.heap.size,7,none⟩ v7).setCell ⟨a.heap.size,8,none⟩ v8).setCell ⟨a.heap.size,9,none⟩ v9)/\((((((((((W.setCell ⟨a.heap.size,0,none⟩ v0).setCell ⟨a.heap.size,1,none⟩ v1).setCell ⟨a.heap.size,2,none⟩ v2).setCell ⟨a.heap.size,3,none⟩ v3).setCell ⟨a.heap.size,4,none⟩ v4).setCell ⟨a.heap.size,5,none⟩ v5).setCell ⟨a.heap.size,6,none⟩ v6).setCell ⟨a.heap.size,7,none⟩ v7).setCell ⟨a.heap.size,8,none⟩ v8).setCell ⟨a.heap.size,9,none⟩ v9).cell? ⟨L.pb,4,none⟩=some (.pointer (some ⟨L.tb,0,none⟩))/\((((((((((W.setCell ⟨a.heap.size,0,none⟩ v0).setCell ⟨a.heap.size,1,none⟩ v1).setCell ⟨a.heap.size,2,none⟩ v2).setCell ⟨a.heap.size,3,none⟩ v3).setCell ⟨a.heap.size,4,none⟩ v4).setCell ⟨a.heap.size,5,none⟩ v5).setCell ⟨a.heap.size,6,none⟩ v6).setCell ⟨a.heap.size,7,none⟩ v7).setCell ⟨a.heap.size,8,none⟩ v8).setCell ⟨a.heap.size,9,none⟩ v9).cell? ⟨y,0,none⟩=some (.int .u64 th.cur.job)):=hD λW v0 v1 v2 v3 v4 v5 v6 v7 v8 v9 o=>Q.O _ (by with_reducible (refine aa.setCell ?_ (Or.inr (lR)) _;refine aa.setCell ?_ (Or.inr (lR)) _;refine aa.setCell ?_ (Or.inr (lR)) _;refine aa.setCell ?_ (Or.inr (lR)) _;refine aa.setCell ?_ (Or.inr (lR)) _;refine aa.setCell ?_ (Or.inr (lR)) _;refine aa.setCell ?_ (Or.inr (lR)) _;refine aa.setCell ?_ (Or.inr (lR)) _;refine aa.setCell ?_ (Or.inr (lR)) _;refine aa.setCell ?_ (Or.inr (lR)) _;exact o))
    clear Y;have Y:=Q.O a oR
    go_cut [13,14] (λs13 s14 wx=>vu a wx th.cur.job kp ga gb gc ge gf gm dq dm s13)
    case first=>
     go_region_held3 (λw'=>ac a w'/\w'.cell? ⟨L.pb,4,none⟩=some (.pointer (some ⟨L.tb,0,none⟩))/\w'.cell? ⟨y,0,none⟩=some (.int .u64 th.cur.job))
      (first|with_reducible exact e5.O _ _ _ _ _ _ _ _ _ _ _ B.O|with_reducible exact Q.O _ B.O|with_reducible exact Q.O _ (aa.alloc B.O _)|with_reducible exact Q.O _ (aa.drew B.O)|with_reducible exact Q.O _ cb.O|with_reducible exact Q.O _ (aa.drew cb.O)|with_reducible exact Q.O _ (aa.drew oR)|with_reducible exact Q.O _ oR|(with_reducible refine Q.O _ ?_;with_reducible refine aa.setCell ?_ (Or.inr (lR)) _;repeat (first|with_reducible exact B.O|with_reducible refine aa.setCell ?_ (Or.inr (lR)) _))|fail)
      (first|(go_at_call 51;refine(h1.O _ ?_).mono ?_;(first|with_reducible exact a0.O.trans dz.O|with_reducible exact a0.O.trans ea.O|fail);rintro e W8 ⟨Z,c',rfl,K⟩;(first|(have B:Hd (ac a W8):=hD (by with_reducible exact aa.trans dz.O K);clear K)|(have B:Hd (ac a W8):=hD (by with_reducible exact aa.trans ea.O K);have d8:=hd.O W8 K;have hc:=hD d8;obtain⟨hX,a5,hY,hZ,i0,i1,i2,i3,i4,i6,i8,ic,cf,cg,ie,ih,ii,il,ch,is⟩:=pO d8;clear K d8)))|fail)
     all_goals (
      go_wp2_with fail;go_meet)
     all_goals (unfold vu;first
      |(with_reducible refine⟨Z,c',W8.heap.size,rfl,bN,?_⟩;with_reducible exact aa.alloc B.O _)
      |(with_reducible refine⟨Z,c',a.heap.size,rfl,qZ hc.O,?_⟩;with_reducible exact(e5.O W8 _ _ _ _ _ _ _ _ _ _ B.O).1))
    case rest=>
     obtain⟨Z,c',iv,rfl,dk,dl⟩:=hcut;obtain⟨ce,hh⟩:=eX wc;subst hh;have eL:=bc.O ce (a0.O.trans dl);have P:=eL.2.2.2.2;have hM:=dk.I 8;have hN:=dk.I 9;simp[] at hM hN;have e8:=hD dl;clear eL dk dl Y;go_upto_region 14 with fail
     go_still_tail 7,(by kernel_rfl)
     change wpList _ _ _ _ _ ce.drew
     go_wp2_with (go_at_call 91;refine(h2.O _ (a0.O.trans (e8.O.trans (aa.drew oR)))).mono ?_;rintro e W8 ⟨rfl,ch,g8⟩;have gr:=hD ch;have b5:=hD g8;clear ch g8)
     go_roundw
     case measure=>exact aG rfl ar
     case rel=>
      have bx:ac wr ce.drew:=a0.O.trans (e8.O.trans (aa.drew oR));have a6:=he.O.U bx;have el:=(a6.same (i:=100+q) b5.O).frame (n:=th.cur) (l':=u.fl th.cur) (f':=ci) V.O.2.2.2.1.symm (by show au s.T.fm th.cur _ th.cur≠none;rw[ax];simp) (by have:=gr.O;rw[<-l.O.hpr] at this;exact this) (λ_=>by have:=c7.O.2.2;rw[<-l.O.hpr] at this;exact this);simp only[pN,jc] at el;refine⟨j+1,ar,rfl,⟨?_,b5.O.J (bx.J e1.O.2.1 nF) (λe=>by rw[h0.O.1] at e;omega),b5.O.owns (bx.owns e1.O.2.2 nG) (λb H e=>by rw[h6.O b (h9.O b H)] at e;omega)⟩,(e3.O.trans (bx.mono λ_ e=>e.elim)).trans b5.O⟩;rw[c7.O.1,<-c7.O.2.1];exact el
   ·have iw:¬(j:Int)<(nw:Int):=by omega
    have f6:j=nw:=by omega
    have f1:f'.waitsOf.take j=f'.waitsOf:=by rw[f6,c9.O.2.2,zr]
    rw[f1] at E;have gu:=hD E;clear E b9 ba cm cn f6 f1;go_wp2_with fail
    go_end0
    rw[X.O,yb (λe=>e b4.O)];refine⟨rfl,m,u,?_,(gx.O.trans (aK.U c8.O)).trans (aK.same (i:=100+q) (by omega) e3.O),?_⟩
    ·rw[rJ l.O.hr l.O.h2]
     exact gu.O
    ·obtain⟨hB,az,hC,j4,hE,hF,hG,hH,hI⟩:=V.O
     exact⟨hB,hF,hC,hG,by rw[hH];omega,by rw[hI];omega,by simp;omega,[],by simp[gN],by rw[hE];simp⟩
 ·have ff:(r.opn==0)=false:=bF a8
  have b4:=hD a8
  have cd:Hd (∀W,ac C W->Calls Tryz.prog 88 #[.pointer (some ⟨L.tb,0,none⟩),.agg #[.int .u64 th.cur.job,.string (sB th.cur.M)]] W λe w'=>e=.returned (.tuple #[.bool true,.int .i64 0])/\bD w' (λb=>m b=2) L.tb L.mb L.most (au s.T.rw th.cur (some {r with sa:=3})) s.T.ks.length L.rp/\aa (λb=>m b=2) W w'):=hD λW o=>by
   have:=BN ((D.O.h.U o).tagB (by decide)) (c0.kp o nG) l.O.hn l.O.hr l.O.h2 ff;unfold aP ew at this;exact this
  clear bs K g3 ai d4 c0 a8 ff;go_upto_region 6 with fail
  go_region_held3 (λw'=>aa (λb=>m b=2) C w'/\w'.cell? ⟨L.pb,4,none⟩=some (.pointer (some ⟨L.tb,0,none⟩))/\w'.cell? ⟨y,0,none⟩=some (.int .u64 th.cur.job)/\w'.cell? ⟨y,1,none⟩=some (.string (sB th.cur.M)))
   (first|with_reducible exact a3.O _ B.O|with_reducible exact a3.O _ (aa.drew oR)|with_reducible exact a3.O _ oR|fail)
   (first
    |(go_at_call 88;refine(cd.O _ (aa.drew oR)).mono ?_;rintro e N ⟨rfl,b1,b0⟩;have B:Hd (aa (λb=>m b=2) C N):=hD (aa.trans (aa.drew oR) b0);have h7:=hD b1;clear b0 b1)
    |fail)
  have R:=(D.O.h.same (i:=2) B.O).fill2 (T':=gN s.T th.cur r 3 f') (rp':=L.rp) h7.O rfl;have e9:=hD (qI R (k:=k) (th:=th) l.O.htp l.O.hk);unfold ptr at e9;clear R Y s0
  go_wp2_with (go_at_call 77;refine e9.O.mono ?_;rintro e ef ⟨rfl,a6,c4⟩)
  (try simp only[Exit.inBlock,Exit.then])
  refine bodyPost_ret (results_none rfl _ _ _) rfl ?_;rw[X.O,yf b4.O];exact⟨rfl,m,_,a6,(D.O.go.trans (aK.same (i:=2) (by decide) B.O)).trans (aK.same (i:=15) (by decide) (c4.mono λb e=>by rw[e];exact D.O.tp15)),⟨rfl,rfl,rfl,rfl,by simp;omega,by simp;omega,by simp;omega,[],by simp[gN],by simp⟩⟩
end
section
variable {G:cG}{w w':World}{tag tag':Nat->Nat}{L L':cj}{s s':PS}{n:Nm}{r:aC}
theorem bW.room{t:TS}(c:bW G t)(jl:List Int)(i:∀j,G j≠none->j∈jl){a:Nm}{p:List aj}{x u:aA}(k:t.rw a=none)(f:G a.job=some (p,x))(l:bw p x a.M=some u):t.ks.length+1<=(jl.flatMap (iT G)).length:=by
 have q:a ∉ t.ks:=λb=>(c.ks a).1 b k
 have key:∀(n:Nm) (p:List aj) (x u:aA),G n.job=some (p,x)->bw p x n.M=some u->n∈jl.flatMap (iT G):=λn p x u d e=>by
  refine List.mem_flatMap.2 ⟨n.job,i _ (by rw[d];simp),?_⟩;unfold iT;rw[d];refine yL.2 ⟨⟨u,cS p u,(aW p u).length⟩,(i7 _ _ (lR) _).2 ⟨_,_,e,rfl⟩,?_⟩;have:=fX _ _ _ e;rw[c.roots _ _ _ d] at this;simp only;rw[this];rfl
 refine kL (a :: t.ks) _ (List.nodup_cons.2 ⟨q,c.nodup⟩) λn m=>?_
 rcases yG.1 m with b|b
 ·subst b
  exact key _ _ _ _ f l
 ·cases hr:t.rw n with
  |none=>exact absurd hr ((c.ks n).1 b)
  |some r=>
   obtain⟨v,y,g,o,_⟩:=(c.row n r hr).node;exact key _ _ _ _ g o
theorem xr(e:gJ G){k tp:Nat}{th:Th}{p:List aj}{f:Fr}(b:fP G w tag L s k tp th r p f)(c:jN L s)(i:∀a,s.known a=none)(g:∀a,s.away a=false)(j:L.most<=1000000)
 (l:∀a p x u,s.T.rw a=none->G a.job=some (p,x)->bw p x a.M=some u->(s.T.ks.length:Int)<L.most):
 Calls Tryz.prog 46 #[ptr L.pb,ptr tp] w λd w'=>d=.returned (.tuple #[])/\cl w w' tag L s (eA s k) 4:=by
 cases hst:(f.run1 p).2 with
 |more=>exact uV b hst
 |fork t=>exact uT b hst c i g j l
 |join=>exact uU e b hst
 |done y=>exact uS b hst c
theorem uW(f:aR w tag L s)(C:aF G s (λ_=>False))(B:gJ G)(A:jN L s){k tp:Nat}{th:Th}(u:L.tps[k]?=some tp)(t:s.ths[k]?=some th){a:Nat×Nat}(v:th.act=some a)(o:Nat)(S:o<4294967296):
 Calls Tryz.prog 17 #[ptr L.pb,.int .i64 (k:Int),.int .u32 (o:Int)] w λe w'=>∃b s',e=.returned (.tuple #[.bool b,.int .i64 0])/\cL s k o s'/\cl w w' tag L s s' 4:=by
 obtain⟨j,i⟩:=a;have E:=(f.p1 (by decide)).2;obtain⟨_,m⟩:=f.p5 (by decide);obtain⟨N,a3,l⟩:=fT m;obtain⟨K,x⟩:=eX L.tps.length;rw[<-x] at l;have D:k<K:=by rw[x,(f.p15 (by decide)).1];exact(gS t).1
 obtain⟨p,Q⟩ :∃p,N=some ⟨p,0,none⟩:=by
  rcases cT m with⟨_,e⟩|⟨g,c,e,_⟩
  ·omega
  ·rw[l] at e
   exact⟨g,by injection e⟩
 subst Q
 have a4:w.cell? ⟨p,k,none⟩=some (.pointer (some ⟨tp,0,none⟩)):=by
  rw[l] at m;have:=World.ownsRow.cells m (g:=p) rfl k (ptr tp) (by rw[yJ,u];rfl);rw[bE,yq] at this;exact this
 have P:=E.I 3;simp[bi,l] at P;obtain⟨a5,a6⟩:=jP D;have a7:¬(k:Int)<0:=by omega
 have a8:¬(K:Int)<=(k:Int):=by omega
 have z:=hD (jB f);obtain⟨V,d,av,fv,X,F,Y,H,Z,a0⟩:=f.thW u t;have y:=hD (xg f C B A u t v o S);obtain⟨pl,q,_,_,R⟩:=H j i v;subst R;have a1:=F.I 0;simp[dj,ptr] at a1;unfold ptr at y z;unfold ptr;clear f C B A u t v E m l x D X F Y H Z a0 V;go_enter Tryz.func17,Tryz.ntmps17
 go_wp2_with (first
  |(go_at_call 44;refine z.O.mono ?_;rintro e a2 ⟨rfl,rfl⟩)
  |(go_at_call 45;refine y.O.mono ?_;rintro e a2 ⟨b,s',rfl,T,W⟩)
  |fail)
 go_ret2
 exact⟨b,s',rfl,T,W⟩
theorem uX(e:aR w tag L s)(F:aF G s (λ_=>False))(z:gJ G)(E:jN L s){k tp:Nat}{th:Th}(y:L.tps[k]?=some tp)(l:s.ths[k]?=some th)(q:th.act=none)(v:th.run=true)(o:Nat)(am:o<4294967296)(K:∀i,s.known i=none)(H:∀i,s.away i=false)(P:L.most<=1000000)
 (S:∀i p x u,s.T.rw i=none->G i.job=some (p,x)->bw p x i.M=some u->(s.T.ks.length:Int)<L.most):
 Calls Tryz.prog 17 #[ptr L.pb,.int .i64 (k:Int),.int .u32 (o:Int)] w λa w'=>∃b s',a=.returned (.tuple #[.bool b,.int .i64 0])/\cL s k o s'/\cl w w' tag L s s' 4:=by
 obtain⟨r,p,f,R⟩:=fP.mk' e F z y l q v;have Q:=(e.p1 (by decide)).2;obtain⟨_,m⟩:=e.p5 (by decide);obtain⟨Y,ai,j⟩:=fT m;obtain⟨X,A⟩:=eX L.tps.length;rw[<-A] at j;have N:k<X:=by rw[A,(e.p15 (by decide)).1];exact(gS l).1
 obtain⟨t,a1⟩ :∃t,Y=some ⟨t,0,none⟩:=by
  rcases cT m with⟨_,a⟩|⟨g,c,a,_⟩
  ·omega
  ·rw[j] at a
   exact⟨g,by injection a⟩
 subst a1
 have al:w.cell? ⟨t,k,none⟩=some (.pointer (some ⟨tp,0,none⟩)):=by
  rw[j] at m;have:=World.ownsRow.cells m (g:=t) rfl k (ptr tp) (by rw[yJ,y];rfl);rw[bE,yq] at this;exact this
 have a0:=Q.I 3;simp[bi,j] at a0;obtain⟨an,ar⟩:=jP N;have aw:¬(k:Int)<0:=by omega
 have az:¬(X:Int)<=(k:Int):=by omega
 have C:=hD (jB e);obtain⟨a4,d,av,fv,a6,B,V,a7,W,a8⟩:=e.thW y l;have D:=hD (xr z R E K H P S);have a2:=V q;have a3:=W v;subst a2;subst a3;have a9:=B.I 0;have ab:=B.I 5;simp[dj,ptr] at a9 ab
 have Z:Hd (cL s k o (eA s k)):=hD (by
  unfold cL;rw[PS.th_eq l,q];simp[v])
 unfold ptr at D C;unfold ptr;clear e F z E y l q Q m j A N a6 B V a7 W a8 a4 R K H P S v;go_enter Tryz.func17,Tryz.ntmps17
 go_wp2_with (first
  |(go_at_call 44;refine C.O.mono ?_;rintro a ad ⟨rfl,rfl⟩)
  |(go_at_call 46;refine D.O.mono ?_;rintro a ad ⟨rfl,a5⟩)
  |fail)
 go_ret2
 exact⟨_,_,rfl,Z.O,a5⟩
theorem xw(f:aR w tag L s)(z:aF G s (λ_=>False)){k tp:Nat}{th:Th}(E:L.tps[k]?=some tp)(j:s.ths[k]?=some th)(m:th.act=none)(D:th.run=false)(y:Nat)(c1:y<4294967296):
 Calls Tryz.prog 17 #[ptr L.pb,.int .i64 (k:Int),.int .u32 (y:Int)] w λe w'=>∃b s',e=.returned (.tuple #[.bool b,.int .i64 0])/\cL s k y s'/\cl w w' tag L s s' 4:=by
 have T:=(f.p1 (by decide)).2;obtain⟨_,q⟩:=f.p5 (by decide);obtain⟨a9,bv,o⟩:=fT q;obtain⟨Z,K⟩:=eX L.tps.length;rw[<-K] at o;have S:k<Z:=by rw[K,(f.p15 (by decide)).1];exact(gS j).1
 obtain⟨A,b2⟩ :∃A,a9=some ⟨A,0,none⟩:=by
  rcases cT q with⟨_,e⟩|⟨g,c,e,_⟩
  ·omega
  ·rw[o] at e
   exact⟨g,by injection e⟩
 subst b2
 have c0:w.cell? ⟨A,k,none⟩=some (.pointer (some ⟨tp,0,none⟩)):=by
  rw[o] at q;have:=World.ownsRow.cells q (g:=A) rfl k (ptr tp) (by rw[yJ,E];rfl);rw[bE,yq] at this;exact this
 have az:=T.I 3;simp[bi,o] at az;obtain⟨c2,c3⟩:=jP S;have c4:¬(k:Int)<0:=by omega
 have c5:¬(Z:Int)<=(k:Int):=by omega
 have Q:=hD (jB f);obtain⟨V,d,av,fv,N,u,X,ba,bb,Y⟩:=f.thW E j;have b4:=X m;have b7:=Y D;subst b4;subst b7;have a3:=u.I 0;have a4:=u.I 2;have a5:=u.I 5;simp[dj,ptr] at a3 a4 a5
 have am:Hd (cL s k y (jW s k)):=hD (by
  unfold cL;rw[PS.th_eq j,m];simp[D])
 obtain⟨x,t⟩ :∃x,s.ds[k]?=some x:=⟨s.ds[k]'(by rw[z.nlen];exact(gS j).1),gG _⟩
 have H:=(z.th k th j).free m;rw[PS.dq_eq t] at H;obtain⟨aE,pl,P,F,_,_,_,a2⟩:=(f.p3 (by decide)).dq k x t;have b5:d=aE:=yz (N.symm.trans P);subst b5
 have al:Hd (∀W,ac w W->Calls Tryz.prog 47 #[.pointer (some ⟨d,0,none⟩)] W λe w'=>∃g:Nat,e=.returned (.tuple #[.pointer (some ⟨g,0,none⟩),.int .i64 0])/\aa (λb=>tag b=3) W w'/\aR w' (ct tag W w' 3) {L with ps:=L.ps.set k (pl++ [g])} {s with C:=s.C,ds:=s.ds.set k (lZ x)}/\(∀b,tag b≠0->ct tag W w' 3 b=tag b)):=hD λW b3=>by
  have B:=f.U b3;refine(vL (B.p3 (by decide)) z.many t P F H).mono ?_;rintro e bt ⟨rfl,v,_,b0⟩;exact⟨_,rfl,v,(B.part (i:=3) v).fill3 ((b0 (lZ x) rfl rfl rfl).mo (jH B.tlt (by decide))) (ib.snoc F _),bu B.tlt⟩
 have ad:=hD f;have ai:=hD u;have R:=hD (aI E (aI j (aI t (aI F (aI a2 (aI N (aI V (aI m D))))))));unfold ptr at Q;unfold ptr;clear f z E j m D T q o K S N u X ba bb Y V t H P F a2;go_enter Tryz.func17,Tryz.ntmps17
 go_wp2_with (first
  |(go_at_call 44;refine Q.O.mono ?_;rintro e c6 ⟨rfl,rfl⟩)
  |(go_at_call 47;refine(al.O w oR).mono ?_;rintro e an ⟨g,rfl,a0,a1,a6⟩;have v:=hD a0;have bf:=hD a1;have bk:=hD a6;clear a0 a1 a6 a3 a4 a5;have l:=v.O.J ai.O (λe=>by rw[R.O.2.2.2.2.2.2.1] at e;exact absurd e (by decide));have ar:=l.I 0;have aw:=l.I 1;have bx:=l.fz 0;have bz:=l.fz 1;have ab:=hD l;simp[dj] at ar aw;clear l)
  |fail)
 go_ret2
 obtain⟨bm,a7,bn,bo,bp,bq,a8,c7,br⟩:=R.O;have b8:(L.ps.set k (pl++ [g]))[k]?=some (pl++ [g]):=bg (gS bo).1;obtain⟨b1,bc⟩:=bf.O.setAct (kd':=2) (a:=(k,x.acts.length)) (p:=g) (pl:=pl++ [g]) bm a7 bq ab.O (λe=>by rw[br] at e;cases e) (λ_=>rfl) b8 (by show(pl++ [g])[x.acts.length]?=_;rw[<-bp];simp);have b9:ct tag w an 3 tp=15:=by rw[bk.O tp (by rw[a8];decide)];exact a8
 refine⟨_,_,rfl,am.O,_,({L with ps:=L.ps.set k (pl++ [g])}:cj),?_,(aK.part ad.O.tlt (by decide) v.O).trans (aK.same (i:=15) (by decide) (bc.mono λb e=>by rw[e];exact b9)),?_⟩
 ·have b6:jW s k= {{s with C:=s.C,ds:=s.ds.set k (lZ x)} with ths:=s.ths.set k {th with act:=some (k,x.acts.length),kn:=2}}:=by
   unfold jW;rw[PS.dq_eq bn,PS.th_eq a7]
  rw[b6];exact b1
 ·exact⟨rfl,rfl,rfl,rfl,by show L.n<=L.n+4;omega,by show(L.fn:Int)<=L.fn+4;omega,by simp only[jW];omega,[],by simp[jW],by simp⟩
theorem xt(e:aR w tag L s)(f:aF G s (λ_=>False))(m:gJ G)(l:jN L s){k:Nat}(o:k<s.ths.length)(d:Nat)(g:d<4294967296)(v:∀c,s.known c=none)(t:∀c,s.away c=false)(y:L.most<=1000000)
 (z:∀c p x u,s.T.rw c=none->G c.job=some (p,x)->bw p x c.M=some u->(s.T.ks.length:Int)<L.most):
 Calls Tryz.prog 17 #[ptr L.pb,.int .i64 (k:Int),.int .u32 (d:Int)] w λq w'=>∃b s',q=.returned (.tuple #[.bool b,.int .i64 0])/\cL s k d s'/\cl w w' tag L s s' 4:=by
 obtain⟨th,i⟩ :∃th,s.ths[k]?=some th:=⟨s.ths[k],gG o⟩
 obtain⟨tp,j⟩ :∃tp,L.tps[k]?=some tp:=⟨L.tps[k]'(by rw[(e.p15 (by decide)).1];exact o),gG _⟩
 cases ha:th.act with
 |some a=>exact uW e f m l j i ha d g
 |none=>
  cases hr:th.run with
  |true=>exact uX e f m l j i ha hr d g v t y z
  |false=>exact xw e f j i ha hr d g
end
theorem nN:cz cP=0:=by decide
theorem Ay:lH cP:=⟨wY nN (λx b o a=>by simp[cP] at b;rcases b with rfl|rfl<;>·simp at a;rcases a with rfl|rfl|rfl|rfl<;>exact⟨by decide,by decide⟩),nN,λx b=>by simp[cP] at b;rcases b with rfl|rfl<;>·refine⟨by decide,λo a=>?_⟩;simp at a;rcases a with rfl|rfl|rfl|rfl<;>(unfold iG;decide)⟩
def vr(w w':World)(p:List aj)(il:Nat)(fuel pk:Int)(e:Ending):Prop:=∃b,e=.returned (.bool b)/\(b=false->p.length<=30/\il<=100/\¬(400<fuel/\fuel<=65536)/\pk<=1000/\∀x∈p,x.ops.length<=200)/\ac w w'
theorem ti(p:List aj)(A ad:Option Addr)(c j ar:Nat)(d l:Int)(F:Nat->Prop)(w:World)(a5:jf w F A p):
 Calls Tryz.prog 30 #[aS p A c,.slice ad j ar,.int .i64 d,.int .i64 l] w λa w'=>vr w w' p j d l a:=by
 obtain⟨n,X⟩:=eX p.length;obtain⟨K,D⟩:=eX (w.alloc (.cells #[.slice A n c] 24));obtain⟨b0,S⟩:=eX w.heap.size;have a2:ae K b0 24 #[.slice A n c]:=by rw[D,S];exact bN
 have Y:ac w K:=by rw[D];exact oR.alloc _
 have am:=hD a2;have ai:=hD (a5.U Y);have f:=hD Y;have C:=hD X;have al:=hD S;have a1:=hD D.symm;unfold aS;rw[<-X];clear a5 X D Y S a2;go_enter Tryz.func30,Tryz.ntmps30;go_upto_region 1 with fail;rw[a1.O,<-al.O];clear a1;go_wp2_with fail
 go_loopw [9,10] (λm i wr=>∃(k:Nat) (z:Int),k<=n/\k<=40/\m=.int .i64 z/\i=.int .i64 k/\(∀x∈p.take k,x.ops.length<=200)/\ac K wr) (λ_ i _=>40-(intOf i).toNat)
 case atStart=>exact⟨0,0,yx _,yx _,rfl,rfl,λx g=>by simp at g,oR⟩
 case round=>
  obtain⟨k,z,b3,b4,rfl,rfl,y,q⟩:=hrel;have b7:=(q.J am.O nF).I 0;simp at b7;have an:=hD y;have e:=hD q;have Z:Hd (n<=k->∀x∈p,x.ops.length<=200):=hD λb5 x g=>y x (by rw[List.take_of_length_le (by rw[<-C.O];exact b5)];exact g)
  by_cases E:k<n
  ·by_cases V:k<40
   ·have bc:(0:Int)<=(k:Int):=dN k
    have a6:(k:Int)<(n:Int):=cN E;have bb:(k:Int)<40:=by omega
    have a7:k<p.length:=by rw[<-C.O];exact E
    have T:p[k]?=some p[k]:=gG a7;generalize p[k] =x at*;obtain⟨b,bk,B,b9,b1,bm,bn,b8,b2⟩:=(ai.O.U q).at_ T;subst b1;obtain⟨m,W⟩:=eX x.ops.length;rw[<-W] at b8;have b6:wrap64 ((k:Int)+1)=(k:Int)+1:=eM V (by decide);have bf:=(cQ _).trans b6;have a0:=hD (aI W T);clear y q b2 W T a7 b3 b4
    by_cases a8:(200:Int)<(m:Int)
    ·have aE:decide ((200:Int)<(m:Int))=true:=yg a8
     go_wp2_with fail;go_ret;exact⟨_,rfl,λa=>(by cases a),f.O.trans e.O⟩
    ·have aE:decide ((200:Int)<(m:Int))=false:=yd a8
     go_wp2_with fail;go_roundw
     case measure=>exact aG rfl V
     case rel=>
      refine⟨k+1,_,E,V,rfl,rfl,λab a9=>?_,e.O⟩;rw[yO,a0.O.2] at a9
      rcases yH.1 a9 with a|a
      ·exact an.O ab a
      ·have:ab=x:=by simpa using a
       rw[this,<-a0.O.1];omega
   ·have ba:¬(k:Int)<40:=by omega
    have a6:(k:Int)<(n:Int):=cN E;have t:(30:Int)<(n:Int):=by omega
    have a3:decide ((30:Int)<(n:Int))=true:=yg t;clear y q;go_wp2_with fail;go_ret;exact⟨_,rfl,λa=>(by cases a),f.O.trans e.O⟩
  ·have a6:¬(k:Int)<(n:Int):=by omega
   clear y q
   by_cases t:(30:Int)<(n:Int)
   ·have a3:decide ((30:Int)<(n:Int))=true:=yg t
    go_wp2_with fail;go_ret;exact⟨_,rfl,λa=>(by cases a),f.O.trans e.O⟩
   have a3:decide ((30:Int)<(n:Int))=false:=yd t
   by_cases Q:(2048:Int)<z
   ·have av:decide ((2048:Int)<z)=true:=yg Q
    go_wp2_with fail;go_ret;exact⟨_,rfl,λa=>(by cases a),f.O.trans e.O⟩
   have av:decide ((2048:Int)<z)=false:=yd Q
   by_cases R:(100:Int)<(j:Int)
   ·have aw:decide ((100:Int)<(j:Int))=true:=yg R
    go_wp2_with fail;go_ret;exact⟨_,rfl,λa=>(by cases a),f.O.trans e.O⟩
   have aw:decide ((100:Int)<(j:Int))=false:=yd R;have o:=hD (aI t (aI Q R))
   by_cases a4:(1000:Int)<l
   ·have az:decide ((1000:Int)<l)=true:=yg a4
    by_cases u:(400:Int)<d
    ·have N:decide ((400:Int)<d)=true:=yg u
     by_cases v:d<=(65536:Int)
     ·have P:decide (d<=(65536:Int))=true:=yg v
      go_wp2_with fail;go_ret;exact⟨_,rfl,λa=>(by cases a),f.O.trans e.O⟩
     ·have P:decide (d<=(65536:Int))=false:=yd v
      go_wp2_with fail;go_ret;exact⟨_,rfl,λa=>(by cases a),f.O.trans e.O⟩
    ·have N:decide ((400:Int)<d)=false:=yd u
     go_wp2_with fail;go_ret;exact⟨_,rfl,λa=>(by cases a),f.O.trans e.O⟩
   have az:decide ((1000:Int)<l)=false:=yd a4
   by_cases u:(400:Int)<d
   ·have N:decide ((400:Int)<d)=true:=yg u
    by_cases v:d<=(65536:Int)
    ·have P:decide (d<=(65536:Int))=true:=yg v
     go_wp2_with fail;go_ret;exact⟨_,rfl,λa=>(by cases a),f.O.trans e.O⟩
    ·have P:decide (d<=(65536:Int))=false:=yd v
     have H:Hd (p.length<=30/\j<=100/\¬(400<d/\d<=65536)/\l<=1000/\∀x∈p,x.ops.length<=200):=hD ⟨by rw[<-C.O];have:=o.O.1;omega,by have:=o.O.2.2;omega,by omega,by omega,λx g=>Z.O (by have:=o.O.1;omega) x g⟩;go_wp2_with fail;go_ret;exact⟨_,rfl,λ_=>H.O,f.O.trans e.O⟩
   ·have N:decide ((400:Int)<d)=false:=yd u
    have H:Hd (p.length<=30/\j<=100/\¬(400<d/\d<=65536)/\l<=1000/\∀x∈p,x.ops.length<=200):=hD ⟨by rw[<-C.O];have:=o.O.1;omega,by have:=o.O.2.2;omega,by omega,by omega,λx g=>Z.O (by have:=o.O.1;omega) x g⟩;go_wp2_with fail;go_ret;exact⟨_,rfl,λ_=>H.O,f.O.trans e.O⟩
end
end Go.Proofs.YtmdocplknceilaaGreat
