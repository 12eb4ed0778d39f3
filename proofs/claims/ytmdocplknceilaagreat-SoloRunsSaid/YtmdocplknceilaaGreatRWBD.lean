import Derived.Test.YtmdocplknceilaaGreatRWBC
import Derived.Test.YtmdocplknceilaaGreatRWAD
set_option linter.all false
set_option maxRecDepth 100000
set_option maxHeartbeats 8000000
namespace Go.Proofs.YtmdocplknceilaaGreat
section
open Go.RowKit Go.Maps
theorem EB:∃i z,Tryz.prog.info? 69=some i/\i.zero=some z/\i.size=5/\i.bytes=48/\z.cells.size=5:=by
 have a:(Tryz.prog.info? 69).map (λi=>(i.zero.map λz=>z.cells.size,i.size,i.bytes))=some (some 5,5,48):=by kernel_rfl
 cases hi:Tryz.prog.info? 69 with
 |none=>rw[hi] at a;cases a
 |some i=>
  rw[hi] at a;simp only[yU,yC,yP] at a
  cases hz:i.zero with
  |none=>rw[hz] at a;cases a.1
  |some z=>
   rw[hz] at a;exact⟨i,z,rfl,hz,a.2.1,a.2.2,yz a.1⟩
theorem uZ{P:Program}{o:Oper}{a:Act}{w w':World}{b:Act->World->Prop}{Q:Exit->Act->World->Prop}(s x:Operand)(t:TypeId)(g:o.op=.call {callee:=.builtin .append,args:=#[s,x],argTypes:=#[t,t]}){c e d:Value}(j:a.eval s=c)(k:a.eval x=e)
 (i:(Builtin.append_ #[t,t] o.type #[c,e]).run P w=.ok d w') (f:b (a.put o.dst d) w'):o.wp P a w b Q:=by
 unfold Oper.wp execOp;simp only[g,resolve,invoke,builtin,Sem.run_bind,Sem.run_pure,Result.andThen_ok,List.map_toArray,zc,Yk,j,k,i];exact f
theorem rZ{W:World}{q:Nat}(f:TypeId)(v1:Value)(l:List (Nm×Nat×aL))(u:Nm×Nat×aL)(g:W.ownsRow 0 69 5 v1 l.length (l.flatMap gg))(a:ae W q 69 (gg u).toArray)(D:l.length<=1000000):
 ∃d w',(Builtin.append_ #[52,52] f #[v1,.slice (some ⟨q,0,none⟩) 1 1]).run Tryz.prog W=.ok d w'/\w'.ownsRow 0 69 5 d (l++ [u]).length ((l++ [u]).flatMap gg)/\aa (λb=>v1.ownBlock=some b) W w'/\(∀b,d.ownBlock=some b->v1.ownBlock=some b\/W.heap.size<=b):=by
 obtain⟨i,z,p,v,t,o,x⟩:=EB;obtain⟨d,w',m,A,B,C⟩:=mR (P:=Tryz.prog) W 0 52 f 69 i z 5 48 Tryz.underlying52 p v t o x (by decide) v1 l.length (l.flatMap gg) g W.heap.size (some ⟨q,0,none⟩) 1 1 (gg u) ⟨rfl,λ_=>⟨⟨q,0,none⟩,rfl,a.lt,λj y e=>by rw[bg,yq,a.I,zi];exact e⟩⟩ (λy e=>by simp[gg] at e;rcases e with rfl|rfl|rfl|rfl|rfl<;>rfl) (by unfold maxLen;omega) (by omega) (yx _);refine⟨d,w',m,?_,(aa.refl _ W).grown B (λk c=>.inl c),λb a=>?_⟩
 ·rw[yk,zL]
  simpa using A
 ·rcases C with c|c
  ·exact .inl (by rw[<-c];exact a)
  ·rw[c] at a
   exact .inr (zl (yz a))
def Ef(w wx:World)(tag:Nat->Nat)(L3:cN)(s:PS)(n:Nm)(kn:Nat)(y:aL)(gn g5 tp:Nat)(cn cs:Array Value):Prop:=
 ∃tag4 dv,aY wx tag4 {L3 with dv:=dv,dn:=L3.dn++ [(n,kn,y)]} s/\aQ w wx tag tag4/\ae wx gn 58 cn/\ae wx g5 181 cs/\(tag4 gn=0/\tag4 g5=0)/\tag4 tp=15
def Ei(w W7 wx:World)(tag:Nat->Nat)(L:cN)(rows:Nm->Option aG)(cnt:Nat)(m:Nm)(b:Bool)(s15 s16:Value):Prop:=
 ∃gu,s15=.pointer (some ⟨gu,0,none⟩)/\s16=.bool b/\w.heap.size<=gu/\ae wx gu 58 #[.int .u64 m.job,.string (sB m.M)]/\bS wx (λb=>tag b=2) L.tb L.mb L.most rows cnt L.rp/\aa (λb=>tag b=2) W7 wx
section
variable {G:dg}{w w':World}{tag tag':Nat->Nat}{L L':cN}{s s':PS}{n:Nm}{r:aG}
attribute [local simp] eM gw gz dj eD Region.binds ed ey Is ap Act.put
theorem xf{k tp:Nat}{th:Th}{p:List ah}{f:Fr}{y:aL}(N:gU G w tag L s k tp th r p f)(c6:(f.run1 p).2=.done y)(gA:kR L s):
 Calls Tryz.prog 46 #[ptr L.pb,ptr tp] w λa w'=>a=.returned (.tuple #[])/\cP w w' tag L s (fi s k) 4:=by
 have fo:=hD gA;have iz:Hd ((f.run1 p).1.kd.length=r.kn):=hD (by rw[(N.step.done y c6).2.1];exact N.hfi.kd);have l5:=hD (N.step.done y c6);clear gA;have D:=N.h;obtain⟨hy,d,av,fv,k9,d9,kb,kc,hF,kf⟩:=D.thW N.htp N.hk;obtain⟨q,d4⟩:=eX (L.fp th.cur);have h7:=hF N.hrun;rw[<-d4] at h7;subst h7;have hY:=d9.I 3;have hZ:=d9.I 4;simp[dQ] at hY hZ;obtain⟨ck,cw⟩:=eX (w.alloc (.cells #[.int .u64 th.cur.job,.string (sB th.cur.M)] 58));have dk:ac w ck:=by rw[cw];exact(aa.refl _ w).alloc _
 obtain⟨X,d1⟩:=eX w.heap.size;have gm:ae ck X 58 #[.int .u64 th.cur.job,.string (sB th.cur.M)]:=by rw[cw,d1];exact bN
 have P:=D.U dk;obtain⟨eb,cp⟩:=P.p16 th.cur f N.hf (by simp);rw[N.hpr,<-d4] at eb;rw[N.hpr] at cp;have br:=hD (pF (P.tagB (i:=100+q) (by omega)) eb N.hP.ok (cp N.hfi.res) N.hfi.res);unfold qk at br;obtain⟨f',c4⟩:=eX ((f.run1 p).1);rw[c6,<-c4] at br;simp only[jb,nP] at br;have hC:=dk.J d9 nF;have b5:=hC.I 5;simp[dQ,ptr] at b5;have o:=hD N;have gb:=hD cw.symm;have fx:=hD d1;have ch:=hD P;have g3:=hD dk;have fq:=hD gm;have e1:=hD d4;have iv:=hD c4;have j1:=hD c6;have g9:=hD hy;have h9:tag X=0:=gM D.tlt (by rw[d1];exact lR);have fw:=hD h9
 have iw:Hd (f'.result=none->gQ p f'):=hD λk6=>by
  rcases rA N.hP.ok (cp N.hfi.res) with⟨x,a,_⟩|⟨a,_⟩
  ·have:=(jX N.hfi.ok N.hfi.res (p:=p)).done x a
   rw[<-c4,k6] at this
   cases this.2.2
  ·rw[c4];exact a
 unfold ptr;clear N D hy k9 d9 kb kc hF kf d4 cw dk d1 gm P eb cp c4 c6 hC h9;go_enter Tryz.func46,Tryz.ntmps46;go_upto_region 1 with fail;rw[gb.O,<-fx.O];clear gb hY hZ
 go_upto_region 2 with(go_at_call 86;refine br.O.mono ?_;rintro a bf ⟨l4,l9,rfl,⟨bn,gr⟩,a1,k7⟩)
 clear br b5;obtain⟨Z,d8⟩ :∃v,v=y.v:=⟨_,rfl⟩
 obtain⟨Y,d7⟩ :∃v,v=y.e:=⟨_,rfl⟩
 rw[<-d8,<-d7];obtain⟨a5,cB⟩:=eX (bf.alloc (.cells #[.int .u8 4,.string ⟨#[]⟩,.int .i64 0,.slice none 0 0,.int .i64 0,.int .i64 Z,.int .i64 Y] 181));obtain⟨V,c5⟩:=eX bf.heap.size;rw[<-cB,<-c5];have cb:ac bf a5:=by rw[cB];exact oR.alloc _
 have bs:ae a5 V 181 #[.int .u8 4,.string ⟨#[]⟩,.int .i64 0,.slice none 0 0,.int .i64 0,.int .i64 Z,.int .i64 Y]:=by rw[cB,c5];exact bN
 obtain⟨bo,c8⟩ :∃t,t=cS tag ck bf (100+q):=⟨_,rfl⟩
 have h0:=ch.O.part (i:=100+q) a1
 have gs:aZ bf (λb=>cS tag ck bf (100+q) b=100+q) q bn p f':=gr.mo λb K=>by
  rcases K with K|K
  ·exact(bL ch.O.tlt b (by rw[K];omega)).trans K
  ·exact fS K
 have hh:s.T.fm th.cur≠none:=by rw[o.O.hf];simp
 have cq:=h0.frame (n:=th.cur) e1.O hh (by rw[o.O.hpr];exact gs) (by rw[o.O.hpr];exact iw.O);rw[<-c8] at cq
 have gD:qL w a5 tag bo L {L with fl:=ax L.fl th.cur bn} s k tp X V th f' #[.int .u8 4,.string ⟨#[]⟩,.int .i64 0,.slice none 0 0,.int .i64 0,.int .i64 Z,.int .i64 Y]:=⟨cq.U cb,((aQ.U g3.O).trans (by rw[c8];exact aQ.part ch.O.tlt (by omega) a1)).trans (aQ.U cb),cb.J (a1.J fq.O (λa=>by rw[fw.O] at a;omega)) nF,bs,rfl,⟨by
  rw[c8];unfold cS;rw[yb (λa=>absurd fq.O.lt (zC.2 a.1))];exact fw.O,gM cq.tlt (by rw[c5];exact lR)⟩,⟨by rw[fx.O];exact lR,by rw[c5];exact lT g3.O.size a1.size⟩,by rw[c8,bL ch.O.tlt tp (by rw[g9.O];decide)];exact g9.O⟩
 have Q:=hD gD;have l6:=hD cb;clear cB c5 cb c8 h0 gr gs hh cq gD;have gc:=hD (aI d8 d7);obtain⟨F,b0⟩:=eX ({L with fl:=ax L.fl th.cur bn}:cN);rw[<-b0] at Q;have g1:Hd (F= {L with fl:=ax L.fl th.cur bn}):=hD b0;have c1:=Q.O.h;have ho:F.pb=L.pb:=by rw[b0]
 have d2:=(c1.p1 (by decide)).2;rw[ho] at d2;obtain⟨h4,ei⟩:=c1.p7 (by decide);obtain⟨al,az,bk⟩:=bR ei;obtain⟨b1,hg⟩:=eX F.dn.length;rw[<-hg] at bk;have cm:=d2.I 13;simp[bJ,bk] at cm;obtain⟨_,la,l8,lk,ka,hE,_,_,hG,_⟩:=c1.thW (k:=k) (th:=th) (by rw[b0];exact o.O.htp) o.O.hk;have b5:=hE.I 5;have h8:=hG o.O.hrun;rw[h8,show F.fp th.cur=q by rw[b0];exact e1.O.symm] at b5;simp[dQ,ptr] at b5;obtain⟨ea,_⟩:=c1.p16 th.cur f' (by show ax s.T.fm th.cur _ th.cur=_;rw[ay]) (by simp);rw[show F.fp th.cur=q by rw[b0];exact e1.O.symm] at ea
 have g0:Hd (∀W,ac a5 W->Calls Tryz.prog 92 #[.pointer (some ⟨q,0,none⟩)] W λa w'=>a=.returned (.int .i64 (f'.kd.length:Int))/\W=w'):=hD λW a6=>by
  have:=C5 (ea.kp a6 nG) (by show s.prog th.cur.job≠[];rw[o.O.hpr];exact o.O.hP.ok.p0);exact this
 have s0:=bs.I 0;have dm:=bs.I 5;have ai:=bs.I 6;simp[] at s0 dm ai;obtain⟨db,dd⟩:=Q.O.bn.gE2;have ic:=hD bs;have it:=hD bk;have dz:=hD d2;have ft:Hd (a5.ownsRow 0 69 5 (.slice al b1 az) F.dn.length (F.dn.flatMap gg)):=hD (by rw[<-bk];exact ei);have fs:Hd (∀b,(Value.slice al b1 az).ownBlock=some b->bo b=7):=hD (by rw[<-bk];exact h4);have is:Hd (F.dn.length<=1000000):=hD (by rw[b0];exact fo.O.dn);obtain⟨c9,em⟩:=eX ((f'.kd.length:Int):Int);rw[<-em] at g0;have il:Hd (gg (th.cur,f'.kd.length,y)= [.int .u64 th.cur.job,.string (sB th.cur.M),.int .i64 c9,.int .i64 Z,.int .i64 Y]):=hD (by rw[em,d8,d7];rfl);clear bs a1 k7 c1 d2 h4 ei bk hg ka hE hG h8 ea b0 ho d8 d7 em;go_upto_region 17 with fail
 go_cut [] (λwx=>Ef w wx tag F {s with T:={s.T with fm:=ax s.T.fm th.cur (some f')}} th.cur f'.kd.length y X V tp #[.int .u64 th.cur.job,.string (sB th.cur.M)] #[.int .u8 4,.string ⟨#[]⟩,.int .i64 0,.slice none 0 0,.int .i64 0,.int .i64 Z,.int .i64 Y])
 case rest=>
  obtain⟨B,k1,ba,fd,h2,h3,hu,hz⟩:=hcut;have dr:=hD fd;have fr:=hD h2;have ie:=hD h3;have bc:=hD hu;have ga:=hD hz;obtain⟨m,ee⟩:=eX ({F with dv:=k1,dn:=F.dn++ [(th.cur,f'.kd.length,y)]}:cN);rw[<-ee] at ba;obtain⟨bz,k2⟩:=eX wc;subst k2;have b6:Hd (m.pb=L.pb/\m.tps=L.tps/\m.fp=L.fp/\m.fn=L.fn/\m.dp=L.dp/\m.most=L.most/\m.n=L.n/\m.dn=L.dn++ [(th.cur,f'.kd.length,y)]):=hD (by rw[ee,g1.O];exact⟨rfl,rfl,rfl,rfl,rfl,rfl,rfl,rfl⟩);have bp:=hD ba;obtain⟨lw,he⟩:=o.O.hn.key;have gt:=ba.U (aa.drew (aa.refl (λ_=>False) bz));obtain⟨e6,h5,gB,hH⟩:=(gt.p11 (by decide)).2.del (t:=119) ix Tryz.underlying119 he 0;have er:=(ba.p1 (by decide)).2;rw[b6.O.1] at er;have gp:=er.I 9;simp[bJ] at gp;obtain⟨db,dd⟩:=fr.O.gE2;change (Builtin.delete_ #[119,58] 0 #[.map (some m.fb),.agg #[.int .u64 th.cur.job,.string (sB th.cur.M)]]).run Tryz.prog bz.drew=.ok (.tuple #[]) e6 at h5;have bq:=hD (aI gB hH);clear ba fd h2 h3 hu hz ee he gt gB hH er cm b5 s0 dm ai;go_upto_region 18 with fail
  go_still_tail 5,(by kernel_rfl)
  change wpList _ _ _ _ _ bz.drew;go_upto_region 19 with fail;have gu:=((bp.O.U (aa.drew (aa.refl (λ_=>False) bz))).same (i:=11) (bq.O.2.mono λb a=>by rw[a];exact(bp.O.p11 (by decide)).1)).frameGone (n:=th.cur) ⟨(bp.O.p11 (by decide)).1,bq.O.1⟩;obtain⟨cn,eg⟩:=eX ((if (eE (λda=>(ax s.T.fm th.cur (some f') da).map λ_=>ptr (m.fp da)) (aW th.cur)).isSome then m.fn-1 else m.fn));have ik:Hd (cn<=m.fn):=hD (by rw[eg];split<;>omega);obtain⟨ai,d5⟩:=eX ({s with T:={s.T with fm:=ax s.T.fm th.cur none}}:PS)
  have gx:aY e6 B {m with fn:=cn} ai:=by
   rw[eg,d5];have:=gu;simp only[rG] at this;exact this
  have i4:Hd (aQ w e6 tag B):=hD ((dr.O.trans (aQ.U (aa.drew (aa.refl _ bz)))).trans (aQ.same (i:=11) (by decide) (bq.O.2.mono λb a=>by rw[a];exact(bp.O.p11 (by decide)).1)));have hd:ai.ths[k]?=some th:=by rw[d5];exact o.O.hk
  have g5:=hD (sJ gx (k:=k) (th:=th) (by show m.tps[k]?=_;rw[b6.O.2.1];exact o.O.htp) hd);unfold ptr at g5;have el:∀g,B g=0->g≠m.fb:=λg b9 a=>by have:=(bp.O.p11 (by decide)).1;rw[<-a,b9] at this;exact absurd this (by decide)
  have ia:=hD (bq.O.2.J (fr.O.drew) (el X bc.O.1));have ih:=hD (bq.O.2.J (ie.O.drew) (el V bc.O.2));have e2:=hD d5;clear gu eg d5 gx hd el gp db dd h5
  go_upto_region 20 with(go_at_call 77;refine g5.O.mono ?_;rintro a z ⟨rfl,bb,dl⟩)
  obtain⟨hX,d6⟩:=eX ({ai with ths:=ai.ths.set k {th with cur:=gY,run:=false}}:PS);rw[<-d6] at bb;have ff:Hd (aQ w z tag B):=hD (i4.O.trans (aQ.same (i:=15) (by decide) (dl.mono λb a=>by rw[a];exact ga.O)));have eq:∀g,B g=0->¬g=tp:=λg b9 a=>by have:=ga.O;rw[<-a,b9] at this;exact absurd this (by decide)
  have ib:=hD (dl.J ia.O (eq X bc.O.1));have ii:=hD (dl.J ih.O (eq V bc.O.2));have i6:=hD bb;have g6:=hD d6;have eL:hX.T.rw=s.T.rw/\hX.T.ks=s.T.ks:=by rw[d6,e2.O];exact⟨rfl,rfl⟩
  obtain⟨a4,f2⟩ :∃da,da=vQ s.T th.cur r:=⟨_,rfl⟩
  obtain⟨fa,f4⟩ :∃b,b=fE s.T th.cur r:=⟨_,rfl⟩
  obtain⟨rows,f0⟩ :∃f,f=(bI s.T th.cur r y true).rw:=⟨_,rfl⟩
  have bv:=hD (aI f2 (aI f4 f0))
  have g4:Hd (∀W,ac z W->Calls Tryz.prog 54 #[.pointer (some ⟨m.tb,0,none⟩),.agg #[.int .u64 th.cur.job,.string (sB th.cur.M)],.agg #[.int .i64 Z,.int .i64 Y]] W λa w'=>a=.returned (.tuple #[.agg #[.int .u64 a4.job,.string (sB a4.M)],.bool fa,.int .i64 0])/\bS w' (λb=>B b=2) m.tb m.mb m.most rows s.T.ks.length m.rp/\aa (λb=>B b=2) W w'):=hD λW a6=>by
   have c2:=bb.U a6;have ht:=c2.p2 (by decide);rw[eL.1,eL.2] at ht;have:=Cd y (c2.tagB (by decide)) ht o.O.inv.t o.O.hr o.O.h2 o.O.hn;rw[<-f2,<-f4,<-f0] at this;unfold eV aW fe at this;rw[<-gc.O.1,<-gc.O.2] at this;exact this
  have hm:=(bb.p1 (by decide)).2;have hs:ae z L.pb 123 (bJ {m with fn:=cn}):=by have:=hm;rw[show({m with fn:=cn}:cN).pb=L.pb from b6.O.1] at this;exact this
  have a9:Hd (∀W,aa (λb=>B b=2) z W->aa (λb=>B b=2) z W/\W.cell? ⟨L.pb,4,none⟩=some (.pointer (some ⟨m.tb,0,none⟩))/\W.cell? ⟨X,0,none⟩=some (.int .u64 th.cur.job)/\W.cell? ⟨X,1,none⟩=some (.string (sB th.cur.M))/\W.cell? ⟨V,5,none⟩=some (.int .i64 Z)/\W.cell? ⟨V,6,none⟩=some (.int .i64 Y)):=hD λW a6=>by
   have gq:¬B L.pb=2:=λa=>by have:=(bb.p1 (by decide)).1;rw[show({m with fn:=cn}:cN).pb=L.pb from b6.O.1,a] at this;exact absurd this (by decide)
   have f7:=a6.J ib.O (λa=>by have:=bc.O.1;rw[a] at this;exact absurd this (by decide));have hW:=a6.J ii.O (λa=>by have:=bc.O.2;rw[a] at this;exact absurd this (by decide));exact⟨a6,(a6.J hs gq).I 4,f7.I 0,f7.I 1,hW.I 5,hW.I 6⟩
  have l:=a9.O z oR;have e3:Hd (∀W,ac z W->aa (λb=>B b=2) z W):=hD λW a6=>a6.mono λ_ a=>a.elim
  have g8:Hd (∀b,z.heap.size<=b->¬B b=2):=hD λb K a=>by have:=gM bb.tlt K;rw[a] at this;exact absurd this (by decide)
  have ci:Hd (ac z (z.alloc (.cells #[.int .u64 0,.string ⟨#[]⟩] 58))):=hD (oR.alloc _);have i8:Hd (ae (z.alloc (.cells #[.int .u64 0,.string ⟨#[]⟩] 58)) z.heap.size 58 #[.int .u64 0,.string ⟨#[]⟩]):=hD (ae.new z _ _);have g7:Hd (w.heap.size<=z.heap.size):=hD ff.O.only.size;clear bb dl d6 eq eL f2 f4 f0 hm hs
  go_cut [15,16] (λs15 s16 wx=>Ei w z wx B m rows s.T.ks.length a4 fa s15 s16)
  case first=>
   go_region_held3 (λw'=>aa (λb=>B b=2) z w'/\w'.cell? ⟨L.pb,4,none⟩=some (.pointer (some ⟨m.tb,0,none⟩))/\w'.cell? ⟨X,0,none⟩=some (.int .u64 th.cur.job)/\w'.cell? ⟨X,1,none⟩=some (.string (sB th.cur.M))/\w'.cell? ⟨V,5,none⟩=some (.int .i64 Z)/\w'.cell? ⟨V,6,none⟩=some (.int .i64 Y))
    (first|with_reducible exact a9.O _ aw.O|with_reducible exact a9.O _ (aa.alloc aw.O _)|with_reducible exact a9.O _ (aa.drew aw.O)|with_reducible exact a9.O _ (e3.O _ ci.O)|with_reducible exact a9.O _ (e3.O _ (aa.drew ci.O))|with_reducible exact a9.O _ (aa.drew oR)|with_reducible exact a9.O _ oR|(with_reducible refine a9.O _ ?_;with_reducible refine aa.setCell ?_ (Or.inr (lR)) _;repeat (first|with_reducible exact aw.O|with_reducible refine aa.setCell ?_ (Or.inr (lR)) _))|fail)
    (first
     |(go_at_call 54;refine(g4.O z.drew (aa.drew oR)).mono ?_;rintro a W8 ⟨rfl,cg,a1⟩;have aw:Hd (aa (λb=>B b=2) z W8):=hD (aa.trans (aa.drew oR) a1);have e4:=hD cg;clear a1 cg)
     |(go_at_call 54;refine(g4.O _ (aa.drew ci.O)).mono ?_;rintro a W8 ⟨rfl,cg,a1⟩;have aw:Hd (aa (λb=>B b=2) z W8):=hD (aa.trans (e3.O _ (aa.drew ci.O)) a1);have bx:=hD (a1.J i8.O (g8.O _ (lR)));have e4:=hD cg;have le:W8.cell? ⟨z.heap.size,0,none⟩=some (.int .u64 0):=bx.O.I 0;have gq:W8.cell? ⟨z.heap.size,1,none⟩=some (.string ⟨#[]⟩):=bx.O.I 1;have lf:W8.frozen? ⟨z.heap.size,0,none⟩=false:=bx.O.fz 0;have lg:W8.frozen? ⟨z.heap.size,1,none⟩=false:=bx.O.fz 1;clear a1 cg)
     |fail)
   all_goals (
    go_wp2_with fail;go_meet)
   case rel=>
    have b3:=(aa.refl (λ_=>False) W8).alloc (.cells #[.int .u64 a4.job,.string (sB a4.M)] 58);exact⟨W8.heap.size,rfl,rfl,lT g7.O aw.O.size,bN,e4.O.kp b3 nG,aw.O.trans (b3.mono λ_ a=>a.elim)⟩
   case rel=>
    have k8:=(bx.O.s_ 0 (.int .u64 a4.job)).s_ 1 (.string (sB a4.M));have hB:aa (λb=>b=z.heap.size) W8 ((W8.setCell ⟨z.heap.size,0,none⟩ (.int .u64 a4.job)).setCell ⟨z.heap.size,1,none⟩ (.string (sB a4.M))):=(af _ _ 0 _).trans (af _ _ 1 _);exact⟨z.heap.size,rfl,rfl,g7.O,k8,e4.O.kp hB (λb K a=>g8.O b (by rw[a];exact lR) K),aw.O.trans' hB (λb a=>.inr (by rw[a];exact lR))⟩
  case rest=>
   obtain⟨ll,rfl,rfl,l0,f8,i0,f9⟩:=hcut;have c2:=(i6.O.same (i:=2) f9).fill2 (T':=bI s.T th.cur r y true) (rp':=m.rp) (by rw[<-bv.O.2.2];exact i0) (by rw[g6.O,e2.O];rfl);have fj:Hd (aQ w wc tag B):=hD (ff.O.trans (aQ.same (i:=2) (by decide) f9));obtain⟨dq,f1⟩:=eX ({s with T:=bI s.T th.cur r y true,ths:=s.ths.set k {th with cur:=gY,run:=false}}:PS)
   have ec:aY wc B {m with fn:=cn} dq:=by
    rw[f1];have:=c2;rw[g6.O,e2.O] at this;exact this
   have ar:=hD f1
   have dw:Hd (LK L {m with fn:=cn} s dq 0):=hD (by
    obtain⟨ki,bn,lz,kk,kl,kt,ku,kv⟩:=b6.O;have c3:=ik.O;rw[kk] at c3;refine⟨ki,kt,bn,kl,by rw[show({m with fn:=cn}:cN).n=L.n from ku];omega,by show(cn:Int)<=_;omega,by rw[ar.O];simp,[(th.cur,r.kn,y)],by rw[ar.O];unfold bI;rfl,?_⟩;show m.dn=_;rw[kv,iv.O,iz.O])
   obtain⟨ge,ef⟩:=eX ({m with fn:=cn}:cN);have g2:Hd (ge.pb=L.pb/\ge.tps=L.tps):=hD (by rw[ef];exact⟨b6.O.1,b6.O.2.1⟩);rw[<-ef] at ec dw;clear ef;have fk:=hD ec
   have h6:Hd (fi s k=if fE s.T th.cur r=true then eJ dq k (dL th.cur) else dq):=hD (by
    unfold fi;rw[PS.th_eq o.O.hk,o.O.hr,o.O.hf];simp only;rw[o.O.hpr,j1.O];simp only;rw[ar.O])
   clear c2 ec f1 l0 i0 f9
   cases fa with
   |false=>
    clear f8;go_wp2_with fail
    go_end0
    rw[h6.O,yb (by rw[<-bv.O.2.1];decide)];exact⟨rfl,B,_,fk.O,fj.O,dw.O.mo (by decide)⟩
   |true=>
    have f3:a4=dL th.cur:=by rw[bv.O.1];unfold vQ;rw[yf bv.O.2.1.symm]
    have hj:dE (dL th.cur):=⟨o.O.hn.1,lT (by show th.cur.M.dropLast.length<=th.cur.M.length;rw[List.length_dropLast];omega) o.O.hn.2.1,λc c3=>o.O.hn.2.2 c (List.dropLast_subset _ c3)⟩
    obtain⟨x,ad⟩ :∃x,s.ds[k]?=some x:=⟨s.ds[k]'(by rw[o.O.inv.nlen];exact(gS o.O.hk).1),gG _⟩
    have ej:=(o.O.inv.th k th o.O.hk).free o.O.ha;rw[PS.dq_eq ad] at ej;have e0:=hD (sI (k:=k) (tp:=tp) (th:={th with cur:=gY,run:=false}) (x:=x) (n:=a4) fk.O (by rw[ar.O];exact o.O.inv.many) (by rw[g2.O.2];exact o.O.htp) (by rw[ar.O];exact List.getElem?_set_self (gS o.O.hk).1) (by rw[f3];exact hj) (by rw[ar.O];exact o.O.inv.nnodup) (by rw[ar.O];exact ad) ej (by rw[ar.O];exact fo.O.nm));rw[g2.O.1] at e0;unfold ptr aW fe at e0;have j2:=hD f3;clear f3 hj ad ej;obtain⟨m0,f7⟩:=f8.gE2;clear f8
    go_wp2_with (go_at_call 93;refine e0.O.mono ?_;rintro a W9 ⟨rfl,kS⟩)
    go_end0
    rw[h6.O,yf bv.O.2.1.symm,<-j2.O];exact⟨rfl,(cP.then (d:=0) fj.O dw.O kS).mo (by decide)⟩
 case first=>
  obtain⟨R,ab⟩:=eX a5.drew;have ce:ac a5 R:=by rw[ab];exact oR.drew
  obtain⟨b7,d0⟩:=eX (R.alloc (.cells #[.int .u64 th.cur.job,.string (sB th.cur.M),.int .i64 c9,.int .i64 Z,.int .i64 Y] 69));have b3:ac R b7:=by rw[d0];exact oR.alloc _
  have gn:ae b7 R.heap.size 69 #[.int .u64 th.cur.job,.string (sB th.cur.M),.int .i64 c9,.int .i64 Z,.int .i64 Y]:=by rw[d0];exact bN
  obtain⟨l1,a7,h1,e7,e8,gf⟩:=rZ (W:=b7) (q:=R.heap.size) 52 (.slice al b1 az) F.dn (th.cur,f'.kd.length,y) (b3.owns (ce.owns ft.O nG) nG) (by rw[il.O];exact gn) is.O;obtain⟨b2,am,aE,hv⟩ :∃n A c,l1=.slice A n c:=⟨_,bR e7⟩
  subst hv;obtain⟨ji,gN⟩:=eX (a7.setCell ⟨L.pb,13,none⟩ (.slice am b2 aE));have d3:ae a7 L.pb 123 (bJ F):=e8.J (b3.J (ce.J dz.O nF) nF) (λa=>aA ft.O dz.O (by decide) a);have j0:=hD d3;have fb:Hd (R.cell? ⟨L.pb,13,none⟩=some (.slice al b1 az)):=hD (by rw[ab];exact cm);have i1:Hd (b7.cell? ⟨L.pb,13,none⟩=some (.slice al b1 az)):=hD ((b3.I (p:=⟨L.pb,13,none⟩) (ce.J dz.O nF).lt nF).trans fb.O);have jd:Hd (R.cell? ⟨tp,5,none⟩=some (.pointer (some ⟨q,0,none⟩))):=hD (by rw[ab];exact b5);have j5:Hd (R.cell? ⟨X,0,none⟩=some (.int .u64 th.cur.job)):=hD (by rw[ab];exact db);have j6:Hd (R.cell? ⟨X,1,none⟩=some (.string (sB th.cur.M))):=hD (by rw[ab];exact dd);have j7:Hd (R.cell? ⟨V,5,none⟩=some (.int .i64 Z)):=hD (by rw[ab];exact dm);have j8:Hd (R.cell? ⟨V,6,none⟩=some (.int .i64 Y)):=hD (by rw[ab];exact ai);have i2:Hd (a7.cell? ⟨L.pb,13,none⟩=some (.slice al b1 az)):=hD (by rw[d3.I 13];simp[bJ,it.O]);have i3:Hd (a7.frozen? ⟨L.pb,13,none⟩=false):=hD (d3.fz 13);have i7:=hD h1;have bt:=hD ce;have j4:Hd (a5.drew=R):=hD ab.symm;have j3:=hD d0.symm;have e5:=hD gN.symm;have an:=hD (aI e7 (aI e8 (aI gf b3)));clear ab d0 gN ce b3 gn h1 e7 e8 gf d3 cm b5 db dd s0 dm ai
  refine zu6 (by kernel_rfl) (iO R [(14,b7),(15,a7),(18,ji)]) [Is (.pointer (some ⟨L.pb,0,none⟩)),Is (.pointer (some ⟨L.pb,0,none⟩)),Is (.pointer (some ⟨L.pb,0,none⟩)),Is (.pointer (some ⟨L.pb,13,none⟩)),Is (.slice al b1 az),Is (.agg #[.int .u64 th.cur.job,.string (sB th.cur.M)]),ap tp 0,ap tp 0,ap tp 5,ap q 0,Is (.int .i64 c9),ap V 5,Is (.agg #[.int .i64 Z,.int .i64 Y]),Is (.agg #[.int .u64 th.cur.job,.string (sB th.cur.M),.int .i64 c9,.int .i64 Z,.int .i64 Y]),Is (.slice (some ⟨R.heap.size,0,none⟩) 1 1),Is (.slice am b2 aE),Is (.pointer (some ⟨L.pb,0,none⟩)),Is (.pointer (some ⟨L.pb,13,none⟩)),λ_ _=>True] (by kernel_rfl)
   ⟨sT,sT,sT,sT,sT,sT,sT,sT,sT,sT,sT,sT,sT,sT,sT,sT,sT,sT,(λ_ _ _ _ _=>trivial),trivial⟩ (by rw[j4.O];exact iO.start _ _) ⟨?_,?_,?_,?_,?_,?_,?_,?_,?_,?_,?_,?_,?_,?_,?_,?_,?_,?_,?_,trivial⟩ ?_
  iterate 4
   ·intro dn u H E S C l j a0 e
    refine ao rfl ?_;simp at j e ⊢
    try simp only[j] at e
    go_simp;exact e _ _ (l.skip (by simp)) rfl
  ·intro dn u H E S C l j a0 e
   refine ao rfl ?_;simp at j e ⊢;simp only[j] at e
   have f5:dn 15=false:=by
    cases h15:dn 15 with
    |false=>rfl
    |true=>
     have hT:=C 15 _ rfl h15;simp[bu] at hT;have jl:dn 4=true:=by simp[hT]
     rw[jl] at E;cases E
   have c3:H.cell? ⟨L.pb,13,none⟩=some (.slice al b1 az):=by
    rcases l.mem with rfl|⟨x,ad,P,rfl⟩
    ·exact fb.O
    ·simp only[yG,List.not_mem_nil,or_false] at ad
     rcases ad with rfl|rfl|rfl
     ·exact i1.O
     ·rw[f5] at P;cases P
     ·have cf:=C 18 _ rfl P
      simp[bu] at cf;have c0:dn 15=true:=by simp[cf]
      rw[c0] at f5;cases f5
   go_simp;exact e _ _ (l.skip (by simp)) rfl
  ·intro dn u H E S C l j a0 e
   refine ao rfl ?_;simp at j e ⊢
   have a3:dn 14=false:=by
    cases h14:dn 14 with
    |false=>rfl
    |true=>
     have hN:=C 14 _ rfl h14;simp[bu] at hN;have b8:dn 13=true:=by simp[hN]
     have hO:=C 13 _ rfl b8;simp[bu] at hO;have jn:dn 5=true:=by simp[hO]
     rw[jn] at E;cases E
   have D:=l;simp[iO,a3] at D;have a2:=D.1.symm;subst a2;have l2:=j5.O;have l3:=j6.O;go_simp;exact e _ _ (l.skip (by simp)) rfl
  iterate 3
   ·intro dn u H E S C l j a0 e
    refine ao rfl ?_;simp at j e ⊢
    try simp only[j] at e
    go_simp;exact e _ _ (l.skip (by simp)) rfl
  ·intro dn u H E S C l j a0 e
   refine ao rfl ?_;simp at j e ⊢;simp only[j] at e
   have a3:dn 14=false:=by
    cases h14:dn 14 with
    |false=>rfl
    |true=>
     have hQ:=C 14 _ rfl h14;simp[bu] at hQ;have b8:dn 13=true:=by simp[hQ]
     have hR:=C 13 _ rfl b8;simp[bu] at hR;have e9:dn 10=true:=by simp[hR]
     have hS:=C 10 _ rfl e9;simp[bu] at hS;have k0:dn 9=true:=by simp[hS]
     rw[k0] at E;cases E
   have c3:H.cell? ⟨tp,5,none⟩=some (.pointer (some ⟨q,0,none⟩)):=by
    rcases l.mem with rfl|⟨x,ad,P,rfl⟩
    ·exact jd.O
    ·simp only[yG,List.not_mem_nil,or_false] at ad
     rcases ad with rfl|rfl|rfl
     ·rw[a3] at P;cases P
     ·have b4:=C 15 _ rfl P
      simp[bu] at b4;have a8:dn 14=true:=by simp[b4]
      rw[a8] at a3;cases a3
     ·have hV:=C 18 _ rfl P
      simp[bu] at hV;have a8:dn 14=true:=by simp[hV]
      rw[a8] at a3;cases a3
   go_simp;exact e _ _ (l.skip (by simp)) rfl
  ·intro dn u H E S C l j a0 e
   refine ao rfl ?_;simp at j e ⊢;simp only[j] at e
   have a3:dn 14=false:=by
    cases h14:dn 14 with
    |false=>rfl
    |true=>
     have hI:=C 14 _ rfl h14;simp[bu] at hI;have b8:dn 13=true:=by simp[hI]
     have hJ:=C 13 _ rfl b8;simp[bu] at hJ;have e9:dn 10=true:=by simp[hJ]
     rw[e9] at E;cases E
   have D:=l;simp[iO,a3] at D;have a2:=D.1.symm;subst a2;go_simp;refine(g0.O _ bt.O).mono ?_;rintro a l7 ⟨rfl,rfl⟩;exact e _ _ (l.skip (by simp)) rfl
  ·intro dn u H E S C l j a0 e
   refine ao rfl ?_;simp at j e ⊢;go_simp;exact e _ _ (l.skip (by simp)) rfl
  ·intro dn u H E S C l j a0 e
   refine ao rfl ?_;simp at j e ⊢;simp only[j] at e
   have a3:dn 14=false:=by
    cases h14:dn 14 with
    |false=>rfl
    |true=>
     have hL:=C 14 _ rfl h14;simp[bu] at hL;have b8:dn 13=true:=by simp[hL]
     have hM:=C 13 _ rfl b8;simp[bu] at hM;have jj:dn 12=true:=by simp[hM]
     rw[jj] at E;cases E
   have D:=l;simp[iO,a3] at D;have a2:=D.1.symm;subst a2;have l2:=j7.O;have l3:=j8.O;go_simp;exact e _ _ (l.skip (by simp)) rfl
  ·intro dn u H E S C l j a0 e
   refine ao rfl ?_;simp at j e ⊢;simp only[j] at e;go_simp;exact e _ _ (l.skip (by simp)) rfl
  ·intro dn u H E S C l j a0 e
   refine ao rfl ?_;simp at j e ⊢;simp only[j] at e;have D:=l;simp[iO,E] at D;obtain⟨D,ex⟩:=D;have a2:=D.symm;subst a2;go_simp;rw[j3.O];exact e _ _ (by simp[iO,bY,ex]) rfl
  ·intro dn u H E S C l j a0 e
   refine ao rfl ?_;simp at j e ⊢;have b4:=S;simp[bu] at b4;have a8:dn 14=true:=by simp[b4]
   have D:=l;simp[iO,a8,E] at D;obtain⟨D,ex⟩:=D;have a2:=D.symm;subst a2;refine uZ (.tmp 97) (.tmp 107) 52 rfl (by simpa[Act.eval] using j.1) (by simpa[Act.eval] using j.2.1) i7.O ?_;exact e _ _ (by simp[iO,bY,a8,ex]) rfl
  iterate 2
   ·intro dn u H E S C l j a0 e
    refine ao rfl ?_;simp at j e ⊢
    try simp only[j] at e
    go_simp;exact e _ _ (l.skip (by simp)) rfl
  ·intro dn u H E S C l j a0 e
   refine ao rfl ?_;simp at j e ⊢;simp only[j] at e;have cf:=S;simp[bu] at cf;have c0:dn 15=true:=by simp[cf]
   have b4:=C 15 _ rfl c0;simp[bu] at b4;have a8:dn 14=true:=by simp[b4]
   have D:=l;simp[iO,a8,c0,E] at D;have a2:=D.symm;subst a2;have ln:=i2.O;have lo:=i3.O;go_simp;rw[e5.O];exact e _ (by simp[iO,bY,a8,c0])
  ·intro u H dn ek l j
   simp at j ⊢;simp[iO,ek 14 (by decide),ek 15 (by decide),ek 18 (by decide)] at l;subst l;have es:F.pb=L.pb:=by rw[g1.O]
   have cd:aa (λb=>b=L.pb) a7 H:=by rw[<-e5.O];exact af _ _ _ _
   have cr:=Q.O.h.U (bt.O.trans an.O.2.2.2);have f6:aa (λb=>bo b=7) b7 a7:=an.O.2.1.mono fs.O;obtain⟨B,bm⟩ :∃t,t=cS bo b7 a7 7:=⟨_,rfl⟩
   have cv:=cr.part (i:=7) f6;rw[<-bm] at cv;have c7:B L.pb=1:=by have:=(cv.p1 (by decide)).1;rw[es] at this;exact this
   have k5:ae H L.pb 123 (bJ {F with dv:=.slice am b2 aE,dn:=F.dn++ [(th.cur,f'.kd.length,y)]}):=by
    rw[<-e5.O];have:=j0.O.s_ 13 (.slice am b2 aE)
    simpa[bJ] using this
   have hl:∀b,(Value.slice am b2 aE).ownBlock=some b->B b=7:=λb K=>by
    have k4:b<a7.heap.size:=rt an.O.1 K
    rcases an.O.2.2.1 b K with a|a
    ·have:=fs.O b a
     rw[bm,bL cr.tlt b (by rw[this];decide)];exact this
    ·rw[bm]
     exact fS ⟨a,k4⟩
   have ba:aY H B {F with dv:=.slice am b2 aE,dn:=F.dn++ [(th.cur,f'.kd.length,y)]} {s with T:={s.T with fm:=ax s.T.fm th.cur (some f')}}:=
    (cv.kp (i:=1) (tag':=B) cd (λb a=>by rw[a];exact c7) (λ_ _=>rfl) (λb K=>lL (cv.tlt b K) cd.size)).fillD ⟨by rw[show({F with dv:=Value.slice am b2 aE,dn:=F.dn++ [(th.cur,f'.kd.length,y)]}:cN).pb=L.pb from es];exact c7,by rw[show({F with dv:=Value.slice am b2 aE,dn:=F.dn++ [(th.cur,f'.kd.length,y)]}:cN).pb=L.pb from es];exact k5⟩ ⟨hl,cd.owns an.O.1 (λb K a=>by have:=hl b K;rw[a,c7] at this;exact absurd this (by decide))⟩
   have dr:Hd (aQ w H tag B):=hD (((Q.O.go.trans (aQ.U (bt.O.trans an.O.2.2.2))).trans (by rw[bm];exact aQ.part cr.tlt (by decide) f6)).trans (aQ.same (i:=1) (by decide) (cd.mono λb a=>by rw[a];exact c7)))
   have hi:∀g,bo g=0->g<a5.heap.size->B g=0:=λg b9 k3=>by
    rw[bm];unfold cS;rw[yb (λa=>absurd (lL k3 (bt.O.trans an.O.2.2.2).size) (zC.2 a.1))];exact b9
   have hb:=hi X Q.O.t0.1 Q.O.bn.lt;have hc:=hi V Q.O.t0.2 Q.O.bs.lt;have hA:∀(g:Nat) (T:TypeId) (cs:Array Value),bo g=0->B g=0->ae a5 g T cs->ae H g T cs:=λg T cs b9 P K=>cd.J (f6.J ((bt.O.trans an.O.2.2.2).J K nF) (λa=>by rw[b9] at a;exact absurd a (by decide))) (λa=>by rw[a,c7] at P;exact absurd P (by decide))
   go_wp2_with fail;go_meet
   case rel=>exact⟨B,_,ba,dr.O,hA _ _ _ Q.O.t0.1 hb Q.O.bn,hA _ _ _ Q.O.t0.2 hc ic.O,⟨hb,hc⟩,by rw[bm,bL cr.tlt tp (by rw[Q.O.tp15];decide)];exact Q.O.tp15⟩
end
section
variable {G:dg}{w w':World}{tag tag':Nat->Nat}{L L':cN}{s s':PS}{n:Nm}{r:aG}
theorem BC(d:aY w tag L s):
 Calls Tryz.prog 20 #[ptr L.pb] w λa w'=>a=.returned L.dv/\aY w' tag {L with dv:=.slice none 0 0,dn:=[]} s/\aa (λb=>b=L.pb) w w'/\w'.ownsRow 0 69 5 L.dv L.dn.length (L.dn.flatMap gg):=by
 obtain⟨p,f⟩:=d.p1 (by decide);obtain⟨o,k⟩:=d.p7 (by decide);obtain⟨A,B,e⟩:=bR k;have v:=f.I 13;have C:=f.fz 13;simp[bJ,e] at v;have q:=hD d;have t:=hD f;have g:=hD p;have m:=hD (aI o k);rw[e];have u:=hD e;generalize L.dn.length=D at*;unfold ptr;clear d p f o k e;go_enter Tryz.func20,Tryz.ntmps20;go_wp2_with fail;go_ret;have l:aa (λb=>b=L.pb) w (w.setCell ⟨L.pb,13,none⟩ (.slice none 0 0)):=af _ _ _ _;have x:=(q.O.same (i:=1) (l.mono λb a=>by rw[a];exact g.O)).mono (Y:=[1,7]) (λj _ z=>by rw[yw.1 z];simp);have c:=t.O.s_ 13 (.slice none 0 0);have y:=x.fillD (dv':=.slice none 0 0) (dn':=[]) ⟨g.O,by simpa[bJ] using c⟩ ⟨λb c=>(by cases c),⟨by simp,.inl ⟨rfl,rfl⟩⟩⟩;refine⟨rfl,y,l,?_⟩;rw[<-u.O];exact l.owns m.O.2 (λb c a=>by have:=m.O.1 b c;rw[a,g.O] at this;exact absurd this (by decide))
def wm(w w':World)(most:Int)(e:Ending):Prop:=∃tb mb,e=.returned (.tuple #[.pointer (some ⟨tb,0,none⟩),.int .i64 0])/\bS w' (λb=>w.heap.size<=b/\b<w'.heap.size) tb mb most (λ_=>none) 0 (λ_=>0)/\ac w w'
theorem uV(a:Int)(k:1<=a)(l:a<=4096)(w:World):
 Calls Tryz.prog 55 #[.int .i64 a] w λb w'=>wm w w' a b:=by
 have o:¬a<1:=by omega
 have p:¬4096<a:=by omega
 have m:=@run_makeMap Tryz.prog;go_enter Tryz.func55,Tryz.ntmps55;go_wp2_with fail
 go_ret2
 have i:aS Tryz.prog (w.alloc (.map #[] 0)) 58 w.heap.size (λ_=>none) 0:=aS.made ix w;have j:ac w (w.alloc (.map #[] 0)):=oR.alloc _;have d:ac (w.alloc (.map #[] 0)) ((w.alloc (.map #[] 0)).alloc (.cells #[.int .i64 a,.map (some w.heap.size)] 198)):=oR.alloc _
 have c:ae ((w.alloc (.map #[] 0)).alloc (.cells #[.int .i64 a,.map (some w.heap.size)] 198)) (w.heap.size+1) 198 #[.int .i64 a,.map (some w.heap.size)]:=by
  rw[<-jy w (.map #[] 0)];exact bN
 have g:=c.lt;refine⟨w.heap.size+1,w.heap.size,rfl,⟨⟨by omega,g⟩,⟨lR,by omega⟩,c,?_,λn r f=>(by cases f),λn q e=>absurd rfl e⟩,j.trans d⟩;have:=i.only d nF
 have b:eE (λn:Nm=>(Option.map (λ_=>Value.pointer (some ⟨0,0,none⟩)) (none:Option aG)))=λ_=>none:=by
  funext v;unfold eE;split<;>rfl
 rw[show(eE λn=>(((λ_=>none:Nm->Option aG) n).map λ_=>Value.pointer (some ⟨0,0,none⟩)))=λ_=>none from b];exact this
end
theorem pT(rows:Nm->Option aG)(n:Nm):∀(l:List Nat) (i:Nat) (f:Fr),bU rows n (l++ [i]) f=(bU rows n l f).give i (kP rows (aH n i))
 | [],i,f=>rfl
 |a :: l,i,f=>by
  simp only[Ye,bU];exact pT rows n l i _
theorem nV(rows:Nm->Option aG)(n:Nm):∀(l:List Nat) (f:Fr) (i:Nat),i ∉ l->(bU rows n l f).kd[i]?=f.kd[i]?
 | [],f,i,_=>rfl
 |a :: l,f,i,c=>by
  simp only[bU];rw[nV rows n l _ i (λb=>c (yV _ b))];simp only[Fr.give];rw[List.getElem?_set_ne (λb=>c (by rw[b];exact zh))]
theorem nT(rows:Nm->Option aG)(n:Nm)(p:List ah):∀(l:List Nat) (f:Fr),gQ p f->(∀i∈l,i<f.kd.length/\dy (kP rows (aH n i)).v)->gQ p (bU rows n l f)/\(bU rows n l f).result=f.result/\(bU rows n l f).kd.length=f.kd.length
 | [],f,b,_=>⟨b,rfl,rfl⟩
 |a :: l,f,b,e=>by
  have d:=e a zh;have c:(f.give a (kP rows (aH n a))).kd.length=f.kd.length:=by simp[Fr.give]
  have:=nT rows n p l (f.give a (kP rows (aH n a))) (AK b d.2 d.1) λi g=>by rw[c];exact e i (yV _ g)
  simp only[bU];exact⟨this.1,this.2.1.trans rfl,this.2.2.trans c⟩
theorem xM(f:Fr){j i:Nat}(b:f.waitsOf[j]?=some i):(∃k,f.kd[i]?=some k/\k.given=false)/\i ∉ f.waitsOf.take j:=by
 constructor
 ·have a:=yh b
  unfold Fr.waitsOf at a;obtain⟨d,e⟩:=Yg.1 a;have c:=zw.1 d;refine⟨f.kd[i],gG c,?_⟩
  simpa[yc,gG c] using e
 ·intro a
  obtain⟨m,a⟩:=yF a;rw[List.getElem?_take] at a;split at a
  ·rename_i l
   have g:f.waitsOf.Nodup:=(List.nodup_range (n:=f.kd.length)).filter _;have:=(List.getElem?_inj (gS a).1 g).1 (a.trans b.symm);omega
  ·cases a
theorem EI{G:dg}{t:TS}{n:Nm}{r:aG}{p:List ah}{x:aj}{i:Nat}(b:cA G t)(m:t.rw n=some r)(F:r.opn=0)(f:G n.job=some (p,x))(j:i<r.kn)(e:gH p)(y:cC p r.tk):∃c,t.rw (aH n i)=some c/\dy c.res.v/\kP t.rw (aH n i)=c.res:=by
 have l:=nC (rows:=t.rw) (n:=n) (kn:=r.kn) (by have:=(b.row n r m).opn;omega) i j;obtain⟨B,C,c,k,d,a,o,q,D,E⟩:=b.child m j;rw[f] at d
 cases d
 have u:c.sa=6:=by
  simp only[cI,a] at l
  simpa using l
 obtain⟨B,C,g,H,A⟩:=(b.row _ c a).node;rw[qt,f] at g
 cases g
 have z:c.res=bw p k:=by rw[(A.over u).2.1,q]
 refine⟨c,a,?_,by unfold kP;rw[a]⟩;rw[z];exact(lF e ((lF e y).2 k (yh o))).1.1
theorem Fv{w:World}{base e n k:Nat}{b:TypeId}{v:Value}{xs:List Value}(c:w.ownsRow base b e v n xs)(hv:v.ownBlock=some k):base<=k:=by
 rcases c.2 with⟨a,_⟩|⟨g,f,cur,a,d,_⟩
 ·subst a;cases hv
 ·subst a;cases hv;exact d
theorem Bx{w:World}{base a:Nat}{b:TypeId}{d n:Nat}{v:Value}{xs:List Value}(c:w.ownsRow base b d v n xs)(j:a<=base):w.ownsRow a b d v n xs:=
 ⟨c.1,c.2.imp id (λ⟨g,e,cur,f,i,k⟩=>⟨g,e,cur,f,lT j i,k⟩)⟩
theorem rH{w:World}{g:Nat}{T:TypeId}(a:ae w g T #[.int .u64 0,.string ⟨#[]⟩,.string ⟨#[]⟩,.int .i64 0,.slice none 0 0,.int .i64 0,.int .u8 0,.int .i64 0,.int .i64 0,.int .i64 0]):w.cell? ⟨g,0,none⟩=some (.int .u64 0)/\w.cell? ⟨g,1,none⟩=some (.string ⟨#[]⟩)/\w.cell? ⟨g,2,none⟩=some (.string ⟨#[]⟩)/\w.cell? ⟨g,3,none⟩=some (.int .i64 0)/\w.cell? ⟨g,4,none⟩=some (.slice none 0 0)/\w.cell? ⟨g,5,none⟩=some (.int .i64 0)/\w.cell? ⟨g,6,none⟩=some (.int .u8 0)/\w.cell? ⟨g,7,none⟩=some (.int .i64 0)/\w.cell? ⟨g,8,none⟩=some (.int .i64 0)/\w.cell? ⟨g,9,none⟩=some (.int .i64 0)/\w.frozen? ⟨g,0,none⟩=false/\w.frozen? ⟨g,1,none⟩=false/\w.frozen? ⟨g,2,none⟩=false/\w.frozen? ⟨g,3,none⟩=false/\w.frozen? ⟨g,4,none⟩=false/\w.frozen? ⟨g,5,none⟩=false/\w.frozen? ⟨g,6,none⟩=false/\w.frozen? ⟨g,7,none⟩=false/\w.frozen? ⟨g,8,none⟩=false/\w.frozen? ⟨g,9,none⟩=false:=
 ⟨a.I 0,a.I 1,a.I 2,a.I 3,a.I 4,a.I 5,a.I 6,a.I 7,a.I 8,a.I 9,a.fz 0,a.fz 1,a.fz 2,a.fz 3,a.fz 4,a.fz 5,a.fz 6,a.fz 7,a.fz 8,a.fz 9⟩
def xR(wr:World)(tag3:Nat->Nat)(L3:cN)(s:PS)(n:Nm)(gn q:Nat)(v:Value)(l:List Int)(f:Fr):Prop:=
 aY wr tag3 L3 {s with T:={s.T with fm:=ax s.T.fm n (some f)}}/\ae wr gn 58 #[.int .u64 n.job,.string (sB n.M)]/\wr.ownsRow 0 3 1 v l.length (l.map (Value.int .i64))
def xW(wo wx:World)(job:Int)(kp x2:ByteArray)(x3:Int)(x4:Nat)(x5 x6 x7 rv re:Int)(s13:Value):Prop:=∃(A:Option Addr) (c g:Nat),s13=.pointer (some ⟨g,0,none⟩)/\ae wx g 60 #[.int .u64 job,.string kp,.string x2,.int .i64 x3,.slice A x4 c,.int .i64 x5,.int .u8 x6,.int .i64 x7,.int .i64 rv,.int .i64 re]/\ac wo wx
section
variable {G:dg}{w w':World}{tag tag':Nat->Nat}{L L':cN}{s s':PS}{n:Nm}{r:aG}
theorem xh(ej:iN G){k tp:Nat}{th:Th}{p:List ah}{f:Fr}(z:gU G w tag L s k tp th r p f)(bz:(f.run1 p).2=.join):
 Calls Tryz.prog 46 #[ptr L.pb,ptr tp] w λe w'=>e=.returned (.tuple #[])/\cP w w' tag L s (fi s k) 4:=by
 have gu:=hD ej;have dm:=hD (z.step.join bz);clear ej;have c1:=z.h;obtain⟨fd,d,av,fv,hc,c2,he,hh,g0,hj⟩:=c1.thW z.htp z.hk;obtain⟨q,bv⟩:=eX (L.fp th.cur);have eL:=g0 z.hrun;rw[<-bv] at eL;subst eL;have g4:=c2.I 3;have b1:=c2.I 4;simp[dQ] at g4 b1;obtain⟨b7,bf⟩:=eX (w.alloc (.cells #[.int .u64 th.cur.job,.string (sB th.cur.M)] 58));have c3:ac w b7:=by rw[bf];exact(aa.refl _ w).alloc _
 obtain⟨y,bo⟩:=eX w.heap.size;have ea:ae b7 y 58 #[.int .u64 th.cur.job,.string (sB th.cur.M)]:=by rw[bf,bo];exact bN
 have ad:=c1.U c3;obtain⟨ck,b8⟩:=ad.p16 th.cur f z.hf (by simp);rw[z.hpr,<-bv] at ck;rw[z.hpr] at b8;have X:=hD (pF (ad.tagB (i:=100+q) (by omega)) ck z.hP.ok (b8 z.hfi.res) z.hfi.res);unfold qk at X;obtain⟨f',al⟩:=eX ((f.run1 p).1);rw[bz,<-al] at X;simp only[jb,nQ] at X;have fx:=c3.J c2 nF;have P:=fx.I 5;simp[dQ,ptr] at P;have l:=hD z;have e8:=hD bf.symm;have dz:=hD bo;have b3:=hD ad;have e1:=hD c3;have dl:=hD ea;have e2:=hD bv;have c6:=hD al;have gA:=hD bz;have e6:=hD fd;have am:tag y=0:=gM c1.tlt (by rw[bo];exact lR);have dv:=hD am
 have dr:Hd (f'.result=none->gQ p f'):=hD λS=>by
  rcases rA z.hP.ok (b8 z.hfi.res) with⟨x,e,_⟩|⟨e,_⟩
  ·have:=(jX z.hfi.ok z.hfi.res (p:=p)).done x e
   rw[<-al,S] at this
   cases this.2.2
  ·rw[al];exact e
 unfold ptr;clear z c1 fd hc c2 he hh g0 hj bv bf c3 bo ea ad ck b8 al bz fx am;go_enter Tryz.func46,Tryz.ntmps46;go_upto_region 1 with fail;rw[e8.O,<-dz.O];clear e8 g4 b1
 go_upto_region 2 with(go_at_call 86;refine X.O.mono ?_;rintro e a4 ⟨hE,hI,rfl,⟨az,cf⟩,K,fw⟩)
 clear X P;obtain⟨C,bk⟩:=eX (a4.alloc (.cells #[.int .u8 3,.string ⟨#[]⟩,.int .i64 0,.slice none 0 0,.int .i64 0,.int .i64 0,.int .i64 0] 181));obtain⟨ee,an⟩:=eX a4.heap.size;rw[<-bk,<-an];have aE:ac a4 C:=by rw[bk];exact oR.alloc _
 have bs:ae C ee 181 #[.int .u8 3,.string ⟨#[]⟩,.int .i64 0,.slice none 0 0,.int .i64 0,.int .i64 0,.int .i64 0]:=by rw[bk,an];exact bN
 obtain⟨m,aw⟩ :∃t,t=cS tag b7 a4 (100+q):=⟨_,rfl⟩
 have eq:=b3.O.part (i:=100+q) K
 have ec:aZ a4 (λb=>cS tag b7 a4 (100+q) b=100+q) q az p f':=cf.mo λb H=>by
  rcases H with H|H
  ·exact(bL b3.O.tlt b (by rw[H];omega)).trans H
  ·exact fS H
 have f7:s.T.fm th.cur≠none:=by rw[l.O.hf];simp
 have a2:=eq.frame (n:=th.cur) e2.O f7 (by rw[l.O.hpr];exact ec) (by rw[l.O.hpr];exact dr.O);rw[<-aw] at a2
 have el:qL w C tag m L {L with fl:=ax L.fl th.cur az} s k tp y ee th f' #[.int .u8 3,.string ⟨#[]⟩,.int .i64 0,.slice none 0 0,.int .i64 0,.int .i64 0,.int .i64 0]:=⟨a2.U aE,((aQ.U e1.O).trans (by rw[aw];exact aQ.part b3.O.tlt (by omega) K)).trans (aQ.U aE),aE.J (K.J dl.O (λe=>by rw[dv.O] at e;omega)) nF,bs,rfl,⟨by
  rw[aw];unfold cS;rw[yb (λe=>absurd dl.O.lt (zC.2 e.1))];exact dv.O,gM a2.tlt (by rw[an];exact lR)⟩,⟨by rw[dz.O];exact lR,by rw[an];exact lT e1.O.size K.size⟩,by rw[aw,bL b3.O.tlt tp (by rw[e6.O];decide)];exact e6.O⟩
 have D:=hD el;have hF:=hD aE;clear bk an aE aw eq cf ec f7 a2 el;have ai:=D.O.h;have d3:ae C L.pb 123 (bJ {L with fl:=ax L.fl th.cur az}):=(ai.p1 (by decide)).2;have c0:=ai.p2 (by decide)
 have X:Hd (fi s k=if r.opn≠0 then {s with T:=iQ s.T th.cur r 3 f',ths:=s.ths.set k {th with cur:=gY,run:=false}} else {s with T:=iQ s.T th.cur r 2 (bU s.T.rw th.cur f'.waitsOf f')}):=hD (by
  unfold fi;rw[PS.th_eq l.O.hk,l.O.hr,l.O.hf];simp only;rw[l.O.hpr,gA.O];simp only;rw[c6.O])
 have a3:Hd (∀W,aa (λb=>m b=2) C W->aa (λb=>m b=2) C W/\W.cell? ⟨L.pb,4,none⟩=some (.pointer (some ⟨L.tb,0,none⟩))/\W.cell? ⟨y,0,none⟩=some (.int .u64 th.cur.job)/\W.cell? ⟨y,1,none⟩=some (.string (sB th.cur.M))):=hD λW o=>by
  have a5:¬m L.pb=2:=λe=>by have:=(ai.p1 (by decide)).1;have a2:m L.pb=1:=this;rw[e] at a2;exact absurd a2 (by decide)
  have a9:=o.J D.O.bn (λe=>by have:=D.O.t0.1;rw[e] at this;exact absurd this (by decide));exact⟨o,(o.J d3 a5).I 4,a9.I 0,a9.I 1⟩
 have Y:=a3.O C oR;have s0:=bs.I 0;simp at s0
 by_cases a8:r.opn=0
 ·have b4:=hD a8
  have cd:Hd (∀W,ac C W->Calls Tryz.prog 88 #[.pointer (some ⟨L.tb,0,none⟩),.agg #[.int .u64 th.cur.job,.string (sB th.cur.M)]] W λe w'=>e=.returned (.tuple #[.bool false,.int .i64 0])/\ac W w'):=hD λW o=>by
   have:=E6 (c0.kp o nG) l.O.hn l.O.hr l.O.h2 a8;unfold aW fe at this;exact this
  clear bs K fw ai d3 c0 a8;go_upto_region 6 with fail
  go_region_held3 (λw'=>aa (λb=>m b=2) C w'/\w'.cell? ⟨L.pb,4,none⟩=some (.pointer (some ⟨L.tb,0,none⟩))/\w'.cell? ⟨y,0,none⟩=some (.int .u64 th.cur.job)/\w'.cell? ⟨y,1,none⟩=some (.string (sB th.cur.M)))
   (with_reducible first|exact a3.O _ B.O|exact a3.O _ (aa.drew oR)|exact a3.O _ oR|fail)
   (first
    |(go_at_call 88;refine(cd.O _ (aa.drew oR)).mono ?_;rintro e N ⟨rfl,b0⟩;have b6:Hd (ac C N):=hD ((aa.drew oR).trans b0);have B:Hd (aa (λb=>m b=2) C N):=hD (b6.O.mono λ_ e=>e.elim);clear b0)
    |fail)
  have h9:∃u:cN,u= {L with fl:=ax L.fl th.cur az}:=⟨_,rfl⟩
  obtain⟨u,cp⟩:=h9;have R:=D.O.h.U b6.O;rw[<-cp] at R;have V:Hd (u.pb=L.pb/\u.tb=L.tb/\u.tps=L.tps/\u.fp th.cur=q/\u.dn=L.dn/\u.most=L.most/\u.dp=L.dp/\u.n=L.n/\u.fn=L.fn):=hD (by rw[cp];exact⟨rfl,rfl,rfl,e2.O.symm,rfl,rfl,rfl,rfl,rfl⟩);have gq:Hd (aQ w N tag m):=hD (D.O.go.trans (aQ.U b6.O));have ei:=b6.O.J D.O.bn nF;have ge:=hD ei;have gr:Hd (m y=0/\m tp=15):=hD ⟨D.O.t0.1,D.O.tp15⟩
  have cr:∀(W:World) (sT:TS),aY W m u {s with T:=sT}->W.cell? ⟨tp,5,none⟩=some (.pointer (some ⟨q,0,none⟩)):=λW sT cq=>by
   obtain⟨_,hL,hH,i4,ie,hd,_,_,hi,_⟩:=cq.thW (k:=k) (tp:=tp) (th:=th) (by rw[V.O.2.2.1];exact l.O.htp) l.O.hk;have P:=hd.I 5;have h7:=hi l.O.hrun;rw[h7,V.O.2.2.2.1] at P;simp[dQ,ptr] at P;exact P
  have e7:=hD cr;have P:=cr N _ R;have ek:f'.kd.length=r.kn:=by have:=dm.O.2.2.2.1;rw[<-c6.O] at this;rw[this];exact l.O.hfi.kd
  have S:f'.result=none:=by have:=dm.O.2.2.1;rw[<-c6.O] at this;exact this
  have ab:=hD (aI ek S);have bb:=dr.O S
  have cw:∀(W:World) (F:Fr),aY W m u {s with T:={s.T with fm:=ax s.T.fm th.cur (some F)}}->aZ W (λb=>m b=100+q) q (u.fl th.cur) p F:=λW F cq=>by
   obtain⟨cg,_⟩:=cq.p16 th.cur F (by show ax s.T.fm th.cur _ th.cur=_;rw[ay]) (by simp);rw[V.O.2.2.2.1] at cg;have:=cg;rw[show({s with T:={s.T with fm:=ax s.T.fm th.cur (some F)}}:PS).prog th.cur.job=p from l.O.hpr] at this;exact this
  have gn:=hD cw;obtain⟨pl,bt⟩:=eX (f'.waitsOf.map λi:Nat=>(i:Int)+1:List Int);obtain⟨nw,bq⟩:=eX pl.length;have br:nw=f'.waitsOf.length:=by rw[bq,bt,zY]
  have c9:=hD (aI bt (aI bq br))
  have h2:Hd (Calls Tryz.prog 89 #[.pointer (some ⟨q,0,none⟩)] N λe w'=>∃A c,e=.returned (.slice A nw c)/\w'.ownsRow 0 3 1 (.slice A nw c) pl.length (pl.map (Value.int .i64))/\(∀b,(Value.slice A nw c).ownBlock=some b->N.heap.size<=b)/\ac N w'):=hD (by
   refine(Cg (cw N f' R) l.O.hP.ok.p0 bb.kl).mono ?_;rintro e W ⟨v,rfl,v1,v2⟩;obtain⟨A,c,rfl⟩:=bR v1;have a5:uz f'.waitsOf=pl.map (Value.int .i64):=by rw[bt,List.map_map];rfl
   rw[<-br] at v1;refine⟨A,c,by rw[br],?_,λb H=>?_,v2⟩
   ·rw[a5] at v1
    rw[<-bq];exact Bx v1 (yx _)
   ·exact Fv v1 H)
  have gB:Hd (∀b,N.heap.size<=b->m b=0):=hD λb H=>gM R.tlt H
  have gb:=hD R
  have fj:nw<=16:=by
   have ad:f'.waitsOf.length<=f'.kd.length:=by unfold Fr.waitsOf;exact lT (List.length_filter_le _ _) (by simp)
   have:=bb.kl;omega
  have h1:=hD fj;have gm:=hD bb;clear R cp ei cr ek S bb cw bt bq br Y s0 fj
  go_wp2_with (go_at_call 89;refine h2.O.mono ?_;rintro e e9 ⟨A,eb,rfl,v1,v2,c4⟩;have gN:=hD v1;have h0:=hD v2;have c8:=hD c4;clear v1 v2 c4 P)
  go_loopw [59] (λi wr=>∃j:Nat,j<=nw/\i=.int .i64 j/\xR wr m u s th.cur y q (.slice A nw eb) pl (bU s.T.rw th.cur (f'.waitsOf.take j) f')/\aa (λb=>m b=100+q) e9 wr) (λi _=>nw-(intOf i).toNat)
  case atStart=>exact⟨0,yx _,rfl,⟨gb.O.U c8.O,c8.O.J ge.O nF,gN.O⟩,oR⟩
  case round=>
   obtain⟨j,i8,rfl,⟨E,b9,ba⟩,cm⟩:=hrel;have cn:xR wr m u s th.cur y q (.slice A nw eb) pl (bU s.T.rw th.cur (f'.waitsOf.take j) f'):=⟨E,b9,ba⟩
   have ds:=hD cn;have dw:=hD cm
   by_cases ar:j<nw
   ·obtain⟨i,a7⟩ :∃i,f'.waitsOf[j]?=some i:=⟨f'.waitsOf[j]'(by rw[<-c9.O.2.2];exact ar),gG _⟩
    obtain⟨⟨kd,d0,f2⟩,f3⟩:=xM f' a7;have cB:i<r.kn:=by have:=(gS d0).1;rw[ab.O.1] at this;exact this
    obtain⟨il,am,_⟩:=l.O.hg;have S:=λi a7=>EI (i:=i) l.O.inv.t l.O.hr b4.O am a7 l.O.hP.ok l.O.hT
    obtain⟨c,cs,es,ex⟩:=S i cB;obtain⟨a1,cv⟩:=eX (bU s.T.rw th.cur (f'.waitsOf.take j) f')
    obtain⟨b2,dd,c5⟩:=nT s.T.rw th.cur p (f'.waitsOf.take j) f' gm.O λg1 h8=>by
     have f5:g1∈f'.waitsOf:=List.mem_of_mem_take h8;unfold Fr.waitsOf at f5;have f6:=zw.1 (Yg.1 f5).1;refine⟨f6,?_⟩;obtain⟨c',a9,hz,hA⟩:=S g1 (by rw[<-ab.O.1];exact f6);rw[hA];exact hz
    have dk:=nV s.T.rw th.cur (f'.waitsOf.take j) f' i f3;rw[<-cv] at E b2 dd c5 dk;have bp:a1.kd[i]?=some kd:=dk.trans d0
    have f0:bU s.T.rw th.cur (f'.waitsOf.take (j+1)) f'= {a1 with kd:=a1.kd.set i ⟨kd.into,true,c.res⟩}:=by
     rw[yO,a7];show bU s.T.rw th.cur (f'.waitsOf.take j++ [i]) f'=_;rw[pT,<-cv,ex];unfold Fr.give;rw[yc,bp];rfl
    obtain⟨ci,bn⟩ :∃g:Fr,g= {a1 with kd:=a1.kd.set i ⟨kd.into,true,c.res⟩}:=⟨_,rfl⟩
    have eg:gQ p ci:=by
     have:=AK b2 es (by rw[c5,ab.O.1];exact cB);unfold Fr.give at this;rw[yc,bp] at this;rw[bn];exact this
    have c7:=hD (aI f0 (aI bn eg));obtain⟨_,_,_,_,_,_,_,_,_,d2⟩:=l.O.inv.row_ok gu.O cs;obtain⟨d,bm⟩:=eX ((i:Int)+1:Int);have fa:pl[j]?=some d:=by rw[c9.O.1,yJ,a7,bm];rfl
    obtain⟨ii,ik,hv,hJ⟩:=AS ba fa
    cases hv
    obtain⟨kp,d1⟩:=eX (sB (aH th.cur i).M);obtain⟨db,d5⟩ :∃v,v=c.res.v:=⟨_,rfl⟩
    obtain⟨da,d4⟩ :∃v,v=c.res.e:=⟨_,rfl⟩
    obtain⟨g5,fk⟩ :∃v,v=sB c.tk.M:=⟨_,rfl⟩
    obtain⟨g6,fo⟩ :∃v,v=c.tk.fn:=⟨_,rfl⟩
    obtain⟨g7,fq⟩ :∃v,v=c.tk.args.length:=⟨_,rfl⟩
    obtain⟨g8,fr⟩ :∃v:Int,v=(c.tk.fuel:Int):=⟨_,rfl⟩
    obtain⟨g9,fs⟩ :∃v:Int,v=(c.sa:Int):=⟨_,rfl⟩
    obtain⟨ga,ft⟩ :∃v,v=c.opn:=⟨_,rfl⟩
    have gx:Hd (∀W,Calls Tryz.prog 90 #[.string (sB th.cur.M),.int .i64 d] W λe w'=>e=.returned (.tuple #[.string kp,.bool true])/\ac W w'):=hD λW=>by
     have f4:=d2.2.1;have:=qm th.cur.M l.O.hn.2 (i+1) (Yh 1 _) (by have:=b2.kl;rw[c5,ab.O.1] at this;omega) W;unfold mc at this;rw[yb (λe=>by rw[show(aH th.cur i).M=th.cur.M++ [UInt8.ofNat (i+1)] from rfl,yk,e] at f4;simp at f4)] at this;rw[bm,d1];exact this
    have gs:Hd (∀W,ac wr W->Calls Tryz.prog 51 #[.pointer (some ⟨L.tb,0,none⟩),.agg #[.int .u64 th.cur.job,.string kp]] W λe w'=>∃Z c',e=.returned (.tuple #[.agg #[.int .u64 th.cur.job,.string kp,.string g5,.int .i64 g6,.slice Z g7 c',.int .i64 g8,.int .u8 g9,.int .i64 ga,.int .i64 db,.int .i64 da],.bool true])/\ac W w'):=hD λW o=>by
     have fb:=(E.U o).p2 (by decide);rw[V.O.2.1] at fb;have d6:=Eu fb d2 cs;unfold aW fe jo at d6;rw[show(aH th.cur i).job=th.cur.job from rfl,<-d1,<-fk,<-fo,<-fq,<-fr,<-fs,<-ft,<-d5,<-d4] at d6;exact d6.mono λe hG ⟨Z,c',a5,_,hb⟩=>⟨Z,c',a5,hb⟩
    have gt:Hd (∀W,ac wr W->Calls Tryz.prog 91 #[.pointer (some ⟨q,0,none⟩),.int .i64 d,.agg #[.int .i64 db,.int .i64 da]] W λe w'=>e=.returned (.int .i64 0)/\aZ w' (λb=>m b=100+q) q (u.fl th.cur) p ci/\aa (λb=>m b=100+q) W w'):=hD λW o=>by
     have a6:=E.U o;have:=CO i kd c.res (a6.tagB (by omega)) (gn.O W a1 a6) l.O.hP.ok.p0 bp f2 (dd.trans ab.O.2) b2.kl;unfold eV at this;rw[bm,d5,d4,bn];exact this
    have P:=e7.O wr _ E;have f9:ae wr L.pb 123 (bJ u):=by have:=(E.p1 (by decide)).2;rw[V.O.1] at this;exact this
    have ff:u.tb=L.tb:=V.O.2.1
    have bc:Hd (∀W,ac wr W->ac wr W/\W.cell? ⟨L.pb,4,none⟩=some (.pointer (some ⟨L.tb,0,none⟩))/\W.cell? ⟨y,0,none⟩=some (.int .u64 th.cur.job)/\W.cell? ⟨y,1,none⟩=some (.string (sB th.cur.M))/\W.cell? ⟨tp,5,none⟩=some (.pointer (some ⟨q,0,none⟩))):=hD λW o=>by
     have a9:=o.J b9 nF;refine⟨o,?_,a9.I 0,a9.I 1,e7.O W _ (E.U o)⟩;rw[<-ff];exact(o.J f9 nF).I 4
    have h5:Hd (aY wr m u {s with T:={s.T with fm:=ax s.T.fm th.cur (some a1)}}):=hD E;have Y:=bc.O wr oR;obtain⟨ib,ic⟩:=ca ar;have ha:=cX ar (lT h1.O (by decide));have ia:=(aU _).trans ha;clear E b9 ba cm cn a7 d0 f2 f3 cB am S cs es ex cv b2 dd c5 dk bp f0 bn eg d2 bm fa d1 d5 d4 fk fo fq fr fs ft f9 ff P
    go_upto_region 13 with(go_at_call 90;refine(gx.O _).mono ?_;rintro e a ⟨rfl,g2⟩;have a0:=hD g2;clear g2)
    clear Y;have Y:=bc.O a a0.O;have cb:Hd (ac a (a.alloc (.cells #[.int .u64 0,.string ⟨#[]⟩,.string ⟨#[]⟩,.int .i64 0,.slice none 0 0,.int .i64 0,.int .u8 0,.int .i64 0,.int .i64 0,.int .i64 0] 60))):=hD (oR.alloc _);have dq:Hd (ac a a.drew):=hD (aa.drew oR);have e5:Hd (ac a (a.alloc (.cells #[.int .u64 0,.string ⟨#[]⟩,.string ⟨#[]⟩,.int .i64 0,.slice none 0 0,.int .i64 0,.int .u8 0,.int .i64 0,.int .i64 0,.int .i64 0] 60)).drew):=hD (aa.drew cb.O);have gc:Hd (ae (a.alloc (.cells #[.int .u64 0,.string ⟨#[]⟩,.string ⟨#[]⟩,.int .i64 0,.slice none 0 0,.int .i64 0,.int .u8 0,.int .i64 0,.int .i64 0,.int .i64 0] 60)) a.heap.size 60 #[.int .u64 0,.string ⟨#[]⟩,.string ⟨#[]⟩,.int .i64 0,.slice none 0 0,.int .i64 0,.int .u8 0,.int .i64 0,.int .i64 0,.int .i64 0]):=hD (ae.new a _ _);have h4:Hd (∀W,ac (a.alloc (.cells #[.int .u64 0,.string ⟨#[]⟩,.string ⟨#[]⟩,.int .i64 0,.slice none 0 0,.int .i64 0,.int .u8 0,.int .i64 0,.int .i64 0,.int .i64 0] 60)).drew W->ae W a.heap.size 60 #[.int .u64 0,.string ⟨#[]⟩,.string ⟨#[]⟩,.int .i64 0,.slice none 0 0,.int .i64 0,.int .u8 0,.int .i64 0,.int .i64 0,.int .i64 0]):=hD λW o=>o.J gc.O.drew nF
    have Q:Hd (∀W,ac a W->ac a W/\W.cell? ⟨L.pb,4,none⟩=some (.pointer (some ⟨L.tb,0,none⟩))/\W.cell? ⟨y,0,none⟩=some (.int .u64 th.cur.job)):=hD λW o=>by
     have:=bc.O W (a0.O.trans o);exact⟨o,this.2.1,this.2.2.1⟩
    have e0:Hd (∀(W:World) (v0 v1 v2 v3 v4 v5 v6 v7 v8 v9:Value),ac a W->ac a ((((((((((W.setCell ⟨a.heap.size,0,none⟩ v0).setCell ⟨a.heap.size,1,none⟩ v1).setCell ⟨a.heap.size,2,none⟩ v2).setCell ⟨a.heap.size,3,none⟩ v3).setCell ⟨a.heap.size,4,none⟩ v4).setCell ⟨a.heap.size,5,none⟩ v5).setCell ⟨a.heap.size,6,none⟩ v6).setCell ⟨a.heap.size,7,none⟩ v7).setCell ⟨a.heap.size,8,none⟩ v8).setCell ⟨a.heap.size,9,none⟩ v9)/\((((((((((W.setCell ⟨a.heap.size,0,none⟩ v0).setCell ⟨a.heap.size,1,none⟩ v1).setCell ⟨a.heap.size,2,none⟩ v2).setCell ⟨a.heap.size,3,none⟩ v3).setCell ⟨a.heap.size,4,none⟩ v4).setCell ⟨a.heap.size,5,none⟩ v5).setCell ⟨a.heap.size,6,none⟩ v6).setCell ⟨a.heap.size,7,none⟩ v7).setCell ⟨a.heap.size,8,none⟩ v8).setCell ⟨a.heap.size,9,none⟩ v9).cell? ⟨L.pb,4,none⟩=some (.pointer (some ⟨L.tb,0,none⟩))/\((((((((((W.setCell ⟨a.heap.size,0,none⟩ v0).setCell ⟨a.heap.size,1,none⟩ v1).setCell ⟨a.heap.size,2,none⟩ v2).setCell ⟨a.heap.size,3,none⟩ v3).setCell ⟨a.heap.size,4,none⟩ v4).setCell ⟨a.heap.size,5,none⟩ v5).setCell ⟨a.heap.size,6,none⟩ v6).setCell ⟨a.heap.size,7,none⟩ v7).setCell ⟨a.heap.size,8,none⟩ v8).setCell ⟨a.heap.size,9,none⟩ v9).cell? ⟨y,0,none⟩=some (.int .u64 th.cur.job)):=hD λW v0 v1 v2 v3 v4 v5 v6 v7 v8 v9 o=>Q.O _ (by with_reducible (refine aa.setCell ?_ (Or.inr (lR)) _;refine aa.setCell ?_ (Or.inr (lR)) _;refine aa.setCell ?_ (Or.inr (lR)) _;refine aa.setCell ?_ (Or.inr (lR)) _;refine aa.setCell ?_ (Or.inr (lR)) _;refine aa.setCell ?_ (Or.inr (lR)) _;refine aa.setCell ?_ (Or.inr (lR)) _;refine aa.setCell ?_ (Or.inr (lR)) _;refine aa.setCell ?_ (Or.inr (lR)) _;refine aa.setCell ?_ (Or.inr (lR)) _;exact o))
    clear Y;have Y:=Q.O a oR
    go_cut [13,14] (λs13 s14 wx=>xW a wx th.cur.job kp g5 g6 g7 g8 g9 ga db da s13)
    case first=>
     go_region_held3 (λw'=>ac a w'/\w'.cell? ⟨L.pb,4,none⟩=some (.pointer (some ⟨L.tb,0,none⟩))/\w'.cell? ⟨y,0,none⟩=some (.int .u64 th.cur.job))
      (first|with_reducible exact e0.O _ _ _ _ _ _ _ _ _ _ _ B.O|with_reducible exact Q.O _ B.O|with_reducible exact Q.O _ (aa.alloc B.O _)|with_reducible exact Q.O _ (aa.drew B.O)|with_reducible exact Q.O _ cb.O|with_reducible exact Q.O _ (aa.drew cb.O)|with_reducible exact Q.O _ (aa.drew oR)|with_reducible exact Q.O _ oR|(with_reducible refine Q.O _ ?_;with_reducible refine aa.setCell ?_ (Or.inr (lR)) _;repeat (first|with_reducible exact B.O|with_reducible refine aa.setCell ?_ (Or.inr (lR)) _))|fail)
      (first|(go_at_call 51;refine(gs.O _ ?_).mono ?_;(with_reducible first|exact a0.O.trans dq.O|exact a0.O.trans e5.O|fail);rintro e W8 ⟨Z,c',rfl,K⟩;(first|(have B:Hd (ac a W8):=hD (by with_reducible exact aa.trans dq.O K);clear K)|(have B:Hd (ac a W8):=hD (by with_reducible exact aa.trans e5.O K);have d7:=h4.O W8 K;have h3:=hD d7;obtain⟨hM,a5,hN,hO,hP,hQ,hR,hS,hV,hW,hX,hY,cf,cg,hZ,i0,i1,i2,ch,i3⟩:=rH d7;clear K d7)))|fail)
     all_goals (
      go_wp2_with fail;go_meet)
     all_goals (unfold xW;first
      |(with_reducible refine⟨Z,c',W8.heap.size,rfl,bN,?_⟩;with_reducible exact aa.alloc B.O _)
      |(with_reducible refine⟨Z,c',a.heap.size,rfl,tg h3.O,?_⟩;with_reducible exact(e0.O W8 _ _ _ _ _ _ _ _ _ _ B.O).1))
    case rest=>
     obtain⟨Z,c',i6,rfl,d8,d9⟩:=hcut;obtain⟨ce,h6⟩:=eX wc;subst h6;have em:=bc.O ce (a0.O.trans d9);have P:=em.2.2.2.2;have hB:=d8.I 8;have hC:=d8.I 9;simp[] at hB hC;have e3:=hD d9;clear em d8 d9 Y;go_upto_region 14 with fail
     go_still_tail 7,(by kernel_rfl)
     change wpList _ _ _ _ _ ce.drew
     go_wp2_with (go_at_call 91;refine(gt.O _ (a0.O.trans (e3.O.trans (aa.drew oR)))).mono ?_;rintro e W8 ⟨rfl,ch,g3⟩;have gf:=hD ch;have b5:=hD g3;clear ch g3)
     go_roundw
     case measure=>exact aB rfl ar
     case rel=>
      have bx:ac wr ce.drew:=a0.O.trans (e3.O.trans (aa.drew oR));have a6:=h5.O.U bx;have ef:=(a6.same (i:=100+q) b5.O).frame (n:=th.cur) (l':=u.fl th.cur) (f':=ci) V.O.2.2.2.1.symm (by show ax s.T.fm th.cur _ th.cur≠none;rw[ay];simp) (by have:=gf.O;rw[<-l.O.hpr] at this;exact this) (λ_=>by have:=c7.O.2.2;rw[<-l.O.hpr] at this;exact this);simp only[rG,jZ] at ef;refine⟨j+1,ar,rfl,⟨?_,b5.O.J (bx.J ds.O.2.1 nF) (λe=>by rw[gr.O.1] at e;omega),b5.O.owns (bx.owns ds.O.2.2 nG) (λb H e=>by rw[gB.O b (h0.O b H)] at e;omega)⟩,(dw.O.trans (bx.mono λ_ e=>e.elim)).trans b5.O⟩;rw[c7.O.1,<-c7.O.2.1];exact ef
   ·have i7:¬(j:Int)<(nw:Int):=by omega
    have f1:j=nw:=by omega
    have er:f'.waitsOf.take j=f'.waitsOf:=by rw[f1,c9.O.2.2,zr]
    rw[er] at E;have gp:=hD E;clear E b9 ba cm cn f1 er;go_wp2_with fail
    go_end0
    rw[X.O,yb (λe=>e b4.O)];refine⟨rfl,m,u,?_,(gq.O.trans (aQ.U c8.O)).trans (aQ.same (i:=100+q) (by omega) dw.O),?_⟩
    ·rw[tS l.O.hr l.O.h2]
     exact gp.O
    ·obtain⟨hl,az,hm,ih,ho,hs,ht,hu,hy⟩:=V.O
     exact⟨hl,hs,hm,ht,by rw[hu];omega,by rw[hy];omega,by simp;omega,[],by simp[iQ],by rw[ho];simp⟩
 ·have f8:(r.opn==0)=false:=bF a8
  have b4:=hD a8
  have cd:Hd (∀W,ac C W->Calls Tryz.prog 88 #[.pointer (some ⟨L.tb,0,none⟩),.agg #[.int .u64 th.cur.job,.string (sB th.cur.M)]] W λe w'=>e=.returned (.tuple #[.bool true,.int .i64 0])/\bS w' (λb=>m b=2) L.tb L.mb L.most (ax s.T.rw th.cur (some {r with sa:=3})) s.T.ks.length L.rp/\aa (λb=>m b=2) W w'):=hD λW o=>by
   have:=D0 ((D.O.h.U o).tagB (by decide)) (c0.kp o nG) l.O.hn l.O.hr l.O.h2 f8;unfold aW fe at this;exact this
  clear bs K fw ai d3 c0 a8 f8;go_upto_region 6 with fail
  go_region_held3 (λw'=>aa (λb=>m b=2) C w'/\w'.cell? ⟨L.pb,4,none⟩=some (.pointer (some ⟨L.tb,0,none⟩))/\w'.cell? ⟨y,0,none⟩=some (.int .u64 th.cur.job)/\w'.cell? ⟨y,1,none⟩=some (.string (sB th.cur.M)))
   (with_reducible first|exact a3.O _ B.O|exact a3.O _ (aa.drew oR)|exact a3.O _ oR|fail)
   (first
    |(go_at_call 88;refine(cd.O _ (aa.drew oR)).mono ?_;rintro e N ⟨rfl,b1,b0⟩;have B:Hd (aa (λb=>m b=2) C N):=hD (aa.trans (aa.drew oR) b0);have gD:=hD b1;clear b0 b1)
    |fail)
  have R:=(D.O.h.same (i:=2) B.O).fill2 (T':=iQ s.T th.cur r 3 f') (rp':=L.rp) gD.O rfl;have e4:=hD (sJ R (k:=k) (th:=th) l.O.htp l.O.hk);unfold ptr at e4;clear R Y s0
  go_wp2_with (go_at_call 77;refine e4.O.mono ?_;rintro e e9 ⟨rfl,a6,c4⟩)
  (try simp only[Exit.inBlock,Exit.then])
  refine bodyPost_ret (results_none rfl _ _ _) rfl ?_;rw[X.O,yf b4.O];exact⟨rfl,m,_,a6,(D.O.go.trans (aQ.same (i:=2) (by decide) B.O)).trans (aQ.same (i:=15) (by decide) (c4.mono λb e=>by rw[e];exact D.O.tp15)),⟨rfl,rfl,rfl,rfl,by simp;omega,by simp;omega,by simp;omega,[],by simp[iQ],by simp⟩⟩
end
section
variable {G:dg}{w w':World}{tag tag':Nat->Nat}{L L':cN}{s s':PS}{n:Nm}{r:aG}
theorem cA.room{t:TS}(c:cA G t)(jl:List Int)(i:∀j,G j≠none->j∈jl){a:Nm}{p:List ah}{x u:aj}(k:t.rw a=none)(f:G a.job=some (p,x))(l:bM p x a.M=some u):t.ks.length+1<=(jl.flatMap (jM G)).length:=by
 have q:a ∉ t.ks:=λb=>(c.ks a).1 b k
 have key:∀(n:Nm) (p:List ah) (x u:aj),G n.job=some (p,x)->bM p x n.M=some u->n∈jl.flatMap (jM G):=λn p x u d e=>by
  refine List.mem_flatMap.2 ⟨n.job,i _ (by rw[d];simp),?_⟩;unfold jM;rw[d];refine yL.2 ⟨⟨u,bw p u,(aR p u).length⟩,(jT _ _ (lR) _).2 ⟨_,_,e,rfl⟩,?_⟩;have:=io _ _ _ e;rw[c.roots _ _ _ d] at this;simp only;rw[this];rfl
 refine mf (a :: t.ks) _ (List.nodup_cons.2 ⟨q,c.nodup⟩) λn m=>?_
 rcases yG.1 m with b|b
 ·subst b
  exact key _ _ _ _ f l
 ·cases hr:t.rw n with
  |none=>exact absurd hr ((c.ks n).1 b)
  |some r=>
   obtain⟨v,y,g,o,_⟩:=(c.row n r hr).node;exact key _ _ _ _ g o
theorem BJ(e:iN G){k tp:Nat}{th:Th}{p:List ah}{f:Fr}(b:gU G w tag L s k tp th r p f)(c:kR L s)(i:∀a,s.known a=none)(g:∀a,s.away a=false)(j:L.most<=1000000)
 (l:∀a p x u,s.T.rw a=none->G a.job=some (p,x)->bM p x a.M=some u->(s.T.ks.length:Int)<L.most):
 Calls Tryz.prog 46 #[ptr L.pb,ptr tp] w λd w'=>d=.returned (.tuple #[])/\cP w w' tag L s (fi s k) 4:=by
 cases hst:(f.run1 p).2 with
 |more=>exact xi b hst
 |fork t=>exact xg b hst c i g j l
 |join=>exact xh e b hst
 |done y=>exact xf b hst c
theorem xk(f:aY w tag L s)(C:aK G s (λ_=>False))(B:iN G)(A:kR L s){k tp:Nat}{th:Th}(u:L.tps[k]?=some tp)(t:s.ths[k]?=some th){a:Nat×Nat}(v:th.act=some a)(o:Nat)(S:o<4294967296):
 Calls Tryz.prog 17 #[ptr L.pb,.int .i64 (k:Int),.int .u32 (o:Int)] w λe w'=>∃b s',e=.returned (.tuple #[.bool b,.int .i64 0])/\dt s k o s'/\cP w w' tag L s s' 4:=by
 obtain⟨j,i⟩:=a;have E:=(f.p1 (by decide)).2;obtain⟨_,m⟩:=f.p5 (by decide);obtain⟨N,a3,l⟩:=bR m;obtain⟨K,x⟩:=eX L.tps.length;rw[<-x] at l;have D:k<K:=by rw[x,(f.p15 (by decide)).1];exact(gS t).1
 obtain⟨p,Q⟩ :∃p,N=some ⟨p,0,none⟩:=by
  rcases di m with⟨_,e⟩|⟨g,c,e,_⟩
  ·omega
  ·rw[l] at e
   exact⟨g,by injection e⟩
 subst Q
 have a4:w.cell? ⟨p,k,none⟩=some (.pointer (some ⟨tp,0,none⟩)):=by
  rw[l] at m;have:=World.ownsRow.cells m (g:=p) rfl k (ptr tp) (by rw[yJ,u];rfl);rw[bg,yq] at this;exact this
 have P:=E.I 3;simp[bJ,l] at P;obtain⟨a5,a6⟩:=ca D;have a7:¬(k:Int)<0:=by omega
 have a8:¬(K:Int)<=(k:Int):=by omega
 have z:=hD (kD f);obtain⟨V,d,av,fv,X,F,Y,H,Z,a0⟩:=f.thW u t;have y:=hD (By f C B A u t v o S);obtain⟨pl,q,_,_,R⟩:=H j i v;subst R;have a1:=F.I 0;simp[dQ,ptr] at a1;unfold ptr at y z;unfold ptr;clear f C B A u t v E m l x D X F Y H Z a0 V;go_enter Tryz.func17,Tryz.ntmps17
 go_wp2_with (first
  |(go_at_call 44;refine z.O.mono ?_;rintro e a2 ⟨rfl,rfl⟩)
  |(go_at_call 45;refine y.O.mono ?_;rintro e a2 ⟨b,s',rfl,T,W⟩)
  |fail)
 go_ret2
 exact⟨b,s',rfl,T,W⟩
theorem xl(e:aY w tag L s)(F:aK G s (λ_=>False))(z:iN G)(E:kR L s){k tp:Nat}{th:Th}(y:L.tps[k]?=some tp)(l:s.ths[k]?=some th)(q:th.act=none)(v:th.run=true)(o:Nat)(am:o<4294967296)(K:∀i,s.known i=none)(H:∀i,s.away i=false)(P:L.most<=1000000)
 (S:∀i p x u,s.T.rw i=none->G i.job=some (p,x)->bM p x i.M=some u->(s.T.ks.length:Int)<L.most):
 Calls Tryz.prog 17 #[ptr L.pb,.int .i64 (k:Int),.int .u32 (o:Int)] w λa w'=>∃b s',a=.returned (.tuple #[.bool b,.int .i64 0])/\dt s k o s'/\cP w w' tag L s s' 4:=by
 obtain⟨r,p,f,R⟩:=gU.mk' e F z y l q v;have Q:=(e.p1 (by decide)).2;obtain⟨_,m⟩:=e.p5 (by decide);obtain⟨Y,ai,j⟩:=bR m;obtain⟨X,A⟩:=eX L.tps.length;rw[<-A] at j;have N:k<X:=by rw[A,(e.p15 (by decide)).1];exact(gS l).1
 obtain⟨t,a1⟩ :∃t,Y=some ⟨t,0,none⟩:=by
  rcases di m with⟨_,a⟩|⟨g,c,a,_⟩
  ·omega
  ·rw[j] at a
   exact⟨g,by injection a⟩
 subst a1
 have al:w.cell? ⟨t,k,none⟩=some (.pointer (some ⟨tp,0,none⟩)):=by
  rw[j] at m;have:=World.ownsRow.cells m (g:=t) rfl k (ptr tp) (by rw[yJ,y];rfl);rw[bg,yq] at this;exact this
 have a0:=Q.I 3;simp[bJ,j] at a0;obtain⟨an,ar⟩:=ca N;have aw:¬(k:Int)<0:=by omega
 have az:¬(X:Int)<=(k:Int):=by omega
 have C:=hD (kD e);obtain⟨a4,d,av,fv,a6,B,V,a7,W,a8⟩:=e.thW y l;have D:=hD (BJ z R E K H P S);have a2:=V q;have a3:=W v;subst a2;subst a3;have a9:=B.I 0;have ab:=B.I 5;simp[dQ,ptr] at a9 ab
 have Z:Hd (dt s k o (fi s k)):=hD (by
  unfold dt;rw[PS.th_eq l,q];simp[v])
 unfold ptr at D C;unfold ptr;clear e F z E y l q Q m j A N a6 B V a7 W a8 a4 R K H P S v;go_enter Tryz.func17,Tryz.ntmps17
 go_wp2_with (first
  |(go_at_call 44;refine C.O.mono ?_;rintro a ad ⟨rfl,rfl⟩)
  |(go_at_call 46;refine D.O.mono ?_;rintro a ad ⟨rfl,a5⟩)
  |fail)
 go_ret2
 exact⟨_,_,rfl,Z.O,a5⟩
theorem BM(f:aY w tag L s)(z:aK G s (λ_=>False)){k tp:Nat}{th:Th}(E:L.tps[k]?=some tp)(j:s.ths[k]?=some th)(m:th.act=none)(D:th.run=false)(y:Nat)(c1:y<4294967296):
 Calls Tryz.prog 17 #[ptr L.pb,.int .i64 (k:Int),.int .u32 (y:Int)] w λe w'=>∃b s',e=.returned (.tuple #[.bool b,.int .i64 0])/\dt s k y s'/\cP w w' tag L s s' 4:=by
 have T:=(f.p1 (by decide)).2;obtain⟨_,q⟩:=f.p5 (by decide);obtain⟨a9,bv,o⟩:=bR q;obtain⟨Z,K⟩:=eX L.tps.length;rw[<-K] at o;have S:k<Z:=by rw[K,(f.p15 (by decide)).1];exact(gS j).1
 obtain⟨A,b2⟩ :∃A,a9=some ⟨A,0,none⟩:=by
  rcases di q with⟨_,e⟩|⟨g,c,e,_⟩
  ·omega
  ·rw[o] at e
   exact⟨g,by injection e⟩
 subst b2
 have c0:w.cell? ⟨A,k,none⟩=some (.pointer (some ⟨tp,0,none⟩)):=by
  rw[o] at q;have:=World.ownsRow.cells q (g:=A) rfl k (ptr tp) (by rw[yJ,E];rfl);rw[bg,yq] at this;exact this
 have az:=T.I 3;simp[bJ,o] at az;obtain⟨c2,c3⟩:=ca S;have c4:¬(k:Int)<0:=by omega
 have c5:¬(Z:Int)<=(k:Int):=by omega
 have Q:=hD (kD f);obtain⟨V,d,av,fv,N,u,X,ba,bb,Y⟩:=f.thW E j;have b4:=X m;have b7:=Y D;subst b4;subst b7;have a3:=u.I 0;have a4:=u.I 2;have a5:=u.I 5;simp[dQ,ptr] at a3 a4 a5
 have am:Hd (dt s k y (lh s k)):=hD (by
  unfold dt;rw[PS.th_eq j,m];simp[D])
 obtain⟨x,t⟩ :∃x,s.ds[k]?=some x:=⟨s.ds[k]'(by rw[z.nlen];exact(gS j).1),gG _⟩
 have H:=(z.th k th j).free m;rw[PS.dq_eq t] at H;obtain⟨aE,pl,P,F,_,_,_,a2⟩:=(f.p3 (by decide)).dq k x t;have b5:d=aE:=yz (N.symm.trans P);subst b5
 have al:Hd (∀W,ac w W->Calls Tryz.prog 47 #[.pointer (some ⟨d,0,none⟩)] W λe w'=>∃g:Nat,e=.returned (.tuple #[.pointer (some ⟨g,0,none⟩),.int .i64 0])/\aa (λb=>tag b=3) W w'/\aY w' (cS tag W w' 3) {L with ps:=L.ps.set k (pl++ [g])} {s with C:=s.C,ds:=s.ds.set k (nI x)}/\(∀b,tag b≠0->cS tag W w' 3 b=tag b)):=hD λW b3=>by
  have B:=f.U b3;refine(Au (B.p3 (by decide)) z.many t P F H).mono ?_;rintro e bt ⟨rfl,v,_,b0⟩;exact⟨_,rfl,v,(B.part (i:=3) v).fill3 ((b0 (nI x) rfl rfl rfl).mo (kK B.tlt (by decide))) (je.snoc F _),bL B.tlt⟩
 have ad:=hD f;have ai:=hD u;have R:=hD (aI E (aI j (aI t (aI F (aI a2 (aI N (aI V (aI m D))))))));unfold ptr at Q;unfold ptr;clear f z E j m D T q o K S N u X ba bb Y V t H P F a2;go_enter Tryz.func17,Tryz.ntmps17
 go_wp2_with (first
  |(go_at_call 44;refine Q.O.mono ?_;rintro e c6 ⟨rfl,rfl⟩)
  |(go_at_call 47;refine(al.O w oR).mono ?_;rintro e an ⟨g,rfl,a0,a1,a6⟩;have v:=hD a0;have bf:=hD a1;have bk:=hD a6;clear a0 a1 a6 a3 a4 a5;have l:=v.O.J ai.O (λe=>by rw[R.O.2.2.2.2.2.2.1] at e;exact absurd e (by decide));have ar:=l.I 0;have aw:=l.I 1;have bx:=l.fz 0;have bz:=l.fz 1;have ab:=hD l;simp[dQ] at ar aw;clear l)
  |fail)
 go_ret2
 obtain⟨bm,a7,bn,bo,bp,bq,a8,c7,br⟩:=R.O;have b8:(L.ps.set k (pl++ [g]))[k]?=some (pl++ [g]):=bH (gS bo).1;obtain⟨b1,bc⟩:=bf.O.setAct (kd':=2) (a:=(k,x.acts.length)) (p:=g) (pl:=pl++ [g]) bm a7 bq ab.O (λe=>by rw[br] at e;cases e) (λ_=>rfl) b8 (by show(pl++ [g])[x.acts.length]?=_;rw[<-bp];simp);have b9:cS tag w an 3 tp=15:=by rw[bk.O tp (by rw[a8];decide)];exact a8
 refine⟨_,_,rfl,am.O,_,({L with ps:=L.ps.set k (pl++ [g])}:cN),?_,(aQ.part ad.O.tlt (by decide) v.O).trans (aQ.same (i:=15) (by decide) (bc.mono λb e=>by rw[e];exact b9)),?_⟩
 ·have b6:lh s k= {{s with C:=s.C,ds:=s.ds.set k (nI x)} with ths:=s.ths.set k {th with act:=some (k,x.acts.length),kn:=2}}:=by
   unfold lh;rw[PS.dq_eq bn,PS.th_eq a7]
  rw[b6];exact b1
 ·exact⟨rfl,rfl,rfl,rfl,by show L.n<=L.n+4;omega,by show(L.fn:Int)<=L.fn+4;omega,by simp only[lh];omega,[],by simp[lh],by simp⟩
theorem BK(e:aY w tag L s)(f:aK G s (λ_=>False))(m:iN G)(l:kR L s){k:Nat}(o:k<s.ths.length)(d:Nat)(g:d<4294967296)(v:∀c,s.known c=none)(t:∀c,s.away c=false)(y:L.most<=1000000)
 (z:∀c p x u,s.T.rw c=none->G c.job=some (p,x)->bM p x c.M=some u->(s.T.ks.length:Int)<L.most):
 Calls Tryz.prog 17 #[ptr L.pb,.int .i64 (k:Int),.int .u32 (d:Int)] w λq w'=>∃b s',q=.returned (.tuple #[.bool b,.int .i64 0])/\dt s k d s'/\cP w w' tag L s s' 4:=by
 obtain⟨th,i⟩ :∃th,s.ths[k]?=some th:=⟨s.ths[k],gG o⟩
 obtain⟨tp,j⟩ :∃tp,L.tps[k]?=some tp:=⟨L.tps[k]'(by rw[(e.p15 (by decide)).1];exact o),gG _⟩
 cases ha:th.act with
 |some a=>exact xk e f m l j i ha d g
 |none=>
  cases hr:th.run with
  |true=>exact xl e f m l j i ha hr d g v t y z
  |false=>exact BM e f j i ha hr d g
end
theorem pS:bE dB=0:=by decide
theorem CK:mY dB:=⟨Bp pS (λx b o a=>by simp[dB] at b;rcases b with rfl|rfl<;>·simp at a;rcases a with rfl|rfl|rfl|rfl<;>exact⟨by decide,by decide⟩),pS,λx b=>by simp[dB] at b;rcases b with rfl|rfl<;>·refine⟨by decide,λo a=>?_⟩;simp at a;rcases a with rfl|rfl|rfl|rfl<;>(unfold jz;decide)⟩
def xT(w w':World)(p:List ah)(il:Nat)(fuel pk:Int)(e:Ending):Prop:=∃b,e=.returned (.bool b)/\(b=false->p.length<=30/\il<=100/\¬(400<fuel/\fuel<=65536)/\pk<=1000/\∀x∈p,x.ops.length<=200)/\ac w w'
theorem vf(p:List ah)(A ad:Option Addr)(c j ar:Nat)(d l:Int)(F:Nat->Prop)(w:World)(a5:fP w F A p):
 Calls Tryz.prog 30 #[aM p A c,.slice ad j ar,.int .i64 d,.int .i64 l] w λa w'=>xT w w' p j d l a:=by
 obtain⟨n,X⟩:=eX p.length;obtain⟨K,D⟩:=eX (w.alloc (.cells #[.slice A n c] 24));obtain⟨b0,S⟩:=eX w.heap.size;have a2:ae K b0 24 #[.slice A n c]:=by rw[D,S];exact bN
 have Y:ac w K:=by rw[D];exact oR.alloc _
 have am:=hD a2;have ai:=hD (a5.U Y);have f:=hD Y;have C:=hD X;have al:=hD S;have a1:=hD D.symm;unfold aM;rw[<-X];clear a5 X D Y S a2;go_enter Tryz.func30,Tryz.ntmps30;go_upto_region 1 with fail;rw[a1.O,<-al.O];clear a1;go_wp2_with fail
 go_loopw [9,10] (λm i wr=>∃(k:Nat) (z:Int),k<=n/\k<=40/\m=.int .i64 z/\i=.int .i64 k/\(∀x∈p.take k,x.ops.length<=200)/\ac K wr) (λ_ i _=>40-(intOf i).toNat)
 case atStart=>exact⟨0,0,yx _,yx _,rfl,rfl,λx g=>by simp at g,oR⟩
 case round=>
  obtain⟨k,z,b3,b4,rfl,rfl,y,q⟩:=hrel;have b7:=(q.J am.O nF).I 0;simp at b7;have an:=hD y;have e:=hD q;have Z:Hd (n<=k->∀x∈p,x.ops.length<=200):=hD λb5 x g=>y x (by rw[List.take_of_length_le (by rw[<-C.O];exact b5)];exact g)
  by_cases E:k<n
  ·by_cases V:k<40
   ·have bc:(0:Int)<=(k:Int):=dK k
    have a6:(k:Int)<(n:Int):=cO E;have bb:(k:Int)<40:=by omega
    have a7:k<p.length:=by rw[<-C.O];exact E
    have T:p[k]?=some p[k]:=gG a7;generalize p[k] =x at*;obtain⟨b,bk,B,b9,b1,bm,bn,b8,b2⟩:=(ai.O.U q).at_ T;subst b1;obtain⟨m,W⟩:=eX x.ops.length;rw[<-W] at b8;have b6:wrap64 ((k:Int)+1)=(k:Int)+1:=cX V (by decide);have bf:=(aU _).trans b6;have a0:=hD (aI W T);clear y q b2 W T a7 b3 b4
    by_cases a8:(200:Int)<(m:Int)
    ·have aE:decide ((200:Int)<(m:Int))=true:=yg a8
     go_wp2_with fail;go_ret;exact⟨_,rfl,λa=>(by cases a),f.O.trans e.O⟩
    ·have aE:decide ((200:Int)<(m:Int))=false:=yd a8
     go_wp2_with fail;go_roundw
     case measure=>exact aB rfl V
     case rel=>
      refine⟨k+1,_,E,V,rfl,rfl,λab a9=>?_,e.O⟩;rw[yO,a0.O.2] at a9
      rcases yH.1 a9 with a|a
      ·exact an.O ab a
      ·have:ab=x:=by simpa using a
       rw[this,<-a0.O.1];omega
   ·have ba:¬(k:Int)<40:=by omega
    have a6:(k:Int)<(n:Int):=cO E;have t:(30:Int)<(n:Int):=by omega
    have a3:decide ((30:Int)<(n:Int))=true:=yg t;clear y q;go_wp2_with fail;go_ret;exact⟨_,rfl,λa=>(by cases a),f.O.trans e.O⟩
  ·have a6:¬(k:Int)<(n:Int):=by omega
   clear y q
   by_cases t:(30:Int)<(n:Int)
   ·have a3:decide ((30:Int)<(n:Int))=true:=yg t
    go_wp2_with fail;go_ret;exact⟨_,rfl,λa=>(by cases a),f.O.trans e.O⟩
   have a3:decide ((30:Int)<(n:Int))=false:=yd t
   by_cases Q:(2048:Int)<z
   ·have av:decide ((2048:Int)<z)=true:=yg Q
    go_wp2_with fail;go_ret;exact⟨_,rfl,λa=>(by cases a),f.O.trans e.O⟩
   have av:decide ((2048:Int)<z)=false:=yd Q
   by_cases R:(100:Int)<(j:Int)
   ·have aw:decide ((100:Int)<(j:Int))=true:=yg R
    go_wp2_with fail;go_ret;exact⟨_,rfl,λa=>(by cases a),f.O.trans e.O⟩
   have aw:decide ((100:Int)<(j:Int))=false:=yd R;have o:=hD (aI t (aI Q R))
   by_cases a4:(1000:Int)<l
   ·have az:decide ((1000:Int)<l)=true:=yg a4
    by_cases u:(400:Int)<d
    ·have N:decide ((400:Int)<d)=true:=yg u
     by_cases v:d<=(65536:Int)
     ·have P:decide (d<=(65536:Int))=true:=yg v
      go_wp2_with fail;go_ret;exact⟨_,rfl,λa=>(by cases a),f.O.trans e.O⟩
     ·have P:decide (d<=(65536:Int))=false:=yd v
      go_wp2_with fail;go_ret;exact⟨_,rfl,λa=>(by cases a),f.O.trans e.O⟩
    ·have N:decide ((400:Int)<d)=false:=yd u
     go_wp2_with fail;go_ret;exact⟨_,rfl,λa=>(by cases a),f.O.trans e.O⟩
   have az:decide ((1000:Int)<l)=false:=yd a4
   by_cases u:(400:Int)<d
   ·have N:decide ((400:Int)<d)=true:=yg u
    by_cases v:d<=(65536:Int)
    ·have P:decide (d<=(65536:Int))=true:=yg v
     go_wp2_with fail;go_ret;exact⟨_,rfl,λa=>(by cases a),f.O.trans e.O⟩
    ·have P:decide (d<=(65536:Int))=false:=yd v
     have H:Hd (p.length<=30/\j<=100/\¬(400<d/\d<=65536)/\l<=1000/\∀x∈p,x.ops.length<=200):=hD ⟨by rw[<-C.O];have:=o.O.1;omega,by have:=o.O.2.2;omega,by omega,by omega,λx g=>Z.O (by have:=o.O.1;omega) x g⟩;go_wp2_with fail;go_ret;exact⟨_,rfl,λ_=>H.O,f.O.trans e.O⟩
   ·have N:decide ((400:Int)<d)=false:=yd u
    have H:Hd (p.length<=30/\j<=100/\¬(400<d/\d<=65536)/\l<=1000/\∀x∈p,x.ops.length<=200):=hD ⟨by rw[<-C.O];have:=o.O.1;omega,by have:=o.O.2.2;omega,by omega,by omega,λx g=>Z.O (by have:=o.O.1;omega) x g⟩;go_wp2_with fail;go_ret;exact⟨_,rfl,λ_=>H.O,f.O.trans e.O⟩
end
end Go.Proofs.YtmdocplknceilaaGreat
