import Derived.Test.YtmdocplknceilaaGreatNWBJ
import Derived.Test.YtmdocplknceilaaGreatNWBK
set_option linter.all false
set_option maxRecDepth 100000
set_option maxHeartbeats 4000000
namespace Go.Proofs.YtmdocplknceilaaGreat
section
open Go.RowKit Go.Maps
theorem DZ:∃i z,Tryz.prog.info? 69=some i/\i.zero=some z/\i.size=5/\i.bytes=48/\z.cells.size=5:=by
 have a:(Tryz.prog.info? 69).map (λi=>(i.zero.map λz=>z.cells.size,i.size,i.bytes))=some (some 5,5,48):=by kernel_rfl
 cases hi:Tryz.prog.info? 69 with
 |none=>rw[hi] at a;cases a
 |some i=>
  rw[hi] at a;simp only[yU,yC,yP] at a
  cases hz:i.zero with
  |none=>rw[hz] at a;cases a.1
  |some z=>
   rw[hz] at a;exact⟨i,z,rfl,hz,a.2.1,a.2.2,yz a.1⟩
theorem uD{P:Program}{o:Oper}{a:Act}{w w':World}{b:Act->World->Prop}{Q:Exit->Act->World->Prop}(s x:Operand)(t:TypeId)(g:o.op=.call {callee:=.builtin .append,args:=#[s,x],argTypes:=#[t,t]}){c e d:Value}(j:a.eval s=c)(k:a.eval x=e)
 (i:(Builtin.append_ #[t,t] o.type #[c,e]).run P w=.ok d w') (f:b (a.put o.dst d) w'):o.wp P a w b Q:=by
 unfold Oper.wp execOp;simp only[g,resolve,invoke,builtin,Sem.run_bind,Sem.run_pure,Result.andThen_ok,List.map_toArray,zc,Yk,j,k,i];exact f
theorem rI{W:World}{q:Nat}(f:TypeId)(v1:Value)(l:List (Nm×Nat×aD))(u:Nm×Nat×aD)(g:W.ownsRow 0 69 5 v1 l.length (l.flatMap jH))(a:ae W q 69 (jH u).toArray)(D:l.length<=1000000):
 ∃d w',(Builtin.append_ #[52,52] f #[v1,.slice (some ⟨q,0,none⟩) 1 1]).run Tryz.prog W=.ok d w'/\w'.ownsRow 0 69 5 d (l++ [u]).length ((l++ [u]).flatMap jH)/\aa (λb=>v1.ownBlock=some b) W w'/\(∀b,d.ownBlock=some b->v1.ownBlock=some b\/W.heap.size<=b):=by
 obtain⟨i,z,p,v,t,o,x⟩:=DZ;obtain⟨d,w',m,A,B,C⟩:=mJ (P:=Tryz.prog) W 0 52 f 69 i z 5 48 Tryz.underlying52 p v t o x (by decide) v1 l.length (l.flatMap jH) g W.heap.size (some ⟨q,0,none⟩) 1 1 (jH u) ⟨rfl,λ_=>⟨⟨q,0,none⟩,rfl,a.lt,λj y e=>by rw[bw,yq,a.I,zi];exact e⟩⟩ (λy e=>by simp[jH] at e;rcases e with rfl|rfl|rfl|rfl|rfl<;>rfl) (by unfold maxLen;omega) (by omega) (yx _);refine⟨d,w',m,?_,(aa.refl _ W).grown B (λk c=>.inl c),λb a=>?_⟩
 ·rw[yk,zL]
  simpa using A
 ·rcases C with c|c
  ·exact .inl (by rw[<-c];exact a)
  ·rw[c] at a
   exact .inr (zl (yz a))
def DC(w wx:World)(tag:Nat->Nat)(L3:cP)(s:PS)(n:Nm)(kn:Nat)(y:aD)(gn g5 tp:Nat)(cn cs:Array Value):Prop:=
 ∃tag4 dv,aX wx tag4 {L3 with dv:=dv,dn:=L3.dn++ [(n,kn,y)]} s/\aQ w wx tag tag4/\ae wx gn 58 cn/\ae wx g5 181 cs/\(tag4 gn=0/\tag4 g5=0)/\tag4 tp=15
def DF(w W7 wx:World)(tag:Nat->Nat)(L:cP)(rows:Nm->Option aG)(cnt:Nat)(m:Nm)(b:Bool)(s15 s16:Value):Prop:=
 ∃gu,s15=.pointer (some ⟨gu,0,none⟩)/\s16=.bool b/\w.heap.size<=gu/\ae wx gu 58 #[.int .u64 m.job,.string (sB m.M)]/\bQ wx (λb=>tag b=2) L.tb L.mb L.most rows cnt L.rp/\aa (λb=>tag b=2) W7 wx
section
variable {G:dx}{w w':World}{tag tag':Nat->Nat}{L L':cP}{s s':PS}{n:Nm}{r:aG}
attribute [local simp] ew fe fD cL dP Region.binds dD dN Is ao Act.put
theorem wD{k tp:Nat}{th:Th}{p:List ah}{f:Fr}{y:aD}(N:gP G w tag L s k tp th r p f)(c7:(f.run1 p).2=.done y)(gB:kP L s):
 Calls Tryz.prog 46 #[ptr L.pb,ptr tp] w λa w'=>a=.returned (.tuple #[])/\cV w w' tag L s (eW s k) 4:=by
 have fq:=hD gB;have j0:Hd ((f.run1 p).1.kd.length=r.kn):=hD (by rw[(N.step.done y c7).2.1];exact N.hfi.kd);have l6:=hD (N.step.done y c7);clear gB;have D:=N.h;obtain⟨hz,d,av,fv,ka,db,kc,kf,hG,ki⟩:=D.thW N.htp N.hk;obtain⟨q,d5⟩:=eX (L.fp th.cur);have h8:=hG N.hrun;rw[<-d5] at h8;subst h8;have hZ:=db.I 3;have i0:=db.I 4;simp[dQ] at hZ i0;obtain⟨cm,cB⟩:=eX (w.alloc (.cells #[.int .u64 th.cur.job,.string (sB th.cur.M)] 58));have dl:ac w cm:=by rw[cB];exact(aa.refl _ w).alloc _
 obtain⟨X,d2⟩:=eX w.heap.size;have gp:ae cm X 58 #[.int .u64 th.cur.job,.string (sB th.cur.M)]:=by rw[cB,d2];exact bN
 have P:=D.U dl;obtain⟨ec,cq⟩:=P.p16 th.cur f N.hf (by simp);rw[N.hpr,<-d5] at ec;rw[N.hpr] at cq;have bt:=hD (pi (P.tagB (i:=100+q) (by omega)) ec N.hP.ok (cq N.hfi.res) N.hfi.res);unfold pW at bt;obtain⟨f',c5⟩:=eX ((f.run1 p).1);rw[c7,<-c5] at bt;simp only[iX,nH] at bt;have hE:=dl.J db nF;have b5:=hE.I 5;simp[dQ,ptr] at b5;have o:=hD N;have ge:=hD cB.symm;have g0:=hD d2;have ci:=hD P;have g4:=hD dl;have fr:=hD gp;have e2:=hD d5;have iw:=hD c5;have j2:=hD c7;have gb:=hD hz;have hb:tag X=0:=hU D.tlt (by rw[d2];exact lR);have fx:=hD hb
 have iz:Hd (f'.result=none->gK p f'):=hD λk7=>by
  rcases qY N.hP.ok (cq N.hfi.res) with⟨x,a,_⟩|⟨a,_⟩
  ·have:=(jS N.hfi.ok N.hfi.res (p:=p)).done x a
   rw[<-c5,k7] at this
   cases this.2.2
  ·rw[c5];exact a
 unfold ptr;clear N D hz ka db kc kf hG ki d5 cB dl d2 gp P ec cq c5 c7 hE hb;go_enter Tryz.func46,Tryz.ntmps46;go_upto_region 1 with fail;rw[ge.O,<-g0.O];clear ge hZ i0
 go_upto_region 2 with(go_at_call 86;refine bt.O.mono ?_;rintro a bk ⟨l5,la,rfl,⟨bo,gt⟩,a1,k8⟩)
 clear bt b5;obtain⟨Z,da⟩ :∃v,v=y.v:=⟨_,rfl⟩
 obtain⟨Y,d9⟩ :∃v,v=y.e:=⟨_,rfl⟩
 rw[<-da,<-d9];obtain⟨a5,d0⟩:=eX (bk.alloc (.cells #[.int .u8 4,.string ⟨#[]⟩,.int .i64 0,.slice none 0 0,.int .i64 0,.int .i64 Z,.int .i64 Y] 181));obtain⟨V,c6⟩:=eX bk.heap.size;rw[<-d0,<-c6];have cd:ac bk a5:=by rw[d0];exact oR.alloc _
 have bs:ae a5 V 181 #[.int .u8 4,.string ⟨#[]⟩,.int .i64 0,.slice none 0 0,.int .i64 0,.int .i64 Z,.int .i64 Y]:=by rw[d0,c6];exact bN
 obtain⟨bp,c9⟩ :∃t,t=cS tag cm bk (100+q):=⟨_,rfl⟩
 have h1:=ci.O.part (i:=100+q) a1
 have gu:aZ bk (λb=>cS tag cm bk (100+q) b=100+q) q bo p f':=gt.mo λb K=>by
  rcases K with K|K
  ·exact(bJ ci.O.tlt b (by rw[K];omega)).trans K
  ·exact fR K
 have hi:s.T.fm th.cur≠none:=by rw[o.O.hf];simp
 have cr:=h1.frame (n:=th.cur) e2.O hi (by rw[o.O.hpr];exact gu) (by rw[o.O.hpr];exact iz.O);rw[<-c9] at cr
 have gN:qx w a5 tag bp L {L with fl:=ay L.fl th.cur bo} s k tp X V th f' #[.int .u8 4,.string ⟨#[]⟩,.int .i64 0,.slice none 0 0,.int .i64 0,.int .i64 Z,.int .i64 Y]:=⟨cr.U cd,((aQ.U g4.O).trans (by rw[c9];exact aQ.part ci.O.tlt (by omega) a1)).trans (aQ.U cd),cd.J (a1.J fr.O (λa=>by rw[fx.O] at a;omega)) nF,bs,rfl,⟨by
  rw[c9];unfold cS;rw[yb (λa=>absurd fr.O.lt (zC.2 a.1))];exact fx.O,hU cr.tlt (by rw[c6];exact lR)⟩,⟨by rw[g0.O];exact lR,by rw[c6];exact lT g4.O.size a1.size⟩,by rw[c9,bJ ci.O.tlt tp (by rw[gb.O];decide)];exact gb.O⟩
 have Q:=hD gN;have l7:=hD cd;clear d0 c6 cd c9 h1 gt gu hi cr gN;have gf:=hD (aI da d9);obtain⟨F,b0⟩:=eX ({L with fl:=ay L.fl th.cur bo}:cP);rw[<-b0] at Q;have g2:Hd (F= {L with fl:=ay L.fl th.cur bo}):=hD b0;have c2:=Q.O.h;have hs:F.pb=L.pb:=by rw[b0]
 have d3:=(c2.p1 (by decide)).2;rw[hs] at d3;obtain⟨h5,ej⟩:=c2.p7 (by decide);obtain⟨al,az,bm⟩:=bP ej;obtain⟨b1,hh⟩:=eX F.dn.length;rw[<-hh] at bm;have cp:=d3.I 13;simp[bB,bm] at cp;obtain⟨_,le,l9,ll,kb,hF,_,_,hH,_⟩:=c2.thW (k:=k) (th:=th) (by rw[b0];exact o.O.htp) o.O.hk;have b5:=hF.I 5;have h9:=hH o.O.hrun;rw[h9,show F.fp th.cur=q by rw[b0];exact e2.O.symm] at b5;simp[dQ,ptr] at b5;obtain⟨eb,_⟩:=c2.p16 th.cur f' (by show ay s.T.fm th.cur _ th.cur=_;rw[aA]) (by simp);rw[show F.fp th.cur=q by rw[b0];exact e2.O.symm] at eb
 have g1:Hd (∀W,ac a5 W->Calls Tryz.prog 92 #[.pointer (some ⟨q,0,none⟩)] W λa w'=>a=.returned (.int .i64 (f'.kd.length:Int))/\W=w'):=hD λW a6=>by
  have:=Cv (eb.kp a6 nG) (by show s.prog th.cur.job≠[];rw[o.O.hpr];exact o.O.hP.ok.p0);exact this
 have f8:=bs.I 0;have dq:=bs.I 5;have ai:=bs.I 6;simp[] at f8 dq ai;obtain⟨n0,dk⟩:=Q.O.bn.gE2;have ie:=hD bs;have iv:=hD bm;have e0:=hD d3;have fw:Hd (a5.ownsRow 0 69 5 (.slice al b1 az) F.dn.length (F.dn.flatMap jH)):=hD (by rw[<-bm];exact ej);have ft:Hd (∀b,(Value.slice al b1 az).ownBlock=some b->bp b=7):=hD (by rw[<-bm];exact h5);have it:Hd (F.dn.length<=1000000):=hD (by rw[b0];exact fq.O.dn);obtain⟨cb,en⟩:=eX ((f'.kd.length:Int):Int);rw[<-en] at g1;have is:Hd (jH (th.cur,f'.kd.length,y)= [.int .u64 th.cur.job,.string (sB th.cur.M),.int .i64 cb,.int .i64 Z,.int .i64 Y]):=hD (by rw[en,da,d9];rfl);clear bs a1 k8 c2 d3 h5 ej bm hh kb hF hH h9 eb b0 hs da d9 en;go_upto_region 17 with fail
 go_cut [] (λwx=>DC w wx tag F {s with T:={s.T with fm:=ay s.T.fm th.cur (some f')}} th.cur f'.kd.length y X V tp #[.int .u64 th.cur.job,.string (sB th.cur.M)] #[.int .u8 4,.string ⟨#[]⟩,.int .i64 0,.slice none 0 0,.int .i64 0,.int .i64 Z,.int .i64 Y])
 case rest=>
  obtain⟨B,k2,ba,ff,h3,h4,hy,hA⟩:=hcut;have dw:=hD ff;have fs:=hD h3;have ih:=hD h4;have bf:=hD hy;have gc:=hD hA;obtain⟨m,ef⟩:=eX ({F with dv:=k2,dn:=F.dn++ [(th.cur,f'.kd.length,y)]}:cP);rw[<-ef] at ba;obtain⟨c0,k3⟩:=eX wc;subst k3;have b6:Hd (m.pb=L.pb/\m.tps=L.tps/\m.fp=L.fp/\m.fn=L.fn/\m.dp=L.dp/\m.most=L.most/\m.n=L.n/\m.dn=L.dn++ [(th.cur,f'.kd.length,y)]):=hD (by rw[ef,g2.O];exact⟨rfl,rfl,rfl,rfl,rfl,rfl,rfl,rfl⟩);have bq:=hD ba;obtain⟨lz,hg⟩:=o.O.hn.key;have gw:=ba.U (aa.drew (aa.refl (λ_=>False) c0));obtain⟨e7,h6,gD,hI⟩:=(gw.p11 (by decide)).2.del (t:=119) fF Tryz.underlying119 hg 0;have er:=(ba.p1 (by decide)).2;rw[b6.O.1] at er;have gr:=er.I 9;simp[bB] at gr;obtain⟨n0,dk⟩:=fs.O.gE2;change (Builtin.delete_ #[119,58] 0 #[.map (some m.fb),.agg #[.int .u64 th.cur.job,.string (sB th.cur.M)]]).run Tryz.prog c0.drew=.ok (.tuple #[]) e7 at h6;have br:=hD (aI gD hI);clear ba ff h3 h4 hy hA ef hg gw gD hI er cp b5 f8 dq ai;go_upto_region 18 with fail
  go_still_tail 5,(by kernel_rfl)
  change wpList _ _ _ _ _ c0.drew;go_upto_region 19 with fail;have gx:=((bq.O.U (aa.drew (aa.refl (λ_=>False) c0))).same (i:=11) (br.O.2.mono λb a=>by rw[a];exact(bq.O.p11 (by decide)).1)).frameGone (n:=th.cur) ⟨(bq.O.p11 (by decide)).1,br.O.1⟩;obtain⟨cn,ei⟩:=eX ((if (dY (λdd=>(ay s.T.fm th.cur (some f') dd).map λ_=>ptr (m.fp dd)) (aV th.cur)).isSome then m.fn-1 else m.fn));have il:Hd (cn<=m.fn):=hD (by rw[ei];split<;>omega);obtain⟨ai,d7⟩:=eX ({s with T:={s.T with fm:=ay s.T.fm th.cur none}}:PS)
  have gA:aX e7 B {m with fn:=cn} ai:=by
   rw[ei,d7];have:=gx;simp only[rm] at this;exact this
  have i6:Hd (aQ w e7 tag B):=hD ((dw.O.trans (aQ.U (aa.drew (aa.refl _ c0)))).trans (aQ.same (i:=11) (by decide) (br.O.2.mono λb a=>by rw[a];exact(bq.O.p11 (by decide)).1)));have he:ai.ths[k]?=some th:=by rw[d7];exact o.O.hk
  have g6:=hD (sh gA (k:=k) (th:=th) (by show m.tps[k]?=_;rw[b6.O.2.1];exact o.O.htp) he);unfold ptr at g6;have em:∀g,B g=0->g≠m.fb:=λg b9 a=>by have:=(bq.O.p11 (by decide)).1;rw[<-a,b9] at this;exact absurd this (by decide)
  have ib:=hD (br.O.2.J (fs.O.drew) (em X bf.O.1));have ii:=hD (br.O.2.J (ih.O.drew) (em V bf.O.2));have e3:=hD d7;clear gx ei d7 gA he em gr n0 dk h6
  go_upto_region 20 with(go_at_call 77;refine g6.O.mono ?_;rintro a z ⟨rfl,bb,dm⟩)
  obtain⟨hY,d8⟩:=eX ({ai with ths:=ai.ths.set k {th with cur:=gU,run:=false}}:PS);rw[<-d8] at bb;have fj:Hd (aQ w z tag B):=hD (i6.O.trans (aQ.same (i:=15) (by decide) (dm.mono λb a=>by rw[a];exact gc.O)));have eq:∀g,B g=0->¬g=tp:=λg b9 a=>by have:=gc.O;rw[<-a,b9] at this;exact absurd this (by decide)
  have ic:=hD (dm.J ib.O (eq X bf.O.1));have ik:=hD (dm.J ii.O (eq V bf.O.2));have i7:=hD bb;have g7:=hD d8;have eL:hY.T.rw=s.T.rw/\hY.T.ks=s.T.ks:=by rw[d8,e3.O];exact⟨rfl,rfl⟩
  obtain⟨a4,f2⟩ :∃dd,dd=vs s.T th.cur r:=⟨_,rfl⟩
  obtain⟨fb,f4⟩ :∃b,b=fz s.T th.cur r:=⟨_,rfl⟩
  obtain⟨rows,f0⟩ :∃f,f=(bE s.T th.cur r y true).rw:=⟨_,rfl⟩
  have bx:=hD (aI f2 (aI f4 f0))
  have g5:Hd (∀W,ac z W->Calls Tryz.prog 54 #[.pointer (some ⟨m.tb,0,none⟩),.agg #[.int .u64 th.cur.job,.string (sB th.cur.M)],.agg #[.int .i64 Z,.int .i64 Y]] W λa w'=>a=.returned (.tuple #[.agg #[.int .u64 a4.job,.string (sB a4.M)],.bool fb,.int .i64 0])/\bQ w' (λb=>B b=2) m.tb m.mb m.most rows s.T.ks.length m.rp/\aa (λb=>B b=2) W w'):=hD λW a6=>by
   have c3:=bb.U a6;have hu:=c3.p2 (by decide);rw[eL.1,eL.2] at hu;have:=BC y (c3.tagB (by decide)) hu o.O.inv.t o.O.hr o.O.h2 o.O.hn;rw[<-f2,<-f4,<-f0] at this;unfold eO aV eT at this;rw[<-gf.O.1,<-gf.O.2] at this;exact this
  have ho:=(bb.p1 (by decide)).2;have ht:ae z L.pb 123 (bB {m with fn:=cn}):=by have:=ho;rw[show({m with fn:=cn}:cP).pb=L.pb from b6.O.1] at this;exact this
  have a9:Hd (∀W,aa (λb=>B b=2) z W->aa (λb=>B b=2) z W/\W.cell? ⟨L.pb,4,none⟩=some (.pointer (some ⟨m.tb,0,none⟩))/\W.cell? ⟨X,0,none⟩=some (.int .u64 th.cur.job)/\W.cell? ⟨X,1,none⟩=some (.string (sB th.cur.M))/\W.cell? ⟨V,5,none⟩=some (.int .i64 Z)/\W.cell? ⟨V,6,none⟩=some (.int .i64 Y)):=hD λW a6=>by
   have gs:¬B L.pb=2:=λa=>by have:=(bb.p1 (by decide)).1;rw[show({m with fn:=cn}:cP).pb=L.pb from b6.O.1,a] at this;exact absurd this (by decide)
   have f7:=a6.J ic.O (λa=>by have:=bf.O.1;rw[a] at this;exact absurd this (by decide));have hX:=a6.J ik.O (λa=>by have:=bf.O.2;rw[a] at this;exact absurd this (by decide));exact⟨a6,(a6.J ht gs).I 4,f7.I 0,f7.I 1,hX.I 5,hX.I 6⟩
  have l:=a9.O z oR;have e4:Hd (∀W,ac z W->aa (λb=>B b=2) z W):=hD λW a6=>a6.mono λ_ a=>a.elim
  have g9:Hd (∀b,z.heap.size<=b->¬B b=2):=hD λb K a=>by have:=hU bb.tlt K;rw[a] at this;exact absurd this (by decide)
  have ck:Hd (ac z (z.alloc (.cells #[.int .u64 0,.string ⟨#[]⟩] 58))):=hD (oR.alloc _);have ia:Hd (ae (z.alloc (.cells #[.int .u64 0,.string ⟨#[]⟩] 58)) z.heap.size 58 #[.int .u64 0,.string ⟨#[]⟩]):=hD (ae.new z _ _);have g8:Hd (w.heap.size<=z.heap.size):=hD fj.O.only.size;clear bb dm d8 eq eL f2 f4 f0 ho ht
  go_cut [15,16] (λs15 s16 wx=>DF w z wx B m rows s.T.ks.length a4 fb s15 s16)
  case first=>
   go_region_held3 (λw'=>aa (λb=>B b=2) z w'/\w'.cell? ⟨L.pb,4,none⟩=some (.pointer (some ⟨m.tb,0,none⟩))/\w'.cell? ⟨X,0,none⟩=some (.int .u64 th.cur.job)/\w'.cell? ⟨X,1,none⟩=some (.string (sB th.cur.M))/\w'.cell? ⟨V,5,none⟩=some (.int .i64 Z)/\w'.cell? ⟨V,6,none⟩=some (.int .i64 Y))
    (first|with_reducible exact a9.O _ aw.O|with_reducible exact a9.O _ (aa.alloc aw.O _)|with_reducible exact a9.O _ (aa.drew aw.O)|with_reducible exact a9.O _ (e4.O _ ck.O)|with_reducible exact a9.O _ (e4.O _ (aa.drew ck.O))|with_reducible exact a9.O _ (aa.drew oR)|with_reducible exact a9.O _ oR|(with_reducible refine a9.O _ ?_;with_reducible refine aa.setCell ?_ (Or.inr (lR)) _;repeat (first|with_reducible exact aw.O|with_reducible refine aa.setCell ?_ (Or.inr (lR)) _))|fail)
    (first
     |(go_at_call 54;refine(g5.O z.drew (aa.drew oR)).mono ?_;rintro a W8 ⟨rfl,ch,a1⟩;have aw:Hd (aa (λb=>B b=2) z W8):=hD (aa.trans (aa.drew oR) a1);have e5:=hD ch;clear a1 ch)
     |(go_at_call 54;refine(g5.O _ (aa.drew ck.O)).mono ?_;rintro a W8 ⟨rfl,ch,a1⟩;have aw:Hd (aa (λb=>B b=2) z W8):=hD (aa.trans (e4.O _ (aa.drew ck.O)) a1);have bz:=hD (a1.J ia.O (g9.O _ (lR)));have e5:=hD ch;have lf:W8.cell? ⟨z.heap.size,0,none⟩=some (.int .u64 0):=bz.O.I 0;have gs:W8.cell? ⟨z.heap.size,1,none⟩=some (.string ⟨#[]⟩):=bz.O.I 1;have lg:W8.frozen? ⟨z.heap.size,0,none⟩=false:=bz.O.fz 0;have lk:W8.frozen? ⟨z.heap.size,1,none⟩=false:=bz.O.fz 1;clear a1 ch)
     |fail)
   all_goals (
    go_wp2_with fail;go_meet)
   case rel=>
    have b3:=(aa.refl (λ_=>False) W8).alloc (.cells #[.int .u64 a4.job,.string (sB a4.M)] 58);exact⟨W8.heap.size,rfl,rfl,lT g8.O aw.O.size,bN,e5.O.kp b3 nG,aw.O.trans (b3.mono λ_ a=>a.elim)⟩
   case rel=>
    have k9:=(bz.O.s_ 0 (.int .u64 a4.job)).s_ 1 (.string (sB a4.M));have hC:aa (λb=>b=z.heap.size) W8 ((W8.setCell ⟨z.heap.size,0,none⟩ (.int .u64 a4.job)).setCell ⟨z.heap.size,1,none⟩ (.string (sB a4.M))):=(af _ _ 0 _).trans (af _ _ 1 _);exact⟨z.heap.size,rfl,rfl,g8.O,k9,e5.O.kp hC (λb K a=>g9.O b (by rw[a];exact lR) K),aw.O.trans' hC (λb a=>.inr (by rw[a];exact lR))⟩
  case rest=>
   obtain⟨ln,rfl,rfl,l1,f9,i1,fa⟩:=hcut;have c3:=(i7.O.same (i:=2) fa).fill2 (T':=bE s.T th.cur r y true) (rp':=m.rp) (by rw[<-bx.O.2.2];exact i1) (by rw[g7.O,e3.O];rfl);have fk:Hd (aQ w wc tag B):=hD (fj.O.trans (aQ.same (i:=2) (by decide) fa));obtain⟨dr,f1⟩:=eX ({s with T:=bE s.T th.cur r y true,ths:=s.ths.set k {th with cur:=gU,run:=false}}:PS)
   have ee:aX wc B {m with fn:=cn} dr:=by
    rw[f1];have:=c3;rw[g7.O,e3.O] at this;exact this
   have ar:=hD f1
   have dz:Hd (LK L {m with fn:=cn} s dr 0):=hD (by
    obtain⟨kk,bo,m0,kl,kt,ku,kv,kS⟩:=b6.O;have c4:=il.O;rw[kl] at c4;refine⟨kk,ku,bo,kt,by rw[show({m with fn:=cn}:cP).n=L.n from kv];omega,by show(cn:Int)<=_;omega,by rw[ar.O];simp,[(th.cur,r.kn,y)],by rw[ar.O];unfold bE;rfl,?_⟩;show m.dn=_;rw[kS,iw.O,j0.O])
   obtain⟨gm,eg⟩:=eX ({m with fn:=cn}:cP);have g3:Hd (gm.pb=L.pb/\gm.tps=L.tps):=hD (by rw[eg];exact⟨b6.O.1,b6.O.2.1⟩);rw[<-eg] at ee dz;clear eg;have fo:=hD ee
   have h7:Hd (eW s k=if fz s.T th.cur r=true then eE dr k (dI th.cur) else dr):=hD (by
    unfold eW;rw[PS.th_eq o.O.hk,o.O.hr,o.O.hf];simp only;rw[o.O.hpr,j2.O];simp only;rw[ar.O])
   clear c3 ee f1 l1 i1 fa
   cases fb with
   |false=>
    clear f9;go_wp2_with fail
    go_end0
    rw[h7.O,yb (by rw[<-bx.O.2.1];decide)];exact⟨rfl,B,_,fo.O,fk.O,dz.O.mo (by decide)⟩
   |true=>
    have f3:a4=dI th.cur:=by rw[bx.O.1];unfold vs;rw[yf bx.O.2.1.symm]
    have hl:dh (dI th.cur):=⟨o.O.hn.1,lT (by show th.cur.M.dropLast.length<=th.cur.M.length;rw[List.length_dropLast];omega) o.O.hn.2.1,λc c4=>o.O.hn.2.2 c (List.dropLast_subset _ c4)⟩
    obtain⟨x,ad⟩ :∃x,s.ds[k]?=some x:=⟨s.ds[k]'(by rw[o.O.inv.nlen];exact(gS o.O.hk).1),gG _⟩
    have ek:=(o.O.inv.th k th o.O.hk).free o.O.ha;rw[PS.dq_eq ad] at ek;have e1:=hD (sg (k:=k) (tp:=tp) (th:={th with cur:=gU,run:=false}) (x:=x) (n:=a4) fo.O (by rw[ar.O];exact o.O.inv.many) (by rw[g3.O.2];exact o.O.htp) (by rw[ar.O];exact List.getElem?_set_self (gS o.O.hk).1) (by rw[f3];exact hl) (by rw[ar.O];exact o.O.inv.nnodup) (by rw[ar.O];exact ad) ek (by rw[ar.O];exact fq.O.nm));rw[g3.O.1] at e1;unfold ptr aV eT at e1;have j3:=hD f3;clear f3 hl ad ek;obtain⟨m1,f7⟩:=f9.gE2;clear f9
    go_wp2_with (go_at_call 93;refine e1.O.mono ?_;rintro a W9 ⟨rfl,l0⟩)
    go_end0
    rw[h7.O,yf bx.O.2.1.symm,<-j3.O];exact⟨rfl,(cV.then (d:=0) fk.O dz.O l0).mo (by decide)⟩
 case first=>
  obtain⟨R,ab⟩:=eX a5.drew;have cf:ac a5 R:=by rw[ab];exact oR.drew
  obtain⟨b7,d1⟩:=eX (R.alloc (.cells #[.int .u64 th.cur.job,.string (sB th.cur.M),.int .i64 cb,.int .i64 Z,.int .i64 Y] 69));have b3:ac R b7:=by rw[d1];exact oR.alloc _
  have gq:ae b7 R.heap.size 69 #[.int .u64 th.cur.job,.string (sB th.cur.M),.int .i64 cb,.int .i64 Z,.int .i64 Y]:=by rw[d1];exact bN
  obtain⟨l2,a7,h2,e8,e9,gn⟩:=rI (W:=b7) (q:=R.heap.size) 52 (.slice al b1 az) F.dn (th.cur,f'.kd.length,y) (b3.owns (cf.owns fw.O nG) nG) (by rw[is.O];exact gq) it.O;obtain⟨b2,am,aE,hv⟩ :∃n A c,l2=.slice A n c:=⟨_,bP e8⟩
  subst hv;obtain⟨jj,h0⟩:=eX (a7.setCell ⟨L.pb,13,none⟩ (.slice am b2 aE));have d4:ae a7 L.pb 123 (bB F):=e9.J (b3.J (cf.J e0.O nF) nF) (λa=>aB fw.O e0.O (by decide) a);have j1:=hD d4;have fd:Hd (R.cell? ⟨L.pb,13,none⟩=some (.slice al b1 az)):=hD (by rw[ab];exact cp);have i2:Hd (b7.cell? ⟨L.pb,13,none⟩=some (.slice al b1 az)):=hD ((b3.I (p:=⟨L.pb,13,none⟩) (cf.J e0.O nF).lt nF).trans fd.O);have ji:Hd (R.cell? ⟨tp,5,none⟩=some (.pointer (some ⟨q,0,none⟩))):=hD (by rw[ab];exact b5);have j6:Hd (R.cell? ⟨X,0,none⟩=some (.int .u64 th.cur.job)):=hD (by rw[ab];exact n0);have j7:Hd (R.cell? ⟨X,1,none⟩=some (.string (sB th.cur.M))):=hD (by rw[ab];exact dk);have j8:Hd (R.cell? ⟨V,5,none⟩=some (.int .i64 Z)):=hD (by rw[ab];exact dq);have jd:Hd (R.cell? ⟨V,6,none⟩=some (.int .i64 Y)):=hD (by rw[ab];exact ai);have i3:Hd (a7.cell? ⟨L.pb,13,none⟩=some (.slice al b1 az)):=hD (by rw[d4.I 13];simp[bB,iv.O]);have i4:Hd (a7.frozen? ⟨L.pb,13,none⟩=false):=hD (d4.fz 13);have i8:=hD h2;have bv:=hD cf;have j5:Hd (a5.drew=R):=hD ab.symm;have j4:=hD d1.symm;have e6:=hD h0.symm;have an:=hD (aI e8 (aI e9 (aI gn b3)));clear ab d1 h0 cf b3 gq h2 e8 e9 gn d4 cp b5 n0 dk f8 dq ai
  refine uE (by kernel_rfl) (iI R [(14,b7),(15,a7),(18,jj)]) [Is (.pointer (some ⟨L.pb,0,none⟩)),Is (.pointer (some ⟨L.pb,0,none⟩)),Is (.pointer (some ⟨L.pb,0,none⟩)),Is (.pointer (some ⟨L.pb,13,none⟩)),Is (.slice al b1 az),Is (.agg #[.int .u64 th.cur.job,.string (sB th.cur.M)]),ao tp 0,ao tp 0,ao tp 5,ao q 0,Is (.int .i64 cb),ao V 5,Is (.agg #[.int .i64 Z,.int .i64 Y]),Is (.agg #[.int .u64 th.cur.job,.string (sB th.cur.M),.int .i64 cb,.int .i64 Z,.int .i64 Y]),Is (.slice (some ⟨R.heap.size,0,none⟩) 1 1),Is (.slice am b2 aE),Is (.pointer (some ⟨L.pb,0,none⟩)),Is (.pointer (some ⟨L.pb,13,none⟩)),λ_ _=>True] (by kernel_rfl)
   ⟨sT,sT,sT,sT,sT,sT,sT,sT,sT,sT,sT,sT,sT,sT,sT,sT,sT,sT,(λ_ _ _ _ _=>trivial),trivial⟩ (by rw[j5.O];exact iI.start _ _) ⟨?_,?_,?_,?_,?_,?_,?_,?_,?_,?_,?_,?_,?_,?_,?_,?_,?_,?_,?_,trivial⟩ ?_
  iterate 4
   ·intro dn u H E S C l j a0 e
    refine ap rfl ?_;simp at j e ⊢
    try simp only[j] at e
    go_simp;exact e _ _ (l.skip (by simp)) rfl
  ·intro dn u H E S C l j a0 e
   refine ap rfl ?_;simp at j e ⊢;simp only[j] at e
   have f5:dn 15=false:=by
    cases h15:dn 15 with
    |false=>rfl
    |true=>
     have hV:=C 15 _ rfl h15;simp[bj] at hV;have jn:dn 4=true:=by simp[hV]
     rw[jn] at E;cases E
   have c4:H.cell? ⟨L.pb,13,none⟩=some (.slice al b1 az):=by
    rcases l.mem with rfl|⟨x,ad,P,rfl⟩
    ·exact fd.O
    ·simp only[yG,List.not_mem_nil,or_false] at ad
     rcases ad with rfl|rfl|rfl
     ·exact i2.O
     ·rw[f5] at P;cases P
     ·have cg:=C 18 _ rfl P
      simp[bj] at cg;have c1:dn 15=true:=by simp[cg]
      rw[c1] at f5;cases f5
   go_simp;exact e _ _ (l.skip (by simp)) rfl
  ·intro dn u H E S C l j a0 e
   refine ap rfl ?_;simp at j e ⊢
   have a3:dn 14=false:=by
    cases h14:dn 14 with
    |false=>rfl
    |true=>
     have hO:=C 14 _ rfl h14;simp[bj] at hO;have b8:dn 13=true:=by simp[hO]
     have hQ:=C 13 _ rfl b8;simp[bj] at hQ;have k0:dn 5=true:=by simp[hQ]
     rw[k0] at E;cases E
   have D:=l;simp[iI,a3] at D;have a2:=D.1.symm;subst a2;have l3:=j6.O;have l4:=j7.O;go_simp;exact e _ _ (l.skip (by simp)) rfl
  iterate 3
   ·intro dn u H E S C l j a0 e
    refine ap rfl ?_;simp at j e ⊢
    try simp only[j] at e
    go_simp;exact e _ _ (l.skip (by simp)) rfl
  ·intro dn u H E S C l j a0 e
   refine ap rfl ?_;simp at j e ⊢;simp only[j] at e
   have a3:dn 14=false:=by
    cases h14:dn 14 with
    |false=>rfl
    |true=>
     have hR:=C 14 _ rfl h14;simp[bj] at hR;have b8:dn 13=true:=by simp[hR]
     have hS:=C 13 _ rfl b8;simp[bj] at hS;have ea:dn 10=true:=by simp[hS]
     have hT:=C 10 _ rfl ea;simp[bj] at hT;have k1:dn 9=true:=by simp[hT]
     rw[k1] at E;cases E
   have c4:H.cell? ⟨tp,5,none⟩=some (.pointer (some ⟨q,0,none⟩)):=by
    rcases l.mem with rfl|⟨x,ad,P,rfl⟩
    ·exact ji.O
    ·simp only[yG,List.not_mem_nil,or_false] at ad
     rcases ad with rfl|rfl|rfl
     ·rw[a3] at P;cases P
     ·have b4:=C 15 _ rfl P
      simp[bj] at b4;have a8:dn 14=true:=by simp[b4]
      rw[a8] at a3;cases a3
     ·have hW:=C 18 _ rfl P
      simp[bj] at hW;have a8:dn 14=true:=by simp[hW]
      rw[a8] at a3;cases a3
   go_simp;exact e _ _ (l.skip (by simp)) rfl
  ·intro dn u H E S C l j a0 e
   refine ap rfl ?_;simp at j e ⊢;simp only[j] at e
   have a3:dn 14=false:=by
    cases h14:dn 14 with
    |false=>rfl
    |true=>
     have hJ:=C 14 _ rfl h14;simp[bj] at hJ;have b8:dn 13=true:=by simp[hJ]
     have hL:=C 13 _ rfl b8;simp[bj] at hL;have ea:dn 10=true:=by simp[hL]
     rw[ea] at E;cases E
   have D:=l;simp[iI,a3] at D;have a2:=D.1.symm;subst a2;go_simp;refine(g1.O _ bv.O).mono ?_;rintro a l8 ⟨rfl,rfl⟩;exact e _ _ (l.skip (by simp)) rfl
  ·intro dn u H E S C l j a0 e
   refine ap rfl ?_;simp at j e ⊢;go_simp;exact e _ _ (l.skip (by simp)) rfl
  ·intro dn u H E S C l j a0 e
   refine ap rfl ?_;simp at j e ⊢;simp only[j] at e
   have a3:dn 14=false:=by
    cases h14:dn 14 with
    |false=>rfl
    |true=>
     have hM:=C 14 _ rfl h14;simp[bj] at hM;have b8:dn 13=true:=by simp[hM]
     have hN:=C 13 _ rfl b8;simp[bj] at hN;have jl:dn 12=true:=by simp[hN]
     rw[jl] at E;cases E
   have D:=l;simp[iI,a3] at D;have a2:=D.1.symm;subst a2;have l3:=j8.O;have l4:=jd.O;go_simp;exact e _ _ (l.skip (by simp)) rfl
  ·intro dn u H E S C l j a0 e
   refine ap rfl ?_;simp at j e ⊢;simp only[j] at e;go_simp;exact e _ _ (l.skip (by simp)) rfl
  ·intro dn u H E S C l j a0 e
   refine ap rfl ?_;simp at j e ⊢;simp only[j] at e;have D:=l;simp[iI,E] at D;obtain⟨D,ex⟩:=D;have a2:=D.symm;subst a2;go_simp;rw[j4.O];exact e _ _ (by simp[iI,bY,ex]) rfl
  ·intro dn u H E S C l j a0 e
   refine ap rfl ?_;simp at j e ⊢;have b4:=S;simp[bj] at b4;have a8:dn 14=true:=by simp[b4]
   have D:=l;simp[iI,a8,E] at D;obtain⟨D,ex⟩:=D;have a2:=D.symm;subst a2;refine uD (.tmp 97) (.tmp 107) 52 rfl (by simpa[Act.eval] using j.1) (by simpa[Act.eval] using j.2.1) i8.O ?_;exact e _ _ (by simp[iI,bY,a8,ex]) rfl
  iterate 2
   ·intro dn u H E S C l j a0 e
    refine ap rfl ?_;simp at j e ⊢
    try simp only[j] at e
    go_simp;exact e _ _ (l.skip (by simp)) rfl
  ·intro dn u H E S C l j a0 e
   refine ap rfl ?_;simp at j e ⊢;simp only[j] at e;have cg:=S;simp[bj] at cg;have c1:dn 15=true:=by simp[cg]
   have b4:=C 15 _ rfl c1;simp[bj] at b4;have a8:dn 14=true:=by simp[b4]
   have D:=l;simp[iI,a8,c1,E] at D;have a2:=D.symm;subst a2;have lo:=i3.O;have lw:=i4.O;go_simp;rw[e6.O];exact e _ (by simp[iI,bY,a8,c1])
  ·intro u H dn el l j
   simp at j ⊢;simp[iI,el 14 (by decide),el 15 (by decide),el 18 (by decide)] at l;subst l;have es:F.pb=L.pb:=by rw[g2.O]
   have ce:aa (λb=>b=L.pb) a7 H:=by rw[<-e6.O];exact af _ _ _ _
   have cv:=Q.O.h.U (bv.O.trans an.O.2.2.2);have f6:aa (λb=>bp b=7) b7 a7:=an.O.2.1.mono ft.O;obtain⟨B,bn⟩ :∃t,t=cS bp b7 a7 7:=⟨_,rfl⟩
   have cw:=cv.part (i:=7) f6;rw[<-bn] at cw;have c8:B L.pb=1:=by have:=(cw.p1 (by decide)).1;rw[es] at this;exact this
   have k6:ae H L.pb 123 (bB {F with dv:=.slice am b2 aE,dn:=F.dn++ [(th.cur,f'.kd.length,y)]}):=by
    rw[<-e6.O];have:=j1.O.s_ 13 (.slice am b2 aE)
    simpa[bB] using this
   have hm:∀b,(Value.slice am b2 aE).ownBlock=some b->B b=7:=λb K=>by
    have k5:b<a7.heap.size:=qU an.O.1 K
    rcases an.O.2.2.1 b K with a|a
    ·have:=ft.O b a
     rw[bn,bJ cv.tlt b (by rw[this];decide)];exact this
    ·rw[bn]
     exact fR ⟨a,k5⟩
   have ba:aX H B {F with dv:=.slice am b2 aE,dn:=F.dn++ [(th.cur,f'.kd.length,y)]} {s with T:={s.T with fm:=ay s.T.fm th.cur (some f')}}:=
    (cw.kp (i:=1) (tag':=B) ce (λb a=>by rw[a];exact c8) (λ_ _=>rfl) (λb K=>lL (cw.tlt b K) ce.size)).fillD ⟨by rw[show({F with dv:=Value.slice am b2 aE,dn:=F.dn++ [(th.cur,f'.kd.length,y)]}:cP).pb=L.pb from es];exact c8,by rw[show({F with dv:=Value.slice am b2 aE,dn:=F.dn++ [(th.cur,f'.kd.length,y)]}:cP).pb=L.pb from es];exact k6⟩ ⟨hm,ce.owns an.O.1 (λb K a=>by have:=hm b K;rw[a,c8] at this;exact absurd this (by decide))⟩
   have dw:Hd (aQ w H tag B):=hD (((Q.O.go.trans (aQ.U (bv.O.trans an.O.2.2.2))).trans (by rw[bn];exact aQ.part cv.tlt (by decide) f6)).trans (aQ.same (i:=1) (by decide) (ce.mono λb a=>by rw[a];exact c8)))
   have hj:∀g,bp g=0->g<a5.heap.size->B g=0:=λg b9 k4=>by
    rw[bn];unfold cS;rw[yb (λa=>absurd (lL k4 (bv.O.trans an.O.2.2.2).size) (zC.2 a.1))];exact b9
   have hc:=hj X Q.O.t0.1 Q.O.bn.lt;have hd:=hj V Q.O.t0.2 Q.O.bs.lt;have hB:∀(g:Nat) (T:TypeId) (cs:Array Value),bp g=0->B g=0->ae a5 g T cs->ae H g T cs:=λg T cs b9 P K=>ce.J (f6.J ((bv.O.trans an.O.2.2.2).J K nF) (λa=>by rw[b9] at a;exact absurd a (by decide))) (λa=>by rw[a,c8] at P;exact absurd P (by decide))
   go_wp2_with fail;go_meet
   case rel=>exact⟨B,_,ba,dw.O,hB _ _ _ Q.O.t0.1 hc Q.O.bn,hB _ _ _ Q.O.t0.2 hd ie.O,⟨hc,hd⟩,by rw[bn,bJ cv.tlt tp (by rw[Q.O.tp15];decide)];exact Q.O.tp15⟩
end
section
variable {G:dx}{w w':World}{tag tag':Nat->Nat}{L L':cP}{s s':PS}{n:Nm}{r:aG}
theorem se(d:aX w tag L s):
 Calls Tryz.prog 20 #[ptr L.pb] w λa w'=>a=.returned L.dv/\aX w' tag {L with dv:=.slice none 0 0,dn:=[]} s/\aa (λb=>b=L.pb) w w'/\w'.ownsRow 0 69 5 L.dv L.dn.length (L.dn.flatMap jH):=by
 obtain⟨p,f⟩:=d.p1 (by decide);obtain⟨o,k⟩:=d.p7 (by decide);obtain⟨A,B,e⟩:=bP k;have v:=f.I 13;have C:=f.fz 13;simp[bB,e] at v;have q:=hD d;have t:=hD f;have g:=hD p;have m:=hD (aI o k);rw[e];have u:=hD e;generalize L.dn.length=D at*;unfold ptr;clear d p f o k e;go_enter Tryz.func20,Tryz.ntmps20;go_wp2_with fail;go_ret;have l:aa (λb=>b=L.pb) w (w.setCell ⟨L.pb,13,none⟩ (.slice none 0 0)):=af _ _ _ _;have x:=(q.O.same (i:=1) (l.mono λb a=>by rw[a];exact g.O)).mono (Y:=[1,7]) (λj _ z=>by rw[yw.1 z];simp);have c:=t.O.s_ 13 (.slice none 0 0);have y:=x.fillD (dv':=.slice none 0 0) (dn':=[]) ⟨g.O,by simpa[bB] using c⟩ ⟨λb c=>(by cases c),⟨by simp,.inl ⟨rfl,rfl⟩⟩⟩;refine⟨rfl,y,l,?_⟩;rw[<-u.O];exact l.owns m.O.2 (λb c a=>by have:=m.O.1 b c;rw[a,g.O] at this;exact absurd this (by decide))
def Dv(w w':World)(most:Int)(e:Ending):Prop:=∃tb mb,e=.returned (.tuple #[.pointer (some ⟨tb,0,none⟩),.int .i64 0])/\bQ w' (λb=>w.heap.size<=b/\b<w'.heap.size) tb mb most (λ_=>none) 0 (λ_=>0)/\ac w w'
theorem Di(a:Int)(k:1<=a)(l:a<=4096)(w:World):
 Calls Tryz.prog 55 #[.int .i64 a] w λb w'=>Dv w w' a b:=by
 have o:¬a<1:=by omega
 have p:¬4096<a:=by omega
 have m:=@run_makeMap Tryz.prog;go_enter Tryz.func55,Tryz.ntmps55;go_wp2_with fail
 go_ret2
 have i:aN Tryz.prog (w.alloc (.map #[] 0)) 58 w.heap.size (λ_=>none) 0:=aN.made fF w;have j:ac w (w.alloc (.map #[] 0)):=oR.alloc _;have d:ac (w.alloc (.map #[] 0)) ((w.alloc (.map #[] 0)).alloc (.cells #[.int .i64 a,.map (some w.heap.size)] 198)):=oR.alloc _
 have c:ae ((w.alloc (.map #[] 0)).alloc (.cells #[.int .i64 a,.map (some w.heap.size)] 198)) (w.heap.size+1) 198 #[.int .i64 a,.map (some w.heap.size)]:=by
  rw[<-jt w (.map #[] 0)];exact bN
 have g:=c.lt;refine⟨w.heap.size+1,w.heap.size,rfl,⟨⟨by omega,g⟩,⟨lR,by omega⟩,c,?_,λn r f=>(by cases f),λn q e=>absurd rfl e⟩,j.trans d⟩;have:=i.only d nF
 have b:dY (λn:Nm=>(Option.map (λ_=>Value.pointer (some ⟨0,0,none⟩)) (none:Option aG)))=λ_=>none:=by
  funext v;unfold dY;split<;>rfl
 rw[show(dY λn=>(((λ_=>none:Nm->Option aG) n).map λ_=>Value.pointer (some ⟨0,0,none⟩)))=λ_=>none from b];exact this
end
end
end Go.Proofs.YtmdocplknceilaaGreat
