import Derived.Test.YtmdocplknceilaaGreatNWBT
import Derived.Test.YtmdocplknceilaaGreatNWBU
set_option linter.all false
set_option maxRecDepth 100000
set_option maxHeartbeats 6000000
namespace Go.Proofs.YtmdocplknceilaaGreat
section
open Go.RowKit Go.Maps
theorem EB:∃i z,Tryz.prog.info? 58=some i/\i.zero=some z/\i.size=2/\i.bytes=24/\z.cells.size=2:=by
 have a:(Tryz.prog.info? 58).map (λi=>(i.zero.map λz=>z.cells.size,i.size,i.bytes))=some (some 2,2,24):=by kernel_rfl
 cases hi:Tryz.prog.info? 58 with
 |none=>rw[hi] at a;cases a
 |some i=>
  rw[hi] at a;simp only[yU,yC,yP] at a
  cases hz:i.zero with
  |none=>rw[hz] at a;cases a.1
  |some z=>
   rw[hz] at a;exact⟨i,z,rfl,hz,a.2.1,a.2.2,yz a.1⟩
theorem xE{N:Array Oper}{o:Oper}{a:Act}{W:World}{e:Act->World->Prop}{Q:Exit->Act->World->Prop}{m:Prop}{q:Nat}{j:Int}{kp:ByteArray}(v:o.guard=none)(s x:Operand)
 (A:o.op=.call {callee:=.builtin .append,args:=#[s,x],argTypes:=#[63,63]}) (B:a.eval s=.slice none 0 0) (D:a.eval x=.slice (some ⟨q,0,none⟩) 1 1)
 (f:ae W q 58 #[.int .u64 j,.string kp])
 (p:∀g c w',w'.ownsRow 0 58 2 (.slice (some ⟨g,0,none⟩) 1 c) 1 [.int .u64 j,.string kp]->ac W w'->W.heap.size<=g->e (a.put o.dst (.slice (some ⟨g,0,none⟩) 1 c)) w'):
 if Region.wanted o (yielded N a.tmps)=true then Oper.wp Tryz.prog o a W e Q else m:=by
 obtain⟨i,z,y,E,C,t,F⟩:=EB;refine kj W v s x 63 A 0 58 i z 2 24 Tryz.underlying63 y E C t F (by decide) (.slice none 0 0) 0 [] B ⟨rfl,.inl ⟨rfl,rfl⟩⟩ W.heap.size (some ⟨q,0,none⟩) 1 1 [.int .u64 j,.string kp] D ⟨rfl,λ_=>⟨⟨q,0,none⟩,rfl,f.lt,λj u d=>?_⟩⟩ (λu d=>by simp at d;rcases d with rfl|rfl<;>rfl) (by unfold maxLen;decide) (by decide) (yx _) (λP w' l H K=>?_)
 ·rw[bw,yq,f.I]
  rw[<-zi] at d;exact d
 ·obtain⟨g,c,rfl⟩:=mr l
  refine p g c w' l (oR.grown H (λk b=>by cases b)) ?_
  rcases K with b|b
  ·cases b
  ·exact zl (yz b).symm
def BI(W8 wx:World)(L:cP)(j:Int)(kp:ByteArray):Prop:=∃g c,ae wx L.pb 123 (bB {L with qv:=.slice (some ⟨g,0,none⟩) 1 c})/\wx.ownsRow 0 58 2 (.slice (some ⟨g,0,none⟩) 1 c) 1 [.int .u64 j,.string kp]/\W8.heap.size<=g/\aa (λb=>b=L.pb) W8 wx
theorem Ek{W8 w':World}{L:cP}{j:Int}{kp:ByteArray}{g c:Nat}(kb:ae w' L.pb 123 (bB L))(k:w'.ownsRow 0 58 2 (.slice (some ⟨g,0,none⟩) 1 c) 1 [.int .u64 j,.string kp])(e:ac W8 w')(i:W8.heap.size<=g)(l:L.pb<W8.heap.size):BI W8 (w'.setCell ⟨L.pb,6,none⟩ (.slice (some ⟨g,0,none⟩) 1 c)) L j kp:=by
 have d:=af w' L.pb 6 (.slice (some ⟨g,0,none⟩) 1 c);refine⟨g,c,?_,d.owns k (λb f a=>?_),i,(e.mono λ_ a=>a.elim).trans d⟩
 ·have:=kb.s_ 6 (.slice (some ⟨g,0,none⟩) 1 c)
  simpa[bB] using this
 ·have:g=b:=by simpa[Value.ownBlock] using f
  omega
theorem wy{w f k W8 W9:World}{tag:Nat->Nat}{L:cP}{s:PS}{j:Int}{x:aj}{kp:ByteArray}{D:Int}{F:Nat}(ab:kp=sB x.M)(ad:D=(x.fuel:Int))(al:dh ⟨j,x.M⟩)(am:s.queue= [])(u:aX f tag L s)(av:ac w f)
 (Z:kO f.drew k (λb=>tag b=2) L.tb L.mb L.most s.T.rw s.T.ks.length L.rp ⟨j,x.M⟩ x false) (Q:aa (λb=>tag b=2) f k) (P:tag L.ob=14) (N:tag L.pb=1)
 (a0:aN Tryz.prog W8 58 L.ob (dY (ay (λn=>(s.roots n).map (Value.int .i64)) ⟨j,x.M⟩ (some (.int .i64 (D+1))))) F) (R:aa (λb=>b=L.ob) k W8) (a1:BI W8 W9 L j kp):
 ∃tag' L',aX W9 tag' L' (ez s ⟨j,x.M⟩ x)/\aQ w W9 tag tag'/\(L'.pb=L.pb/\L'.most=L.most/\L'.tps=L.tps/\L'.n=L.n/\L'.fn=L.fn/\L'.dn=L.dn):=by
 obtain⟨q,b2,b3,an⟩:=Z;have a2:=an ⟨x,1,0,⟨0,0⟩,false,0,false⟩ rfl rfl rfl rfl rfl;have K:=u.part (i:=2) Q;obtain⟨d,v⟩ :∃t,t=cS tag f k 2:=⟨_,rfl⟩
 rw[<-v] at K;have cD:∀b,tag b≠0->d b=tag b:=λb m=>by rw[v];exact bJ u.tlt b m
 have a3:bQ k (λb=>d b=2) L.tb L.mb L.most (iC s.T ⟨j,x.M⟩ x).rw (iC s.T ⟨j,x.M⟩ x).ks.length (λe=>open Classical in if e=⟨j,x.M⟩ then q else L.rp e):=by
  have a:(iC s.T ⟨j,x.M⟩ x).ks.length=s.T.ks.length+1:=by simp[iC]
  rw[a];refine bQ.mo a2 λb m=>?_
  rw[v];exact kG u.tlt (by decide) b (m.imp id λa=>a)
 have X:=K.fill2 (T':=iC s.T ⟨j,x.M⟩ x) a3 rfl;have A:d L.ob=14:=by rw[cD _ (by rw[P];decide)];exact P
 have p:d L.pb=1:=by rw[cD _ (by rw[N];decide)];exact N
 have a5:=X.same (i:=14) (R.mono λb a=>by rw[a];exact A)
 have ar:(λe=>((ay s.roots ⟨j,x.M⟩ (some ((x.fuel:Int)+1))) e).map (Value.int .i64))=ay (λn=>(s.roots n).map (Value.int .i64)) ⟨j,x.M⟩ (some (.int .i64 (D+1))):=by
  funext e
  by_cases a:e=⟨j,x.M⟩
  ·subst a
   rw[aA,aA,ad];rfl
  ·rw[ag _ _ a,ag _ _ a]
 have l:=a5.fill14 (ro':=ay s.roots ⟨j,x.M⟩ (some ((x.fuel:Int)+1))) (c:=F) ⟨A,by rw[ar];exact a0⟩;obtain⟨g,c,S,y,a7,E⟩:=a1;have a6:=l.kp (i:=1) (tag':=cS d W8 W9 6) E (λb a=>by rw[a];exact p) (bJ l.tlt) (rP l.tlt E.size);have a8:g<W9.heap.size:=ph y rfl
 have a4:aY [1,6] W9 (cS d W8 W9 6) _ _:=a6.mono λi _ o=>by
  simp only[yG,zV,or_false] at o ⊢;omega
 have Y:=a4.fillQ (qv':=.slice (some ⟨g,0,none⟩) 1 c) (q':=[⟨j,x.M⟩]) ⟨by rw[bJ l.tlt _ (by show d L.pb≠0;rw[p];decide)];exact p,S⟩ ⟨.inr ?_,λn ai=>by rw[yw.1 ai];exact al⟩
 ·have a:ez s ⟨j,x.M⟩ x= {s with T:=iC s.T ⟨j,x.M⟩ x,roots:=ay s.roots ⟨j,x.M⟩ (some ((x.fuel:Int)+1)),queue:=[⟨j,x.M⟩]}:=by
   unfold ez;rw[am];rfl
  rw[a];refine⟨_,_,Y,((aQ.U av).trans (aQ.part u.tlt (by decide) Q)).trans ?_,⟨rfl,rfl,rfl,rfl,rfl,rfl⟩⟩;rw[<-v];exact(aQ.same (i:=14) (by decide) (R.mono λb a=>by rw[a];exact A)).trans ⟨E.mono λb a=>by rw[a,p];decide,bJ l.tlt,kH⟩
 ·rcases y.2 with⟨z,_⟩|⟨b1,aw,cur,z,az,H,V,W,aE,b0⟩
  ·cases z
  ·cases z
   refine⟨g,0,c,cur,rfl,fR ⟨a7,a8⟩,H,V,by omega,W,λi n o=>?_⟩
   have a9:i=0/\n=⟨j,x.M⟩:=by
    cases i with
    |zero=>simp at o;exact⟨rfl,o.symm⟩
    |succ i=>simp at o
   obtain⟨rfl,rfl⟩:=a9;have B:=World.ownsRow.cells y (g:=g) rfl 0 (.int .u64 j) rfl;have C:=World.ownsRow.cells y (g:=g) rfl 1 (.string kp) rfl;rw[bw] at B C;have m:ae W9 g 58 cur:=H;rw[m.I] at B C;refine⟨?_,?_⟩
   ·simpa using B
   ·rw[<-ab]
    simpa using C
def vA(w w':World)(tag:Nat->Nat)(L:cP)(s:PS)(n:Nm)(x:aj)(e:Ending):Prop:=e=.returned (.int .i64 0)/\∃tag' L',aX w' tag' L' (ez s n x)/\aQ w w' tag tag'/\(L'.pb=L.pb/\L'.most=L.most/\L'.tps=L.tps/\L'.n=L.n/\L'.fn=L.fn/\L'.dn=L.dn)
def sI(w w':World)(tag:Nat->Nat)(L:cP)(s:PS)(n:Nm)(x:aj)(e:Ending):Prop:=if L.most<(x.fuel:Int)+1 then e=.returned (.int .i64 6)/\ac w w' else vA w w' tag L s n x e
section
variable {w w':World}{tag:Nat->Nat}{L:cP}{s:PS}
attribute [local simp] ew fe fD cL dP Region.binds dD dN Is ao Act.put
theorem A4(Q:aX w tag L s)(j:Int)(c6:(Lit.int .u64 j).wf=true)(p:List ah)(c9:s.progs j=some p)(aE:lH p)(x:aj)(C:Option Addr)(H:Nat)(a9:Nat->Prop)(d8:∀b,a9 b->b<w.heap.size/\tag b=0)(bx:aL w a9 C x.args)(c1:bW p x)(da:x.args.length<=100000)(e3:s.T.rw ⟨j,x.M⟩=none)(e4:∀n,s.roots n=none)(dz:L.on=0)(e2:L.qv=.slice none 0 0)(e1:s.queue= [])(dn:(s.T.ks.length:Int)<L.most)(dk:(x.fuel:Int)+1<=1000000)(dr:L.most<=1000000):
 Calls Tryz.prog 29 #[ptr L.pb,.int .u64 j,.agg (bO x C H)] w λd w'=>sI w w' tag L s ⟨j,x.M⟩ x d:=by
 obtain⟨al,b3⟩ :∃n,n=x.args.length:=⟨_,rfl⟩
 obtain⟨kp,b6⟩:=eX (sB x.M);obtain⟨f,b7⟩:=eX ((x.fuel:Int):Int);obtain⟨a6,b5⟩:=eX (x.fn:Int);obtain⟨o,b0⟩:=eX (w.alloc (.cells #[.string kp,.int .i64 a6,.slice C al H,.int .i64 f] 30));obtain⟨bt,c5⟩ :∃g,g=w.heap.size:=⟨_,rfl⟩
 have F:ac w o:=by rw[b0];exact oR.alloc _
 have a0:ae o bt 30 #[.string kp,.int .i64 a6,.slice C al H,.int .i64 f]:=by rw[b0,c5];exact bN
 have dw:dh ⟨j,x.M⟩:=⟨c6,c1.pth⟩
 have cw:=hD (jJ (Q.U F));obtain⟨f7,dq⟩:=Q.p8 (by decide);have a4:keyOf Tryz.prog 54 (.int .u64 j)=some (.int .u64 j):=Maps.keyOf_int_mk Tryz.underlying54 c6;obtain⟨N,V,c0⟩ :∃N V,L.pA j=(N,V):=⟨_,_,rfl⟩
 have dp:(Instr.lookup 116 (.map (some L.gb)) (.int .u64 j) true).run Tryz.prog o=.ok (.tuple #[.agg #[.slice N p.length V],.bool true]) o:=by
  have:=(dq.only F nF).look2 (t:=116) oi Tryz.underlying116 (z:=.agg #[.slice none 0 0]) (by kernel_rfl) a4;rw[mX,c9] at this;simp only[yU,c0] at this;exact this
 obtain⟨e6,c7⟩:=eX p.length;have c3:=Q.p4 (by decide) j p c9;rw[c0] at c3;have ab:Hd (∀W,ac o W->Calls Tryz.prog 62 #[aP p N V,.agg (bO x C H)] W λd w'=>BH W w' p x d):=hD λW e=>uC p N C V H (λb=>tag b=4) a9 x W (c3.kp (F.trans e) nG) (λb c2=>lL (Q.tagB (by decide) b c2) (F.trans e).size) aE.ck aE.ok aE.wf (bx.kp (F.trans e) nG) c1
 have e0:=(Q.p1 (by decide)).2;have q:Hd (∀W,ac o W->ae W L.pb 123 (bB L)/\ae W bt 30 #[.string kp,.int .i64 a6,.slice C al H,.int .i64 f]):=hD λW e=>⟨(F.trans e).J e0 nF,e.J a0 nF⟩
 have d0:=hD b0.symm;have bb:=hD c5;have K:=hD F;have D:=hD Q;have k:=hD (aI b6 (aI b7 (aI b5 b3)));have ai:=hD dw;have i:=hD (aI e3 (aI e4 (aI dz (aI e2 (aI e1 (aI dn (aI dk dr)))))));have cs:=hD (aI bx (aI da d8));unfold aP bO at ab;unfold bO ptr;unfold ptr at cw;rw[<-c7,<-b6,<-b7,<-b5,<-b3] at ab;rw[<-b6,<-b7,<-b5,<-b3];rw[<-c7] at dp;have d7:=(q.O o oR).1.I 5;have y:=a0.I 0;have X:=a0.I 1;have Y:=a0.I 2;have A:=a0.I 3;simp[bB] at d7 y X Y A;clear Q c6 c9 aE d8 bx c1 da e3 e4 dz e2 e1 dn dk dr b3 b6 b7 b5 b0 c5 F a0 dw f7 dq a4 c0 c7 c3 e0;go_enter Tryz.func29,Tryz.ntmps29;go_upto_region 1 with fail;rw[d0.O,<-bb.O]
 go_upto_region 6 with(first
  |(go_at_call 44;refine cw.O.mono ?_;rintro d go ⟨rfl,rfl⟩)
  |fail)
 obtain⟨W2,b1⟩:=eX (o.alloc (.cells #[.slice N e6 V] 24));obtain⟨f2,c4⟩ :∃g,g=o.heap.size:=⟨_,rfl⟩
 rw[<-b1,<-c4];have o2:ac o W2:=by rw[b1];exact oR.alloc _
 have d3:ae W2 f2 24 #[.slice N e6 V]:=by rw[b1,c4];exact bN
 have bk:=hD o2;have ej:=d3.I 0;simp at ej;clear y X Y A d7 dp b1 c4 o2 d3 d0;have db:=(q.O W2 bk.O).2;obtain⟨y,X,Y,A⟩:=db.gE4;clear db
 go_upto_region 9 with(first
  |(go_at_call 62;refine(ab.O _ bk.O).mono ?_;rintro d an ⟨gf,fo,rfl,_,e7⟩;have bm:=hD (bk.O.trans e7);clear e7)
  |fail)
 clear y X Y A ej ab;have dd:=(q.O an bm.O).2;have y:=dd.I 0;simp at y;clear dd;go_upto_region 10 with fail;obtain⟨ar,b2⟩:=eX (an.alloc (.cells #[.int .u64 j,.string kp] 58));obtain⟨u,b4⟩ :∃g,g=an.heap.size:=⟨_,rfl⟩
 rw[<-b2,<-b4];have e8:ac o ar:=by rw[b2];exact bm.O.alloc _
 have d4:ae ar u 58 #[.int .u64 j,.string kp]:=by rw[b2,b4];exact bN
 have bn:=hD e8;have en:=hD d4
 have es:Hd (w.heap.size<u):=hD (by
  have l:=(q.O an bm.O).2.lt;rw[bb.O] at l;rw[b4];exact l)
 have c8:=(q.O ar bn.O).1;have ec:=c8.I 2;have a8:=c8.I 12;simp[bB] at ec a8;have R:=((D.O.p14 (by decide)).2.only (K.O.trans bn.O) nF)
 rw[i.O.2.2.1] at R
 have dl:(dY λn=>(s.roots n).map (Value.int .i64))=λ_=>none:=by
  rw[show(λn=>(s.roots n).map (Value.int .i64))=λ_=>none from by funext n;rw[i.O.2.1 n];rfl];exact kA
 rw[dl] at R;have cv:=hD R;clear y b2 b4 e8 d4 c8 dl R
 go_wp2_with (first|(at_range;refine mO rfl _ 121 rfl 58 3 fF Tryz.underlying121 rfl cv.O ?_;intro a a5 ci fl;have cB:=hD a5;have ad:=hD (bn.O.trans ci);have b9:=hD (ci.J en.O nF);clear a5 ci fl)|fail)
 go_frame
 clear ec a8
 go_loopw [12] (λroom wr=>room=.int .i64 L.most/\a=wr) (λ_ wr=>wr.rangeLeft L.ob ar.heap.size)
 case atStart=>exact⟨rfl,rfl⟩
 case round=>
  obtain⟨rfl,f9⟩:=hrel;subst f9;have a5:=cB.O
  go_wp2_with (first|(at_next;refine nR (α:=Nm×Int) rfl _ rfl fF (λx=>aV x.1) (λx=>.int .i64 x.2) (λkey v hg=>by cases hg) rfl a5 (λh0 hall=>?_) (λx W2 left2 hg hns hrg2 hlt2 o2 hen=>by cases hg))|fail)
  clear h0 hall a5
  have m:Hd (∀W,ac a W->ac a W/\W.cell? ⟨L.pb,4,none⟩=some (.pointer (some ⟨L.tb,0,none⟩))/\W.cell? ⟨u,0,none⟩=some (.int .u64 j)/\W.cell? ⟨u,1,none⟩=some (.string kp)):=hD λW e=>by
   have fk:=(q.O W (ad.O.trans e)).1;have ei:=e.J b9.O nF;exact⟨e,fk.I 4,ei.I 0,ei.I 1⟩
  have cr:Hd (∀W,ac a W->Calls Tryz.prog 51 #[.pointer (some ⟨L.tb,0,none⟩),.agg #[.int .u64 j,.string kp]] W λd w'=>d=.returned (.tuple #[.agg #[.int .u64 0,.string ⟨#[]⟩,.string ⟨#[]⟩,.int .i64 0,.slice none 0 0,.int .i64 0,.int .u8 0,.int .i64 0,.int .i64 0,.int .i64 0],.bool false])/\ac W w'):=hD λW e=>by
   have:=Ci ((D.O.U (K.O.trans (ad.O.trans e))).p2 (by decide)) ai.O i.O.1;unfold aV eT jg at this;rw[<-k.O.1] at this;exact this
  have am:Hd (ac a (a.alloc (.cells #[.int .u64 0,.string ⟨#[]⟩,.string ⟨#[]⟩,.int .i64 0,.slice none 0 0,.int .i64 0,.int .u8 0,.int .i64 0,.int .i64 0,.int .i64 0] 60))):=hD (oR.alloc _);have ba:Hd (ac a a.drew):=hD (aa.drew oR);have bp:Hd (ac a (a.alloc (.cells #[.int .u64 0,.string ⟨#[]⟩,.string ⟨#[]⟩,.int .i64 0,.slice none 0 0,.int .i64 0,.int .u8 0,.int .i64 0,.int .i64 0,.int .i64 0] 60)).drew):=hD (aa.drew am.O);have cp:Hd (ae (a.alloc (.cells #[.int .u64 0,.string ⟨#[]⟩,.string ⟨#[]⟩,.int .i64 0,.slice none 0 0,.int .i64 0,.int .u8 0,.int .i64 0,.int .i64 0,.int .i64 0] 60)) a.heap.size 60 #[.int .u64 0,.string ⟨#[]⟩,.string ⟨#[]⟩,.int .i64 0,.slice none 0 0,.int .i64 0,.int .u8 0,.int .i64 0,.int .i64 0,.int .i64 0]):=hD (ae.new a _ _);have d1:Hd (∀W,ac (a.alloc (.cells #[.int .u64 0,.string ⟨#[]⟩,.string ⟨#[]⟩,.int .i64 0,.slice none 0 0,.int .i64 0,.int .u8 0,.int .i64 0,.int .i64 0,.int .i64 0] 60)).drew W->ae W a.heap.size 60 #[.int .u64 0,.string ⟨#[]⟩,.string ⟨#[]⟩,.int .i64 0,.slice none 0 0,.int .i64 0,.int .u8 0,.int .i64 0,.int .i64 0,.int .i64 0]):=hD λW e=>e.J cp.O.drew nF
  have bf:Hd (∀(W:World) (v0 v1 v2 v3 v4 v5 v6 v7 v8 v9:Value),ac a W->ac a ((((((((((W.setCell ⟨a.heap.size,0,none⟩ v0).setCell ⟨a.heap.size,1,none⟩ v1).setCell ⟨a.heap.size,2,none⟩ v2).setCell ⟨a.heap.size,3,none⟩ v3).setCell ⟨a.heap.size,4,none⟩ v4).setCell ⟨a.heap.size,5,none⟩ v5).setCell ⟨a.heap.size,6,none⟩ v6).setCell ⟨a.heap.size,7,none⟩ v7).setCell ⟨a.heap.size,8,none⟩ v8).setCell ⟨a.heap.size,9,none⟩ v9)/\((((((((((W.setCell ⟨a.heap.size,0,none⟩ v0).setCell ⟨a.heap.size,1,none⟩ v1).setCell ⟨a.heap.size,2,none⟩ v2).setCell ⟨a.heap.size,3,none⟩ v3).setCell ⟨a.heap.size,4,none⟩ v4).setCell ⟨a.heap.size,5,none⟩ v5).setCell ⟨a.heap.size,6,none⟩ v6).setCell ⟨a.heap.size,7,none⟩ v7).setCell ⟨a.heap.size,8,none⟩ v8).setCell ⟨a.heap.size,9,none⟩ v9).cell? ⟨L.pb,4,none⟩=some (.pointer (some ⟨L.tb,0,none⟩))/\((((((((((W.setCell ⟨a.heap.size,0,none⟩ v0).setCell ⟨a.heap.size,1,none⟩ v1).setCell ⟨a.heap.size,2,none⟩ v2).setCell ⟨a.heap.size,3,none⟩ v3).setCell ⟨a.heap.size,4,none⟩ v4).setCell ⟨a.heap.size,5,none⟩ v5).setCell ⟨a.heap.size,6,none⟩ v6).setCell ⟨a.heap.size,7,none⟩ v7).setCell ⟨a.heap.size,8,none⟩ v8).setCell ⟨a.heap.size,9,none⟩ v9).cell? ⟨u,0,none⟩=some (.int .u64 j)/\((((((((((W.setCell ⟨a.heap.size,0,none⟩ v0).setCell ⟨a.heap.size,1,none⟩ v1).setCell ⟨a.heap.size,2,none⟩ v2).setCell ⟨a.heap.size,3,none⟩ v3).setCell ⟨a.heap.size,4,none⟩ v4).setCell ⟨a.heap.size,5,none⟩ v5).setCell ⟨a.heap.size,6,none⟩ v6).setCell ⟨a.heap.size,7,none⟩ v7).setCell ⟨a.heap.size,8,none⟩ v8).setCell ⟨a.heap.size,9,none⟩ v9).cell? ⟨u,1,none⟩=some (.string kp)):=hD λW v0 v1 v2 v3 v4 v5 v6 v7 v8 v9 e=>m.O _ (by with_reducible (refine aa.setCell ?_ (Or.inr (lR)) _;refine aa.setCell ?_ (Or.inr (lR)) _;refine aa.setCell ?_ (Or.inr (lR)) _;refine aa.setCell ?_ (Or.inr (lR)) _;refine aa.setCell ?_ (Or.inr (lR)) _;refine aa.setCell ?_ (Or.inr (lR)) _;refine aa.setCell ?_ (Or.inr (lR)) _;refine aa.setCell ?_ (Or.inr (lR)) _;refine aa.setCell ?_ (Or.inr (lR)) _;refine aa.setCell ?_ (Or.inr (lR)) _;exact e))
  have f4:=m.O a oR
  go_cut [16] (λs16 wx=>s16=.bool false/\ac a wx)
  case first=>
   go_region_held3 (λw'=>ac a w'/\w'.cell? ⟨L.pb,4,none⟩=some (.pointer (some ⟨L.tb,0,none⟩))/\w'.cell? ⟨u,0,none⟩=some (.int .u64 j)/\w'.cell? ⟨u,1,none⟩=some (.string kp))
    (first|with_reducible exact bf.O _ _ _ _ _ _ _ _ _ _ _ E.O|with_reducible exact m.O _ E.O|with_reducible exact m.O _ (aa.alloc E.O _)|with_reducible exact m.O _ (aa.drew E.O)|with_reducible exact m.O _ am.O|with_reducible exact m.O _ (aa.drew am.O)|with_reducible exact m.O _ (aa.drew oR)|with_reducible exact m.O _ oR|(with_reducible refine m.O _ ?_;with_reducible refine aa.setCell ?_ (Or.inr (lR)) _;repeat (first|with_reducible exact E.O|with_reducible refine aa.setCell ?_ (Or.inr (lR)) _))|fail)
    (first|(go_at_call 51;refine(cr.O _ ?_).mono ?_;(first|with_reducible exact ba.O|with_reducible exact bp.O|fail);rintro d W8 ⟨rfl,o2⟩;(first|(have E:Hd (ac a W8):=hD (by with_reducible exact aa.trans ba.O o2);clear o2)|(have E:Hd (ac a W8):=hD (by with_reducible exact aa.trans bp.O o2);have ch:=d1.O W8 o2;have fm:=hD ch;obtain⟨fp,fq,fr,fs,ft,fv,fw,fx,g0,g1,g2,g3,g4,g5,g6,g7,g8,g9,gc,ge⟩:=rn ch;clear o2 ch)))|fail)
   all_goals (
    go_wp2_with fail;go_meet)
   all_goals (first
    |(with_reducible refine⟨rfl,?_⟩;with_reducible exact aa.alloc E.O _)
    |(with_reducible refine⟨rfl,?_⟩;with_reducible exact(bf.O W8 _ _ _ _ _ _ _ _ _ _ E.O).1))
  case rest=>
   obtain⟨rfl,cm⟩:=hcut;obtain⟨P,f5⟩:=eX wc;subst f5;have B:=hD (ad.O.trans cm);have eq:=hD (cm.J b9.O nF);clear f4 cm m cr am ba bp cp d1 bf cB ad b9 cv;have e5:=(q.O P B.O).2;have A:=e5.I 3;simp at A;clear e5
   have b8:wrap64 (f+1)=f+1:=by
    have l:=i.O.2.2.2.2.2.2.1;rw[<-k.O.2.1] at l;have f3:(0:Int)<=f:=by rw[k.O.2.1];exact zD _
    unfold wrap64;omega
   by_cases a1:L.most<f+1
   ·have fa:L.most<wrap64 (f+1):=by rw[b8];exact a1
    have er:Hd (L.most<(x.fuel:Int)+1):=hD (by rw[<-k.O.2.1];exact a1);clear b8 a1;go_wp2_with fail;go_ret;unfold sI;rw[yf er.O];exact⟨rfl,K.O.trans B.O⟩
   have fa:¬L.most<wrap64 (f+1):=by rw[b8];exact a1
   have eL:Hd (¬L.most<(x.fuel:Int)+1):=hD (by rw[<-k.O.2.1];exact a1);clear b8 a1;go_upto_region 20 with fail;have bv:aX P tag L s:=D.O.U (K.O.trans B.O)
   have f0:Hd (∀W,ac P W->Calls Tryz.prog 63 #[.pointer (some ⟨L.tb,0,none⟩),.int .u64 j,.agg #[.string kp,.int .i64 a6,.slice C al H,.int .i64 f]] W λd w'=>d=.returned (.int .i64 0)/\kO W w' (λb=>tag b=2) L.tb L.mb L.most s.T.rw s.T.ks.length L.rp ⟨j,x.M⟩ x false/\aa (λb=>tag b=2) W w'):=hD λW e=>by
    have dm:=bv.U e;have:=ES j x C H a9 (λb c2=>dm.tlt b (by rw[c2];decide)) (dm.p2 (by decide)) ai.O i.O.1 i.O.2.2.2.2.2.1 i.O.2.2.2.2.2.2.2 (cs.O.1.kp (K.O.trans (B.O.trans e)) nG) cs.O.2.1;unfold bO at this;rw[<-k.O.1,<-k.O.2.1,<-k.O.2.2.1,<-k.O.2.2.2] at this;exact this
   have el:=hD bv;have a2:=q.O P B.O;have ee:=a2.1.I 4;have y:=a2.2.I 0;have X:=a2.2.I 1;have Y:=a2.2.I 2;have ek:=a2.2.I 3;simp[bB,ptr] at ee y X Y ek;clear bv a2 A
   go_still_tail 6,(by kernel_rfl)
   change wpList _ _ _ _ _ P.drew
   go_upto_region 23 with(first
    |(go_at_call 63;refine(f0.O _ (aa.drew oR)).mono ?_;rintro d av ⟨rfl,d2,e9⟩;have em:=hD d2;have a3:=hD (aa.trans (aa.drew oR) e9);clear d2 e9)
    |fail)
   have cg:tag bt=0:=hU D.O.tlt (by rw[bb.O];exact lR);have cf:tag u=0:=hU D.O.tlt (Nat.le_of_lt es.O);have cb:=(D.O.p1 (by decide)).1;have ce:=(D.O.p14 (by decide)).1;have d5:=a3.O.J (q.O P B.O).2 (λd=>by rw[cg] at d;exact absurd d (by decide));have aw:=a3.O.J eq.O (λd=>by rw[cf] at d;exact absurd d (by decide));have br:=a3.O.J (q.O P B.O).1 (λd=>by rw[cb] at d;exact absurd d (by decide));have a8:=br.I 12;have A:=d5.I 3;have n0:=aw.I 0;have a7:=aw.I 1;simp[bB] at a8 A n0 a7
   have f8:wrap64 (f+1)=f+1:=by
    have l:=i.O.2.2.2.2.2.2.1;rw[<-k.O.2.1] at l;have f3:(0:Int)<=f:=by rw[k.O.2.1];exact zD _
    unfold wrap64;omega
   have gm:IntKind.i64.wrap (f+1)=f+1:=(aR _).trans f8;obtain⟨gn,a4⟩:=ai.O.key;have R:aN Tryz.prog av 58 L.ob (dY λn=>(s.roots n).map (Value.int .i64)) L.on:=((D.O.p14 (by decide)).2.only (K.O.trans B.O) nF).only a3.O (λd=>by rw[ce] at d;exact absurd d (by decide));obtain⟨W8,cd,bz,ea⟩:=(R.heap (w':=av.drew) rfl).put (t:=121) (v:=.int .i64 (f+1)) fF Tryz.underlying121 a4 (by rw[i.O.2.2.1];unfold maxLen;decide);rw[lu,gl,i.O.2.1,i.O.2.2.1] at bz;have eb:aa (λb=>b=L.ob) av W8:=aa.trans (aa.drew oR) ea;unfold aV eT at cd;rw[<-k.O.1] at cd;have ex:=hD bz;have bo:=hD eb;have cn:=hD (aI aw br);have Z:=hD (aI cg (aI cf (aI cb ce)));clear cg cf d5 aw br a4 R bz ea eb ee y X Y ek
   go_still_tail 8,(by kernel_rfl)
   change wpList _ _ _ _ _ av.drew;go_upto_region 24 with fail;clear cd a8 A n0 a7 ce;have ds:L.pb≠L.ob:=λd=>by have l:=Z.O.2.2.1;rw[d,Z.O.2.2.2] at l;exact absurd l (by decide)
   have dv:u≠L.ob:=λd=>by have l:=Z.O.2.1;rw[d,Z.O.2.2.2] at l;exact absurd l (by decide)
   have az:=bo.O.J cn.O.2 ds;have bq:=bo.O.J cn.O.1 dv;have ef:=az.I 6;have n0:=bq.I 0;have a7:=bq.I 1;simp[bB,i.O.2.2.2.1] at ef n0 a7;have eg:=(az.alloc (.cells #[.int .u64 j,.string kp] 58)).I 6;simp[bB,i.O.2.2.2.1] at eg;have cq:=hD az;clear ds dv az bq cb
   go_cut [] (λwx=>BI W8 wx L j kp)
   case first=>
    go_region_law (
     refine xE (j:=j) (kp:=kp) rfl _ _ rfl rfl rfl (by first|exact bN|exact bN.drew) (λg c w' fb fd ff=>?_);have d9:ac W8 w':=aa.trans (by repeat (first|with_reducible exact oR|with_reducible refine aa.drew ?_|with_reducible refine aa.alloc ?_ _)) fd;have kb:=d9.J cq.O nF;have fj:=kb.I 6;have a6:=kb.fz 6;simp[bB,i.O.2.2.2.1] at fj;have f6:W8.heap.size<=g:=lT (aa.size (S:=λ_=>False) (by repeat (first|with_reducible exact oR|with_reducible refine aa.drew ?_|with_reducible refine aa.alloc ?_ _))) ff)
    all_goals (
     go_wp2_with fail;go_meet;exact Ek kb fb d9 f6 cq.O.lt)
   case rest=>
    have f1:=hD hcut;clear hcut ef eg n0 a7;go_wp2_with fail;go_ret;unfold sI;rw[yb (Int.not_lt.2 eL.O)];exact⟨rfl,wy k.O.1 k.O.2.1 ai.O i.O.2.2.2.2.1 el.O (K.O.trans B.O) em.O a3.O Z.O.2.2.2 Z.O.2.2.1 ex.O bo.O f1.O⟩
theorem CL(g:aX w tag L s)(j:Int)(u:(Lit.int .u64 j).wf=true)(p:List ah)(z:s.progs j=some p)(m:lH p)(x:aj)(c:Option Addr)(f:Nat)(a:Nat->Prop)(i:∀b,a b->b<w.heap.size/\tag b=0)(l:aL w a c x.args)(o:bW p x)(q:x.args.length<=100000)(C:s.T.rw ⟨j,x.M⟩=none)(D:∀n,s.roots n=none)(y:L.on=0)(B:L.qv=.slice none 0 0)(A:s.queue= [])(v:(s.T.ks.length:Int)<L.most)(t:(x.fuel:Int)+1<=L.most)(e:L.most<=1000000):
 Calls Tryz.prog 29 #[ptr L.pb,.int .u64 j,.agg (bO x c f)] w λd w'=>vA w w' tag L s ⟨j,x.M⟩ x d:=
 (A4 g j u p z m x c f a i l o q C D y B A v (Ya t e) e).mono λd w' k=>by
  unfold sI at k
  rwa [yb (by omega)] at k
end
def kg(j:Int)(p:List ah)(x:aj):dx:=λi=>if i=j then some (p,x) else none
theorem pe(j:Int)(p:List ah)(x:aj):kg j p x j=some (p,x):=yf rfl
theorem mq{j b:Int}{p:List ah}{x:aj}(a:kg j p x b≠none):b=j:=by
 unfold kg at a;split at a
 ·assumption
 ·exact absurd rfl a
theorem oq{j b:Int}{p q:List ah}{x y:aj}(a:kg j p x b=some (q,y)):b=j/\q=p/\y=x:=by
 unfold kg at a;split at a
 ·rename_i c
  cases a
  exact⟨c,rfl,rfl⟩
 ·cases a
structure jv(G:dx)(w0 w:World)(d:Int)(tag:Nat->Nat)(L:cP)(s:PS):Prop where
 h:aX w tag L s
 r:pX G s
 known:∀n,s.known n=none
 away:∀n,s.away n=false
 outs:∀m,¬s.T.outs m
 ord:lF s
 U:ac w0 w
 new:∀b,tag b≠0->w0.heap.size<=b
 nn:L.n<=d
 fn:(L.fn:Int)<=d
 nm:(s.nms.length:Int)<=d
 dn:L.dn=s.T.hist
def xn(w w':World)(p:List ah)(x:aj)(nt:Nat)(j most:Int)(e:Ending):Prop:=∃tag L s0,e=.returned (ptr L.pb)/\jv (kg j p x) w w' 10000 tag L (ez s0 ⟨j,[]⟩ x)/\iQ s0/\s0.ths.length=nt/\L.most=most/\s0.progs j=some p
theorem iQ.progs'{s:PS}(a:iQ s)(f:Int->Option (List ah)):iQ {s with progs:=f}:=⟨a.rw,a.ks,a.fm,a.hist,a.outs,a.many,a.ds,a.nlen,a.ths,a.queue,a.nms,a.roots⟩
theorem vP{s:PS}{j:Int}{p:List ah}{x:aj}(e:iQ s)(H:s.progs j=some p)(l:∀n,s.known n=none)(m:∀n,s.away n=false)(K:x.M= [])(B:∀y∈s.ds,y.c0<=256)(E:s.ths.length<=8):pX (kg j p x) (ez s ⟨j,[]⟩ x)/\lF (ez s ⟨j,[]⟩ x)/\∀g,¬(ez s ⟨j,[]⟩ x).T.outs g:=by
 have A:aH (kg j p x) s (λ_=>False):=e.inv (λi q y d=>by obtain⟨rfl,rfl,rfl⟩:=oq d;exact H) (λi q y d=>by obtain⟨rfl,rfl,rfl⟩:=oq d;exact K) (λg y q z u d=>by rw[l] at d;cases d);refine⟨⟨A.add (pe j p x) rfl (by rw[e.rw]) (l _) (m _),?_,B,E⟩,⟨λn f i c D=>?_,λn k y a b C=>?_⟩,λg F=>?_⟩
 ·have v:mE s.ds=0:=qp _ λy N=>(e.ds y N).2.2.2.1
  show mE s.ds-((s.T.ks++ [(⟨j,[]⟩ :Nm)]).length:Int)-s.T.hist.length<=0;rw[v,e.ks,e.hist];simp
 ·have t:s.T.fm n=some f:=D
  rw[e.fm] at t
  cases t
 ·have o:s.T.hist=a++(n,k,y) :: b:=C
  rw[e.hist] at o;have:=yl List.length o;simp at this
 ·rcases(e.outs g).1 F with d|d
  ·exact d (l g)
  ·rw[m g] at d;cases d
section
theorem pD(z lg:Nat)(q:Int)(cf:1<=z)(b8:z<=8)(cd:lg<=8)(b7:1<=q)(ce:q<=1024)(p:List ah)(A:Option Addr)(c:Nat)(F:Nat->Prop)(x:aj)(D:Option Addr)(Z:Nat)(a0:Nat->Prop)(w:World)
 (ba:dg w F A p) (az:∀b,F b->b<w.heap.size) (b3:lH p) (bb:p.length<=1000) (b9:∀x∈p,x.ops.length<=1000) (b1:aL w a0 D x.args) (aE:∀b,a0 b->b<w.heap.size) (b4:bW p x) (b5:x.args.length<=100000) (X:x.M= []) (b6:(x.fuel:Int)+1<=q):
 Calls Tryz.prog 15 #[.agg #[.int .i64 (z:Int),.int .i64 (lg:Int),.int .i64 q],aP p A c,.agg (bO x D Z)] w λe w'=>xn w w' p x z 1 q e:=by
 obtain⟨n,am⟩:=eX p.length;obtain⟨al,a8⟩ :∃n,n=x.args.length:=⟨_,rfl⟩
 obtain⟨kp,ab⟩:=eX (sB x.M);obtain⟨bk,ad⟩:=eX ((x.fuel:Int):Int);obtain⟨bf,a9⟩:=eX (x.fn:Int);obtain⟨thr,an⟩ :∃t:Int,t=(z:Int):=⟨_,rfl⟩
 obtain⟨bm,ai⟩ :∃t:Int,t=(lg:Int):=⟨_,rfl⟩
 obtain⟨Q,K⟩:=eX (w.alloc (.cells #[.int .i64 thr,.int .i64 bm,.int .i64 q] 40));obtain⟨R,N⟩:=eX (Q.alloc (.cells #[.slice A n c] 24));obtain⟨v,V⟩:=eX (R.alloc (.cells #[.string kp,.int .i64 bf,.slice D al Z,.int .i64 bk] 30));obtain⟨H,W⟩ :∃g,g=w.heap.size:=⟨_,rfl⟩
 have bo:ac w Q:=by rw[K];exact oR.alloc _
 have ar:ac Q R:=by rw[N];exact oR.alloc _
 have Y:ac R v:=by rw[V];exact oR.alloc _
 have av:Q.heap.size=H+1:=by rw[K,W];simp
 have bx:R.heap.size=H+1+1:=by rw[N];simp[av]
 have a6:ae v H 40 #[.int .i64 thr,.int .i64 bm,.int .i64 q]:=(ar.trans Y).J (by rw[K,W];exact bN) nF;have E:ae v (H+1) 24 #[.slice A n c]:=Y.J (by rw[N,<-av];exact bN) nF;have l:ae v (H+1+1) 30 #[.string kp,.int .i64 bf,.slice D al Z,.int .i64 bk]:=by rw[V,<-bx];exact bN
 have bn:ac w v:=bo.trans (ar.trans Y);have a5:=hD (CO z lg q cf b8 cd b7 ce v);unfold Ds at a5;have a2:=hD (aI a6 (aI E l));have y:=hD bn;have c3:=hD W;have a3:=hD (aI K.symm (aI N.symm V.symm));have d:=hD (aI ba (aI az (aI b3 (aI bb (aI b9 (aI b1 (aI aE (aI b4 (aI b5 (aI X b6))))))))));have C:=hD (aI am (aI a8 (aI ab (aI ad a9))));rw[<-an,<-ai] at a5;unfold aP bO;rw[<-am,<-a8,<-ab,<-ad,<-a9,<-an,<-ai];obtain⟨cn,cp,cq⟩:=a6.gE3;clear am a8 ab ad a9 an ai K N V W bo ar Y av bx a6 E l bn ba az b3 bb b9 b1 aE b4 b5 X b6;go_enter Tryz.func15,Tryz.ntmps15;go_upto_region 1 with fail;rw[a3.O.1,a3.O.2.1,a3.O.2.2,<-c3.O]
 go_upto_region 2 with(go_at_call 25;refine a5.O.mono ?_;rintro e c6 ⟨tag,L,s,rfl,b2⟩;have a:=hD b2;clear b2)
 clear cn cp cq;have E:=a.O.U.J a2.O.2.1 nF;have c2:=E.I 0;simp at c2
 have a7:∀b,b<w.heap.size->b<c6.heap.size/\tag b=0:=λb i=>by
  have f:=y.O.size;have c8:=a.O.U.size;refine⟨by omega,?_⟩
  by_cases m:tag b=0
  ·exact m
  ·have:=a.O.new b m
   omega
 have a4:=hD (CN a.O.h 1 (by decide) (a.O.progs 1) (λn=>by rw[a.O.fresh.fm]) (by rw[a.O.pn];decide) p A c F (λb i=>a7 b (d.O.2.1 b i)) (d.O.1.kp (y.O.trans a.O.U) nG) d.O.2.2.1 d.O.2.2.2.1 d.O.2.2.2.2.1)
 have c9:∀b,b<v.heap.size->tag b=0:=λb i=>by
  by_cases m:tag b=0
  ·exact m
  ·have:=a.O.new b m
   omega
 unfold Dr aP ptr at a4;rw[<-C.O.1] at a4;clear E;unfold ptr
 go_wp2_with (first
  |(go_at_call 26;refine a4.O.mono ?_;rintro e c7 ⟨bz,cr,cv,cw,rfl,bp,aw,ch⟩;have c4:=hD bp;have B:=hD aw;have l:=B.O.only.J (a.O.U.J a2.O.2.2 nF) (λe=>e (c9 _ a2.O.2.2.lt));have bq:=l.I 0;have br:=l.I 1;have bt:=l.I 2;have bv:=l.I 3;simp at bq br bt bv;clear bp aw ch l)
  |fail)
 have cb:∀b,b<w.heap.size->b<c7.heap.size/\bz b=0:=λb i=>by
  have f:=a7 b i;refine⟨lL f.1 B.O.only.size,?_⟩
  by_cases m:bz b=0
  ·exact m
  ·rcases B.O.new b m with e|e
   ·exact absurd f.2 e
   ·omega
 have k:=a.O.fresh;have a1:=hD (CL c4.O 1 (by decide) p (by show kI s.progs 1 p 1=some p;unfold kI;rw[yf rfl]) d.O.2.2.1 x D Z a0 (λb i=>cb b (d.O.2.2.2.2.2.2.1 b i)) ((d.O.2.2.2.2.2.1.kp (y.O.trans a.O.U) nG).kp B.O.only (λb i e=>e (a7 b (d.O.2.2.2.2.2.2.1 b i)).2)) d.O.2.2.2.2.2.2.2.1 d.O.2.2.2.2.2.2.2.2.1 (by show s.T.rw _=none;rw[k.rw]) k.roots a.O.on a.O.qv k.queue (by show(s.T.ks.length:Int)<L.most;rw[k.ks,a.O.most_];exact b7) (by show(x.fuel:Int)+1<=L.most;rw[a.O.most_];exact d.O.2.2.2.2.2.2.2.2.2.2) (by show L.most<=1000000;rw[a.O.most_];omega));unfold vA bO ptr at a1;rw[<-C.O.2.1,<-C.O.2.2.1,<-C.O.2.2.2.1,<-C.O.2.2.2.2] at a1;refine a1.O.mono ?_;rintro e cs ⟨rfl,c1,u,P,S,o⟩;have c5:=hD (aI P (aI S o));clear P S o bq br bt bv c2 k;go_wp2_with fail;go_ret;obtain⟨P,S,o⟩:=c5.O;have b0:=B.O.trans S;have k:=a.O.fresh.progs' (kI s.progs 1 p)
 have cg:∀b,c1 b≠0->w.heap.size<=b:=λb i=>by
  have f:=y.O.size;have c8:=a.O.U.size
  rcases b0.new b i with e|e
  ·have:=a.O.new b e;omega
  ·omega
 obtain⟨ci,ck,cm⟩:=vP (j:=1) (p:=p) (x:=x) k (by show kI s.progs 1 p 1=some p;unfold kI;rw[yf rfl]) a.O.known a.O.away d.O.2.2.2.2.2.2.2.2.2.1 a.O.c0 (by show s.ths.length<=8;rw[a.O.len];exact b8);have X:=d.O.2.2.2.2.2.2.2.2.2.1;rw[X] at P;refine⟨c1,u,{s with progs:=kI s.progs 1 p},?_,⟨P,ci,a.O.known,a.O.away,cm,ck,(y.O.trans a.O.U).trans' b0.only (λb i=>.inr ?_),cg,?_,?_,?_,?_⟩,k,a.O.len,?_,by show kI s.progs 1 p 1=some p;unfold kI;rw[yf rfl]⟩
 ·have:u.pb=L.pb:=o.1
  unfold ptr;rw[this];rfl
 ·have f:=y.O.size
  have:=a.O.new b i;omega
 ·have f:u.n=L.n:=o.2.2.2.1
  have:=a.O.nn;rw[f];omega
 ·have f:u.fn=L.fn:=o.2.2.2.2.1
  rw[f,a.O.fn]
  decide
 ·show(s.nms.length:Int)<=10000
  rw[k.nms]
  decide
 ·have f:u.dn=L.dn:=o.2.2.2.2.2
  show u.dn=s.T.hist;rw[f,a.O.dn];exact k.hist.symm
 ·have f:u.most=L.most:=o.2.1
  rw[f,a.O.most_]
end
end
section
open Go.RowKit Go.Maps Go.Sort
def iV(x:iB):Bool:=decide ((x.r.sa:Int)<=2)||decide ((x.r.sa:Int)=4)
theorem AE(x:iB)(w:World):Calls Tryz.prog 78 #[.agg (iG x).toArray] w λl w'=>l=.returned (.bool (iV x))/\ac w w':=by
 unfold iV;unfold iG jf;generalize (x.r.sa:Int)=st;obtain⟨f,b⟩:=eX (w.alloc (.cells #[.int .u64 x.n.job,.string (sB x.n.M),.string (sB x.r.tk.M),.int .i64 x.r.tk.fn,.slice x.A x.r.tk.args.length x.c,.int .i64 (x.r.tk.fuel:Int),.int .u8 st,.int .i64 x.r.opn,.int .i64 x.r.res.v,.int .i64 x.r.res.e] 60));have j:ac w f:=by rw[b];exact(aa.refl _ w).alloc _
 have g:ae f w.heap.size 60 #[.int .u64 x.n.job,.string (sB x.n.M),.string (sB x.r.tk.M),.int .i64 x.r.tk.fn,.slice x.A x.r.tk.args.length x.c,.int .i64 (x.r.tk.fuel:Int),.int .u8 st,.int .i64 x.r.opn,.int .i64 x.r.res.v,.int .i64 x.r.res.e]:=by rw[b];exact bN
 have k:=g.I 6;simp at k;have d:=hD j;have e:=hD b.symm;clear j g b
 by_cases i:st<=2
 ·simp only[i,decide_true,Bool.true_or]
  go_enter Tryz.func78,Tryz.ntmps78;go_upto_region 1 with fail;rw[e.O];go_wp2_with fail;go_ret;exact⟨rfl,d.O⟩
 ·simp only[i,decide_false,Bool.false_or]
  by_cases a:st=4
  ·subst a
   simp only[decide_true];go_enter Tryz.func78,Tryz.ntmps78;go_upto_region 1 with fail;rw[e.O];go_wp2_with fail;go_ret;exact⟨rfl,d.O⟩
  ·have m:(st==4)=false:=bF a
   simp only[a,decide_false];have o:¬st=4:=a;go_enter Tryz.func78,Tryz.ntmps78;go_upto_region 1 with fail;rw[e.O];go_wp2_with fail;go_ret;exact⟨rfl,d.O⟩
theorem Bt{w:World}{g n d base:Nat}{l:List iB}(e:w.ownsRow base 60 10 (.slice (some ⟨g,0,none⟩) n d) l.length (l.flatMap iG)){k:Nat}{x:iB}(c:l[k]?=some x):∀(j:Nat) (v:Value),(iG x)[j]?=some v->w.cell? ⟨g,k*10+j,none⟩=some v:=by
 intro j v hv
 have f:j<10:=by
  have:=(gS hv).1
  rwa [nD] at this
 have i:k<l.length:=(gS c).1;obtain⟨y,a,b⟩:=iy iG nD l (k*10+j) (by omega);rw[show(k*10+j) / 10=k by omega,c] at a
 cases a
 rw[show(k*10+j) % 10=j by omega,hv] at b;have:=World.ownsRow.cells e (g:=g) rfl (k*10+j) v b;rw[bw,yq] at this;exact this
theorem Cp(g c base:Nat)(l:List iB)(w:World)(D:w.ownsRow base 60 10 (.slice (some ⟨g,0,none⟩) l.length c) l.length (l.flatMap iG))(t:l.length<=1000):
 Calls Tryz.prog 134 #[.slice (some ⟨g,0,none⟩) l.length c,.func (.func 78) #[] #[]] w λe w'=>e=.returned (.int .i64 (fO iV l 0))/\ac w w':=by
 obtain⟨r,x⟩:=eX (fO iV l 0);rw[<-x];have Q:=hD x;have N:=hD D;obtain⟨n,u⟩:=eX l.length;rw[<-u] at t ⊢;have B:=hD u;have P:=hD t;clear x D u t;go_enter Tryz.func134,Tryz.ntmps134;go_wp2_with fail
 go_loopw [8] (λi wr=>∃k:Nat,k<=n/\i=.int .i64 k/\fO iV (l.drop k) k=r/\ac w wr) (λi _=>n-(intOf i).toNat)
 case atStart=>exact⟨0,yx _,rfl,Q.O.symm,oR⟩
 case round=>
  obtain⟨k,S,rfl,d,j⟩:=hrel
  by_cases b:k<n
  ·have X:(0:Int)<=(k:Int):=dB k
   have R:(k:Int)<(n:Int):=cy b;have F:k<l.length:=by rw[<-B.O];exact b
   have E:l[k]?=some l[k]:=gG F;have a:=Bt (j.owns N.O nG) E;rw[yM F] at d;unfold fO at d;generalize l[k] =y at*;have T:=a 0 _ rfl;have Y:=a 1 _ rfl;have Z:=a 2 _ rfl;have a0:=a 3 _ rfl;have a1:=a 4 _ rfl;have a2:=a 5 _ rfl;have a3:=a 6 _ rfl;have a4:=a 7 _ rfl;have a5:=a 8 _ rfl;have a6:=a 9 _ rfl;rw[yW] at T;obtain⟨p,q⟩:=eX (iV y:Bool);have m:(if p=true then(k:Int) else fO iV (l.drop (k+1)) (k+1))=r:=by rw[q];exact d
   have z:Hd (∀W,Calls Tryz.prog 78 #[.agg #[.int .u64 y.n.job,.string (sB y.n.M),.string (sB y.r.tk.M),.int .i64 y.r.tk.fn,.slice y.A y.r.tk.args.length y.c,.int .i64 (y.r.tk.fuel:Int),.int .u8 (y.r.sa:Int),.int .i64 y.r.opn,.int .i64 y.r.res.v,.int .i64 y.r.res.e]] W λe w'=>e=.returned (.bool p)/\ac W w'):=hD λW=>by rw[q];exact AE y W
   have H:wrap64 ((k:Int)+1)=(k:Int)+1:=cG b P.O;have o:=hD j;clear d j q E a;go_wp2_with fail;refine(z.O _).mono ?_;rintro e V ⟨rfl,K⟩;have C:=hD (o.O.trans K);clear K z
   cases p
   ·have f:Hd (fO iV (l.drop (k+1)) (k+1)=r):=hD m
    clear m;go_wp2_with fail;go_roundw
    case rel=>exact⟨k+1,b,by first|exact cK k|exact cH H,f.O,C.O⟩
    case measure=>first|exact au rfl b|exact au H b
   ·have f:Hd ((k:Int)=r):=hD m
    clear m;go_wp2_with fail;go_ret;exact⟨by rw[<-f.O];rfl,C.O⟩
  ·have R:¬(k:Int)<(n:Int):=λe=>b (yB.1 e)
   have:k=n:=yT S (yA b);subst this;rw[B.O,zq] at d;have f:=hD d;have o:=hD j;clear d j;go_wp2_with fail;go_ret;exact⟨by rw[<-f.O];rfl,o.O⟩
theorem Ck(g c base:Nat)(l:List iB)(w:World)(b:w.ownsRow base 60 10 (.slice (some ⟨g,0,none⟩) l.length c) l.length (l.flatMap iG))(d:l.length<=1000):
 Calls Tryz.prog 79 #[.slice (some ⟨g,0,none⟩) l.length c,.func (.func 78) #[] #[]] w λa w'=>a=.returned (.bool (l.any iV))/\ac w w':=by
 have f:=hD (Cp g c base l w b d);rw[<-nf _ l 0];generalize fO iV l 0=r at*;generalize l.length=n at*;clear b d;go_enter Tryz.func79,Tryz.ntmps79;go_wp2_with fail;refine f.O.mono ?_;rintro a j ⟨rfl,e⟩;have i:=hD e;clear e;go_wp2_with fail;go_ret;exact⟨rfl,i.O⟩
section
variable {G:dx}{w w':World}{tag tag':Nat->Nat}{L L':cP}{s s':PS}{n:Nm}{r:aG}
theorem kZ.row{b:Ending}(k:kZ w w' s.T.rw b)(q:s.T.rw n≠none):∃(g c:Nat) (l:List iB),b=.returned (.slice (some ⟨g,0,none⟩) l.length c)/\w'.ownsRow w.heap.size 60 10 (.slice (some ⟨g,0,none⟩) l.length c) l.length (l.flatMap iG)/\ac w w'/\(l.map (·.n)).Nodup/\(∀x∈l,s.T.rw x.n=some x.r)/\(∀n,s.T.rw n≠none->n∈l.map (·.n)):=by
 obtain⟨v,l,d,a,m,o,p,e⟩:=k
 rcases a.2 with⟨_,j⟩|⟨g,f,cur,i,_⟩
 ·have:=e n q
  rw[yr j] at this;simp at this
 ·rw[i] at d a
  exact⟨g,f,l,d,a,m,o,p,e⟩
theorem si(a:aX w tag L s)(i:s.T.rw n≠none)(g:s.T.ks.length<=1000):
 Calls Tryz.prog 21 #[ptr L.pb] w λc w'=>kZ w w' s.T.rw c:=by
 have d:=(a.p1 (by decide)).2;have o:=d.I 2;have p:=d.I 4;simp[bB,ptr] at o p;have f:=hD (jJ a);have m:=hD (uj (a.p2 (by decide)) (λb q=>a.tlt b (by rw[q];decide)) i (lT g (by decide)));unfold ptr at f ⊢;clear a d i g;go_enter Tryz.func21,Tryz.ntmps21
 go_wp2_with (first
  |(go_at_call 44;refine f.O.mono ?_;rintro c t ⟨rfl,rfl⟩)
  |(go_at_call 49;refine m.O.mono ?_;rintro c t j;have e:=j;obtain⟨v,l,rfl,_⟩:=j;have k:=hD e;clear e)
  |fail)
 go_ret;exact k.O
theorem Cn{l:List iB}(d:∀x∈l,s.T.rw x.n=some x.r)(g:∀n,s.T.rw n≠none->n∈l.map (·.n))(j:aH G s (λ_=>False)):l.any iV=false↔s.idle:=by
 rw[zI];constructor
 ·intro b n r c
  obtain⟨x,a,f⟩:=yL.1 (g n (by rw[c];simp));have e:=d x a;rw[f,c] at e
  cases e
  have i:=b x a;obtain⟨p,y,_,_,k⟩:=(j.t.row n _ c).node;have m:=k.lo;simp only[iV,Bool.or_eq_true,zR,not_or] at i;omega
 ·intro b x a
  have:=b _ _ (d x a);simp only[iV,Bool.or_eq_true,zR,not_or];omega
theorem sf(d:aX w tag L s)(f:aH G s (λ_=>False))(k:s.T.rw n≠none)(j:s.T.ks.length<=1000):
 Calls Tryz.prog 38 #[ptr L.pb] w λe w'=>∃b:Bool,e=.returned (.bool b)/\(b=true↔s.idle)/\ac w w':=by
 have m:=(d.p1 (by decide)).2;have V:=m.I 2;have W:=m.I 4;simp[bB,ptr] at V W;have q:=hD (jJ d);have R:=hD (uj (d.p2 (by decide)) (λb X=>d.tlt b (by rw[X];decide)) k (lT j (by decide)));have P:=hD k;have p:=hD (aI j f.t);have S:=hD f;unfold ptr at q ⊢;clear d m k j f;go_enter Tryz.func38,Tryz.ntmps38
 go_wp2_with (first
  |(go_at_call 44;refine q.O.mono ?_;rintro e K ⟨rfl,rfl⟩)
  |(go_at_call 49;refine R.O.mono ?_;rintro e K A;obtain⟨g,c,l,rfl,B,C,D,E,F⟩:=kZ.row A P.O;have a:=hD (aI B (aI C (aI D (aI E F))));clear B C D E F A)
  |fail)
 have z:l.length<=1000:=by
  have v:=gY (l.map (·.n)) s.T.ks a.O.2.2.1 λa1 Y=>by
   obtain⟨x,Z,rfl⟩:=yL.1 Y;exact(p.O.2.ks _).2 (by rw[a.O.2.2.2.1 x Z];simp)
  rw[zY] at v;exact lT v p.O.1
 have o:=hD (Ck g c _ l K a.O.1 z);obtain⟨u,i⟩:=eX (l.any iV);rw[<-i] at o;have y:u=false↔s.idle:=by rw[i];exact Cn a.O.2.2.2.1 a.O.2.2.2.2 S.O
 have N:=hD y;clear z i y;refine o.O.mono ?_;rintro e a0 ⟨rfl,H⟩;have Q:=hD (a.O.2.1.trans H);clear H;go_wp2_with fail;go_ret;exact⟨!u,rfl,by rw[<-N.O];simp,Q.O⟩
end
end
end Go.Proofs.YtmdocplknceilaaGreat
