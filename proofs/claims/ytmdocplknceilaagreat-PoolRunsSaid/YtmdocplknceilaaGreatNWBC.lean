import Derived.Test.YtmdocplknceilaaGreatNWBB
set_option linter.all false
set_option maxRecDepth 100000
set_option maxHeartbeats 2000000
namespace Go.Proofs.YtmdocplknceilaaGreat
section
open Go.RowKit Go.Maps
def BH(w w':World)(p:List ah)(t:aj)(e:Ending):Prop:=∃fb L,e=.returned (.tuple #[.pointer (some ⟨fb,0,none⟩),.int .i64 0])/\aZ w' (bC w w') fb L p (Fr.begun p t)/\ac w w'
theorem AL{fn n al fl:Nat}{xa:Int}(b:fn<n)(a:(al:Int)=xa)(c:fl<=65536):(0:Int)<=(fn:Int)/\(fn:Int)<(n:Int)/\decide ((fn:Int)<0)=false/\decide ((n:Int)<=(fn:Int))=false/\((al:Int) !=xa)=false/\decide ((fl:Int)<0)=false/\decide ((65536:Int)<(fl:Int))=false:=by
 refine⟨by omega,by omega,yd (by omega),yd (by omega),by simp[bne,a],yd (by omega),yd (by omega)⟩
theorem uC(p:List ah)(A K:Option Addr)(c S:Nat)(F cm:Nat->Prop)(t:aj)(w:World)(b0:dg w F A p)(d8:∀b,F b->b<w.heap.size)(ds:bU p=0)(b1:gC p)(cb:∀x∈p,nU x)(d9:aL w cm K t.args)(z:bW p t):
 Calls Tryz.prog 62 #[aP p A c,.agg (bO t K S)] w λg w'=>BH w w' p t g:=by
 obtain⟨n,N⟩:=eX p.length;obtain⟨al,b4⟩:=eX t.args.length;obtain⟨fn,am⟩ :∃fn:Nat,t.fn=(fn:Int):=ym z.fn0;obtain⟨x,G⟩:=eX (bG p t.fn);have dw:p[fn]?=some x:=by rw[G,<-(gk z.fn0 z.fn1).2,am,yo]
 have cd:=b1.fn z.fn0 z.fn1;rw[<-G] at cd;have dl:t.fuel<=65536:=z.fl;have dr:n<=16:=by rw[N];exact b1.p16
 obtain⟨gn,go,f5,f6,f8,f9,fa⟩:=AL (fn:=fn) (n:=n) (al:=al) (xa:=x.args) (fl:=t.fuel) (by have:=z.fn1;rw[am,<-N] at this;exact yB.1 this) (by rw[b4,G];exact z.al) dl;obtain⟨a9,ad⟩:=eX (w.alloc (.cells #[.slice A n c] 24));obtain⟨r,b2⟩:=eX (a9.alloc (.cells #[.string (sB t.M),.int .i64 (fn:Int),.slice K al S,.int .i64 (t.fuel:Int)] 30));have e8:ac w a9:=by rw[ad];exact(aa.refl _ w).alloc _
 have cg:ac a9 r:=by rw[b2];exact oR.alloc _
 obtain⟨d,an⟩:=eX w.heap.size;have bx:ae r d 24 #[.slice A n c]:=cg.J (by rw[ad,an];exact bN) nF;have bz:ae r (d+1) 30 #[.string (sB t.M),.int .i64 (fn:Int),.slice K al S,.int .i64 (t.fuel:Int)]:=by rw[b2];have:=ae.new a9 30 #[.string (sB t.M),.int .i64 (fn:Int),.slice K al S,.int .i64 (t.fuel:Int)];rw[show a9.heap.size=d+1 by rw[ad,an];simp] at this;exact this
 have R:=e8.trans cg;obtain⟨b,f,B,gc,fj,ba,cf,_,_⟩:=b0.at_ dw;subst fj;have dk:b<d:=by rw[an];exact block_lt_of_cell ba
 have ce:=(R.I (p:=⟨b,f+fn*3,none⟩) (block_lt_of_cell ba) nF).trans ba;have e7:=(R.I (p:=⟨b,f+fn*3+1,none⟩) (block_lt_of_cell cf) nF).trans cf
 have cv:Hd (Calls Tryz.prog 58 #[.agg #[.slice (some ⟨b,f,none⟩) n c]] r λg w'=>∃fn g2,g=.returned (.tuple #[.int .i64 0,.int .i64 fn,.int .i64 g2])/\ac r w'):=hD (by
  have:=vf p (some ⟨b,f,none⟩) c F r (b0.U R) (λb e=>lL (d8 b e) R.size) (by rw[<-N];exact lT dr (by decide)) cb;unfold aP sP at this;rw[<-N,ds] at this;exact this)
 have ek:=hD (lK t.M ⟨z.pth.1,z.pth.2⟩)
 have V:Hd (∀W,ac r W->ac r W/\W.cell? ⟨d,0,none⟩=some (.slice (some ⟨b,f,none⟩) n c)/\W.cell? ⟨d+1,0,none⟩=some (.string (sB t.M))/\W.cell? ⟨d+1,1,none⟩=some (.int .i64 (fn:Int))/\W.cell? ⟨d+1,2,none⟩=some (.slice K al S)/\W.cell? ⟨d+1,3,none⟩=some (.int .i64 (t.fuel:Int))/\W.cell? ⟨b,f+fn*3,none⟩=some (.int .i64 x.args)):=hD λW E=>by
  have ck:=E.J bx nF;have Q:=E.J bz nF;exact⟨E,ck.I 0,Q.I 0,Q.I 1,Q.I 2,Q.I 3,(E.I (p:=⟨b,f+fn*3,none⟩) (block_lt_of_cell ce) nF).trans ce⟩
 have ee:=hD bx;have ef:=hD bz;have cw:=hD R;have eq:=hD (b0.U R);have eL:=hD (d9.kp R nG);have m:=hD (aI N (aI b4 (aI am G)));have cs:=hD an;have T:=hD cd;have bq:=hD z;have cB:=hD (aI b1 cb);have cq:Hd (decide (n<=fn)=false/\decide (65536<t.fuel)=false):=hD ⟨yd (by omega),yd (by omega)⟩;have bp:=hD e7;have el:=hD dk;have d1:=hD (show((w.alloc (.cells #[.slice (some ⟨b,f,none⟩) n c] 24)).alloc (.cells #[.string (sB t.M),.int .i64 (fn:Int),.slice K al S,.int .i64 (t.fuel:Int)] 30))=r by rw[b2,ad]);unfold aP bO;rw[<-N,<-b4,am];obtain⟨g4,g8,g5,g6,ci,g7,g0⟩:=V.O r oR;clear b0 d8 ds b1 cb d9 z N b4 am G dw cd dl dr ad b2 e8 cg an bx bz R ce e7 ba cf dk g4;go_enter Tryz.func62,Tryz.ntmps62;go_upto_region 1 with fail;rw[d1.O,<-cs.O];clear d1;go_wp2_with fail;refine cv.O.mono ?_;rintro g f3 ⟨ge,gf,rfl,e9⟩;have a2:=hD e9;clear e9 cv g8 g5 g6 ci g7 g0;go_upto_region 4 with fail;have fk:=V.O f3 a2.O;have f7:decide (n<=fn)=false:=cq.O.1;have fb:decide (65536<t.fuel)=false:=cq.O.2
 go_region_held3 (λw'=>ac r w'/\w'.cell? ⟨d,0,none⟩=some (.slice (some ⟨b,f,none⟩) n c)/\w'.cell? ⟨d+1,0,none⟩=some (.string (sB t.M))/\w'.cell? ⟨d+1,1,none⟩=some (.int .i64 (fn:Int))/\w'.cell? ⟨d+1,2,none⟩=some (.slice K al S)/\w'.cell? ⟨d+1,3,none⟩=some (.int .i64 (t.fuel:Int))/\w'.cell? ⟨b,f+fn*3,none⟩=some (.int .i64 x.args))
  (first|with_reducible exact V.O _ a7.O|with_reducible exact V.O _ (aa.drew a7.O)|with_reducible exact V.O _ a2.O|with_reducible exact V.O _ (aa.drew a2.O)|fail)
  (first|(go_at_call 112;refine(ek.O _).mono ?_;rintro g bt ⟨rfl,ea⟩;have a7:Hd (ac r bt):=hD (by first|exact aa.trans a2.O ea|exact aa.trans (aa.drew a2.O) ea))|fail)
 have d2:=a7;have ci:=(V.O bt a7.O).2.2.2.2.1;have c5:=mU K t.args S cm bt (eL.O.kp a7.O nG) (by have:=T.O.ar;have:=T.O.r16;have:=bq.O.al;rw[<-m.O.2.2.2] at this;omega);rw[<-m.O.2.1] at c5;have cn:=hD c5;clear fk c5 f5 f6 f8 f9 fa f7 fb a2;go_wp2_with fail;refine cn.O.mono ?_;rintro g bv ⟨q,u,rfl,da,ch⟩;have a1:Hd (ac r bv):=hD (d2.O.trans ch);have b5:=a1.O.J ef.O nF;have aw:=b5.I 2;have g3:=b5.fz 2;simp at aw;have bn:=hD b5;have es:=hD da;have gb:=hD ch;clear da ch b5 ci cn;go_upto_region 7 with fail;obtain⟨a,b3⟩:=eX (bv.setCell ⟨d+1,2,none⟩ (.slice q al u));rw[<-b3];have Y:aa (λb=>b=d+1) bv a:=by rw[b3];exact af _ _ _ _
 have c4:ae a (d+1) 30 #[.string (sB t.M),.int .i64 (fn:Int),.slice q al u,.int .i64 (t.fuel:Int)]:=by rw[b3];exact bn.O.s_ 2 _
 have dv:ae a d 24 #[.slice (some ⟨b,f,none⟩) n c]:=Y.J (a1.O.J ee.O nF) (by omega);have b6:a.cell? ⟨b,f+fn*3+1,none⟩=some (.int .i64 x.rg):=(Y.I (p:=⟨b,f+fn*3+1,none⟩) (lL (block_lt_of_cell bp.O) a1.O.size) (by have:=el.O;simp;omega)).trans ((a1.O.I (p:=⟨b,f+fn*3+1,none⟩) (block_lt_of_cell bp.O) nF).trans bp.O);have d4:Hd (ac w a):=hD ((cw.O.trans a1.O).trans' Y (λb e=>.inr (by rw[e,cs.O];exact yX _)));have ex:Hd (aL a (bC w a) q t.args):=hD ((es.O.by_type Y bn.O (by decide)).mo λb e=>⟨lT (lT cw.O.size d2.O.size) e.1,lL e.2 Y.size⟩);have en:Hd (dg a F (some ⟨b,f,none⟩) p):=hD ((eq.O.U a1.O).by_type Y bn.O (by decide) (by decide));obtain⟨rl,b8⟩ :∃rl:Nat,x.rg=(rl:Int):=ym (by have:=T.O.a0;have:=T.O.ar;omega);have e0:rl<=16:=by have:=T.O.r16;rw[b8] at this;omega
 rw[b8] at b6
 have L:Hd (∀W,ac a W->ac a W/\W.cell? ⟨d,0,none⟩=some (.slice (some ⟨b,f,none⟩) n c)/\W.cell? ⟨d+1,0,none⟩=some (.string (sB t.M))/\W.cell? ⟨d+1,1,none⟩=some (.int .i64 (fn:Int))/\W.cell? ⟨d+1,2,none⟩=some (.slice q al u)/\W.cell? ⟨d+1,3,none⟩=some (.int .i64 (t.fuel:Int))/\W.cell? ⟨b,f+fn*3+1,none⟩=some (.int .i64 (rl:Int))):=hD λW E=>by
  have ck:=E.J dv nF;have Q:=E.J c4 nF;exact⟨E,ck.I 0,Q.I 0,Q.I 1,Q.I 2,Q.I 3,(E.I (p:=⟨b,f+fn*3+1,none⟩) (block_lt_of_cell b6) nF).trans b6⟩
 obtain⟨o,c3⟩:=eX ((List.replicate rl (Value.int .i64 0)).toArray);obtain⟨fx,dp,e4,e5,e6⟩:=mI
 have dq:∀W,(Instr.makeSlice 25 (.int .i64 (rl:Int)) (.int .i64 (rl:Int))).run Tryz.prog W=.ok (.slice (some ⟨W.heap.size,0,none⟩) rl rl) (W.alloc (.cells o 2)):=λW=>by
  have:=kY (P:=Tryz.prog) 25 2 fx (.int .i64 0) Tryz.underlying25 dp e4 .i64 .i64 rl rl (lR) (by rw[e6];omega) (by omega) W;rw[e5,Nat.mul_one] at this;rw[this,c3]
  congr 3
  apply Yd.1;rw[show(Value.int .i64 0).cells= #[.int .i64 0] from rfl,toList_madeCells_one]
 have f0:=hD dq
 have cp:Hd (∀W,ac a W->Calls Tryz.prog 114 #[.agg #[.slice (some ⟨b,f,none⟩) n c]] W λg w'=>∃i s,g=.returned (.agg #[.slice i n s])/\dg w' (bC W w') i p/\ac W w'):=hD λW E=>by
  have:=vH (some ⟨b,f,none⟩) p c F W (en.O.U E) (by have:=cB.O.1.p16;omega) (λy fw=>(cB.O.2 y fw).1);unfold aP oO aP at this;rw[<-m.O.1] at this;exact this
 have eg:=hD c4;have az:=hD (aI b8 e0);have br:=hD c3;have fm:=L.O a oR;have a6:Hd (ac a (a.alloc (.cells o 2))):=hD (oR.alloc _);have ei:Hd (ae (a.alloc (.cells o 2)) a.heap.size 2 o):=hD bN;clear aw g3 b3 Y c4 dv b6 b8 e0 c3 dp e4 e5 e6 f0
 go_cut [9] (λs9 wx=>∃a3 D i s,s9=.pointer (some ⟨a3,0,none⟩)/\bC a wx a3/\bC a wx D/\ae wx a3 232 #[.slice i n s,.string (sB t.M),.int .i64 (fn:Int),.slice q al u,.int .i64 (t.fuel:Int),.slice (some ⟨D,0,none⟩) rl rl,.int .i64 (t.fuel:Int),.int .i64 0,.slice none 0 0,.int .i64 0,.pointer none,.pointer none]/\ae wx D 2 o/\dg wx (bC a wx) i p/\ac a wx)
 case first=>
  go_region_held3 (λw'=>ac a w'/\w'.cell? ⟨d,0,none⟩=some (.slice (some ⟨b,f,none⟩) n c)/\w'.cell? ⟨d+1,0,none⟩=some (.string (sB t.M))/\w'.cell? ⟨d+1,1,none⟩=some (.int .i64 (fn:Int))/\w'.cell? ⟨d+1,2,none⟩=some (.slice q al u)/\w'.cell? ⟨d+1,3,none⟩=some (.int .i64 (t.fuel:Int))/\w'.cell? ⟨b,f+fn*3+1,none⟩=some (.int .i64 (rl:Int)))
   (first|with_reducible exact L.O _ H.O|with_reducible exact L.O _ (aa.alloc H.O _)|with_reducible exact L.O _ (aa.alloc (aa.alloc H.O _) _)|with_reducible exact L.O _ (aa.drew H.O)|with_reducible exact L.O _ a6.O|with_reducible exact L.O _ (aa.drew a6.O)|with_reducible exact L.O _ (aa.drew oR)|with_reducible exact L.O _ oR|fail)
   (first
    |(go_at_call 114;refine(cp.O a.drew (aa.drew oR)).mono ?_;rintro g l ⟨i,s,rfl,ai,a5⟩;have H:Hd (ac a l):=hD (aa.trans (aa.drew oR) a5);have bo:=hD ai;clear ai a5)
    |(go_at_call 114;refine(cp.O _ (aa.drew a6.O)).mono ?_;rintro g l ⟨i,s,rfl,ai,a5⟩;have H:Hd (ac a l):=hD (aa.trans (aa.drew a6.O) a5);have d3:=hD (a5.J ei.O nF);have bo:=hD ai;clear ai a5)
    |fail)
  ·go_wp2_with fail
   go_meet
   case rel=>
    have bk:=(aa.refl (λ_=>False) l).alloc (.cells o 2);have C:=(aa.refl (λ_=>False) (l.alloc (.cells o 2))).alloc (.cells #[.slice i n s,.string (sB t.M),.int .i64 (fn:Int),.slice q al u,.int .i64 (t.fuel:Int),.slice (some ⟨l.heap.size,0,none⟩) rl rl,.int .i64 (t.fuel:Int),.int .i64 0,.slice none 0 0,.int .i64 0,.pointer none,.pointer none] 232);have b9:=H.O.size;have e:=ae.new (l.alloc (.cells o 2)) 232 #[.slice i n s,.string (sB t.M),.int .i64 (fn:Int),.slice q al u,.int .i64 (t.fuel:Int),.slice (some ⟨l.heap.size,0,none⟩) rl rl,.int .i64 (t.fuel:Int),.int .i64 0,.slice none 0 0,.int .i64 0,.pointer none,.pointer none];rw[World.size_alloc] at e;exact⟨l.heap.size+1,l.heap.size,i,s,rfl,⟨zJ b9,e.lt⟩,⟨b9,lL (ae.new l 2 o).lt C.size⟩,e,C.J (ae.new l _ o) nF,((bo.O.U bk).U C).mo λb e=>by first|exact(e.up bk.size).up C.size|exact((e.dn (lR)).up bk.size).up C.size,(H.O.trans bk).trans C⟩
  ·go_wp2_with fail
   go_meet
   case rel=>
    have C:=(aa.refl (λ_=>False) l).alloc (.cells #[.slice i n s,.string (sB t.M),.int .i64 (fn:Int),.slice q al u,.int .i64 (t.fuel:Int),.slice (some ⟨a.heap.size,0,none⟩) rl rl,.int .i64 (t.fuel:Int),.int .i64 0,.slice none 0 0,.int .i64 0,.pointer none,.pointer none] 232);have b9:=H.O.size;have e:=ae.new l 232 #[.slice i n s,.string (sB t.M),.int .i64 (fn:Int),.slice q al u,.int .i64 (t.fuel:Int),.slice (some ⟨a.heap.size,0,none⟩) rl rl,.int .i64 (t.fuel:Int),.int .i64 0,.slice none 0 0,.int .i64 0,.pointer none,.pointer none];exact⟨l.heap.size,a.heap.size,i,s,rfl,⟨b9,e.lt⟩,⟨lR,lL d3.O.lt C.size⟩,e,C.J d3.O nF,(bo.O.U C).mo λb e=>(e.dn a6.O.size).up C.size,H.O.trans C⟩
 case rest=>
  obtain⟨a3,D,i,s,rfl,d5,d7,c6,c9,dm,bf⟩:=hcut;have dd:=bf.J eg.O nF;have ec:=c6.I 5;have aw:=dd.I 2;simp at ec aw;obtain⟨W8,c2⟩:=eX wc.drew;have bb:ac wc W8:=by rw[c2];exact oR.drew
  have b7:=bb.J c9 nF;have c1:=(ex.O.kp bf nG).kp bb nG
  have fq:∃W9,(∀Z,(Builtin.copy_ #[25,25] Z #[.slice (some ⟨D,0,none⟩) rl rl,.slice q al u]).run Tryz.prog W8=.ok (goInt al) W9)/\aa (λb=>b=D) W8 W9/\ae W9 D 2 ((gW p t.fn t.args).map (Value.int .i64)).toArray:=by
   have fp:(gW p t.fn t.args).map (Value.int .i64)=t.args.map (Value.int .i64)++List.replicate (rl-al) (.int .i64 0):=by
    unfold gW;rw[<-m.O.2.2.2,az.O.1,<-m.O.2.1,yo];simp
   have e2:(Tryz.prog.info? 2).map (·.size)=some 1:=by kernel_rfl
   have ft:al<=rl:=by have c0:=bq.O.al;have a4:=T.O.ar;rw[<-m.O.2.2.2,<-m.O.2.1] at c0;rw[az.O.1] at a4;omega
   rw[fp]
   by_cases ab:al=0
   ·refine⟨W8,λZ=>?_,oR,?_⟩
    ·have:=run_copy_none (P:=Tryz.prog) W8 25 25 Z 2 (some ⟨D,0,none⟩) q rl rl al u Tryz.underlying25 e2 (by rw[ab];simp)
     rw[this,ab];rfl
    ·have fo:t.args= []:=yr (by rw[<-m.O.2.1];exact ab)
     rw[fo,ab,Nat.sub_zero,Yk,List.nil_append,<-br.O];exact b7
   ·have c7:t.args≠[]:=λg=>ab (by rw[m.O.2.1,g];rfl)
    rcases c1 with⟨_,g⟩|⟨f4,g1,fd,_,ff⟩
    ·exact absurd g c7
    ·have fr:o.toList=List.replicate rl (.int .i64 0):=by rw[br.O]
     have av:(t.args.map (Value.int .i64)).length=al:=by rw[zY,m.O.2.1]
     have X:=λZ=>run_copy_row (P:=Tryz.prog) W8 25 25 Z 2 D 0 rl rl ⟨f4,g1,none⟩ al u o 2 (t.args.map (Value.int .i64)) Tryz.underlying25 e2 b7 (by rw[av];exact(Nat.min_eq_left ft).symm) (λj v hv=>by
      rw[yJ] at hv
      cases G:t.args[j]? with
      |none=>rw[G] at hv;cases hv
      |some y=>
       rw[G] at hv
       cases hv
       rw[bw];have fs:=(gS G).1;have a4:=(ff j fs).2;rw[yc,G] at a4;exact a4) (by rw[av,br.O];simp;omega) (λv hv=>by obtain⟨y,_,rfl⟩:=yL.1 hv;rfl)
     have e1:(o.toList.take 0++t.args.map (Value.int .i64)++o.toList.drop (0+(t.args.map (Value.int .i64)).length))=t.args.map (Value.int .i64)++List.replicate (rl-al) (.int .i64 0):=by
      rw[av,fr];simp
     rw[av] at X;rw[av] at e1;rw[e1] at X;refine⟨W8.setRow D (t.args.map (Value.int .i64)++List.replicate (rl-al) (Value.int .i64 0)).toArray,λZ=>(by rw[fd];exact X Z),⟨rfl,rfl,rfl,by simp[World.setRow],λk gm N=>setRow_other _ _ _ _ N⟩,setRow_heap _ _ _ _ _ _ b7⟩
  obtain⟨W9,X,eb,db⟩:=fq;have em:=hD X;have ej:=hD db;have aE:=hD eb;have a8:=hD bb;have cr:=hD c6;have er:=hD dm;have f2:=hD bf;have bm:=hD (aI d5 d7);have d0:=hD c9;have f1:=hD c2.symm;have g9:=hD c1;clear X db eb bb c6 dm bf d5 d7 c9 c2 c1 b7 dd dq fm;go_wp2_with fail
  go_still_tail 6,(by kernel_rfl)
  change wpList _ _ _ _ _ wc.drew;rw[f1.O];have X:=em.O;clear ec aw;go_wp2_with fail
  go_ret2
  have c7:a3≠D:=λg=>ae.ne_ cr.O d0.O (by decide) g
  have fv:wc.heap.size<=W9.heap.size:=lT a8.O.size aE.O.size;have e3:w.heap.size<=a.heap.size:=d4.O.size;have c8:∀b,bC a wc b->bC w W9 b:=λb e=>(e.dn e3).up fv
  have dz:(gW p t.fn t.args).length=rl:=by
   unfold gW;have c0:=bq.O.al;have a4:=T.O.ar;rw[<-m.O.2.2.2] at c0;rw[<-m.O.2.2.2,az.O.1,yo,yk,List.length_replicate];rw[az.O.1] at a4;omega
  refine⟨a3,⟨i,s,.slice q al u,(t.fuel:Int),D,rl,.slice none 0 0,.pointer none,.pointer none⟩,rfl,⟨c8 _ bm.O.1,c8 _ bm.O.2,λb g=>(by cases g),?_,?_,ej.O,⟨(by rfl),.inl ⟨rfl,rfl⟩⟩,rfl,λ_=>rfl,?_⟩,?_⟩
  ·have:=aE.O.J (a8.O.J cr.O nF) c7
   unfold cY Fr.begun;simp only;rw[<-m.O.1,dz,m.O.2.2.1];exact this
  ·exact(((er.O.U a8.O).by_type aE.O (a8.O.J d0.O nF) (by decide) (by decide))).mo c8
  ·show(gW p t.fn t.args).length<=rl
   rw[dz];exact lR
  ·exact((d4.O.trans f2.O).trans a8.O).trans' aE.O (λb e=>.inr (by rw[e];exact lT e3 bm.O.2.1))
end
end Go.Proofs.YtmdocplknceilaaGreat
