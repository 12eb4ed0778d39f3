import Derived.Test.YtmdocplknceilaaGreatRWAV
set_option linter.all false
set_option maxRecDepth 100000
set_option maxHeartbeats 4000000
namespace Go.Proofs.YtmdocplknceilaaGreat
section
open Go.RowKit Go.Maps
def Ch(w w':World)(p:List ah)(t:aj)(e:Ending):Prop:=∃fb L,e=.returned (.tuple #[.pointer (some ⟨fb,0,none⟩),.int .i64 0])/\aZ w' (bl w w') fb L p (Fr.begun p t)/\ac w w'
theorem Bk{fn n al fl:Nat}{xa:Int}(b:fn<n)(a:(al:Int)=xa)(c:fl<=65536):(0:Int)<=(fn:Int)/\(fn:Int)<(n:Int)/\decide ((fn:Int)<0)=false/\decide ((n:Int)<=(fn:Int))=false/\((al:Int) !=xa)=false/\decide ((fl:Int)<0)=false/\decide ((65536:Int)<(fl:Int))=false:=by
 refine⟨by omega,by omega,yd (by omega),yd (by omega),by simp[bne,a],yd (by omega),yd (by omega)⟩
theorem uY(p:List ah)(A K:Option Addr)(c S:Nat)(F ck:Nat->Prop)(t:aj)(w:World)(b0:cW w F A p)(d6:∀b,F b->b<w.heap.size)(dq:bE p=0)(b1:gH p)(c9:∀x∈p,lI x)(d7:aJ w ck K t.args)(z:cC p t):
 Calls Tryz.prog 62 #[aM p A c,.agg (bX t K S)] w λg w'=>Ch w w' p t g:=by
 obtain⟨n,N⟩:=eX p.length;obtain⟨al,b4⟩:=eX t.args.length;obtain⟨fn,am⟩ :∃fn:Nat,t.fn=(fn:Int):=ym z.fn0;obtain⟨x,G⟩:=eX (bG p t.fn);have ds:p[fn]?=some x:=by rw[G,<-(gy z.fn0 z.fn1).2,am,yo]
 have cb:=b1.fn z.fn0 z.fn1;rw[<-G] at cb;have dd:t.fuel<=65536:=z.fl;have dp:n<=16:=by rw[N];exact b1.p16
 obtain⟨ge,gf,f4,f5,f7,f8,f9⟩:=Bk (fn:=fn) (n:=n) (al:=al) (xa:=x.args) (fl:=t.fuel) (by have:=z.fn1;rw[am,<-N] at this;exact yB.1 this) (by rw[b4,G];exact z.al) dd;obtain⟨a9,ad⟩:=eX (w.alloc (.cells #[.slice A n c] 24));obtain⟨r,b2⟩:=eX (a9.alloc (.cells #[.string (sB t.M),.int .i64 (fn:Int),.slice K al S,.int .i64 (t.fuel:Int)] 30));have e6:ac w a9:=by rw[ad];exact(aa.refl _ w).alloc _
 have cf:ac a9 r:=by rw[b2];exact oR.alloc _
 obtain⟨d,an⟩:=eX w.heap.size;have bv:ae r d 24 #[.slice A n c]:=cf.J (by rw[ad,an];exact bN) nF;have bx:ae r (d+1) 30 #[.string (sB t.M),.int .i64 (fn:Int),.slice K al S,.int .i64 (t.fuel:Int)]:=by rw[b2];have:=ae.new a9 30 #[.string (sB t.M),.int .i64 (fn:Int),.slice K al S,.int .i64 (t.fuel:Int)];rw[show a9.heap.size=d+1 by rw[ad,an];simp] at this;exact this
 have R:=e6.trans cf;obtain⟨b,f,B,g9,ff,ba,ce,_,_⟩:=b0.at_ ds;subst ff;have db:b<d:=by rw[an];exact block_lt_of_cell ba
 have cd:=(R.I (p:=⟨b,f+fn*3,none⟩) (block_lt_of_cell ba) nF).trans ba;have e5:=(R.I (p:=⟨b,f+fn*3+1,none⟩) (block_lt_of_cell ce) nF).trans ce
 have cs:Hd (Calls Tryz.prog 58 #[.agg #[.slice (some ⟨b,f,none⟩) n c]] r λg w'=>∃fn g1,g=.returned (.tuple #[.int .i64 0,.int .i64 fn,.int .i64 g1])/\ac r w'):=hD (by
  have:=rU p (some ⟨b,f,none⟩) c F r (b0.U R) (λb e=>lL (d6 b e) R.size) (by rw[<-N];exact lT dp (by decide)) c9;unfold aM qj at this;rw[<-N,dq] at this;exact this)
 have ei:=hD (lQ t.M ⟨z.pth.1,z.pth.2⟩)
 have V:Hd (∀W,ac r W->ac r W/\W.cell? ⟨d,0,none⟩=some (.slice (some ⟨b,f,none⟩) n c)/\W.cell? ⟨d+1,0,none⟩=some (.string (sB t.M))/\W.cell? ⟨d+1,1,none⟩=some (.int .i64 (fn:Int))/\W.cell? ⟨d+1,2,none⟩=some (.slice K al S)/\W.cell? ⟨d+1,3,none⟩=some (.int .i64 (t.fuel:Int))/\W.cell? ⟨b,f+fn*3,none⟩=some (.int .i64 x.args)):=hD λW E=>by
  have ci:=E.J bv nF;have Q:=E.J bx nF;exact⟨E,ci.I 0,Q.I 0,Q.I 1,Q.I 2,Q.I 3,(E.I (p:=⟨b,f+fn*3,none⟩) (block_lt_of_cell cd) nF).trans cd⟩
 have eb:=hD bv;have ec:=hD bx;have cv:=hD R;have em:=hD (b0.U R);have ex:=hD (d7.kp R nG);have m:=hD (aI N (aI b4 (aI am G)));have cr:=hD an;have T:=hD cb;have bp:=hD z;have cw:=hD (aI b1 c9);have cp:Hd (decide (n<=fn)=false/\decide (65536<t.fuel)=false):=hD ⟨yd (by omega),yd (by omega)⟩;have bo:=hD e5;have ej:=hD db;have d0:=hD (show((w.alloc (.cells #[.slice (some ⟨b,f,none⟩) n c] 24)).alloc (.cells #[.string (sB t.M),.int .i64 (fn:Int),.slice K al S,.int .i64 (t.fuel:Int)] 30))=r by rw[b2,ad]);unfold aM bX;rw[<-N,<-b4,am];obtain⟨s0,g6,g3,g4,ch,g5,fx⟩:=V.O r oR;clear b0 d6 dq b1 c9 d7 z N b4 am G ds cb dd dp ad b2 e6 cf an bv bx R cd e5 ba ce db s0;go_enter Tryz.func62,Tryz.ntmps62;go_upto_region 1 with fail;rw[d0.O,<-cr.O];clear d0;go_wp2_with fail;refine cs.O.mono ?_;rintro g f2 ⟨ga,gb,rfl,e7⟩;have a2:=hD e7;clear e7 cs g6 g3 g4 ch g5 fx;go_upto_region 4 with fail;have fj:=V.O f2 a2.O;have f6:decide (n<=fn)=false:=cp.O.1;have fa:decide (65536<t.fuel)=false:=cp.O.2
 go_region_held3 (λw'=>ac r w'/\w'.cell? ⟨d,0,none⟩=some (.slice (some ⟨b,f,none⟩) n c)/\w'.cell? ⟨d+1,0,none⟩=some (.string (sB t.M))/\w'.cell? ⟨d+1,1,none⟩=some (.int .i64 (fn:Int))/\w'.cell? ⟨d+1,2,none⟩=some (.slice K al S)/\w'.cell? ⟨d+1,3,none⟩=some (.int .i64 (t.fuel:Int))/\w'.cell? ⟨b,f+fn*3,none⟩=some (.int .i64 x.args))
  (with_reducible first|exact V.O _ a7.O|exact V.O _ (aa.drew a7.O)|exact V.O _ a2.O|exact V.O _ (aa.drew a2.O)|fail)
  (first|(go_at_call 112;refine(ei.O _).mono ?_;rintro g br ⟨rfl,e8⟩;have a7:Hd (ac r br):=hD (by first|exact aa.trans a2.O e8|exact aa.trans (aa.drew a2.O) e8))|fail)
 have d1:=a7;have ch:=(V.O br a7.O).2.2.2.2.1;have c4:=lm K t.args S ck br (ex.O.kp a7.O nG) (by have:=T.O.ar;have:=T.O.r16;have:=bp.O.al;rw[<-m.O.2.2.2] at this;omega);rw[<-m.O.2.1] at c4;have cm:=hD c4;clear fj c4 f4 f5 f7 f8 f9 f6 fa a2;go_wp2_with fail;refine cm.O.mono ?_;rintro g bt ⟨q,u,rfl,d8,cg⟩;have a1:Hd (ac r bt):=hD (d1.O.trans cg);have b5:=a1.O.J ec.O nF;have aw:=b5.I 2;have g2:=b5.fz 2;simp at aw;have bm:=hD b5;have er:=hD d8;have g8:=hD cg;clear d8 cg b5 ch cm;go_upto_region 7 with fail;obtain⟨a,b3⟩:=eX (bt.setCell ⟨d+1,2,none⟩ (.slice q al u));rw[<-b3];have Y:aa (λb=>b=d+1) bt a:=by rw[b3];exact af _ _ _ _
 have c3:ae a (d+1) 30 #[.string (sB t.M),.int .i64 (fn:Int),.slice q al u,.int .i64 (t.fuel:Int)]:=by rw[b3];exact bm.O.s_ 2 _
 have dr:ae a d 24 #[.slice (some ⟨b,f,none⟩) n c]:=Y.J (a1.O.J eb.O nF) (by omega);have b6:a.cell? ⟨b,f+fn*3+1,none⟩=some (.int .i64 x.rg):=(Y.I (p:=⟨b,f+fn*3+1,none⟩) (lL (block_lt_of_cell bo.O) a1.O.size) (by have:=ej.O;simp;omega)).trans ((a1.O.I (p:=⟨b,f+fn*3+1,none⟩) (block_lt_of_cell bo.O) nF).trans bo.O);have d3:Hd (ac w a):=hD ((cv.O.trans a1.O).trans' Y (λb e=>.inr (by rw[e,cr.O];exact yX _)));have es:Hd (aJ a (bl w a) q t.args):=hD ((er.O.by_type Y bm.O (by decide)).mo λb e=>⟨lT (lT cv.O.size d1.O.size) e.1,lL e.2 Y.size⟩);have el:Hd (cW a F (some ⟨b,f,none⟩) p):=hD ((em.O.U a1.O).by_type Y bm.O (by decide) (by decide));obtain⟨rl,b8⟩ :∃rl:Nat,x.rg=(rl:Int):=ym (by have:=T.O.a0;have:=T.O.ar;omega);have dw:rl<=16:=by have:=T.O.r16;rw[b8] at this;omega
 rw[b8] at b6
 have L:Hd (∀W,ac a W->ac a W/\W.cell? ⟨d,0,none⟩=some (.slice (some ⟨b,f,none⟩) n c)/\W.cell? ⟨d+1,0,none⟩=some (.string (sB t.M))/\W.cell? ⟨d+1,1,none⟩=some (.int .i64 (fn:Int))/\W.cell? ⟨d+1,2,none⟩=some (.slice q al u)/\W.cell? ⟨d+1,3,none⟩=some (.int .i64 (t.fuel:Int))/\W.cell? ⟨b,f+fn*3+1,none⟩=some (.int .i64 (rl:Int))):=hD λW E=>by
  have ci:=E.J dr nF;have Q:=E.J c3 nF;exact⟨E,ci.I 0,Q.I 0,Q.I 1,Q.I 2,Q.I 3,(E.I (p:=⟨b,f+fn*3+1,none⟩) (block_lt_of_cell b6) nF).trans b6⟩
 obtain⟨o,c2⟩:=eX ((List.replicate rl (Value.int .i64 0)).toArray);obtain⟨fw,dl,e2,e3,e4⟩:=lB
 have dm:∀W,(Instr.makeSlice 25 (.int .i64 (rl:Int)) (.int .i64 (rl:Int))).run Tryz.prog W=.ok (.slice (some ⟨W.heap.size,0,none⟩) rl rl) (W.alloc (.cells o 2)):=λW=>by
  have:=li (P:=Tryz.prog) 25 2 fw (.int .i64 0) Tryz.underlying25 dl e2 .i64 .i64 rl rl (lR) (by rw[e4];omega) (by omega) W;rw[e3,Nat.mul_one] at this;rw[this,c2]
  congr 3
  apply Yd.1;rw[show(Value.int .i64 0).cells= #[.int .i64 0] from rfl,toList_madeCells_one]
 have eL:=hD dm
 have cn:Hd (∀W,ac a W->Calls Tryz.prog 114 #[.agg #[.slice (some ⟨b,f,none⟩) n c]] W λg w'=>∃i s,g=.returned (.agg #[.slice i n s])/\cW w' (bl W w') i p/\ac W w'):=hD λW E=>by
  have:=wC (some ⟨b,f,none⟩) p c F W (el.O.U E) (by have:=cw.O.1.p16;omega) (λy fv=>(cw.O.2 y fv).1);unfold aM ph aM at this;rw[<-m.O.1] at this;exact this
 have ee:=hD c3;have az:=hD (aI b8 dw);have bq:=hD c2;have fk:=L.O a oR;have a6:Hd (ac a (a.alloc (.cells o 2))):=hD (oR.alloc _);have ef:Hd (ae (a.alloc (.cells o 2)) a.heap.size 2 o):=hD bN;clear aw g2 b3 Y c3 dr b6 b8 dw c2 dl e2 e3 e4 eL
 go_cut [9] (λs9 wx=>∃a3 D i s,s9=.pointer (some ⟨a3,0,none⟩)/\bl a wx a3/\bl a wx D/\ae wx a3 232 #[.slice i n s,.string (sB t.M),.int .i64 (fn:Int),.slice q al u,.int .i64 (t.fuel:Int),.slice (some ⟨D,0,none⟩) rl rl,.int .i64 (t.fuel:Int),.int .i64 0,.slice none 0 0,.int .i64 0,.pointer none,.pointer none]/\ae wx D 2 o/\cW wx (bl a wx) i p/\ac a wx)
 case first=>
  go_region_held3 (λw'=>ac a w'/\w'.cell? ⟨d,0,none⟩=some (.slice (some ⟨b,f,none⟩) n c)/\w'.cell? ⟨d+1,0,none⟩=some (.string (sB t.M))/\w'.cell? ⟨d+1,1,none⟩=some (.int .i64 (fn:Int))/\w'.cell? ⟨d+1,2,none⟩=some (.slice q al u)/\w'.cell? ⟨d+1,3,none⟩=some (.int .i64 (t.fuel:Int))/\w'.cell? ⟨b,f+fn*3+1,none⟩=some (.int .i64 (rl:Int)))
   (with_reducible first|exact L.O _ H.O|exact L.O _ (aa.alloc H.O _)|exact L.O _ (aa.alloc (aa.alloc H.O _) _)|exact L.O _ (aa.drew H.O)|exact L.O _ a6.O|exact L.O _ (aa.drew a6.O)|exact L.O _ (aa.drew oR)|exact L.O _ oR|fail)
   (first
    |(go_at_call 114;refine(cn.O a.drew (aa.drew oR)).mono ?_;rintro g l ⟨i,s,rfl,ai,a5⟩;have H:Hd (ac a l):=hD (aa.trans (aa.drew oR) a5);have bn:=hD ai;clear ai a5)
    |(go_at_call 114;refine(cn.O _ (aa.drew a6.O)).mono ?_;rintro g l ⟨i,s,rfl,ai,a5⟩;have H:Hd (ac a l):=hD (aa.trans (aa.drew a6.O) a5);have d2:=hD (a5.J ef.O nF);have bn:=hD ai;clear ai a5)
    |fail)
  ·go_wp2_with fail
   go_meet
   case rel=>
    have bf:=(aa.refl (λ_=>False) l).alloc (.cells o 2);have C:=(aa.refl (λ_=>False) (l.alloc (.cells o 2))).alloc (.cells #[.slice i n s,.string (sB t.M),.int .i64 (fn:Int),.slice q al u,.int .i64 (t.fuel:Int),.slice (some ⟨l.heap.size,0,none⟩) rl rl,.int .i64 (t.fuel:Int),.int .i64 0,.slice none 0 0,.int .i64 0,.pointer none,.pointer none] 232);have b9:=H.O.size;have e:=ae.new (l.alloc (.cells o 2)) 232 #[.slice i n s,.string (sB t.M),.int .i64 (fn:Int),.slice q al u,.int .i64 (t.fuel:Int),.slice (some ⟨l.heap.size,0,none⟩) rl rl,.int .i64 (t.fuel:Int),.int .i64 0,.slice none 0 0,.int .i64 0,.pointer none,.pointer none];rw[World.size_alloc] at e;exact⟨l.heap.size+1,l.heap.size,i,s,rfl,⟨zJ b9,e.lt⟩,⟨b9,lL (ae.new l 2 o).lt C.size⟩,e,C.J (ae.new l _ o) nF,((bn.O.U bf).U C).mo λb e=>by first|exact(e.up bf.size).up C.size|exact((e.dn (lR)).up bf.size).up C.size,(H.O.trans bf).trans C⟩
  ·go_wp2_with fail
   go_meet
   case rel=>
    have C:=(aa.refl (λ_=>False) l).alloc (.cells #[.slice i n s,.string (sB t.M),.int .i64 (fn:Int),.slice q al u,.int .i64 (t.fuel:Int),.slice (some ⟨a.heap.size,0,none⟩) rl rl,.int .i64 (t.fuel:Int),.int .i64 0,.slice none 0 0,.int .i64 0,.pointer none,.pointer none] 232);have b9:=H.O.size;have e:=ae.new l 232 #[.slice i n s,.string (sB t.M),.int .i64 (fn:Int),.slice q al u,.int .i64 (t.fuel:Int),.slice (some ⟨a.heap.size,0,none⟩) rl rl,.int .i64 (t.fuel:Int),.int .i64 0,.slice none 0 0,.int .i64 0,.pointer none,.pointer none];exact⟨l.heap.size,a.heap.size,i,s,rfl,⟨b9,e.lt⟩,⟨lR,lL d2.O.lt C.size⟩,e,C.J d2.O nF,(bn.O.U C).mo λb e=>(e.dn a6.O.size).up C.size,H.O.trans C⟩
 case rest=>
  obtain⟨a3,D,i,s,rfl,d4,d5,c5,c8,dk,bc⟩:=hcut;have da:=bc.J ee.O nF;have ea:=c5.I 5;have aw:=da.I 2;simp at ea aw;obtain⟨W8,c1⟩:=eX wc.drew;have bb:ac wc W8:=by rw[c1];exact oR.drew
  have b7:=bb.J c8 nF;have c0:=(es.O.kp bc nG).kp bb nG
  have fp:∃W9,(∀Z,(Builtin.copy_ #[25,25] Z #[.slice (some ⟨D,0,none⟩) rl rl,.slice q al u]).run Tryz.prog W8=.ok (goInt al) W9)/\aa (λb=>b=D) W8 W9/\ae W9 D 2 ((ij p t.fn t.args).map (Value.int .i64)).toArray:=by
   have fo:(ij p t.fn t.args).map (Value.int .i64)=t.args.map (Value.int .i64)++List.replicate (rl-al) (.int .i64 0):=by
    unfold ij;rw[<-m.O.2.2.2,az.O.1,<-m.O.2.1,yo];simp
   have e0:(Tryz.prog.info? 2).map (·.size)=some 1:=by kernel_rfl
   have fs:al<=rl:=by have bz:=bp.O.al;have a4:=T.O.ar;rw[<-m.O.2.2.2,<-m.O.2.1] at bz;rw[az.O.1] at a4;omega
   rw[fo]
   by_cases ab:al=0
   ·refine⟨W8,λZ=>?_,oR,?_⟩
    ·have:=run_copy_none (P:=Tryz.prog) W8 25 25 Z 2 (some ⟨D,0,none⟩) q rl rl al u Tryz.underlying25 e0 (by rw[ab];simp)
     rw[this,ab];rfl
    ·have fm:t.args= []:=yr (by rw[<-m.O.2.1];exact ab)
     rw[fm,ab,Nat.sub_zero,Yk,List.nil_append,<-bq.O];exact b7
   ·have c6:t.args≠[]:=λg=>ab (by rw[m.O.2.1,g];rfl)
    rcases c0 with⟨_,g⟩|⟨f3,g0,fb,_,fd⟩
    ·exact absurd g c6
    ·have fq:o.toList=List.replicate rl (.int .i64 0):=by rw[bq.O]
     have av:(t.args.map (Value.int .i64)).length=al:=by rw[zY,m.O.2.1]
     have X:=λZ=>run_copy_row (P:=Tryz.prog) W8 25 25 Z 2 D 0 rl rl ⟨f3,g0,none⟩ al u o 2 (t.args.map (Value.int .i64)) Tryz.underlying25 e0 b7 (by rw[av];exact(Nat.min_eq_left fs).symm) (λj v hv=>by
      rw[yJ] at hv
      cases G:t.args[j]? with
      |none=>rw[G] at hv;cases hv
      |some y=>
       rw[G] at hv
       cases hv
       rw[bg];have fr:=(gS G).1;have a4:=(fd j fr).2;rw[yc,G] at a4;exact a4) (by rw[av,bq.O];simp;omega) (λv hv=>by obtain⟨y,_,rfl⟩:=yL.1 hv;rfl)
     have dz:(o.toList.take 0++t.args.map (Value.int .i64)++o.toList.drop (0+(t.args.map (Value.int .i64)).length))=t.args.map (Value.int .i64)++List.replicate (rl-al) (.int .i64 0):=by
      rw[av,fq];simp
     rw[av] at X;rw[av] at dz;rw[dz] at X;refine⟨W8.setRow D (t.args.map (Value.int .i64)++List.replicate (rl-al) (Value.int .i64 0)).toArray,λZ=>(by rw[fb];exact X Z),⟨rfl,rfl,rfl,by simp[World.setRow],λk gc N=>setRow_other _ _ _ _ N⟩,setRow_heap _ _ _ _ _ _ b7⟩
  obtain⟨W9,X,e9,d9⟩:=fp;have ek:=hD X;have eg:=hD d9;have aE:=hD e9;have a8:=hD bb;have cq:=hD c5;have eq:=hD dk;have f1:=hD bc;have bk:=hD (aI d4 d5);have cB:=hD c8;have f0:=hD c1.symm;have g7:=hD c0;clear X d9 e9 bb c5 dk bc d4 d5 c8 c1 c0 b7 da dm fk;go_wp2_with fail
  go_still_tail 6,(by kernel_rfl)
  change wpList _ _ _ _ _ wc.drew;rw[f0.O];have X:=ek.O;clear ea aw;go_wp2_with fail
  go_ret2
  have c6:a3≠D:=λg=>ae.ne_ cq.O cB.O (by decide) g
  have ft:wc.heap.size<=W9.heap.size:=lT a8.O.size aE.O.size;have e1:w.heap.size<=a.heap.size:=d3.O.size;have c7:∀b,bl a wc b->bl w W9 b:=λb e=>(e.dn e1).up ft
  have dv:(ij p t.fn t.args).length=rl:=by
   unfold ij;have bz:=bp.O.al;have a4:=T.O.ar;rw[<-m.O.2.2.2] at bz;rw[<-m.O.2.2.2,az.O.1,yo,yk,List.length_replicate];rw[az.O.1] at a4;omega
  refine⟨a3,⟨i,s,.slice q al u,(t.fuel:Int),D,rl,.slice none 0 0,.pointer none,.pointer none⟩,rfl,⟨c7 _ bk.O.1,c7 _ bk.O.2,λb g=>(by cases g),?_,?_,eg.O,⟨(by rfl),.inl ⟨rfl,rfl⟩⟩,rfl,λ_=>rfl,?_⟩,?_⟩
  ·have:=aE.O.J (a8.O.J cq.O nF) c6
   unfold cY Fr.begun;simp only;rw[<-m.O.1,dv,m.O.2.2.1];exact this
  ·exact(((eq.O.U a8.O).by_type aE.O (a8.O.J cB.O nF) (by decide) (by decide))).mo c7
  ·show(ij p t.fn t.args).length<=rl
   rw[dv];exact lR
  ·exact((d3.O.trans f1.O).trans a8.O).trans' aE.O (λb e=>.inr (by rw[e];exact lT e1 bk.O.2.1))
theorem uE(k:Int)(w:World):Calls Tryz.prog 124 #[.int .u8 k] w λn w'=>n=.returned (.tuple #[.bool (dS k),.bool (no k),.bool (ns k),.bool (nu k)])/\w=w':=by
 by_cases g:1<=k/\k<=14
 rotate_left
 ·have c:dS k=false:=yd (by omega)
  have d:no k=false:=yd (by omega);have e:ns k=false:=yd (by omega);have f:nu k=false:=yd (by omega);rw[c,d,e,f];have p:(k==1)=false:=bF (by omega);have q:(k==10)=false:=bF (by omega);have r:(k==11)=false:=bF (by omega);have s:(k==12)=false:=bF (by omega);have t:(k==14)=false:=bF (by omega)
  by_cases i:k<1
  ·have j:decide (1<=k)=false:=yd (by omega)
   have l:decide (2<=k)=false:=yd (by omega);have m:decide (3<=k)=false:=yd (by omega);clear g i c d e f;go_enter Tryz.func124,Tryz.ntmps124;go_wp2_with fail;refine bodyPost_ret (cF rfl _ _ _) rfl ?_;exact⟨by rfl,rfl⟩
  ·have j:decide (1<=k)=true:=yg (by omega)
   have l:decide (2<=k)=true:=yg (by omega);have m:decide (3<=k)=true:=yg (by omega);have o:decide (k<=9)=false:=yd (by omega);clear g i c d e f;go_enter Tryz.func124,Tryz.ntmps124;go_wp2_with fail;refine bodyPost_ret (cF rfl _ _ _) rfl ?_;exact⟨by rfl,rfl⟩
 have a:k=1\/k=2\/k=3\/k=4\/k=5\/k=6\/k=7\/k=8\/k=9\/k=10\/k=11\/k=12\/k=13\/k=14:=by omega
 clear g
 rcases a with a|a|a|a|a|a|a|a|a|a|a|a|a|a
 ·subst a
  have b:dS 1=(dS 1):=rfl;go_enter Tryz.func124,Tryz.ntmps124;go_wp2_with fail;refine bodyPost_ret (cF rfl _ _ _) rfl ?_;exact⟨by rfl,rfl⟩
 ·subst a
  have b:dS 2=(dS 2):=rfl;go_enter Tryz.func124,Tryz.ntmps124;go_wp2_with fail;refine bodyPost_ret (cF rfl _ _ _) rfl ?_;exact⟨by rfl,rfl⟩
 ·subst a
  have b:dS 3=(dS 3):=rfl;go_enter Tryz.func124,Tryz.ntmps124;go_wp2_with fail;refine bodyPost_ret (cF rfl _ _ _) rfl ?_;exact⟨by rfl,rfl⟩
 ·subst a
  have b:dS 4=(dS 4):=rfl;go_enter Tryz.func124,Tryz.ntmps124;go_wp2_with fail;refine bodyPost_ret (cF rfl _ _ _) rfl ?_;exact⟨by rfl,rfl⟩
 ·subst a
  have b:dS 5=(dS 5):=rfl;go_enter Tryz.func124,Tryz.ntmps124;go_wp2_with fail;refine bodyPost_ret (cF rfl _ _ _) rfl ?_;exact⟨by rfl,rfl⟩
 ·subst a
  have b:dS 6=(dS 6):=rfl;go_enter Tryz.func124,Tryz.ntmps124;go_wp2_with fail;refine bodyPost_ret (cF rfl _ _ _) rfl ?_;exact⟨by rfl,rfl⟩
 ·subst a
  have b:dS 7=(dS 7):=rfl;go_enter Tryz.func124,Tryz.ntmps124;go_wp2_with fail;refine bodyPost_ret (cF rfl _ _ _) rfl ?_;exact⟨by rfl,rfl⟩
 ·subst a
  have b:dS 8=(dS 8):=rfl;go_enter Tryz.func124,Tryz.ntmps124;go_wp2_with fail;refine bodyPost_ret (cF rfl _ _ _) rfl ?_;exact⟨by rfl,rfl⟩
 ·subst a
  have b:dS 9=(dS 9):=rfl;go_enter Tryz.func124,Tryz.ntmps124;go_wp2_with fail;refine bodyPost_ret (cF rfl _ _ _) rfl ?_;exact⟨by rfl,rfl⟩
 ·subst a
  have b:dS 10=(dS 10):=rfl;go_enter Tryz.func124,Tryz.ntmps124;go_wp2_with fail;refine bodyPost_ret (cF rfl _ _ _) rfl ?_;exact⟨by rfl,rfl⟩
 ·subst a
  have b:dS 11=(dS 11):=rfl;go_enter Tryz.func124,Tryz.ntmps124;go_wp2_with fail;refine bodyPost_ret (cF rfl _ _ _) rfl ?_;exact⟨by rfl,rfl⟩
 ·subst a
  have b:dS 12=(dS 12):=rfl;go_enter Tryz.func124,Tryz.ntmps124;go_wp2_with fail;refine bodyPost_ret (cF rfl _ _ _) rfl ?_;exact⟨by rfl,rfl⟩
 ·subst a
  have b:dS 13=(dS 13):=rfl;go_enter Tryz.func124,Tryz.ntmps124;go_wp2_with fail;refine bodyPost_ret (cF rfl _ _ _) rfl ?_;exact⟨by rfl,rfl⟩
 ·subst a
  have b:dS 14=(dS 14):=rfl;go_enter Tryz.func124,Tryz.ntmps124;go_wp2_with fail;refine bodyPost_ret (cF rfl _ _ _) rfl ?_;exact⟨by rfl,rfl⟩
theorem mq(x:Int)(w:World):Calls Tryz.prog 122 #[.int .i64 x] w λd w'=>d=.returned (.bool (co x))/\w=w':=by
 by_cases b:0<=x
 ·have e:decide (0<=x)=true:=yg b
  by_cases c:x<=16
  ·have a:co x=true:=yg (by omega)
   rw[a];have f:decide (x<=16)=true:=yg c;go_enter Tryz.func122,Tryz.ntmps122;go_wp2_with fail;go_ret;exact⟨rfl,rfl⟩
  ·have a:co x=false:=yd (by omega)
   rw[a];have f:decide (x<=16)=false:=yd c;go_enter Tryz.func122,Tryz.ntmps122;go_wp2_with fail;go_ret;exact⟨rfl,rfl⟩
 ·have e:decide (0<=x)=false:=yd b
  have a:co x=false:=yd (by omega);rw[a];go_enter Tryz.func122,Tryz.ntmps122;go_wp2_with fail;go_ret;exact⟨rfl,rfl⟩
theorem EZ(o:bK)(w:World):Calls Tryz.prog 123 #[cR o] w λi w'=>i=.returned (.bool (cG o))/\ac w w':=by
 obtain⟨G,m⟩:=eX (w.alloc (.cells #[.int .u8 o.k,.int .i64 o.d,.int .i64 o.a,.int .i64 o.b,.int .i64 o.n] 106));have L:ac w G:=by rw[m];exact(aa.refl _ w).alloc _
 have s:ae G w.heap.size 106 #[.int .u8 o.k,.int .i64 o.d,.int .i64 o.a,.int .i64 o.b,.int .i64 o.n]:=by rw[m];exact bN
 obtain⟨g,u⟩:=eX w.heap.size;rw[<-u] at s;obtain⟨a6,a7,a8,a9,ab⟩:=s.gE5;have C:=hD (uE o.k);have D:=hD (mq o.d);have E:=hD (mq o.a);have F:=hD (mq o.b);obtain⟨Y,y⟩ :∃x,x=(o.d==0):=⟨_,rfl⟩
 obtain⟨N,z⟩ :∃x,x=(o.a==0):=⟨_,rfl⟩
 obtain⟨q,A⟩ :∃x,x=(o.b==0):=⟨_,rfl⟩
 obtain⟨e,B⟩ :∃x,x=(o.n==0):=⟨_,rfl⟩
 have f:Hd (rR o.k=decide (1<=o.k/\o.k<=14)):=hD rfl;unfold cG;rw[<-y,<-z,<-A,<-B];generalize dS o.k=d at*;generalize no o.k=a at*;generalize ns o.k=b at*;generalize nu o.k=n at*;generalize co o.d=V at*;generalize co o.a=W at*;generalize co o.b=X at*;generalize rR o.k=K at*;have P:=hD (aI y.symm (aI z.symm (aI A.symm B.symm)));have c:=hD L;have r:=hD u;have l:=hD m.symm;unfold cR;clear L s u m y z A B
 by_cases j:1<=o.k/\o.k<=14
 rotate_left
 ·have v:K=false:=by rw[f.O];exact yd j
  subst v
  by_cases p:o.k<1
  ·have t:decide (o.k<1)=true:=yg p
   clear j p f;go_enter Tryz.func123,Tryz.ntmps123;go_upto_region 1 with fail;rw[l.O,<-r.O];go_wp2_with fail;go_ret;exact⟨rfl,c.O⟩
  ·have t:decide (o.k<1)=false:=yd p
   have H:decide (14<o.k)=true:=yg (by omega);clear j p f;go_enter Tryz.func123,Tryz.ntmps123;go_upto_region 1 with fail;rw[l.O,<-r.O];go_wp2_with fail;go_ret;exact⟨rfl,c.O⟩
 have v:K=true:=by rw[f.O];exact yg j
 subst v;have t:decide (o.k<1)=false:=yd (by omega);have H:decide (14<o.k)=false:=yd (by omega);clear j f;go_enter Tryz.func123,Tryz.ntmps123;go_upto_region 1 with fail;rw[l.O,<-r.O];clear l;go_wp2_with fail;refine(D.O _).mono ?_;rintro i a3 ⟨rfl,Q⟩;subst Q
 cases V
 ·go_wp2_with fail
  go_ret;exact⟨rfl,c.O⟩
 go_wp2_with fail;refine(E.O _).mono ?_;rintro i a4 ⟨rfl,R⟩;subst R
 cases W
 ·go_wp2_with fail
  go_ret;exact⟨rfl,c.O⟩
 go_wp2_with fail;refine(F.O _).mono ?_;rintro i a5 ⟨rfl,S⟩;subst S
 cases X
 ·go_wp2_with fail
  go_ret;exact⟨rfl,c.O⟩
 go_wp2_with fail;refine(C.O _).mono ?_;rintro i wh ⟨rfl,T⟩;subst T;obtain⟨Z,a0,a1,a2⟩:=P.O;clear t H D E F C
 cases d
 ·cases Y
  ·go_wp2_with fail
   go_ret;exact⟨rfl,c.O⟩
  ·cases a
   ·cases N
    ·go_wp2_with fail
     go_ret;exact⟨rfl,c.O⟩
    ·cases b
     ·cases q
      ·go_wp2_with fail
       go_ret;exact⟨rfl,c.O⟩
      ·cases n
       ·cases e
        ·go_wp2_with fail
         go_ret;exact⟨rfl,c.O⟩
        ·go_wp2_with fail
         go_ret;exact⟨rfl,c.O⟩
       ·go_wp2_with fail
        go_ret;exact⟨rfl,c.O⟩
     ·cases n
      ·cases e
       ·go_wp2_with fail
        go_ret;exact⟨rfl,c.O⟩
       ·go_wp2_with fail
        go_ret;exact⟨rfl,c.O⟩
      ·go_wp2_with fail
       go_ret;exact⟨rfl,c.O⟩
   ·cases b
    ·cases q
     ·go_wp2_with fail
      go_ret;exact⟨rfl,c.O⟩
     ·cases n
      ·cases e
       ·go_wp2_with fail
        go_ret;exact⟨rfl,c.O⟩
       ·go_wp2_with fail
        go_ret;exact⟨rfl,c.O⟩
      ·go_wp2_with fail
       go_ret;exact⟨rfl,c.O⟩
    ·cases n
     ·cases e
      ·go_wp2_with fail
       go_ret;exact⟨rfl,c.O⟩
      ·go_wp2_with fail
       go_ret;exact⟨rfl,c.O⟩
     ·go_wp2_with fail
      go_ret;exact⟨rfl,c.O⟩
 ·cases a
  ·cases N
   ·go_wp2_with fail
    go_ret;exact⟨rfl,c.O⟩
   ·cases b
    ·cases q
     ·go_wp2_with fail
      go_ret;exact⟨rfl,c.O⟩
     ·cases n
      ·cases e
       ·go_wp2_with fail
        go_ret;exact⟨rfl,c.O⟩
       ·go_wp2_with fail
        go_ret;exact⟨rfl,c.O⟩
      ·go_wp2_with fail
       go_ret;exact⟨rfl,c.O⟩
    ·cases n
     ·cases e
      ·go_wp2_with fail
       go_ret;exact⟨rfl,c.O⟩
      ·go_wp2_with fail
       go_ret;exact⟨rfl,c.O⟩
     ·go_wp2_with fail
      go_ret;exact⟨rfl,c.O⟩
  ·cases b
   ·cases q
    ·go_wp2_with fail
     go_ret;exact⟨rfl,c.O⟩
    ·cases n
     ·cases e
      ·go_wp2_with fail
       go_ret;exact⟨rfl,c.O⟩
      ·go_wp2_with fail
       go_ret;exact⟨rfl,c.O⟩
     ·go_wp2_with fail
      go_ret;exact⟨rfl,c.O⟩
   ·cases n
    ·cases e
     ·go_wp2_with fail
      go_ret;exact⟨rfl,c.O⟩
     ·go_wp2_with fail
      go_ret;exact⟨rfl,c.O⟩
    ·go_wp2_with fail
     go_ret;exact⟨rfl,c.O⟩
theorem kO{p:List ah}{k:Nat}{x:ah}(b:p[k]?=some x)(a:gi x=true):iq p=false:=by
 unfold iq;have:p.any gi=true:=zT.2 ⟨x,yh b,a⟩;rw[this];simp
theorem tz{α:Type}(a:α->Bool){l:List α}{k:Nat}{x:α}(d:l[k]?=some x)(b:(l.take k).any a=false)(c:a x=false):(l.take (k+1)).any a=false:=by
 rw[yO,d];simp[List.any_append,b,c]
theorem xw(p:List ah)(A:Option Addr)(c:Nat)(F:Nat->Prop)(w:World)(av:fP w F A p)(b1:p.length<=1000)(b3:∀x∈p,x.ops.length<=1000):
 Calls Tryz.prog 70 #[aM p A c] w λe w'=>e=.returned (.bool (iq p))/\ac w w':=by
 obtain⟨n,a5⟩:=eX p.length;obtain⟨C,N⟩:=eX (w.alloc (.cells #[.slice A n c] 24));have a7:ac w C:=by rw[N];exact(aa.refl _ w).alloc _
 obtain⟨c2,a2⟩:=eX w.heap.size;have X:ae C c2 24 #[.slice A n c]:=by rw[N,a2];exact bN
 have T:=X.I 0;simp at T;obtain⟨q,Z⟩:=eX (iq p);rw[<-Z];have m:=hD Z;have bc:=hD (av.U a7);have bp:=hD X;have K:=hD a7;have u:=hD (aI a5 (aI b1 b3));have bn:=hD a2;have al:=hD N.symm;have bo:=hD EZ;unfold aM;rw[<-a5];clear av b1 b3 a5 N a7 a2 X Z;go_enter Tryz.func70,Tryz.ntmps70;go_upto_region 1 with fail;rw[al.O,<-bn.O];clear al
 by_cases Y:16<n
 ·have c5:decide ((16:Int)<(n:Int))=true:=yg (by omega)
  have d:Hd (q=false):=hD (by rw[m.O];unfold iq;rw[yd (by rw[<-u.O.1];omega)];rfl);clear Y;go_wp2_with fail;go_ret;exact⟨by rw[d.O];rfl,K.O⟩
 have c5:decide ((16:Int)<(n:Int))=false:=yd (by omega);have a9:Hd (n<=16):=hD (yA Y);clear Y;go_wp2_with fail
 go_loopw [3] (λi wr=>∃k:Nat,k<=n/\i=.int .i64 k/\(p.take k).any gi=false/\ac C wr) (λi _=>n-(intOf i).toNat)
 case atStart=>exact⟨0,yx _,rfl,rfl,oR⟩
 case round=>
  obtain⟨k,c9,rfl,E,l⟩:=hrel;have b9:=(l.J bp.O nF).I 0;simp at b9
  by_cases g:k<n
  ·have cs:(0:Int)<=(k:Int):=dK k
   have c7:(k:Int)<(n:Int):=cO g;have a4:k<p.length:=by rw[<-u.O.1];exact g
   have a3:p[k]?=some p[k]:=gG a4;have b2:=u.O.2.2 _ (yN a4);generalize p[k] =x at*;obtain⟨b,cw,B,ar,c3,cp,cq,ba,aw⟩:=(bc.O.U l).at_ a3;subst c3;obtain⟨a,R⟩:=eX x.ops.length;rw[<-R] at ba;have b6:wrap64 ((k:Int)+1)=(k:Int)+1:=cX g (lT a9.O (by decide));obtain⟨D,P⟩:=eX (wr.alloc (.cells #[.int .i64 x.args,.int .i64 x.rg,.slice B a ar] 99));have S:ac wr D:=by rw[P];exact oR.alloc _
   obtain⟨c1,a1⟩:=eX wr.heap.size;have W:ae D c1 99 #[.int .i64 x.args,.int .i64 x.rg,.slice B a ar]:=by rw[P,a1];exact bN
   obtain⟨d0,d1,d2⟩:=W.gE3;have bt:=hD (mq x.args);have bv:=hD (mq x.rg);have b4:gi x=(!(co x.args&&co x.rg)||decide (64<a)||x.ops.any (λo=>!cG o)):=by unfold gi;rw[R]
   generalize co x.args=cg at*;generalize co x.rg=ch at*;have y:=hD b4;have bb:=hD W;have H:=hD (aI R b2);have t:=hD a3;have bq:=hD E;have bf:=hD (aw.U S);have an:Hd (ac C D):=hD (l.trans S);have z:Hd (ac w D):=hD (K.O.trans (l.trans S));have bm:=hD a1;have am:=hD P.symm;clear a3 E l aw P S a1 W a4 R b2 b4;go_upto_region 7 with fail;rw[am.O,<-bm.O];clear am;clear cp cq ba b9;go_wp2_with fail;refine(bt.O _).mono ?_;rintro e d3 ⟨rfl,cb⟩;subst cb
   cases cg
   ·have d:Hd (q=false):=hD (by rw[m.O];exact kO t.O (by rw[y.O];rfl))
    go_wp2_with fail;go_ret;exact⟨by rw[d.O];rfl,z.O⟩
   go_wp2_with fail;refine(bv.O _).mono ?_;rintro e d4 ⟨rfl,cd⟩;subst cd
   cases ch
   ·have d:Hd (q=false):=hD (by rw[m.O];exact kO t.O (by rw[y.O];rfl))
    go_wp2_with fail;go_ret;exact⟨by rw[d.O];rfl,z.O⟩
   by_cases L:64<a
   ·have c6:decide ((64:Int)<(a:Int))=true:=yg (by omega)
    have d:Hd (q=false):=hD (by rw[m.O];exact kO t.O (by rw[y.O,yg L];rfl));clear L;go_wp2_with fail;go_ret;exact⟨by rw[d.O];rfl,z.O⟩
   have c6:decide ((64:Int)<(a:Int))=false:=yd (by omega);have bk:=hD L;clear L;go_wp2_with fail;obtain⟨d5,ce⟩:=eX wr;subst ce
   go_loopw [5] (λi wr2=>∃j:Nat,j<=a/\i=.int .i64 j/\(x.ops.take j).any (λo=>!cG o)=false/\ac D wr2) (λi _=>a-(intOf i).toNat)
   case atStart=>exact⟨0,yx _,rfl,rfl,oR⟩
   case round=>
    obtain⟨j,c8,rfl,G,s⟩:=hrel;have b8:=(s.J bb.O nF).I 2;simp at b8
    by_cases f:j<a
    ·have cv:(0:Int)<=(j:Int):=dK j
     have cf:(j:Int)<(a:Int):=cO f;have az:j<x.ops.length:=by rw[<-H.O.1];exact f
     have a6:x.ops[j]?=some x.ops[j]:=gG az;have b5:wrap64 ((j:Int)+1)=(j:Int)+1:=cX f (by rw[H.O.1];exact H.O.2);generalize x.ops[j] =o at*;obtain⟨cr,cB,c4,r⟩:=(bf.O.U s).at_ a6;subst c4;have T:=r 0 _ rfl;have ci:=r 1 _ rfl;have ck:=r 2 _ rfl;have cm:=r 3 _ rfl;have cn:=r 4 _ rfl;rw[yW] at T;have Q:=bo.O o wr;obtain⟨c0,a0⟩:=eX (cG o);rw[<-a0] at Q;unfold cR at Q;have a8:=hD Q;have ab:=hD a0;have ai:=hD a6;have br:=hD G;have v:=hD s;clear Q a0 a6 G s r az;go_wp2_with fail;refine a8.O.mono ?_;rintro e bz ⟨rfl,b7⟩;have ad:=hD (v.O.trans b7);clear b7 T ci ck cm cn b8 a8
     cases c0
     ·have d:Hd (q=false):=hD (by
       rw[m.O];refine kO t.O ?_;rw[y.O];have:x.ops.any (λo=>!cG o)=true:=zT.2 ⟨o,yh ai.O,by rw[<-ab.O];rfl⟩;rw[this];simp)
      have z:Hd (ac w bz):=hD (K.O.trans (an.O.trans ad.O));go_wp2_with fail;go_ret;exact⟨by rw[d.O];rfl,z.O⟩
     ·have V:=hD (tz (λo=>!cG o) ai.O br.O (by rw[<-ab.O];rfl))
      go_wp2_with fail;go_roundw
      case rel=>exact⟨j+1,f,by first|exact cK j|exact cH b5,V.O,ad.O⟩
      case measure=>first|exact aB rfl f|exact aB b5 f
    ·have cf:¬(j:Int)<(a:Int):=λe=>f (yB.1 e)
     have aE:j=a:=yT c8 (yA f);rw[aE,H.O.1,zr] at G;have V:Hd ((p.take (k+1)).any gi=false):=hD (tz gi t.O bq.O (by rw[y.O,G,yd bk.O];rfl));have v:Hd (ac C wr):=hD (an.O.trans s);clear G s aE;go_wp2_with fail;go_roundw
     case rel=>exact⟨k+1,g,by first|exact cK k|exact cH b6,V.O,v.O⟩
     case measure=>first|exact aB rfl g|exact aB b6 g
  ·have c7:¬(k:Int)<(n:Int):=λe=>g (yB.1 e)
   have b0:k=n:=yT c9 (yA g);rw[b0,u.O.1,zr] at E;have bx:Hd (q=true):=hD (by rw[m.O];unfold iq;rw[E,yg (by rw[<-u.O.1];exact a9.O)];rfl);have v:Hd (ac w wr):=hD (K.O.trans l);clear E l b0;go_wp2_with fail;go_ret;exact⟨by rw[bx.O];rfl,v.O⟩
theorem fc{r a:Int}:eu r [a] = !decide (r<=a):=by simp[eu]
theorem oh{r a b:Int}:eu r [a,b] = !(decide (r<=a)||decide (r<=b)):=by simp[eu]
theorem kN{r a b c:Int}:eu r [a,b,c] = !(decide (r<=a)||(decide (r<=b)||decide (r<=c))):=by simp[eu]
theorem BW(p:List ah)(x:ah)(o:bK)(A B:Option Addr)(c Y:Nat)(F:Nat->Prop)(w:World)(b2:fP w F A p)
 (l:1<=o.k/\o.k<=14) (t:0<=o.a/\o.a<=16) (b4:∀y∈p,0<=y.args/\y.args<=16):
 Calls Tryz.prog 71 #[aM p A c,sq x B Y,cR o] w λm w'=>m=.returned (.int .i64 (eI p x o))/\ac w w':=by
 obtain⟨q,ab⟩:=eX (eI p x o);rw[<-ab];obtain⟨n,ai⟩:=eX p.length;obtain⟨D,ad⟩:=eX x.ops.length;obtain⟨X,T⟩:=eX (w.alloc (.cells #[.slice A n c] 24));obtain⟨W,a0⟩:=eX (X.alloc (.cells #[.int .i64 x.args,.int .i64 x.rg,.slice B D Y] 99));obtain⟨P,a5⟩:=eX (W.alloc (.cells #[.int .u8 o.k,.int .i64 o.d,.int .i64 o.a,.int .i64 o.b,.int .i64 o.n] 106));have b6:ac w X:=by rw[T];exact(aa.refl _ w).alloc _
 have an:ac X W:=by rw[a0];exact oR.alloc _
 have a8:ac W P:=by rw[a5];exact oR.alloc _
 have am:ac w P:=(b6.trans an).trans a8;obtain⟨Z,a1⟩:=eX w.heap.size;have aw:ae P Z 24 #[.slice A n c]:=a8.J (an.J (by rw[T,a1];exact bN) nF) nF;have a2:ae P (Z+1) 99 #[.int .i64 x.args,.int .i64 x.rg,.slice B D Y]:=a8.J (by rw[a0];have:=ae.new X 99 #[.int .i64 x.args,.int .i64 x.rg,.slice B D Y];rw[show X.heap.size=Z+1 by rw[T,a1];simp] at this;exact this) nF;have Q:ae P (Z+1+1) 106 #[.int .u8 o.k,.int .i64 o.d,.int .i64 o.a,.int .i64 o.b,.int .i64 o.n]:=by rw[a5];have:=ae.new W 106 #[.int .u8 o.k,.int .i64 o.d,.int .i64 o.a,.int .i64 o.b,.int .i64 o.n];rw[show W.heap.size=Z+1+1 by rw[a0,T,a1];simp] at this;exact this
 have b7:=aw.I 0;have bf:=a2.I 0;have bk:=a2.I 1;have bm:=a2.I 2;have H:=Q.I 0;have bn:=Q.I 1;have bo:=Q.I 2;have bp:=Q.I 3;have b8:=Q.I 4;simp at b7 bf bk bm H bn bo bp b8;have av:=hD (b2.U am);have s:=hD am;have V:=hD (aI ai ad);have r:=hD a1;have ar:=hD (aI t b4);have z:=hD ab;have e:=hD (uE o.k);have g:=hD (show(((w.alloc (.cells #[.slice A n c] 24)).alloc (.cells #[.int .i64 x.args,.int .i64 x.rg,.slice B D Y] 99)).alloc (.cells #[.int .u8 o.k,.int .i64 o.d,.int .i64 o.a,.int .i64 o.b,.int .i64 o.n] 106))=P by rw[a5,a0,T]);unfold aM sq cR;rw[<-ai,<-ad];clear b2 b4 t T a0 a5 b6 an a8 am aw a2 Q a1 ai ad ab;have bb:o.k=1\/o.k=2\/o.k=14\/o.k=13\/o.k=10\/o.k=11\/o.k=12\/(3<=o.k/\o.k<=9):=by omega
 clear l
 rcases bb with l|l|l|l|l|l|l|l
 ·rw[l] at H e
  have f:=z;unfold eI at f;rw[l] at f;clear l z
  by_cases u:x.rg<=o.d
  ·have N:decide (x.rg<=o.d)=true:=yg u
   have i:Hd (q=111):=hD (by rw[f.O];simp[bi,fc,u]);go_enter Tryz.func71,Tryz.ntmps71;go_upto_region 1 with fail;rw[g.O,<-r.O];clear g;go_wp2_with fail;refine(e.O _).mono ?_;rintro m wh ⟨rfl,j⟩;subst j;clear e;go_wp2_with fail;go_ret;exact⟨by rw[i.O];rfl,s.O⟩
  ·have N:decide (x.rg<=o.d)=false:=yd u
   have i:Hd (q=0):=hD (by rw[f.O];simp[bi,fc,u]);go_enter Tryz.func71,Tryz.ntmps71;go_upto_region 1 with fail;rw[g.O,<-r.O];clear g;go_wp2_with fail;refine(e.O _).mono ?_;rintro m wh ⟨rfl,j⟩;subst j;clear e;go_wp2_with fail;go_ret;exact⟨by rw[i.O];rfl,s.O⟩
 ·rw[l] at H e
  have f:=z;unfold eI at f;rw[l] at f;clear l z
  by_cases u:x.rg<=o.d
  ·have N:decide (x.rg<=o.d)=true:=yg u
   have i:Hd (q=111):=hD (by rw[f.O];simp[bi,oh,u]);go_enter Tryz.func71,Tryz.ntmps71;go_upto_region 1 with fail;rw[g.O,<-r.O];clear g;go_wp2_with fail;refine(e.O _).mono ?_;rintro m wh ⟨rfl,j⟩;subst j;clear e;go_wp2_with fail;go_ret;exact⟨by rw[i.O];rfl,s.O⟩
  ·have N:decide (x.rg<=o.d)=false:=yd u
   by_cases t:x.rg<=o.a
   ·have L:decide (x.rg<=o.a)=true:=yg t
    have i:Hd (q=111):=hD (by rw[f.O];simp[bi,oh,u,t]);go_enter Tryz.func71,Tryz.ntmps71;go_upto_region 1 with fail;rw[g.O,<-r.O];clear g;go_wp2_with fail;refine(e.O _).mono ?_;rintro m wh ⟨rfl,j⟩;subst j;clear e;go_wp2_with fail;go_ret;exact⟨by rw[i.O];rfl,s.O⟩
   ·have L:decide (x.rg<=o.a)=false:=yd t
    have i:Hd (q=0):=hD (by rw[f.O];simp[bi,oh,u,t]);go_enter Tryz.func71,Tryz.ntmps71;go_upto_region 1 with fail;rw[g.O,<-r.O];clear g;go_wp2_with fail;refine(e.O _).mono ?_;rintro m wh ⟨rfl,j⟩;subst j;clear e;go_wp2_with fail;go_ret;exact⟨by rw[i.O];rfl,s.O⟩
 ·rw[l] at H e
  have f:=z;unfold eI at f;rw[l] at f;clear l z
  by_cases t:x.rg<=o.a
  ·have L:decide (x.rg<=o.a)=true:=yg t
   have i:Hd (q=111):=hD (by rw[f.O];simp[bi,fc,t]);go_enter Tryz.func71,Tryz.ntmps71;go_upto_region 1 with fail;rw[g.O,<-r.O];clear g;go_wp2_with fail;refine(e.O _).mono ?_;rintro m wh ⟨rfl,j⟩;subst j;clear e;go_wp2_with fail;go_ret;exact⟨by rw[i.O];rfl,s.O⟩
  ·have L:decide (x.rg<=o.a)=false:=yd t
   have i:Hd (q=0):=hD (by rw[f.O];simp[bi,fc,t]);go_enter Tryz.func71,Tryz.ntmps71;go_upto_region 1 with fail;rw[g.O,<-r.O];clear g;go_wp2_with fail;refine(e.O _).mono ?_;rintro m wh ⟨rfl,j⟩;subst j;clear e;go_wp2_with fail;go_ret;exact⟨by rw[i.O];rfl,s.O⟩
 ·rw[l] at H e
  have f:=z;unfold eI at f;rw[l] at f;clear l z;have i:Hd (q=0):=hD (by rw[f.O];simp);go_enter Tryz.func71,Tryz.ntmps71;go_upto_region 1 with fail;rw[g.O,<-r.O];clear g;go_wp2_with fail;refine(e.O _).mono ?_;rintro m wh ⟨rfl,j⟩;subst j;clear e;go_wp2_with fail;go_ret;exact⟨by rw[i.O];rfl,s.O⟩
 ·rw[l] at H e
  have f:=z;unfold eI at f;rw[l] at f;clear l z;rw[<-V.O.2] at f
  by_cases E:o.n<0
  ·have R:decide (o.n<0)=true:=yg E
   have v:¬(0<=o.n):=by omega
   have i:Hd (q=112):=hD (by rw[f.O];simp[bi,v]);go_enter Tryz.func71,Tryz.ntmps71;go_upto_region 1 with fail;rw[g.O,<-r.O];clear g;go_wp2_with fail;refine(e.O _).mono ?_;rintro m wh ⟨rfl,j⟩;subst j;clear e;go_wp2_with fail;go_ret;exact⟨by rw[i.O];rfl,s.O⟩
  ·have R:decide (o.n<0)=false:=yd E
   have v:0<=o.n:=by omega
   by_cases G:(D:Int)<=o.n
   ·have S:decide ((D:Int)<=o.n)=true:=yg G
    have C:¬(o.n<(D:Int)):=by omega
    have i:Hd (q=112):=hD (by rw[f.O];simp[bi,v,C]);go_enter Tryz.func71,Tryz.ntmps71;go_upto_region 1 with fail;rw[g.O,<-r.O];clear g;go_wp2_with fail;refine(e.O _).mono ?_;rintro m wh ⟨rfl,j⟩;subst j;clear e;go_wp2_with fail;go_ret;exact⟨by rw[i.O];rfl,s.O⟩
   ·have S:decide ((D:Int)<=o.n)=false:=yd G
    have C:o.n<(D:Int):=by omega
    have i:Hd (q=0):=hD (by rw[f.O];simp[bi,v,C]);go_enter Tryz.func71,Tryz.ntmps71;go_upto_region 1 with fail;rw[g.O,<-r.O];clear g;go_wp2_with fail;refine(e.O _).mono ?_;rintro m wh ⟨rfl,j⟩;subst j;clear e;go_wp2_with fail;go_ret;exact⟨by rw[i.O];rfl,s.O⟩
 ·rw[l] at H e
  have f:=z;unfold eI at f;rw[l] at f;clear l z;rw[<-V.O.2] at f
  by_cases t:x.rg<=o.a
  ·have L:decide (x.rg<=o.a)=true:=yg t
   have i:Hd (q=111):=hD (by rw[f.O];simp[bi,fc,t]);go_enter Tryz.func71,Tryz.ntmps71;go_upto_region 1 with fail;rw[g.O,<-r.O];clear g;go_wp2_with fail;refine(e.O _).mono ?_;rintro m wh ⟨rfl,j⟩;subst j;clear e;go_wp2_with fail;go_ret;exact⟨by rw[i.O];rfl,s.O⟩
  ·have L:decide (x.rg<=o.a)=false:=yd t
   by_cases E:o.n<0
   ·have R:decide (o.n<0)=true:=yg E
    have v:¬(0<=o.n):=by omega
    have i:Hd (q=112):=hD (by rw[f.O];simp[bi,fc,t,v]);go_enter Tryz.func71,Tryz.ntmps71;go_upto_region 1 with fail;rw[g.O,<-r.O];clear g;go_wp2_with fail;refine(e.O _).mono ?_;rintro m wh ⟨rfl,j⟩;subst j;clear e;go_wp2_with fail;go_ret;exact⟨by rw[i.O];rfl,s.O⟩
   ·have R:decide (o.n<0)=false:=yd E
    have v:0<=o.n:=by omega
    by_cases G:(D:Int)<=o.n
    ·have S:decide ((D:Int)<=o.n)=true:=yg G
     have C:¬(o.n<(D:Int)):=by omega
     have i:Hd (q=112):=hD (by rw[f.O];simp[bi,fc,t,v,C]);go_enter Tryz.func71,Tryz.ntmps71;go_upto_region 1 with fail;rw[g.O,<-r.O];clear g;go_wp2_with fail;refine(e.O _).mono ?_;rintro m wh ⟨rfl,j⟩;subst j;clear e;go_wp2_with fail;go_ret;exact⟨by rw[i.O];rfl,s.O⟩
    ·have S:decide ((D:Int)<=o.n)=false:=yd G
     have C:o.n<(D:Int):=by omega
     have i:Hd (q=0):=hD (by rw[f.O];simp[bi,fc,t,v,C]);go_enter Tryz.func71,Tryz.ntmps71;go_upto_region 1 with fail;rw[g.O,<-r.O];clear g;go_wp2_with fail;refine(e.O _).mono ?_;rintro m wh ⟨rfl,j⟩;subst j;clear e;go_wp2_with fail;go_ret;exact⟨by rw[i.O];rfl,s.O⟩
 ·rw[l] at H e
  have f:=z;unfold eI at f;rw[l] at f;clear l z;rw[<-V.O.1] at f
  by_cases u:x.rg<=o.d
  ·have N:decide (x.rg<=o.d)=true:=yg u
   have i:Hd (q=111):=hD (by rw[f.O];simp[bi,fc,u]);go_enter Tryz.func71,Tryz.ntmps71;go_upto_region 1 with fail;rw[g.O,<-r.O];clear g;go_wp2_with fail;refine(e.O _).mono ?_;rintro m wh ⟨rfl,j⟩;subst j;clear e;go_wp2_with fail;go_ret;exact⟨by rw[i.O];rfl,s.O⟩
  ·have N:decide (x.rg<=o.d)=false:=yd u
   by_cases E:o.n<0
   ·have R:decide (o.n<0)=true:=yg E
    have v:¬(0<=o.n):=by omega
    have i:Hd (q=112):=hD (by rw[f.O];simp[bi,fc,u,v]);go_enter Tryz.func71,Tryz.ntmps71;go_upto_region 1 with fail;rw[g.O,<-r.O];clear g;go_wp2_with fail;refine(e.O _).mono ?_;rintro m wh ⟨rfl,j⟩;subst j;clear e;go_wp2_with fail;go_ret;exact⟨by rw[i.O];rfl,s.O⟩
   ·have R:decide (o.n<0)=false:=yd E
    have v:0<=o.n:=by omega
    by_cases G:(n:Int)<=o.n
    ·have S:decide ((n:Int)<=o.n)=true:=yg G
     have C:¬(o.n<(n:Int)):=by omega
     have i:Hd (q=112):=hD (by rw[f.O];simp[bi,fc,u,v,C]);go_enter Tryz.func71,Tryz.ntmps71;go_upto_region 1 with fail;rw[g.O,<-r.O];clear g;go_wp2_with fail;refine(e.O _).mono ?_;rintro m wh ⟨rfl,j⟩;subst j;clear e;go_wp2_with fail;go_ret;exact⟨by rw[i.O];rfl,s.O⟩
    ·have S:decide ((n:Int)<=o.n)=false:=yd G
     have C:o.n<(n:Int):=by omega
     obtain⟨n',a7⟩ :∃n':Nat,o.n=(n':Int):=ym v;have b5:p[n']?=some (bG p o.n):=by rw[<-(gy v (by rw[<-V.O.1];exact C)).2,a7,yo]
     have al:=ar.O.2 (bG p o.n) (gy v (by rw[<-V.O.1];exact C)).1;obtain⟨b,c6,bq,br,b3,c0,_,_,_⟩:=av.O.at_ b5;have bx:(0:Int)<=(n':Int):=dK n';have bz:(n':Int)<(n:Int):=by rw[<-a7];exact C
     have a9:Hd (q=if (bG p o.n).args=0\/o.a+(bG p o.n).args<=x.rg then 0 else 111):=hD (by rw[f.O];simp[bi,fc,u,v,C];split<;>split<;>first|rfl|(exfalso;omega));generalize (bG p o.n).args=K at*;rw[a7] at b8 R S;rw[b3] at b7;clear b5 b3 a7 E G v C f av
     by_cases a3:K=0
     ·subst a3
      have i:Hd (q=0):=hD (by rw[a9.O,yf (.inl rfl)]);go_enter Tryz.func71,Tryz.ntmps71;go_upto_region 1 with fail;rw[g.O,<-r.O];clear g;go_wp2_with fail;refine(e.O _).mono ?_;rintro m wh ⟨rfl,j⟩;subst j;clear e;go_wp2_with fail;go_ret;exact⟨by rw[i.O];rfl,s.O⟩
     ·have bv:decide (0<K)=true:=yg (by omega)
      have bc:wrap64 (o.a+K)=o.a+K:=vS ar.O.1 al;have bt:=(aU (o.a+K)).trans bc
      by_cases a4:o.a+K<=x.rg
      ·have ba:decide (x.rg<o.a+K)=false:=yd (by omega)
       have i:Hd (q=0):=hD (by rw[a9.O,yf (.inr a4)]);clear a3 a4 al;go_enter Tryz.func71,Tryz.ntmps71;go_upto_region 1 with fail;rw[g.O,<-r.O];clear g;go_wp2_with fail;refine(e.O _).mono ?_;rintro m wh ⟨rfl,j⟩;subst j;clear e;go_wp2_with fail;go_ret;exact⟨by rw[i.O];rfl,s.O⟩
      ·have ba:decide (x.rg<o.a+K)=true:=yg (by omega)
       have i:Hd (q=111):=hD (by rw[a9.O,yb (λm=>m.elim a3 a4)]);clear a3 a4 al;go_enter Tryz.func71,Tryz.ntmps71;go_upto_region 1 with fail;rw[g.O,<-r.O];clear g;go_wp2_with fail;refine(e.O _).mono ?_;rintro m wh ⟨rfl,j⟩;subst j;clear e;go_wp2_with fail;go_ret;exact⟨by rw[i.O];rfl,s.O⟩
 ·have c2:(o.k==1)=false:=bF (by omega)
  have c3:(o.k==10)=false:=bF (by omega);have c4:(o.k==11)=false:=bF (by omega);have c5:(o.k==12)=false:=bF (by omega);have c1:¬o.k=12:=by omega
  have b0:dS o.k=true:=yg (by omega);have az:no o.k=true:=yg (by omega);have aE:ns o.k=true:=yg (by omega);have b1:nu o.k=false:=yd (by omega);rw[b0,az,aE,b1] at e;have f:=z;unfold eI at f;rw[yb (by omega),yb (by omega),yb (by omega),yb (by omega),yb (by omega),yb (by omega),yb (by omega)] at f;clear l z b0 az aE b1
  by_cases u:x.rg<=o.d
  ·have N:decide (x.rg<=o.d)=true:=yg u
   have i:Hd (q=111):=hD (by rw[f.O];simp[bi,kN,u]);go_enter Tryz.func71,Tryz.ntmps71;go_upto_region 1 with fail;rw[g.O,<-r.O];clear g;go_wp2_with fail;refine(e.O _).mono ?_;rintro m wh ⟨rfl,j⟩;subst j;clear e;go_wp2_with fail;go_ret;exact⟨by rw[i.O];rfl,s.O⟩
  ·have N:decide (x.rg<=o.d)=false:=yd u
   by_cases t:x.rg<=o.a
   ·have L:decide (x.rg<=o.a)=true:=yg t
    have i:Hd (q=111):=hD (by rw[f.O];simp[bi,kN,u,t]);go_enter Tryz.func71,Tryz.ntmps71;go_upto_region 1 with fail;rw[g.O,<-r.O];clear g;go_wp2_with fail;refine(e.O _).mono ?_;rintro m wh ⟨rfl,j⟩;subst j;clear e;go_wp2_with fail;go_ret;exact⟨by rw[i.O];rfl,s.O⟩
   ·have L:decide (x.rg<=o.a)=false:=yd t
    by_cases a6:x.rg<=o.b
    ·have b9:decide (x.rg<=o.b)=true:=yg a6
     have i:Hd (q=111):=hD (by rw[f.O];simp[bi,kN,u,t,a6]);go_enter Tryz.func71,Tryz.ntmps71;go_upto_region 1 with fail;rw[g.O,<-r.O];clear g;go_wp2_with fail;refine(e.O _).mono ?_;rintro m wh ⟨rfl,j⟩;subst j;clear e;go_wp2_with fail;go_ret;exact⟨by rw[i.O];rfl,s.O⟩
    ·have b9:decide (x.rg<=o.b)=false:=yd a6
     have i:Hd (q=0):=hD (by rw[f.O];simp[bi,kN,u,t,a6]);go_enter Tryz.func71,Tryz.ntmps71;go_upto_region 1 with fail;rw[g.O,<-r.O];clear g;go_wp2_with fail;refine(e.O _).mono ?_;rintro m wh ⟨rfl,j⟩;subst j;clear e;go_wp2_with fail;go_ret;exact⟨by rw[i.O];rfl,s.O⟩
theorem rz(p:List ah)(A:Option Addr)(c:Nat)(F:Nat->Prop)(w:World)(b0:fP w F A p)(ba:p.length<=1000)(bc:∀x∈p,x.ops.length<=1000):
 Calls Tryz.prog 34 #[aM p A c] w λf w'=>qj w w' p f:=by
 obtain⟨n,a5⟩:=eX p.length;obtain⟨R,a0⟩:=eX (w.alloc (.cells #[.slice A n c] 24));have ab:ac w R:=by rw[a0];exact(aa.refl _ w).alloc _
 obtain⟨d7,b7⟩:=eX w.heap.size;have az:ae R d7 24 #[.slice A n c]:=by rw[a0,b7];exact bN
 have m:=az.I 0;simp at m;obtain⟨c4,b5⟩:=eX (iq p);have X:=hD b5
 have br:Hd (Calls Tryz.prog 70 #[.agg #[.slice A n c]] R λf w'=>f=.returned (.bool c4)/\ac R w'):=hD (by
  have:=xw p A c F R (b0.U ab) ba bc;unfold aM at this;rw[<-a5,<-b5] at this;exact this)
 have bn:=hD (b0.U ab);have bv:=hD az;have cw:=hD ab;have t:=hD (aI a5 (aI ba bc));have cv:=hD b7;have bx:=hD a0.symm;unfold aM;rw[<-a5];clear b0 ba bc a5 a0 ab b7 az b5;go_enter Tryz.func34,Tryz.ntmps34;go_upto_region 1 with fail;rw[bx.O,<-cv.O];clear bx;go_wp2_with fail;refine br.O.mono ?_;rintro f av ⟨rfl,ad⟩;have an:=hD (ad.J bv.O nF);have bo:=hD (bn.O.U ad);have E:=hD (cw.O.trans ad);have m:=an.O.I 0;simp at m;clear ad br bv bn
 cases c4
 ·have d:Hd (bE p=8):=hD (by unfold bE;rw[yf X.O.symm])
  have e:=E;go_wp2_with fail
  go_ret3
  refine⟨0,0,?_,e.O⟩;rw[d.O];rfl
 by_cases a6:n=0
 ·subst a6
  have d:Hd (bE p=110):=hD (by unfold bE;rw[yb (by rw[<-X.O];simp),yf (yr t.O.1.symm)]);have e:=E;go_wp2_with fail
  go_ret3
  refine⟨0,0,?_,e.O⟩;rw[d.O];rfl
 have e9:((n:Int)==0)=false:=bF (by omega);have Q:Hd (bE p=dO p p):=hD (by unfold bE;rw[yb (by rw[<-X.O];simp),yb (λf=>a6 (by rw[t.O.1,f];rfl))]);have am:=hD (ng X.O.symm);have e5:=hD a6;clear a6;go_wp2_with fail
 go_loopw [5] (λi wr=>∃k:Nat,k<=n/\i=.int .i64 k/\dO p (p.drop k)=dO p p/\ac av wr) (λi _=>n-(intOf i).toNat)
 case atStart=>exact⟨0,yx _,rfl,rfl,oR⟩
 case round=>
  obtain⟨k,dl,rfl,V,P⟩:=hrel;have ck:=(P.J an.O nF).I 0;simp at ck
  by_cases g:k<n
  ·have e8:(0:Int)<=(k:Int):=dK k
   have db:(k:Int)<(n:Int):=cO g;have a3:k<p.length:=by rw[<-t.O.1];exact g
   have b9:p[k]?=some p[k]:=gG a3;have bb:=yN a3;have c7:=yM a3;generalize p[k] =x at*;obtain⟨b,ds,B,aE,d8,e2,e3,cm,c5⟩:=(bo.O.U P).at_ b9;subst d8;obtain⟨r,a4⟩:=eX x.ops.length;rw[<-a4] at cm;have a8:wrap64 ((k:Int)+1)=(k:Int)+1:=cX g (by rw[t.O.1];exact t.O.2.1);obtain⟨H,a1⟩:=eX (wr.alloc (.cells #[.int .i64 x.args,.int .i64 x.rg,.slice B r aE] 99));have bk:ac wr H:=by rw[a1];exact oR.alloc _
   obtain⟨d6,b6⟩:=eX wr.heap.size;have aw:ae H d6 99 #[.int .i64 x.args,.int .i64 x.rg,.slice B r aE]:=by rw[a1,b6];exact bN
   obtain⟨ei,ej,ek⟩:=aw.gE3;have cn:=hD aw;have cr:=hD (am.O x bb);have C:=hD a4;have e4:=hD b9;have z:=hD c7;have D:=hD V;have bp:=hD (c5.U bk);have G:Hd (ac av H):=hD (P.trans bk);have cs:=hD b6;have bz:=hD a1.symm;have bq:Hd (r<=64):=hD (by rw[a4];exact(am.O x bb).2.2.1);clear b9 V P c5 a1 bk b6 aw a3 a4 c7 bb;go_upto_region 9 with fail;rw[bz.O,<-cs.O];clear bz e2 e3 cm ck
   by_cases a2:x.rg<x.args
   ·have da:decide (x.rg<x.args)=true:=yg a2
    have c6:mE x=110:=by unfold mE;rw[yd (by omega)];rfl
    have d:Hd (bE p=110):=hD (by
     have S:eK p x 0=110:=by rw[rM,c6]
     have a:bh p x=110:=by rw[pu (k:=0) (by rw[S];decide),S]
     rw[Q.O,<-D.O,z.O,fF (by rw[a];decide),a])
    have e:Hd (ac w H):=hD (E.O.trans G.O);clear a2 c6;go_wp2_with fail
    go_ret3
    refine⟨(k:Int),0,?_,e.O⟩;rw[d.O];rfl
   have da:decide (x.rg<x.args)=false:=yd a2;have cq:Hd (mE x=0):=hD (by unfold mE;rw[yg (by omega)];rfl);clear a2;go_wp2_with fail;obtain⟨el,dm⟩:=eX wr;subst dm
   go_loopw [7] (λi wr2=>∃j:Nat,j<=r/\i=.int .i64 j/\eK p x j=0/\ac H wr2) (λi _=>r-(intOf i).toNat)
   case atStart=>exact⟨0,yx _,rfl,by rw[rM];exact cq.O,oR⟩
   case round=>
    obtain⟨j,dd,rfl,a7,l⟩:=hrel;have b3:=l.J cn.O nF;obtain⟨ch,ci,dv⟩:=b3.gE3;have bm:=((G.O.trans l).J an.O nF).I 0;simp at bm
    by_cases s:j<r
    ·have ec:(0:Int)<=(j:Int):=dK j
     have dp:(j:Int)<(r:Int):=cO s;have b8:j<x.ops.length:=by rw[<-C.O];exact s
     have bf:x.ops[j]?=some x.ops[j]:=gG b8;have c8:=cr.O.2.2.2 x.ops[j] (yN b8);have cd:wrap64 ((j:Int)+1)=(j:Int)+1:=cX s (lT bq.O (by decide));generalize x.ops[j] =o at*;obtain⟨c0,cg,b1,q⟩:=(bp.O.U l).at_ bf;subst b1;have m:=q 0 _ rfl;have dw:=q 1 _ rfl;have dz:=q 2 _ rfl;have e0:=q 3 _ rfl;have e1:=q 4 _ rfl;rw[yW] at m;obtain⟨c2,d4,c3,d5⟩:=lX c8;have L:=BW p x o (some ⟨b,ds,none⟩) (some ⟨c0,cg,none⟩) c aE F wr.drew (((bo.O.U G.O).U l).U oR.drew) c2 c3 (λy dn=>(am.O y dn).1);rw[<-vz bf a7] at L;obtain⟨Z,b4⟩:=eX (eK p x (j+1));rw[<-b4] at L;unfold aM sq cR at L;rw[<-t.O.1,<-C.O] at L;have ai:=hD L;have al:=hD b4;have Y:=hD l;clear L b4 bf a7 l q b8 c8 c2 d4 c3 d5 b3;go_wp2_with fail
     go_still_tail 7,(by kernel_rfl)
     change wpList _ _ _ _ _ wr.drew;obtain⟨d0,b2⟩:=eX wr.drew;rw[<-b2] at ai ⊢;have cB:Hd (ac H d0):=hD (by rw[b2];exact Y.O.drew);clear b2 m dw dz e0 e1 ch ci dv bm;go_wp2_with fail;refine ai.O.mono ?_;rintro f d1 ⟨rfl,cf⟩;have bt:=hD (cB.O.trans cf);clear cf ai
     by_cases T:Z=0
     ·subst T
      go_wp2_with fail;go_roundw
      case rel=>exact⟨j+1,s,by first|exact cK j|exact cH cd,al.O.symm,bt.O⟩
      case measure=>first|exact aB rfl s|exact aB cd s
     ·have d:Hd (bE p=Z):=hD (by
       have S:eK p x (j+1)≠0:=by rw[<-al.O];exact T
       have a:=pu S;rw[Q.O,<-D.O,z.O,fF (by rw[a];exact S),a,al.O])
      have e:Hd (ac w d1):=hD (E.O.trans (G.O.trans bt.O));have ea:(Z==0)=false:=bF T;have eb:(Z !=0)=true:=bT T;clear T;go_wp2_with fail
      go_ret3
      refine⟨(k:Int),(j:Int),?_,e.O⟩;rw[d.O];rfl
    ·have dp:¬(j:Int)<(r:Int):=λf=>s (yB.1 f)
     have dk:j=r:=yT dd (yA s);subst dk;have W:Hd (∀b,iu x=b->bh p x=bi 0 b 113):=hD λb d9=>by unfold bh;rw[<-C.O,a7,d9]
     have Y:Hd (ac av wr):=hD (G.O.trans l);have cp:=hD (bp.O.U l);have e:Hd (ac w wr):=hD (E.O.trans (G.O.trans l));clear a7 l ch ci bm b3
     by_cases v:j=0
     ·have ce:x.ops= []:=yr (by rw[<-C.O];exact v)
      have d:Hd (bE p=113):=hD (by
       have a:bh p x=113:=W.O false (by unfold iu;rw[ce];rfl);rw[Q.O,<-D.O,z.O,fF (by rw[a];decide),a])
      subst v;clear ce;go_wp2_with fail
      go_ret3
      refine⟨(k:Int),0,?_,e.O⟩;rw[d.O];rfl
     obtain⟨dr,ee,ef,dq,a9⟩:=rh v bq.O;have e7:((j:Int)==0)=false:=bF (by omega);have cb:x.ops[j-1]?=some (x.ops.getD (j-1) nW):=by rw[yc,gG (by rw[<-C.O];exact a9)];rfl
     obtain⟨c0,cg,b1,q⟩:=cp.O.at_ cb
     have N:iu x=((x.ops.getD (j-1) nW).k==10||(x.ops.getD (j-1) nW).k==14):=by
      unfold iu;rw[<-C.O,yg (Nat.pos_of_ne_zero v),Bool.true_and]
     generalize x.ops.getD (j-1) nW=o at*;subst b1;have m:=q 0 _ rfl;rw[yW] at m;clear q cb dq;have eg:=(aU ((j:Int)-1)).trans dr
     by_cases u:o.k=10
     ·have a:bh p x=0:=W.O true (by rw[N,u];rfl)
      have ar:Hd (dO p (p.drop (k+1))=dO p p):=hD (by rw[<-D.O,z.O,iS a]);rw[u] at m;clear N u v a9 a;go_wp2_with fail;go_roundw
      case rel=>exact⟨k+1,g,by first|exact cK k|exact cH a8,ar.O,Y.O⟩
      case measure=>first|exact aB rfl g|exact aB a8 g
     have c1:(o.k==10)=false:=bF u;have d2:(o.k !=10)=true:=bT u
     by_cases K:o.k=14
     ·have a:bh p x=0:=W.O true (by rw[N,K];rfl)
      have ar:Hd (dO p (p.drop (k+1))=dO p p):=hD (by rw[<-D.O,z.O,iS a]);rw[K] at m;clear N u K v a9 c1 d2 a;go_wp2_with fail;go_roundw
      case rel=>exact⟨k+1,g,by first|exact cK k|exact cH a8,ar.O,Y.O⟩
      case measure=>first|exact aB rfl g|exact aB a8 g
     have d3:(o.k==14)=false:=bF K;have e6:(o.k !=14)=true:=bT K
     have d:Hd (bE p=113):=hD (by
      have a:bh p x=113:=W.O false (by rw[N,c1,d3];rfl);rw[Q.O,<-D.O,z.O,fF (by rw[a];decide),a])
     clear N u K v a9;go_wp2_with fail
     go_ret3
     refine⟨(k:Int),((j-1:Nat):Int),?_,e.O⟩;rw[d.O];rfl
  ·have db:¬(k:Int)<(n:Int):=λf=>g (yB.1 f)
   have c9:k=n:=yT dl (yA g);rw[c9,t.O.1,zq] at V;have d:Hd (bE p=0):=hD (by rw[Q.O,<-V];rfl);have e:Hd (ac w wr):=hD (E.O.trans P);clear V P c9;go_wp2_with fail
   go_ret3
   refine⟨0,0,?_,e.O⟩;rw[d.O];rfl
def fV(p:List ah)(n:Nat):Int:=if bE p≠0 then bE p else if (n:Int)≠(bG p 0).args then 114 else 0
theorem tI{p:List ah}(a:bE p=0):p≠[]:=by
 unfold bE at a;split at a
 ·cases a
 ·split at a
  ·cases a
  ·assumption
theorem xu(p:List ah)(A a0:Option Addr)(c a a4:Nat)(F:Nat->Prop)(w:World)(z:fP w F A p)(P:p.length<=1000)(R:∀x∈p,x.ops.length<=1000):
 Calls Tryz.prog 39 #[aM p A c,.slice a0 a a4] w λd w'=>d=.returned (.int .i64 (fV p a))/\ac w w':=by
 obtain⟨n,r⟩:=eX p.length;obtain⟨i,o⟩:=eX (w.alloc (.cells #[.slice A n c] 24));have s:ac w i:=by rw[o];exact(aa.refl _ w).alloc _
 obtain⟨a1,C⟩:=eX w.heap.size;have y:ae i a1 24 #[.slice A n c]:=by rw[o,C];exact bN
 have G:=y.I 0;simp at G;obtain⟨e,q⟩:=eX (bE p);obtain⟨k,D⟩:=eX (fV p a);rw[<-D]
 have t:Hd (Calls Tryz.prog 34 #[.agg #[.slice A n c]] i λd w'=>∃fn V,d=.returned (.tuple #[.int .i64 e,.int .i64 fn,.int .i64 V])/\ac i w'):=hD (by
  have:=rz p A c F i (z.U s) P R;unfold aM qj at this;rw[<-r,<-q] at this;exact this)
 have m:Hd (k=if e≠0 then e else if (a:Int)≠(bG p 0).args then 114 else 0):=hD (by rw[D,q];rfl);have u:Hd (e=0->p≠[]):=hD λd=>tI (by rw[<-q];exact d)
 have W:=hD (z.U s);have Z:=hD y;have Y:=hD s;have K:=hD r;have X:=hD C;have L:=hD o.symm;unfold aM;rw[<-r];clear z P R r o s C y q D;go_enter Tryz.func39,Tryz.ntmps39;go_upto_region 1 with fail;rw[L.O,<-X.O];clear L;go_wp2_with fail;refine t.O.mono ?_;rintro d a6 ⟨fn,V,rfl,l⟩;have v:=hD (Y.O.trans l);have G:=(l.J Z.O nF).I 0;simp at G
 by_cases j:e=0
 ·have S:=u.O j
  subst j;have Q:0<n:=by rw[K.O];exact zK.2 S
  obtain⟨x,E⟩ :∃x,p[0]?=some x:=⟨p[0]'(by rw[<-K.O];exact Q),gG _⟩
  have N:bG p 0=x:=by unfold bG;rw[yc,show(0:Int).toNat=0 from rfl,E];rfl
  obtain⟨b,ab,B,a7,a2,a5,_,_,_⟩:=(W.O.U l).at_ E;subst a2;rw[Nat.zero_mul,yW] at a5;have a9:(0:Int)<(n:Int):=by omega
  have H:Hd (k=if (a:Int)≠x.args then 114 else 0):=hD (by rw[m.O,yb (by simp),N]);clear S E N Q l t m u
  by_cases f:(a:Int)=x.args
  ·have T:((a:Int)==x.args)=true:=beq_iff_eq.2 f
   have a3:((a:Int) !=x.args)=false:=by simp[bne,T]
   have g:Hd (k=0):=hD (by rw[H.O,yb (λd=>d f)]);clear f;go_wp2_with fail;go_ret;exact⟨by rw[g.O];rfl,v.O⟩
  ·have T:((a:Int)==x.args)=false:=bF f
   have a3:((a:Int) !=x.args)=true:=bT f;have g:Hd (k=114):=hD (by rw[H.O,yf f]);clear f;go_wp2_with fail;go_ret;exact⟨by rw[g.O];rfl,v.O⟩
 ·have a8:(e==0)=false:=bF j
  have g:Hd (k=e):=hD (by rw[m.O,yf j]);clear j l t m u;go_wp2_with fail;go_ret;exact⟨by rw[g.O];rfl,v.O⟩
def dZ(p:List ah)(n:Nat)(fuel:Int):Int:=if fV p n≠0 then fV p n else if fuel<0\/65536<fuel then 2 else 0
theorem eG{w w':World}{A:Option Addr}{n d:Nat}{xs:List Value}(b:bP w w.heap.size d A n xs)(c:ac w w'):bP w' w'.heap.size d A n xs:=
 ⟨b.1,λi=>by
   obtain⟨a,e,f,g⟩:=b.2 i;refine⟨a,e,lL f c.size,λj u k=>?_⟩;have:=g j u k;exact(c.I (p:=a.add j) (block_lt_of_cell this) nF).trans this⟩
theorem wM{w:World}{F:Nat->Prop}{A:Option Addr}{xs:List Int}(i:aJ w F A xs):bP w w.heap.size 1 A xs.length (xs.map (Value.int .i64)):=by
 refine⟨by simp,λc=>?_⟩
 rcases i with⟨_,f⟩|⟨b,o,g,_,d⟩
 ·rw[f] at c;exact absurd c (by simp)
 ·refine⟨⟨b,o,none⟩,g,?_,λj u a=>?_⟩
  ·exact block_lt_of_cell (d 0 c).2
  ·rw[yJ] at a
   cases hx:xs[j]? with
   |none=>rw[hx] at a;cases a
   |some y=>
    rw[hx] at a
    cases a
    have k:=(gS hx).1;have e:=(d j k).2;rw[yc,hx] at e;rw[bg];exact e
theorem sL{p:List ah}{n:Nat}{a:Int}(b:fV p n≠0):dZ p n a=fV p n:=yf b
theorem AR{p:List ah}{n:Nat}(a:fV p n=0):(n:Int)=(bG p 0).args:=by
 unfold fV at a;split at a
 ·rename_i b;exact absurd a b
 ·split at a
  ·cases a
  ·rename_i b
   exact Classical.not_not.1 b
theorem vd{p:List ah}{n:Nat}(a:fV p n=0):bE p=0:=by
 unfold fV at a;split at a
 ·rename_i b;exact absurd a b
 ·rename_i b;exact Classical.not_not.1 b
theorem qS(a b:Int)(w:World)(d:b≠0):Calls Tryz.prog 167 #[.int .i64 a,.int .i64 b] w λe w'=>e=.returned (.tuple #[.int .i64 (wrap64 (a.tdiv b)),.int .i64 (a.tmod b)])/\ac w w':=by
 by_cases c:b= -1
 ·subst c
  have f:a.tdiv (-1)= -a:=by rw[Int.tdiv_neg,Int.tdiv_one]
  have g:a.tmod (-1)=0:=by rw[Int.tmod_neg,Int.tmod_one]
  rw[f,g];go_enter Tryz.func167,Tryz.ntmps167;go_wp2_with fail;refine bodyPost_ret (results_tmp2 rfl _ _ _) rfl ?_;exact⟨rfl,oR⟩
 ·have i:(b== -1)=false:=bF c
  have j:¬b=0:=d;have k:(b==0)=false:=bF d;go_enter Tryz.func167,Tryz.ntmps167;go_wp2_with fail
  go_quiet (fail)
  go_wp2_with fail;refine bodyPost_ret (results_tmp2 rfl _ _ _) rfl ?_;exact⟨rfl,oR.drewN _⟩
theorem my(k a b:Int)(w:World)(m:2<=k/\k<=9)(o:ju a):Calls Tryz.prog 135 #[.int .u8 k,.int .i64 a,.int .i64 b] w λj w'=>j=.returned (fL (du k a b))/\ac w w':=by
 have d:k=2\/k=3\/k=4\/k=5\/k=6\/k=7\/k=8\/k=9:=by omega
 clear m
 rcases d with d|d|d|d|d|d|d|d
 ·subst d
  rw[show fL (du 2 a b)=.tuple #[.int .i64 a,.bool true] from rfl];go_enter Tryz.func135,Tryz.ntmps135;go_wp2_with fail;refine bodyPost_ret (results_tmp2 rfl _ _ _) rfl ?_;exact⟨rfl,oR⟩
 ·subst d
  rw[show fL (du 3 a b)=.tuple #[.int .i64 (wrap64 (a+b)),.bool true] by rw[<-aU];rfl];go_enter Tryz.func135,Tryz.ntmps135;go_wp2_with fail;refine bodyPost_ret (results_tmp2 rfl _ _ _) rfl ?_;exact⟨rfl,oR⟩
 ·subst d
  rw[show fL (du 4 a b)=.tuple #[.int .i64 (wrap64 (a-b)),.bool true] by rw[<-aU];rfl];go_enter Tryz.func135,Tryz.ntmps135;go_wp2_with fail;refine bodyPost_ret (results_tmp2 rfl _ _ _) rfl ?_;exact⟨rfl,oR⟩
 ·subst d
  rw[show fL (du 5 a b)=.tuple #[.int .i64 (wrap64 (a*b)),.bool true] by rw[<-aU];rfl];go_enter Tryz.func135,Tryz.ntmps135;go_wp2_with fail;refine bodyPost_ret (results_tmp2 rfl _ _ _) rfl ?_;exact⟨rfl,oR⟩
 ·subst d
  by_cases c:b=0
  ·subst c
   rw[show fL (du 6 a 0)=.tuple #[.int .i64 0,.bool false] from rfl];go_enter Tryz.func135,Tryz.ntmps135;go_wp2_with fail;refine bodyPost_ret (results_tmp2 rfl _ _ _) rfl ?_;exact⟨rfl,oR⟩
  ·have g:=hD (qS a b w c)
   have e:du 6 a b=some (wrap64 (a.tdiv b)):=by rw[<-aU];unfold du;simp[c]
   rw[e,show fL (some (wrap64 (a.tdiv b)))=.tuple #[.int .i64 (wrap64 (a.tdiv b)),.bool true] from rfl];clear e;generalize wrap64 (a.tdiv b)=x at*;have n:(b==0)=false:=bF c;go_enter Tryz.func135,Tryz.ntmps135;go_wp2_with fail;refine g.O.mono ?_;rintro j p ⟨rfl,f⟩;have i:=hD f;clear f;go_wp2_with fail;refine bodyPost_ret (results_tmp2 rfl _ _ _) rfl ?_;exact⟨rfl,i.O⟩
 ·subst d
  by_cases c:b=0
  ·subst c
   rw[show fL (du 7 a 0)=.tuple #[.int .i64 0,.bool false] from rfl];go_enter Tryz.func135,Tryz.ntmps135;go_wp2_with fail;refine bodyPost_ret (results_tmp2 rfl _ _ _) rfl ?_;exact⟨rfl,oR⟩
  ·have g:=hD (qS a b w c)
   have e:du 7 a b=some (a.tmod b):=by rw[<-vT (vP (y:=b) o),<-aU];unfold du;simp[c]
   rw[e,show fL (some (a.tmod b))=.tuple #[.int .i64 (a.tmod b),.bool true] from rfl];clear e;generalize a.tmod b=x at*;have n:(b==0)=false:=bF c;go_enter Tryz.func135,Tryz.ntmps135;go_wp2_with fail;refine g.O.mono ?_;rintro j p ⟨rfl,f⟩;have i:=hD f;clear f;go_wp2_with fail;refine bodyPost_ret (results_tmp2 rfl _ _ _) rfl ?_;exact⟨rfl,i.O⟩
 ·subst d
  by_cases c:a<b
  ·rw[show fL (du 8 a b)=.tuple #[.int .i64 1,.bool true] by unfold du;simp[c,fL]]
   have l:decide (a<b)=true:=yg c;clear c;go_enter Tryz.func135,Tryz.ntmps135;go_wp2_with fail;refine bodyPost_ret (results_tmp2 rfl _ _ _) rfl ?_;exact⟨rfl,oR⟩
  ·rw[show fL (du 8 a b)=.tuple #[.int .i64 0,.bool true] by unfold du;simp[c,fL]]
   have l:decide (a<b)=false:=yd c;clear c;go_enter Tryz.func135,Tryz.ntmps135;go_wp2_with fail;refine bodyPost_ret (results_tmp2 rfl _ _ _) rfl ?_;exact⟨rfl,oR⟩
 ·subst d
  by_cases c:a=b
  ·rw[show fL (du 9 a b)=.tuple #[.int .i64 1,.bool true] by unfold du;simp[c,fL]]
   have l:(a==b)=true:=beq_iff_eq.2 c;clear c;go_enter Tryz.func135,Tryz.ntmps135;go_wp2_with fail;refine bodyPost_ret (results_tmp2 rfl _ _ _) rfl ?_;exact⟨rfl,oR⟩
  ·rw[show fL (du 9 a b)=.tuple #[.int .i64 0,.bool true] by unfold du;simp[c,fL]]
   have l:(a==b)=false:=bF c;clear c;go_enter Tryz.func135,Tryz.ntmps135;go_wp2_with fail;refine bodyPost_ret (results_tmp2 rfl _ _ _) rfl ?_;exact⟨rfl,oR⟩
theorem BQ(l:List UInt8)(g:fU l)(w:World):Calls Tryz.prog 97 #[.string (sB l)] w λq w'=>q=.returned (.bool true)/\ac w w':=by
 have o:(sB l).size<=12:=by rw[jY];exact g.1
 have p:Hd (∀k,(f:k<(sB l).size)->1<=(sB l)[k].toNat/\(sB l)[k].toNat<=16):=hD (λk f=>by
  have r:k<l.length:=by rw[<-jY];exact f
  have:((sB l)[k]'f)=l[k]:=by simp[sB,ByteArray.getElem_eq_getElem_data]
  simp only[this];exact g.2 _ (yN r))
 clear g;generalize sB l=s at*;have e:=hD o;clear o;go_enter Tryz.func97,Tryz.ntmps97;go_wp2_with fail
 go_loopw [3] (λi wr=>∃k:Nat,k<=s.size/\i=.int .i64 k/\ac w wr) (λi _=>s.size-(intOf i).toNat)
 case atStart=>exact⟨0,by omega,rfl,oR⟩
 case round=>
  obtain⟨k,B,rfl,b⟩:=hrel
  by_cases a:k<s.size
  ·obtain⟨j,m⟩:=p.O k a
   have t:(0:Int)<=(k:Int):=by omega
   have n:(k:Int)<(s.size:Int):=by omega
   obtain⟨x,c⟩:=eX (s[k].toNat:Nat);rw[<-c] at j m
   have A:∀W:World,(Instr.index 9 (.string s) (.int .i64 (k:Int))).run Tryz.prog W=.ok (.int .u8 (x:Int)) W:=λW=>by
    rw[run_index_string W _ s _ _ Tryz.underlying9,dif_pos ⟨t,n⟩,c];rfl
   have v:decide ((x:Int)<1)=false:=yd (by omega);have y:decide ((16:Int)<(x:Int))=false:=yd (by omega);have d:=hD b;have u:=hD c;clear b c j m;go_wp2_with fail;go_roundw
   case rel=>exact⟨k+1,by omega,by rw[cX a (by have:=e.O;omega)];rfl,d.O⟩
   case measure=>exact aB (cX a (by have:=e.O;omega)) a
  ·have n:¬(k:Int)<(s.size:Int):=by omega
   have z:decide ((s.size:Int)<=12)=true:=yg (by have:=e.O;omega);have d:=hD b;clear b;go_wp2_with fail;go_ret;exact⟨rfl,d.O⟩
theorem sK(l:List UInt8)(e:fU l)(n:Nat)(v:1<=n)(x:n<=16)(w:World):Calls Tryz.prog 82 #[.string (sB l),.int .i64 (n:Int)] w λa w'=>a=.returned (mc l n)/\ac w w':=by
 have g:=hD (BQ l e w);have q:decide ((n:Int)<1)=false:=yd (by omega);have r:decide ((16:Int)<(n:Int))=false:=yd (by omega);have f:=jY l;have k:=e.1;have A:IntKind.u8.wrap (n:Int)=(n:Int):=by unfold IntKind.wrap;simp[IntKind.bits,IntKind.signed];omega
 clear e
 by_cases b:l.length=12
 ·have a:mc l n=.tuple #[.string ByteArray.empty,.bool false]:=yf b
  rw[a];have o:(sB l).size=12:=by rw[f];exact b
  have z:decide (12<=(((sB l).size:Nat):Int))=true:=yg (by omega);clear a f k b;generalize sB l=s at*;go_enter Tryz.func82,Tryz.ntmps82;go_wp2_with fail;refine g.O.mono ?_;rintro a p ⟨rfl,c⟩;have d:=hD c;clear c;go_wp2_with fail
  go_ret2
  exact⟨rfl,d.O⟩
 ·have a:mc l n=.tuple #[.string (sB (l++ [UInt8.ofNat n])),.bool true]:=yb b
  have o:decide (12<=(((sB l).size:Nat):Int))=false:=yd (by omega);have y:¬9223372036854775807<(sB l).size+1:=by omega
  have t:∀W:World,(convert 72 9 (.slice (some ⟨W.heap.size,0,none⟩) 1 1)).run Tryz.prog (W.alloc (.cells #[.int .u8 (n:Int)] 5))=.ok (.string ⟨#[UInt8.ofNat n]⟩) (W.alloc (.cells #[.int .u8 (n:Int)] 5)):=by
   intro W;have m:=ae.new W 5 #[.int .u8 (n:Int)]
   have:=run_convert_bytes_arg (P:=Tryz.prog) (W.alloc (.cells #[.int .u8 (n:Int)] 5)) 72 5 Tryz.underlying72 Tryz.underlying5 W.heap.size 0 1 1 [(n:Int)] rfl (λi u=>by
    have:i=0:=by omega
    subst this;exact m.I 0) 9 Tryz.underlying9
   rw[this]
   congr 2
  have j:sB (l++ [UInt8.ofNat n])=sB l++(⟨#[UInt8.ofNat n]⟩ :ByteArray):=by
   apply ByteArray.ext;simp[sB]
  rw[a,j];clear a f k b j;generalize sB l=s at*;go_enter Tryz.func82,Tryz.ntmps82;go_wp2_with fail;refine g.O.mono ?_;rintro a p ⟨rfl,c⟩;have d:=hD c;clear c;go_wp2_with fail
  go_ret2
  exact⟨rfl,d.O.alloc _⟩
structure ep where
 rg:List Int
 at_:Int
 left:Nat
 kd:Nat
 first:Nat
 into:List Int
structure gT where
 PA:Option Addr
 pc:Nat
 TA:Option Addr
 tc:Nat
 gb:Nat
 rc:Nat
 iv:Value
 dv:Value
def cT(L:gT)(n:Nat)(t:aj)(s:ep):Array Value:=
 #[.slice L.PA n L.pc,.string (sB t.M),.int .i64 t.fn,.slice L.TA t.args.length L.tc,.int .i64 (t.fuel:Int),.slice (some ⟨L.gb,0,none⟩) s.rg.length L.rc,.int .i64 s.at_,.int .i64 (s.left:Int),.int .i64 (s.kd:Int),.int .i64 (s.first:Int),L.iv,L.dv]
structure cu(w:World)(rb:Nat)(L:gT)(p:List ah)(t:aj)(s:ep):Prop where
 J:ae w rb 112 (cT L p.length t s)
 rg:ae w L.gb 2 (s.rg.map (Value.int .i64)).toArray
 into:w.ownsRow 0 3 1 L.iv s.into.length (s.into.map (Value.int .i64))
 cap:s.rg.length<=L.rc
def F7(w w':World)(A TA:Option Addr)(c tc:Nat)(p:List ah)(t:aj)(e:Ending):Prop:=
 ∃rb gb rc,e=.returned (.pointer (some ⟨rb,0,none⟩))/\bl w w' rb/\bl w w' gb/\cu w' rb ⟨A,c,TA,tc,gb,rc,.slice none 0 0,.slice none 0 0⟩ p t ⟨ij p t.fn t.args,0,t.fuel,0,1,[]⟩/\ac w w'
def lb(rl:Nat)(xs:List Int):List Int:=xs++List.replicate (rl-xs.length) 0
theorem ut{rl:Nat}{xs:List Int}(a:xs.length<=rl):(lb rl xs).length=rl:=by
 unfold lb;rw[yk,List.length_replicate];omega
theorem Bz{rl k:Nat}{xs:List Int}{x:Int}(b:xs[k]?=some x)(e:xs.length<=rl):(lb rl (xs.take k)).set k x=lb rl (xs.take (k+1)):=by
 have f:=(gS b).1;have a:(xs.take k).length=k:=by rw[ze];omega
 have c:(xs.take (k+1)).length=k+1:=by rw[ze];omega
 unfold lb;rw[a,c,List.set_append_right k x (by omega),a,Nat.sub_self];have d:rl-k=(rl-(k+1))+1:=by omega
 rw[d,List.replicate_succ,List.set_cons_zero,yO,b,yY];rfl
theorem pX(l:List Int)(k:Nat)(x:Int):((l.map (Value.int .i64)).toArray.setIfInBounds k (.int .i64 x))=((l.set k x).map (Value.int .i64)).toArray:=by
 apply Yd.1;simp
theorem ca{fn n:Nat}(a:fn<n):(0:Int)<=(fn:Int)/\(fn:Int)<(n:Int):=by omega
theorem xo(p:List ah)(A e:Option Addr)(c g:Nat)(F ci:Nat->Prop)(t:aj)(w:World)(bz:fP w F A p)(c1:gH p)(c0:aJ w ci e t.args)(o:cC p t):
 Calls Tryz.prog 40 #[aM p A c,.agg (bX t e g)] w λN w'=>F7 w w' A e c g p t N:=by
 obtain⟨n,a8⟩:=eX p.length;obtain⟨al,a5⟩:=eX t.args.length;obtain⟨fn,S⟩ :∃fn:Nat,t.fn=(fn:Int):=ym o.fn0;obtain⟨x,V⟩:=eX (bG p t.fn);have c8:p[fn]?=some x:=by rw[V,<-(gy o.fn0 o.fn1).2,S,yo]
 have G:=c1.fn o.fn0 o.fn1;rw[<-V] at G;obtain⟨da,db⟩:=ca (fn:=fn) (n:=n) (by have:=o.fn1;rw[S,<-a8] at this;exact yB.1 this);obtain⟨K,Q⟩:=eX (w.alloc (.cells #[.slice A n c] 24));obtain⟨s,a3⟩:=eX (K.alloc (.cells #[.string (sB t.M),.int .i64 (fn:Int),.slice e al g,.int .i64 (t.fuel:Int)] 30));have cg:ac w K:=by rw[Q];exact(aa.refl _ w).alloc _
 have ba:ac K s:=by rw[a3];exact oR.alloc _
 obtain⟨d,a7⟩:=eX w.heap.size;have aw:ae s d 24 #[.slice A n c]:=ba.J (by rw[Q,a7];exact bN) nF;have aE:ae s (d+1) 30 #[.string (sB t.M),.int .i64 (fn:Int),.slice e al g,.int .i64 (t.fuel:Int)]:=by rw[a3];have:=ae.new K 30 #[.string (sB t.M),.int .i64 (fn:Int),.slice e al g,.int .i64 (t.fuel:Int)];rw[show K.heap.size=d+1 by rw[Q,a7];simp] at this;exact this
 have H:=cg.trans ba;obtain⟨b,l,B,bv,d5,b8,ab,b9,_⟩:=bz.at_ c8;subst d5;obtain⟨rl,T⟩ :∃rl:Nat,x.rg=(rl:Int):=ym (by have:=G.a0;have:=G.ar;omega);have a9:rl<=16:=by have:=G.r16;rw[T] at this;omega
 rw[T] at ab;have dk:=(H.I (p:=⟨b,l+fn*3,none⟩) (block_lt_of_cell b8) nF).trans b8;have dl:=(H.I (p:=⟨b,l+fn*3+1,none⟩) (block_lt_of_cell ab) nF).trans ab;have ce:=(H.I (p:=⟨b,l+fn*3+2,none⟩) (block_lt_of_cell b9) nF).trans b9;have c2:al<=rl:=by have d3:=o.al;have d4:=G.ar;rw[<-V,<-a5] at d3;rw[T] at d4;omega
 obtain⟨cf,c7⟩:=eX x.ops.length;rw[<-c7] at ce;have ch:=aw.I 0;simp[] at ch;obtain⟨dn,dp,bc,dq⟩:=aE.gE4;have ck:=hD aw;have cm:=hD aE;have cv:=hD H;have cr:=hD (c0.kp H nG);have j:=hD (aI a8 (aI a5 (aI S V)));have cq:=hD a7;have r:=hD (aI T (aI a9 c2));have bq:=hD (show((w.alloc (.cells #[.slice (some ⟨b,l,none⟩) n c] 24)).alloc (.cells #[.string (sB t.M),.int .i64 (fn:Int),.slice e al g,.int .i64 (t.fuel:Int)] 30))=s by rw[a3,Q]);unfold aM bX;rw[<-a8,<-a5,S];clear bz c1 c0 o a8 a5 S V c8 G T a9 c2 Q a3 cg ba a7 aw aE H b8 ab b9 c7;go_enter Tryz.func40,Tryz.ntmps40;go_upto_region 1 with fail;rw[bq.O,<-cq.O];clear bq;go_wp2_with fail;clear dk dl ce da db ch dn dp bc dq;obtain⟨f,a4⟩:=eX (s.alloc (.cells #[.int .i64 x.args,.int .i64 (rl:Int),.slice B cf bv] 99));obtain⟨fp,b6⟩:=eX s.heap.size;rw[<-a4,<-b6];have Y:ac s f:=by rw[a4];exact oR.alloc _
 have br:ae f fp 99 #[.int .i64 x.args,.int .i64 (rl:Int),.slice B cf bv]:=by rw[a4,b6];exact bN
 have az:=Y.J ck.O nF;have b0:=Y.J cm.O nF
 have m:Hd (∀W,ac f W->ac f W/\W.cell? ⟨d,0,none⟩=some (.slice (some ⟨b,l,none⟩) n c)/\W.cell? ⟨d+1,0,none⟩=some (.string (sB t.M))/\W.cell? ⟨d+1,1,none⟩=some (.int .i64 (fn:Int))/\W.cell? ⟨d+1,2,none⟩=some (.slice e al g)/\W.cell? ⟨d+1,3,none⟩=some (.int .i64 (t.fuel:Int))/\W.cell? ⟨fp,1,none⟩=some (.int .i64 (rl:Int))):=hD λW a2=>by
  have dr:=a2.J az nF;have ad:=a2.J b0 nF;have ds:=a2.J br nF;exact⟨a2,dr.I 0,ad.I 0,ad.I 1,ad.I 2,ad.I 3,ds.I 1⟩
 obtain⟨C,b3⟩:=eX ((List.replicate rl (Value.int .i64 0)).toArray);obtain⟨dd,c5,c9,cb,cd⟩:=lB;have a9:=r.O.2.1
 have d8:∀W,(Instr.makeSlice 25 (.int .i64 (rl:Int)) (.int .i64 (rl:Int))).run Tryz.prog W=.ok (.slice (some ⟨W.heap.size,0,none⟩) rl rl) (W.alloc (.cells C 2)):=λW=>by
  have:=li (P:=Tryz.prog) 25 2 dd (.int .i64 0) Tryz.underlying25 c5 c9 .i64 .i64 rl rl (lR) (by rw[cd];omega) (by omega) W;rw[cb,Nat.mul_one] at this;rw[this,b3]
  congr 3
  apply Yd.1;rw[show(Value.int .i64 0).cells= #[.int .i64 0] from rfl,toList_madeCells_one]
 have dw:=hD az;have cn:=hD b0;have bo:=hD (cv.O.trans Y);have bn:=hD (cr.O.kp Y nG);have d1:=hD b3;have d6:=m.O f oR;clear a4 b6 Y br az b0 c5 c9 cb cd b3 a9
 go_region_held3 (λw'=>ac f w'/\w'.cell? ⟨d,0,none⟩=some (.slice (some ⟨b,l,none⟩) n c)/\w'.cell? ⟨d+1,0,none⟩=some (.string (sB t.M))/\w'.cell? ⟨d+1,1,none⟩=some (.int .i64 (fn:Int))/\w'.cell? ⟨d+1,2,none⟩=some (.slice e al g)/\w'.cell? ⟨d+1,3,none⟩=some (.int .i64 (t.fuel:Int))/\w'.cell? ⟨fp,1,none⟩=some (.int .i64 (rl:Int)))
  (with_reducible first|exact m.O _ (aa.drew oR)|exact m.O _ oR|exact m.O _ (aa.alloc oR _)|exact m.O _ (aa.alloc (aa.drew oR) _)|exact m.O _ (aa.alloc (aa.alloc oR _) _)|exact m.O _ (aa.alloc (aa.alloc (aa.drew oR) _) _)|fail) (fail)
 obtain⟨a,E⟩:=eX f.heap.size;rw[<-E];obtain⟨L,R⟩:=eX (((f.alloc (.cells C 2)).alloc (.cells #[.slice (some ⟨b,l,none⟩) n c,.string (sB t.M),.int .i64 (fn:Int),.slice e al g,.int .i64 (t.fuel:Int),.slice (some ⟨a,0,none⟩) rl rl,.int .i64 0,.int .i64 (t.fuel:Int),.int .i64 0,.int .i64 1,.slice none 0 0,.slice none 0 0] 112)).drew);rw[<-R];have a1:=(aa.refl (λ_=>False) f).alloc (.cells C 2);have bb:=(aa.refl (λ_=>False) (f.alloc (.cells C 2))).alloc (.cells #[.slice (some ⟨b,l,none⟩) n c,.string (sB t.M),.int .i64 (fn:Int),.slice e al g,.int .i64 (t.fuel:Int),.slice (some ⟨a,0,none⟩) rl rl,.int .i64 0,.int .i64 (t.fuel:Int),.int .i64 0,.int .i64 1,.slice none 0 0,.slice none 0 0] 112);have Z:ac f L:=by rw[R];exact(a1.trans bb).drew
 have b1:ae L a 2 C:=by rw[R];exact(bb.J (by rw[E];exact bN) nF).drew
 have bt:ae L (a+1) 112 #[.slice (some ⟨b,l,none⟩) n c,.string (sB t.M),.int .i64 (fn:Int),.slice e al g,.int .i64 (t.fuel:Int),.slice (some ⟨a,0,none⟩) rl rl,.int .i64 0,.int .i64 (t.fuel:Int),.int .i64 0,.int .i64 1,.slice none 0 0,.slice none 0 0]:=by
  rw[R];have:=ae.new (f.alloc (.cells C 2)) 112 #[.slice (some ⟨b,l,none⟩) n c,.string (sB t.M),.int .i64 (fn:Int),.slice e al g,.int .i64 (t.fuel:Int),.slice (some ⟨a,0,none⟩) rl rl,.int .i64 0,.int .i64 (t.fuel:Int),.int .i64 0,.int .i64 1,.slice none 0 0,.slice none 0 0];rw[World.size_alloc,<-E] at this;exact this.drew
 have d2:Hd (ae L a 2 ((lb rl (t.args.take 0)).map (Value.int .i64)).toArray):=hD (by
  have:(lb rl (t.args.take 0)).map (Value.int .i64)=List.replicate rl (.int .i64 0):=by unfold lb;simp
  rw[this,<-d1.O];exact b1)
 have cB:=hD bt;have bf:=hD (Z.J cn.O nF);have dz:=hD (bn.O.kp Z nG);have cw:=hD (bo.O.trans Z);have am:Hd (w.heap.size<=a):=hD (by rw[E];exact bo.O.size);have cp:=hD E.symm;have bp:=hD Z;have bm:Hd (d+1≠a/\a+1≠a):=hD ⟨ae.ne_ bf.O b1 (by decide),by omega⟩;clear d6 R a1 bb Z b1 bt E d8 m;go_upto_region 3 with fail;go_wp2_with fail
 go_loopw [7] (λi wr=>∃k:Nat,k<=al/\i=.int .i64 k/\aa (λb=>b=a) L wr/\ae wr a 2 ((lb rl (t.args.take k)).map (Value.int .i64)).toArray) (λi _=>al-(intOf i).toNat)
 case atStart=>exact⟨0,by omega,rfl,oR,d2.O⟩
 case round=>
  obtain⟨k,e3,rfl,z,q⟩:=hrel;have b5:=z.J bf.O bm.O.1;have a6:=z.J cB.O bm.O.2;have bc:=b5.I 2;simp[] at bc;have dm:=a6.I 5;simp[] at dm
  by_cases v:k<al
  ·obtain⟨y,X⟩ :∃y,t.args[k]?=some y:=⟨t.args[k]'(by rw[<-j.O.2.1];exact v),gG _⟩
   rcases bn.O with⟨_,N⟩|⟨av,a1,rfl,_,bx⟩
   ·rw[N] at X;cases X
   have D:=(bx k (by rw[<-j.O.2.1];exact v)).2;rw[yc,X,zU] at D;have d7:av≠a:=λN=>by have:=block_lt_of_cell D;rw[cp.O,N] at this;exact absurd this (yQ _)
   have e0:=(z.I (p:=⟨av,a1+k,none⟩) (lL (block_lt_of_cell D) bp.O.size) d7).trans ((bp.O.I (p:=⟨av,a1+k,none⟩) (block_lt_of_cell D) nF).trans D);have b7:k<rl:=lL v r.O.2.2;have b4:al<=1000:=lT r.O.2.2 (lT r.O.2.1 (by decide));obtain⟨e5,e6⟩:=ca v;obtain⟨_,e7⟩:=ca b7;have d9:=cX v b4;have e4:=(aU _).trans d9;have e1:=q.fz k;have c4:=q.I k;have u:=ut (rl:=rl) (xs:=t.args.take k) (by rw[ze,<-j.O.2.1];omega);rw[zi,yJ,gG (by rw[u];exact b7),yU] at c4;generalize (lb rl (t.args.take k))[k]'(by rw[u];exact b7)=z0 at c4;have ai:=hD q;have an:=hD z;have d0:=hD X;have dv:=hD (aI u b4);clear z q b5 a6 X bx D u b4;go_wp2_with fail
   go_still_tail 10,(by kernel_rfl)
   change wpList _ _ _ _ _ wr.drew;go_wp2_with fail;refine⟨⟨k+1,v,rfl,(an.O.trans (af _ _ _ _)).drew,?_⟩,aB rfl v⟩;have:=(ai.O.s_ k (.int .i64 y)).drew;rw[pX,Bz d0.O (by rw[<-j.O.2.1];exact r.O.2.2)] at this;exact this
  ·have e2:¬(k:Int)<(al:Int):=by omega
   have c6:k=al:=by omega
   have ai:=hD q;have an:=hD z;have bk:=hD a6;have cs:=hD c6;clear z q b5 a6 c6;go_wp2_with fail;go_ret
   have c3:lb rl (t.args.take k)=ij p t.fn t.args:=by
    unfold lb ij;rw[cs.O,j.O.2.1,zr,<-j.O.2.2.2,r.O.1,yo]
   have u:(ij p t.fn t.args).length=rl:=by
    rw[<-c3];exact ut (by rw[ze,<-j.O.2.1];have:=r.O.2.2;omega)
   have b2:=ai.O;rw[c3] at b2;refine⟨a+1,a,rl,rfl,⟨zJ am.O,bk.O.lt⟩,⟨am.O,b2.lt⟩,⟨?_,b2,⟨rfl,.inl ⟨rfl,rfl⟩⟩,by rw[u];exact lR⟩,cw.O.trans' an.O (λb q=>.inr (by rw[q];exact am.O))⟩;unfold cT;simp only;rw[<-j.O.1,u,<-j.O.2.1,j.O.2.2.1];exact bk.O
def qK(w w':World)(p:List ah)(inp:List Int)(fuel:Int)(e:Ending):Prop:=
 ac w w'/\(dZ p inp.length fuel≠0->e=.returned (.tuple #[.agg #[.string ⟨#[]⟩,.int .i64 0,.slice none 0 0,.int .i64 0],.int .i64 (dZ p inp.length fuel)]))/\
  (dZ p inp.length fuel=0->∃A c,e=.returned (.tuple #[.agg (bX ⟨[],0,inp,fuel.toNat⟩ A c),.int .i64 0])/\aJ w' (bl w w') A inp)
theorem xy(p:List ah)(A v:Option Addr)(c V:Nat)(F ch:Nat->Prop)(d:List Int)(a:Int)(w:World)(b1:fP w F A p)(b8:p.length<=1000)(b9:∀x∈p,x.ops.length<=1000)(b3:bP w w.heap.size 1 v d.length (d.map (Value.int .i64)))(b7:d.length<=1000):
 Calls Tryz.prog 12 #[aM p A c,.slice v d.length V,.int .i64 a] w λz w'=>qK w w' p d a z:=by
 obtain⟨n,T⟩:=eX p.length;obtain⟨q,a7⟩:=eX d.length;obtain⟨D,E⟩:=eX (w.alloc (.cells #[.slice A n c] 24));obtain⟨r,Q⟩:=eX (D.alloc (.cells #[.string ⟨#[]⟩,.int .i64 0,.slice none 0 0,.int .i64 0] 30));have bb:ac w D:=by rw[E];exact(aa.refl _ w).alloc _
 have ab:ac D r:=by rw[Q];exact oR.alloc _
 obtain⟨e,R⟩:=eX w.heap.size;have b0:ae r e 24 #[.slice A n c]:=ab.J (by rw[E,R];exact bN) nF;have aE:ae r (e+1) 30 #[.string ⟨#[]⟩,.int .i64 0,.slice none 0 0,.int .i64 0]:=by rw[Q];have:=ae.new D 30 #[.string ⟨#[]⟩,.int .i64 0,.slice none 0 0,.int .i64 0];rw[show D.heap.size=e+1 by rw[E,R];simp] at this;exact this
 have W:=bb.trans ab;obtain⟨H,a4⟩:=eX (fV p q)
 have av:Hd (Calls Tryz.prog 39 #[.agg #[.slice A n c],.slice v q V] r λz w'=>z=.returned (.int .i64 H)/\ac r w'):=hD (by
  have:=xu p A v c q V F r (b1.U W) b8 b9;unfold aM at this;rw[<-T,<-a4] at this;exact this)
 have am:=hD aE;have bo:=hD W;have ar:=hD (eG b3 W);have j:=hD (aI T (aI a7 (aI a4 b7)));have Z:=hD R;have az:=hD (show((w.alloc (.cells #[.slice A n c] 24)).alloc (.cells #[.string ⟨#[]⟩,.int .i64 0,.slice none 0 0,.int .i64 0] 30))=r by rw[Q,E]);have bc:=b0.I 0;simp at bc;unfold aM;rw[<-T,<-a7];clear b1 b8 b9 b3 b7 T a7 E Q bb ab R b0 aE W a4;go_enter Tryz.func12,Tryz.ntmps12;go_upto_region 1 with fail;rw[az.O,<-Z.O];clear az;go_wp2_with fail;refine av.O.mono ?_;rintro z f ⟨rfl,X⟩;have a1:=hD (bo.O.trans X);have o:=X.J am.O nF;obtain⟨bt,bv,bx,bz⟩:=o.gE4;obtain⟨c0,c1,c6,c7⟩:=o.fE4;have al:=hD o;have bm:=hD (eG ar.O X);clear X o av bc ar am;have K:Hd (ae ((((f.setCell ⟨e+1,0,none⟩ (.string ⟨#[]⟩)).setCell ⟨e+1,1,none⟩ (.int .i64 0)).setCell ⟨e+1,2,none⟩ (.slice none 0 0)).setCell ⟨e+1,3,none⟩ (.int .i64 0)) (e+1) 30 #[.string ⟨#[]⟩,.int .i64 0,.slice none 0 0,.int .i64 0]):=hD ((((al.O.s_ 0 _).s_ 1 _).s_ 2 _).s_ 3 _);have N:Hd (ac w ((((f.setCell ⟨e+1,0,none⟩ (.string ⟨#[]⟩)).setCell ⟨e+1,1,none⟩ (.int .i64 0)).setCell ⟨e+1,2,none⟩ (.slice none 0 0)).setCell ⟨e+1,3,none⟩ (.int .i64 0))):=hD (a1.O.trans' (aD (aD (aD (af f (e+1) _ _)))) (λb G=>.inr (by rw[G,Z.O];exact yX _)))
 by_cases B:H=0
 ·subst B
  have a0:Hd (dZ p d.length a=if a<0\/65536<a then 2 else 0):=hD (by unfold dZ;rw[<-j.O.2.1,<-j.O.2.2.1,yb (by simp)])
  by_cases s:a<0
  ·have c8:decide (a<0)=true:=yg s
   have l:Hd (dZ p d.length a=2):=hD (by rw[a0.O,yf (.inl s)]);clear s;go_wp2_with fail;refine bodyPost_ret (aO Tryz.results12 rfl (cs:=#[.string ⟨#[]⟩,.int .i64 0,.slice none 0 0,.int .i64 0]) K.O Tryz.underlying30 rfl (by kernel_rfl)) rfl ?_;refine⟨N.O,λ_=>by rw[l.O];rfl,λm=>?_⟩;rw[l.O] at m
   cases m
  have c8:decide (a<0)=false:=yd s
  by_cases C:65536<a
  ·have c9:decide (65536<a)=true:=yg C
   have l:Hd (dZ p d.length a=2):=hD (by rw[a0.O,yf (.inr C)]);clear s C;go_wp2_with fail;refine bodyPost_ret (aO Tryz.results12 rfl (cs:=#[.string ⟨#[]⟩,.int .i64 0,.slice none 0 0,.int .i64 0]) K.O Tryz.underlying30 rfl (by kernel_rfl)) rfl ?_;refine⟨N.O,λ_=>by rw[l.O];rfl,λm=>?_⟩;rw[l.O] at m
   cases m
  have c9:decide (65536<a)=false:=yd C;have l:Hd (dZ p d.length a=0):=hD (by rw[a0.O,yb (λz=>z.elim s C)]);have bf:Hd (a=((a.toNat:Nat):Int)):=hD (by omega);clear s C K N;obtain⟨cf,b6,a8,a9,ba⟩:=lB
  have bq:Hd (∀ad,bP (f.alloc ad) f.heap.size 1 v q (d.map (Value.int .i64))):=hD λad=>by
   have:=bm.O;rw[<-j.O.2.1] at this;exact this.alloc (lR) ad
  have L:=hD (aI b6 (aI a8 (aI a9 ba)));have aw:Hd (q<=1000):=hD (by rw[j.O.2.1];exact j.O.2.2.2);clear b6 a8 a9 ba
  go_wp2_with (at_builtin;refine fX _ rfl _ _ 25 rfl f.heap.size 2 cf (.int .i64 0) 1 8 Tryz.underlying25 L.O.1 L.O.2.1 L.O.2.2.1 L.O.2.2.2 rfl (by decide) _ _ _ rfl (World.ownsRow_made f #[] 0 (lR) (yx _) (by simp)) f.heap.size v q V (d.map (Value.int .i64)) rfl (bq.O _) ?c2 ?c3 ?c4 ?c5 ?_)
  case c2=>intro u ce;obtain⟨y,_,rfl⟩:=yL.1 ce;rfl
  case c3=>rw[yq];exact lT aw.O (by unfold maxLen;decide)
  case c4=>rw[yq];exact lT (zP 8 aw.O) (by decide)
  case c5=>simp
  intro cg Y a6 b5 cb;have a5:ac f Y:=((aa.refl (λ_=>False) f).alloc _).grown b5 (λk S=>.inr (by simp[Value.ownBlock] at S;omega));have o:=a5.J al.O nF;obtain⟨bt,bv,bx,bz⟩:=o.gE4;obtain⟨c0,c1,c6,c7⟩:=o.fE4
  obtain⟨t,c',hv,b4⟩ :∃t c',cg=.slice t q c'/\aJ Y (bl f Y) t d:=by
   rcases a6.2 with⟨P,a2⟩|⟨g,br,cur,P,a2,a3,ci⟩
   ·exact⟨none,0,by rw[P,a2],.inl ⟨rfl,yr (by rw[<-j.O.2.1,a2])⟩⟩
   ·refine⟨some ⟨g,0,none⟩,br,P,.inr ⟨g,0,rfl,λ_=>⟨⟨by assumption,(yu.1 a3).1⟩,cur,a3⟩,λk S=>⟨⟨by assumption,(yu.1 a3).1⟩,?_⟩⟩⟩
    have b2:=a6;rw[P] at b2;have:=b2.cells (g:=g) rfl k (.int .i64 (d.getD k 0)) (by rw[yJ,gG S,yc,gG S];rfl);rw[bg,yq] at this;rw[yq];exact this
  subst hv;have bp:=hD a5;have bk:=hD b4;have an:=hD o;clear a6 b5 cb a5 b4 o;go_wp2_with fail;refine bodyPost_ret (aO Tryz.results12 rfl (cs:=#[.string ⟨#[]⟩,.int .i64 0,.slice t q c',.int .i64 a]) ((((an.O.s_ 0 _).s_ 1 _).s_ 2 _).s_ 3 _) Tryz.underlying30 rfl (by kernel_rfl)) rfl ?_;have ai:=aD (i:=3) (u:=.int .i64 a) (aD (i:=2) (u:=.slice t q c') (aD (i:=1) (u:=.int .i64 0) (af Y (e+1) 0 (.string ⟨#[]⟩))));have cd:=(a1.O.trans bp.O).trans' ai (λb G=>.inr (by rw[G,Z.O];exact yX _));refine⟨cd,λm=>absurd l.O m,λ_=>⟨t,c',?_,?_⟩⟩
  ·unfold bX
   rw[<-j.O.2.1,<-bf.O];rfl
  ·exact(bk.O.by_type ai an.O (by decide)).mo λb G=>(G.dn a1.O.size).up ai.size
 ·have a8:(H==0)=false:=bF B
  have a9:(H !=0)=true:=bT B;have l:Hd (dZ p d.length a=H):=hD (by rw[<-j.O.2.1,sL (by rw[<-j.O.2.2.1];exact B),j.O.2.2.1]);have bn:=hD B;clear B;go_wp2_with fail;refine bodyPost_ret (aO Tryz.results12 rfl (cs:=#[.string ⟨#[]⟩,.int .i64 0,.slice none 0 0,.int .i64 0]) K.O Tryz.underlying30 rfl (by kernel_rfl)) rfl ?_;refine⟨N.O,λ_=>by rw[l.O];rfl,λm=>?_⟩;rw[l.O] at m;exact absurd m bn.O
end
end Go.Proofs.YtmdocplknceilaaGreat
