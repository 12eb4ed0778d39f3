import Derived.Test.YtmdocplknceilaaGreatSWAV
set_option linter.all false
set_option maxRecDepth 100000
set_option maxHeartbeats 2000000
namespace Go.Proofs.YtmdocplknceilaaGreat
section
open Go.RowKit Go.Maps
def xR(w w':World)(p:List aj)(t:aA)(e:Ending):Prop:=∃fb L,e=.returned (.tuple #[.pointer (some ⟨fb,0,none⟩),.int .i64 0])/\aT w' (bC w w') fb L p (Fr.begun p t)/\ac w w'
theorem wQ{fn n al fl:Nat}{xa:Int}(e:fn<n)(c:(al:Int)=xa)(f:fl<=65536):(0:Int)<=(fn:Int)/\(fn:Int)<(n:Int)/\decide ((fn:Int)<0)=false/\decide ((n:Int)<=(fn:Int))=false/\((al:Int) !=xa)=false/\decide ((fl:Int)<0)=false/\decide ((65536:Int)<(fl:Int))=false:=by
 refine⟨by omega,by omega,yd (by omega),yd (by omega),by simp[bne,c],yd (by omega),yd (by omega)⟩
theorem sX(p:List aj)(A R:Option Addr)(c Y:Nat)(F cr:Nat->Prop)(t:aA)(w:World)(b5:cy w F A p)(dp:∀b,F b->b<w.heap.size)(e4:cz p=0)(b6:jw p)(cg:∀x∈p,kA x)(dq:aU w cr R t.args)(G:eh p t):
 Calls Tryz.prog 62 #[aS p A c,.agg (db t R Y)] w λm w'=>xR w w' p t m:=by
 obtain⟨n,T⟩:=eX p.length;obtain⟨al,b9⟩:=eX t.args.length;obtain⟨fn,aE⟩ :∃fn:Nat,t.fn=(fn:Int):=ym G.fn0;obtain⟨x,N⟩:=eX (bY p t.fn);have e6:p[fn]?=some x:=by rw[N,<-(jz G.fn0 G.fn1).2,aE,yo]
 have ch:=b6.fn G.fn0 G.fn1;rw[<-N] at ch;have dz:t.fuel<=65536:=G.fl;have e3:n<=16:=by rw[T];exact b6.p16
 obtain⟨gu,gx,fj,fk,fo,fp,fq⟩:=wQ (fn:=fn) (n:=n) (al:=al) (xa:=x.args) (fl:=t.fuel) (by have:=G.fn1;rw[aE,<-T] at this;exact yB.1 this) (by rw[b9,N];exact G.al) dz;obtain⟨an,aw⟩:=eX (w.alloc (.cells #[.slice A n c] 24));obtain⟨C,b7⟩:=eX (an.alloc (.cells #[.string (sB t.M),.int .i64 (fn:Int),.slice R al Y,.int .i64 (t.fuel:Int)] 30));have ei:ac w an:=by rw[aw];exact(aa.refl _ w).alloc _
 have cm:ac an C:=by rw[b7];exact oR.alloc _
 obtain⟨g,b0⟩:=eX w.heap.size;have c2:ae C g 24 #[.slice A n c]:=cm.J (by rw[aw,b0];exact bN) nF;have c3:ae C (g+1) 30 #[.string (sB t.M),.int .i64 (fn:Int),.slice R al Y,.int .i64 (t.fuel:Int)]:=by rw[b7];have:=ae.new an 30 #[.string (sB t.M),.int .i64 (fn:Int),.slice R al Y,.int .i64 (t.fuel:Int)];rw[show an.heap.size=g+1 by rw[aw,b0];simp] at this;exact this
 have X:=ei.trans cm;obtain⟨b,l,B,gq,fv,bm,ck,_,_⟩:=b5.at_ e6;subst fv;have dw:b<g:=by rw[b0];exact block_lt_of_cell bm
 have ci:=(X.I (p:=⟨b,l+fn*3,none⟩) (block_lt_of_cell bm) nF).trans bm;have eg:=(X.I (p:=⟨b,l+fn*3+1,none⟩) (block_lt_of_cell ck) nF).trans ck
 have d2:Hd (Calls Tryz.prog 58 #[.agg #[.slice (some ⟨b,l,none⟩) n c]] C λm w'=>∃fn gb,m=.returned (.tuple #[.int .i64 0,.int .i64 fn,.int .i64 gb])/\ac C w'):=hD (by
  have:=qa p (some ⟨b,l,none⟩) c F C (b5.U X) (λb i=>lL (dp b i) X.size) (by rw[<-T];exact lT e3 (by decide)) cg;unfold aS tY at this;rw[<-T,e4] at this;exact this)
 have f0:=hD (kE t.M ⟨G.pth.1,G.pth.2⟩)
 have a1:Hd (∀W,ac C W->ac C W/\W.cell? ⟨g,0,none⟩=some (.slice (some ⟨b,l,none⟩) n c)/\W.cell? ⟨g+1,0,none⟩=some (.string (sB t.M))/\W.cell? ⟨g+1,1,none⟩=some (.int .i64 (fn:Int))/\W.cell? ⟨g+1,2,none⟩=some (.slice R al Y)/\W.cell? ⟨g+1,3,none⟩=some (.int .i64 (t.fuel:Int))/\W.cell? ⟨b,l+fn*3,none⟩=some (.int .i64 x.args)):=hD λW K=>by
  have cq:=K.J c2 nF;have V:=K.J c3 nF;exact⟨K,cq.I 0,V.I 0,V.I 1,V.I 2,V.I 3,(K.I (p:=⟨b,l+fn*3,none⟩) (block_lt_of_cell ci) nF).trans ci⟩
 have eq:=hD c2;have er:=hD c3;have d3:=hD X;have f4:=hD (b5.U X);have f8:=hD (dq.kp X nG);have r:=hD (aI T (aI b9 (aI aE N)));have d1:=hD b0;have Z:=hD ch;have bx:=hD G;have d4:=hD (aI b6 cg);have cB:Hd (decide (n<=fn)=false/\decide (65536<t.fuel)=false):=hD ⟨yd (by omega),yd (by omega)⟩;have bv:=hD eg;have f1:=hD dw;have d6:=hD (show((w.alloc (.cells #[.slice (some ⟨b,l,none⟩) n c] 24)).alloc (.cells #[.string (sB t.M),.int .i64 (fn:Int),.slice R al Y,.int .i64 (t.fuel:Int)] 30))=C by rw[b7,aw]);unfold aS db;rw[<-T,<-b9,aE];obtain⟨s0,gn,ge,gf,cp,gm,g9⟩:=a1.O C oR;clear b5 dp e4 b6 cg dq G T b9 aE N e6 ch dz e3 aw b7 ei cm b0 c2 c3 X ci eg bm ck dw s0;go_enter Tryz.func62,Tryz.ntmps62;go_upto_region 1 with fail;rw[d6.O,<-d1.O];clear d6;go_wp2_with fail;refine d2.O.mono ?_;rintro m fd ⟨gr,gs,rfl,ej⟩;have a6:=hD ej;clear ej d2 gn ge gf cp gm g9;go_upto_region 4 with fail;have fw:=a1.O fd a6.O;have fm:decide (n<=fn)=false:=cB.O.1;have fr:decide (65536<t.fuel)=false:=cB.O.2
 go_region_held3 (λw'=>ac C w'/\w'.cell? ⟨g,0,none⟩=some (.slice (some ⟨b,l,none⟩) n c)/\w'.cell? ⟨g+1,0,none⟩=some (.string (sB t.M))/\w'.cell? ⟨g+1,1,none⟩=some (.int .i64 (fn:Int))/\w'.cell? ⟨g+1,2,none⟩=some (.slice R al Y)/\w'.cell? ⟨g+1,3,none⟩=some (.int .i64 (t.fuel:Int))/\w'.cell? ⟨b,l+fn*3,none⟩=some (.int .i64 x.args))
  (first|with_reducible exact a1.O _ ai.O|with_reducible exact a1.O _ (aa.drew ai.O)|with_reducible exact a1.O _ a6.O|with_reducible exact a1.O _ (aa.drew a6.O)|fail)
  (first|(go_at_call 112;refine(f0.O _).mono ?_;rintro m c0 ⟨rfl,ek⟩;have ai:Hd (ac C c0):=hD (by first|exact aa.trans a6.O ek|exact aa.trans (aa.drew a6.O) ek))|fail)
 have d7:=ai;have cp:=(a1.O c0 ai.O).2.2.2.2.1;have c9:=j9 R t.args Y cr c0 (f8.O.kp ai.O nG) (by have:=Z.O.ar;have:=Z.O.r16;have:=bx.O.al;rw[<-r.O.2.2.2] at this;omega);rw[<-r.O.2.1] at c9;have cs:=hD c9;clear fw c9 fj fk fo fp fq fm fr a6;go_wp2_with fail;refine cs.O.mono ?_;rintro m c1 ⟨z,E,rfl,dr,cn⟩;have a5:Hd (ac C c1):=hD (d7.O.trans cn);have ba:=a5.O.J er.O nF;have b2:=ba.I 2;have gc:=ba.fz 2;simp at b2;have br:=hD ba;have f6:=hD dr;have gp:=hD cn;clear dr cn ba cp cs;go_upto_region 7 with fail;obtain⟨f,b8⟩:=eX (c1.setCell ⟨g+1,2,none⟩ (.slice z al E));rw[<-b8];have a3:aa (λb=>b=g+1) c1 f:=by rw[b8];exact ag _ _ _ _
 have c8:ae f (g+1) 30 #[.string (sB t.M),.int .i64 (fn:Int),.slice z al E,.int .i64 (t.fuel:Int)]:=by rw[b8];exact br.O.s_ 2 _
 have e5:ae f g 24 #[.slice (some ⟨b,l,none⟩) n c]:=a3.J (a5.O.J eq.O nF) (by omega);have bb:f.cell? ⟨b,l+fn*3+1,none⟩=some (.int .i64 x.rg):=(a3.I (p:=⟨b,l+fn*3+1,none⟩) (lL (block_lt_of_cell bv.O) a5.O.size) (by have:=f1.O;simp;omega)).trans ((a5.O.I (p:=⟨b,l+fn*3+1,none⟩) (block_lt_of_cell bv.O) nF).trans bv.O);have dk:Hd (ac w f):=hD ((d3.O.trans a5.O).trans' a3 (λb i=>.inr (by rw[i,d1.O];exact yX _)));have f7:Hd (aU f (bC w f) z t.args):=hD ((f6.O.by_type a3 br.O (by decide)).mo λb i=>⟨lT (lT d3.O.size d7.O.size) i.1,lL i.2 a3.size⟩);have f3:Hd (cy f F (some ⟨b,l,none⟩) p):=hD ((f4.O.U a5.O).by_type a3 br.O (by decide) (by decide));obtain⟨e,bf⟩ :∃e:Nat,x.rg=(e:Int):=ym (by have:=Z.O.a0;have:=Z.O.ar;omega);have e8:e<=16:=by have:=Z.O.r16;rw[bf] at this;omega
 rw[bf] at bb
 have S:Hd (∀W,ac f W->ac f W/\W.cell? ⟨g,0,none⟩=some (.slice (some ⟨b,l,none⟩) n c)/\W.cell? ⟨g+1,0,none⟩=some (.string (sB t.M))/\W.cell? ⟨g+1,1,none⟩=some (.int .i64 (fn:Int))/\W.cell? ⟨g+1,2,none⟩=some (.slice z al E)/\W.cell? ⟨g+1,3,none⟩=some (.int .i64 (t.fuel:Int))/\W.cell? ⟨b,l+fn*3+1,none⟩=some (.int .i64 (e:Int))):=hD λW K=>by
  have cq:=K.J e5 nF;have V:=K.J c8 nF;exact⟨K,cq.I 0,V.I 0,V.I 1,V.I 2,V.I 3,(K.I (p:=⟨b,l+fn*3+1,none⟩) (block_lt_of_cell bb) nF).trans bb⟩
 obtain⟨u,c7⟩:=eX ((List.replicate e (Value.int .i64 0)).toArray);obtain⟨g8,e1,ec,ee,ef⟩:=pW
 have e2:∀W,(Instr.makeSlice 25 (.int .i64 (e:Int)) (.int .i64 (e:Int))).run Tryz.prog W=.ok (.slice (some ⟨W.heap.size,0,none⟩) e e) (W.alloc (.cells u 2)):=λW=>by
  have:=mr (P:=Tryz.prog) 25 2 g8 (.int .i64 0) Tryz.underlying25 e1 ec .i64 .i64 e e (lR) (by rw[ef];omega) (by omega) W;rw[ee,Nat.mul_one] at this;rw[this,c7]
  congr 3
  apply Yd.1;rw[show(Value.int .i64 0).cells= #[.int .i64 0] from rfl,toList_madeCells_one]
 have f9:=hD e2
 have cv:Hd (∀W,ac f W->Calls Tryz.prog 114 #[.agg #[.slice (some ⟨b,l,none⟩) n c]] W λm w'=>∃o D,m=.returned (.agg #[.slice o n D])/\cy w' (bC W w') o p/\ac W w'):=hD λW K=>by
  have:=uo (some ⟨b,l,none⟩) p c F W (f3.O.U K) (by have:=d4.O.1.p16;omega) (λy g7=>(d4.O.2 y g7).1);unfold aS mX aS at this;rw[<-r.O.1] at this;exact this
 have es:=hD c8;have b3:=hD (aI bf e8);have bz:=hD c7;have fx:=S.O f oR;have ad:Hd (ac f (f.alloc (.cells u 2))):=hD (oR.alloc _);have ex:Hd (ae (f.alloc (.cells u 2)) f.heap.size 2 u):=hD bN;clear b2 gc b8 a3 c8 e5 bb bf e8 c7 e1 ec ee ef f9
 go_cut [9] (λs9 wx=>∃a8 rb o D,s9=.pointer (some ⟨a8,0,none⟩)/\bC f wx a8/\bC f wx rb/\ae wx a8 232 #[.slice o n D,.string (sB t.M),.int .i64 (fn:Int),.slice z al E,.int .i64 (t.fuel:Int),.slice (some ⟨rb,0,none⟩) e e,.int .i64 (t.fuel:Int),.int .i64 0,.slice none 0 0,.int .i64 0,.pointer none,.pointer none]/\ae wx rb 2 u/\cy wx (bC f wx) o p/\ac f wx)
 case first=>
  go_region_held3 (λw'=>ac f w'/\w'.cell? ⟨g,0,none⟩=some (.slice (some ⟨b,l,none⟩) n c)/\w'.cell? ⟨g+1,0,none⟩=some (.string (sB t.M))/\w'.cell? ⟨g+1,1,none⟩=some (.int .i64 (fn:Int))/\w'.cell? ⟨g+1,2,none⟩=some (.slice z al E)/\w'.cell? ⟨g+1,3,none⟩=some (.int .i64 (t.fuel:Int))/\w'.cell? ⟨b,l+fn*3+1,none⟩=some (.int .i64 (e:Int)))
   (first|with_reducible exact S.O _ Q.O|with_reducible exact S.O _ (aa.alloc Q.O _)|with_reducible exact S.O _ (aa.alloc (aa.alloc Q.O _) _)|with_reducible exact S.O _ (aa.drew Q.O)|with_reducible exact S.O _ ad.O|with_reducible exact S.O _ (aa.drew ad.O)|with_reducible exact S.O _ (aa.drew oR)|with_reducible exact S.O _ oR|fail)
   (first
    |(go_at_call 114;refine(cv.O f.drew (aa.drew oR)).mono ?_;rintro m q ⟨o,D,rfl,az,ab⟩;have Q:Hd (ac f q):=hD (aa.trans (aa.drew oR) ab);have bt:=hD az;clear az ab)
    |(go_at_call 114;refine(cv.O _ (aa.drew ad.O)).mono ?_;rintro m q ⟨o,D,rfl,az,ab⟩;have Q:Hd (ac f q):=hD (aa.trans (aa.drew ad.O) ab);have d8:=hD (ab.J ex.O nF);have bt:=hD az;clear az ab)
    |fail)
  ·go_wp2_with fail
   go_meet
   case rel=>
    have bp:=(aa.refl (λ_=>False) q).alloc (.cells u 2);have H:=(aa.refl (λ_=>False) (q.alloc (.cells u 2))).alloc (.cells #[.slice o n D,.string (sB t.M),.int .i64 (fn:Int),.slice z al E,.int .i64 (t.fuel:Int),.slice (some ⟨q.heap.size,0,none⟩) e e,.int .i64 (t.fuel:Int),.int .i64 0,.slice none 0 0,.int .i64 0,.pointer none,.pointer none] 232);have bk:=Q.O.size;have i:=ae.new (q.alloc (.cells u 2)) 232 #[.slice o n D,.string (sB t.M),.int .i64 (fn:Int),.slice z al E,.int .i64 (t.fuel:Int),.slice (some ⟨q.heap.size,0,none⟩) e e,.int .i64 (t.fuel:Int),.int .i64 0,.slice none 0 0,.int .i64 0,.pointer none,.pointer none];rw[World.size_alloc] at i;exact⟨q.heap.size+1,q.heap.size,o,D,rfl,⟨zJ bk,i.lt⟩,⟨bk,lL (ae.new q 2 u).lt H.size⟩,i,H.J (ae.new q _ u) nF,((bt.O.U bp).U H).mo λb i=>by first|exact(i.up bp.size).up H.size|exact((i.dn (lR)).up bp.size).up H.size,(Q.O.trans bp).trans H⟩
  ·go_wp2_with fail
   go_meet
   case rel=>
    have H:=(aa.refl (λ_=>False) q).alloc (.cells #[.slice o n D,.string (sB t.M),.int .i64 (fn:Int),.slice z al E,.int .i64 (t.fuel:Int),.slice (some ⟨f.heap.size,0,none⟩) e e,.int .i64 (t.fuel:Int),.int .i64 0,.slice none 0 0,.int .i64 0,.pointer none,.pointer none] 232);have bk:=Q.O.size;have i:=ae.new q 232 #[.slice o n D,.string (sB t.M),.int .i64 (fn:Int),.slice z al E,.int .i64 (t.fuel:Int),.slice (some ⟨f.heap.size,0,none⟩) e e,.int .i64 (t.fuel:Int),.int .i64 0,.slice none 0 0,.int .i64 0,.pointer none,.pointer none];exact⟨q.heap.size,f.heap.size,o,D,rfl,⟨bk,i.lt⟩,⟨lR,lL d8.O.lt H.size⟩,i,H.J d8.O nF,(bt.O.U H).mo λb i=>(i.dn ad.O.size).up H.size,Q.O.trans H⟩
 case rest=>
  obtain⟨a8,rb,o,D,rfl,dl,dm,cb,cf,e0,bo⟩:=hcut;have dv:=bo.J es.O nF;have em:=cb.I 5;have b2:=dv.I 2;simp at em b2;obtain⟨W8,c6⟩:=eX wc.drew;have bn:ac wc W8:=by rw[c6];exact oR.drew
  have bc:=bn.J cf nF;have c5:=(f7.O.kp bo nG).kp bn nG
  have g2:∃a7,(∀a4,(Builtin.copy_ #[25,25] a4 #[.slice (some ⟨rb,0,none⟩) e e,.slice z al E]).run Tryz.prog W8=.ok (goInt al) a7)/\aa (λb=>b=rb) W8 a7/\ae a7 rb 2 ((iR p t.fn t.args).map (Value.int .i64)).toArray:=by
   have g1:(iR p t.fn t.args).map (Value.int .i64)=t.args.map (Value.int .i64)++List.replicate (e-al) (.int .i64 0):=by
    unfold iR;rw[<-r.O.2.2.2,b3.O.1,<-r.O.2.1,yo];simp
   have ea:(Tryz.prog.info? 2).map (·.size)=some 1:=by kernel_rfl
   have g5:al<=e:=by have c4:=bx.O.al;have a9:=Z.O.ar;rw[<-r.O.2.2.2,<-r.O.2.1] at c4;rw[b3.O.1] at a9;omega
   rw[g1]
   by_cases av:al=0
   ·refine⟨W8,λa4=>?_,oR,?_⟩
    ·have:=run_copy_none (P:=Tryz.prog) W8 25 25 a4 2 (some ⟨rb,0,none⟩) z e e al E Tryz.underlying25 ea (by rw[av];simp)
     rw[this,av];rfl
    ·have g0:t.args= []:=yr (by rw[<-r.O.2.1];exact av)
     rw[g0,av,Nat.sub_zero,Yk,List.nil_append,<-bz.O];exact bc
   ·have cd:t.args≠[]:=λm=>av (by rw[r.O.2.1,m];rfl)
    rcases c5 with⟨_,m⟩|⟨ff,ga,fs,_,ft⟩
    ·exact absurd m cd
    ·have g3:u.toList=List.replicate e (.int .i64 0):=by rw[bz.O]
     have b1:(t.args.map (Value.int .i64)).length=al:=by rw[zY,r.O.2.1]
     have a2:=λa4=>run_copy_row (P:=Tryz.prog) W8 25 25 a4 2 rb 0 e e ⟨ff,ga,none⟩ al E u 2 (t.args.map (Value.int .i64)) Tryz.underlying25 ea bc (by rw[b1];exact(Nat.min_eq_left g5).symm) (λj v hv=>by
      rw[yJ] at hv
      cases N:t.args[j]? with
      |none=>rw[N] at hv;cases hv
      |some y=>
       rw[N] at hv
       cases hv
       rw[bE];have g4:=(gS N).1;have a9:=(ft j g4).2;rw[yc,N] at a9;exact a9) (by rw[b1,bz.O];simp;omega) (λv hv=>by obtain⟨y,_,rfl⟩:=yL.1 hv;rfl)
     have e9:(u.toList.take 0++t.args.map (Value.int .i64)++u.toList.drop (0+(t.args.map (Value.int .i64)).length))=t.args.map (Value.int .i64)++List.replicate (e-al) (.int .i64 0):=by
      rw[b1,g3];simp
     rw[b1] at a2;rw[b1] at e9;rw[e9] at a2;refine⟨W8.setRow rb (t.args.map (Value.int .i64)++List.replicate (e-al) (Value.int .i64 0)).toArray,λa4=>(by rw[fs];exact a2 a4),⟨rfl,rfl,rfl,by simp[World.setRow],λk gt T=>setRow_other _ _ _ _ T⟩,setRow_heap _ _ _ _ _ _ bc⟩
  obtain⟨a7,a2,el,ds⟩:=g2;have f2:=hD a2;have eL:=hD ds;have b4:=hD el;have am:=hD bn;have d0:=hD cb;have f5:=hD e0;have fb:=hD bo;have bq:=hD (aI dl dm);have d5:=hD cf;have fa:=hD c6.symm;have go:=hD c5;clear a2 ds el bn cb e0 bo dl dm cf c6 c5 bc dv e2 fx;go_wp2_with fail
  go_still_tail 6,(by kernel_rfl)
  change wpList _ _ _ _ _ wc.drew;rw[fa.O];have a2:=f2.O;clear em b2;go_wp2_with fail
  go_ret2
  have cd:a8≠rb:=λm=>ae.ne_ d0.O d5.O (by decide) m
  have g6:wc.heap.size<=a7.heap.size:=lT am.O.size b4.O.size;have eb:w.heap.size<=f.heap.size:=dk.O.size;have ce:∀b,bC f wc b->bC w a7 b:=λb i=>(i.dn eb).up g6
  have e7:(iR p t.fn t.args).length=e:=by
   unfold iR;have c4:=bx.O.al;have a9:=Z.O.ar;rw[<-r.O.2.2.2] at c4;rw[<-r.O.2.2.2,b3.O.1,yo,yk,List.length_replicate];rw[b3.O.1] at a9;omega
  refine⟨a8,⟨o,D,.slice z al E,(t.fuel:Int),rb,e,.slice none 0 0,.pointer none,.pointer none⟩,rfl,⟨ce _ bq.O.1,ce _ bq.O.2,λb m=>(by cases m),?_,?_,eL.O,⟨(by rfl),.inl ⟨rfl,rfl⟩⟩,rfl,λ_=>rfl,?_⟩,?_⟩
  ·have:=b4.O.J (am.O.J d0.O nF) cd
   unfold cC Fr.begun;simp only;rw[<-r.O.1,e7,r.O.2.2.1];exact this
  ·exact(((f5.O.U am.O).by_type b4.O (am.O.J d5.O nF) (by decide) (by decide))).mo ce
  ·show(iR p t.fn t.args).length<=e
   rw[e7];exact lR
  ·exact((dk.O.trans fb.O).trans am.O).trans' b4.O (λb i=>.inr (by rw[i];exact lT eb bq.O.2.1))
def gd(p:List aj)(n:Nat):Int:=if cz p≠0 then cz p else if (n:Int)≠(bY p 0).args then 114 else 0
theorem Ae{p:List aj}(c:cz p=0):p≠[]:=by
 unfold cz at c;split at c
 ·cases c
 ·split at c
  ·cases c
  ·assumption
def fU(p:List aj)(n:Nat)(fuel:Int):Int:=if gd p n≠0 then gd p n else if fuel<0\/65536<fuel then 2 else 0
theorem ed{w w':World}{A:Option Addr}{n g:Nat}{i:List Value}(e:cw w w.heap.size g A n i)(f:ac w w'):cw w' w'.heap.size g A n i:=
 ⟨e.1,λq=>by
   obtain⟨c,l,m,o⟩:=e.2 q;refine⟨c,l,lL m f.size,λj u r=>?_⟩;have:=o j u r;exact(f.I (p:=c.add j) (block_lt_of_cell this) nF).trans this⟩
theorem xD{p:List aj}{n:Nat}{c:Int}(e:gd p n≠0):fU p n c=gd p n:=yf e
theorem wu{p:List aj}{n:Nat}(c:gd p n=0):(n:Int)=(bY p 0).args:=by
 unfold gd at c;split at c
 ·rename_i e;exact absurd c e
 ·split at c
  ·cases c
  ·rename_i e
   exact Classical.not_not.1 e
theorem te{p:List aj}{n:Nat}(c:gd p n=0):cz p=0:=by
 unfold gd at c;split at c
 ·rename_i e;exact absurd c e
 ·rename_i e;exact Classical.not_not.1 e
structure DL where
 rg:List Int
 at_:Int
 left:Nat
 kd:Nat
 first:Nat
 into:List Int
structure DK where
 PA:Option Addr
 pc:Nat
 TA:Option Addr
 tc:Nat
 gb:Nat
 rc:Nat
 iv:Value
 dv:Value
theorem jP{fn n:Nat}(c:fn<n):(0:Int)<=(fn:Int)/\(fn:Int)<(n:Int):=by omega
theorem D9:∀(l:List Value),l.length=4->∀e f g i:Value,(((l.set 0 e).set 1 f).set 2 g).set 3 i= [e,f,g,i]
 | [],c,_,_,_,_=>nomatch c
 | [_],c,_,_,_,_=>nomatch c
 | [_,_],c,_,_,_,_=>nomatch c
 | [_,_,_],c,_,_,_,_=>nomatch c
 | [_,_,_,_],_,_,_,_,_=>rfl
 |_ :: _ :: _ :: _ :: _ :: _,c,_,_,_,_=>by simp at c
theorem DO(cs:Array Value)(i:cs.size=4)(c e f g:Value):(((cs.setIfInBounds 0 c).setIfInBounds 1 e).setIfInBounds 2 f).setIfInBounds 3 g= #[c,e,f,g]:=by
 apply Yd.1;simp only[zW];exact D9 cs.toList (by simpa using i) c e f g
theorem set4{w:World}{g:Nat}{T:TypeId}{cs:Array Value}(j:ae w g T cs)(l:cs.size=4)(c e f i:Value):ae ((((w.setCell ⟨g,0,none⟩ c).setCell ⟨g,1,none⟩ e).setCell ⟨g,2,none⟩ f).setCell ⟨g,3,none⟩ i) g T #[c,e,f,i]/\aa (λb=>b=g) w ((((w.setCell ⟨g,0,none⟩ c).setCell ⟨g,1,none⟩ e).setCell ⟨g,2,none⟩ f).setCell ⟨g,3,none⟩ i):=by
 refine⟨?_,(ag w g 0 c).trans ((ag _ g 1 e).trans ((ag _ g 2 f).trans (ag _ g 3 i)))⟩;rw[<-DO cs l c e f i];exact(((j.s_ 0 c).s_ 1 e).s_ 2 f).s_ 3 i
section
variable {w:World}{rb:Nat}{L:DK}{p:List aj}{t:aA}{s:DL}(k d a b n:Int)
end
theorem fT{w:World}{base:Nat}{f:TypeId}{l n:Nat}{v:Value}{m:List Value}(i:w.ownsRow base f l v n m):∃A c,v=.slice A n c:=by
 rcases i.2 with⟨e,j⟩|⟨g,o,_,e,_⟩
 ·exact⟨none,0,by rw[e,j]⟩
 ·exact⟨_,_,e⟩
section
variable {w:World}{rb:Nat}{L:DK}{p:List aj}{t:aA}{s:DL}
end
theorem C9{w:World}{v:Value}{l:List Int}(e:w.ownsRow 0 3 1 v l.length (l.map (Value.int .i64))){i:Nat}{x:Int}(f:l[i]?=some x):∃b c,v=.slice (some ⟨b,0,none⟩) l.length c/\w.cell? ⟨b,i,none⟩=some (.int .i64 x):=by
 have r:=(gS f).1
 rcases e.2 with⟨_,o⟩|⟨g,j,cur,m,_,q,_⟩
 ·omega
 ·subst m
  have:=World.ownsRow.cells e (g:=g) rfl i (.int .i64 x) (by rw[yJ,f];rfl);rw[bE,yq] at this;exact⟨g,j,rfl,this⟩
def BW(w w':World)(p:List aj)(inp:List Int)(fuel:Int)(e:Ending):Prop:=
 ac w w'/\(fU p inp.length fuel≠0->e=.returned (.tuple #[.agg #[.string ⟨#[]⟩,.int .i64 0,.slice none 0 0,.int .i64 0],.int .i64 (fU p inp.length fuel)]))/\
  (fU p inp.length fuel=0->∃A c,e=.returned (.tuple #[.agg (db ⟨[],0,inp,fuel.toNat⟩ A c),.int .i64 0])/\aU w' (bC w w') A inp)
theorem un(p:List aj)(A an:Option Addr)(c f b0:Nat)(F:Nat->Prop)(w:World)(R:cy w F A p)(a4:∀b,F b->b<w.heap.size)(a6:p.length<=1000)(ab:∀x∈p,kA x):
 Calls Tryz.prog 153 #[aS p A c,.slice an f b0] w λg w'=>g=.returned (.int .i64 (gd p f))/\ac w w':=by
 obtain⟨n,E⟩:=eX p.length;obtain⟨j,z⟩:=eX (w.alloc (.cells #[.slice A n c] 24));have r:ac w j:=by rw[z];exact(aa.refl _ w).alloc _
 obtain⟨av,S⟩:=eX w.heap.size;have Q:ae j av 24 #[.slice A n c]:=by rw[z,S];exact bN
 have X:=Q.I 0;simp at X;obtain⟨e,C⟩:=eX (cz p);obtain⟨q,T⟩:=eX (gd p f);rw[<-T]
 have H:Hd (Calls Tryz.prog 108 #[.agg #[.slice A n c]] j λg w'=>∃fn G,g=.returned (.agg #[.int .i64 e,.int .i64 fn,.int .i64 G])/\ac j w'):=hD (by
  have:=rY p A c F j (R.U r) (λb az=>lL (a4 b az) r.size) a6 ab;unfold aS BR aN at this;rw[<-E,<-C] at this;exact this)
 have v:Hd (q=if e≠0 then e else if (f:Int)≠(bY p 0).args then 114 else 0):=hD (by rw[T,C];rfl);have K:Hd (e=0->p≠[]):=hD λg=>Ae (by rw[<-C];exact g)
 have ad:=hD (R.U r);have am:=hD Q;have al:=hD r;have a0:=hD E;have ai:=hD S;have a1:=hD z.symm;unfold aS;rw[<-E];clear R a4 a6 ab E z r S Q C T;go_enter Tryz.func153,Tryz.ntmps153;go_upto_region 1 with fail;rw[a1.O,<-ai.O];clear a1;go_wp2_with fail;refine H.O.mono ?_;rintro g a2 ⟨fn,G,rfl,W⟩;obtain⟨a3,o⟩:=eX (a2.alloc (.cells #[.int .i64 e,.int .i64 fn,.int .i64 G] 220));obtain⟨ar,D⟩:=eX a2.heap.size;have u:ac j a3:=by rw[o];exact W.trans (oR.alloc _)
 have P:ae a3 ar 220 #[.int .i64 e,.int .i64 fn,.int .i64 G]:=by rw[o,D];exact bN
 have N:=hD (al.O.trans u);have X:=(u.J am.O nF).I 0;simp at X;have b2:=P.I 0;simp at b2;have y:=hD o.symm;have Y:=hD D
 by_cases l:e=0
 ·have a8:=K.O l
  subst l;have a7:0<n:=by rw[a0.O];exact zK.2 a8
  obtain⟨x,V⟩ :∃x,p[0]?=some x:=⟨p[0]'(by rw[<-a0.O];exact a7),gG _⟩
  have a5:bY p 0=x:=by unfold bY;rw[yc,show(0:Int).toNat=0 from rfl,V];rfl
  obtain⟨b,b7,B,b3,aw,b1,_,_,_⟩:=((ad.O.U u).at_ V)
  subst aw;rw[Nat.zero_mul,yW] at b1;have b6:(0:Int)<(n:Int):=by omega
  have Z:Hd (q=if (f:Int)≠x.args then 114 else 0):=hD (by rw[v.O,yb (by simp),a5]);clear a8 V a5 a7 W u P o D H v K;go_upto_region 2 with fail;rw[y.O,<-Y.O];clear y
  by_cases i:(f:Int)=x.args
  ·have a9:((f:Int)==x.args)=true:=beq_iff_eq.2 i
   have aE:((f:Int) !=x.args)=false:=by simp[bne,a9]
   have m:Hd (q=0):=hD (by rw[Z.O,yb (λg=>g i)]);clear i;go_wp2_with fail;go_ret;exact⟨by rw[m.O];rfl,N.O⟩
  ·have a9:((f:Int)==x.args)=false:=bF i
   have aE:((f:Int) !=x.args)=true:=bT i;have m:Hd (q=114):=hD (by rw[Z.O,yf i]);clear i;go_wp2_with fail;go_ret;exact⟨by rw[m.O];rfl,N.O⟩
 ·have b4:(e==0)=false:=bF l
  have b5:(e !=0)=true:=bT l;have m:Hd (q=e):=hD (by rw[v.O,yf l]);clear l W u P o D H v K;go_upto_region 2 with fail;rw[y.O,<-Y.O];clear y;go_wp2_with fail;go_ret;exact⟨by rw[m.O];rfl,N.O⟩
theorem vM(p:List aj)(A D:Option Addr)(c N:Nat)(F a6:Nat->Prop)(j:List Int)(e:Int)(w:World)(b3:cy w F A p)(b4:∀b,F b->b<w.heap.size)(b8:p.length<=1000)(b9:∀x∈p,kA x)(b5:aU w a6 D j)(b7:j.length<=1000):
 Calls Tryz.prog 116 #[aS p A c,.slice D j.length N,.int .i64 e] w λo w'=>BW w w' p j e o:=by
 obtain⟨n,W⟩:=eX p.length;obtain⟨q,a3⟩:=eX j.length;obtain⟨G,H⟩:=eX (w.alloc (.cells #[.slice A n c] 24));obtain⟨y,T⟩:=eX (G.alloc (.cells #[.string ⟨#[]⟩,.int .i64 0,.slice none 0 0,.int .i64 0] 30));have ba:ac w G:=by rw[H];exact(aa.refl _ w).alloc _
 have a4:ac G y:=by rw[T];exact oR.alloc _
 obtain⟨g,V⟩:=eX w.heap.size;have an:ae y g 24 #[.slice A n c]:=a4.J (by rw[H,V];exact bN) nF;have am:ae y (g+1) 30 #[.string ⟨#[]⟩,.int .i64 0,.slice none 0 0,.int .i64 0]:=by rw[T];have:=ae.new G 30 #[.string ⟨#[]⟩,.int .i64 0,.slice none 0 0,.int .i64 0];rw[show G.heap.size=g+1 by rw[H,V];simp] at this;exact this
 have Q:=ba.trans a4;obtain⟨P,a1⟩:=eX (gd p q)
 have ai:Hd (Calls Tryz.prog 153 #[.agg #[.slice A n c],.slice D q N] y λo w'=>o=.returned (.int .i64 P)/\ac y w'):=hD (by
  have:=un p A D c q N F y (b3.U Q) (λb r=>lL (b4 b r) Q.size) b8 b9;unfold aS at this;rw[<-W,<-a1] at this;exact this)
 have a8:=hD am;have bm:=hD Q;have ad:=hD (b5.kp Q nG);have v:=hD (aI W (aI a3 (aI a1 b7)));have Y:=hD V;have al:=hD (show((w.alloc (.cells #[.slice A n c] 24)).alloc (.cells #[.string ⟨#[]⟩,.int .i64 0,.slice none 0 0,.int .i64 0] 30))=y by rw[T,H]);have bb:=an.I 0;simp at bb;unfold aS;rw[<-W,<-a3];clear b3 b4 b8 b9 b5 b7 W a3 H T ba a4 V an am Q a1;go_enter Tryz.func116,Tryz.ntmps116;go_upto_region 1 with fail;rw[al.O,<-Y.O];clear al;go_wp2_with fail;refine ai.O.mono ?_;rintro o z ⟨rfl,X⟩;have a0:=hD (bm.O.trans X);have f:=X.J a8.O nF;obtain⟨ar,av,aw,az⟩:=f.gE4;have aE:=f.fz 0;have b0:=f.fz 1;have b1:=f.fz 2;have b2:=f.fz 3;have a7:=hD f;have bk:=hD (ad.O.kp X nG);clear X f ai bb ad a8;have R:Hd (ae ((((z.setCell ⟨g+1,0,none⟩ (.string ⟨#[]⟩)).setCell ⟨g+1,1,none⟩ (.int .i64 0)).setCell ⟨g+1,2,none⟩ (.slice none 0 0)).setCell ⟨g+1,3,none⟩ (.int .i64 0)) (g+1) 30 #[.string ⟨#[]⟩,.int .i64 0,.slice none 0 0,.int .i64 0]):=hD ((((a7.O.s_ 0 _).s_ 1 _).s_ 2 _).s_ 3 _);have S:Hd (ac w ((((z.setCell ⟨g+1,0,none⟩ (.string ⟨#[]⟩)).setCell ⟨g+1,1,none⟩ (.int .i64 0)).setCell ⟨g+1,2,none⟩ (.slice none 0 0)).setCell ⟨g+1,3,none⟩ (.int .i64 0))):=hD (a0.O.trans' (aB (aB (aB (ag z (g+1) _ _)))) (λb r=>.inr (by rw[r,Y.O];exact yX _)))
 by_cases K:P=0
 ·subst K
  have Z:Hd (fU p j.length e=if e<0\/65536<e then 2 else 0):=hD (by unfold fU;rw[<-v.O.2.1,<-v.O.2.2.1,yb (by simp)])
  by_cases B:e<0
  ·have bo:decide (e<0)=true:=yg B
   have l:Hd (fU p j.length e=2):=hD (by rw[Z.O,yf (.inl B)]);clear B;go_wp2_with fail;refine bodyPost_ret (bU Tryz.results116 rfl (cs:=#[.string ⟨#[]⟩,.int .i64 0,.slice none 0 0,.int .i64 0]) R.O Tryz.underlying30 rfl (by kernel_rfl)) rfl ?_;refine⟨S.O,λ_=>by rw[l.O];rfl,λm=>?_⟩;rw[l.O] at m
   cases m
  have bo:decide (e<0)=false:=yd B
  by_cases E:65536<e
  ·have bp:decide (65536<e)=true:=yg E
   have l:Hd (fU p j.length e=2):=hD (by rw[Z.O,yf (.inr E)]);clear B E;go_wp2_with fail;refine bodyPost_ret (bU Tryz.results116 rfl (cs:=#[.string ⟨#[]⟩,.int .i64 0,.slice none 0 0,.int .i64 0]) R.O Tryz.underlying30 rfl (by kernel_rfl)) rfl ?_;refine⟨S.O,λ_=>by rw[l.O];rfl,λm=>?_⟩;rw[l.O] at m
   cases m
  have bp:decide (65536<e)=false:=yd E;have l:Hd (fU p j.length e=0):=hD (by rw[Z.O,yb (λo=>o.elim B E)]);have bc:Hd (e=((e.toNat:Nat):Int)):=hD (by omega);clear B E R S
  have ab:Hd (Calls Tryz.prog 113 #[.slice D q N] z λo w'=>∃C c',o=.returned (.slice C q c')/\aU w' (λb=>z.heap.size<=b/\b<w'.heap.size) C j/\ac z w'):=hD (by
   rw[v.O.2.1];exact j9 D j N a6 z bk.O (lT v.O.2.2.2 (by decide)))
  go_wp2_with fail;refine ab.O.mono ?_;rintro o br ⟨C,c',rfl,b6,a2⟩;have f:=a2.J a7.O nF;clear ar av aw az aE b0 b1 b2;obtain⟨ar,av,aw,az⟩:=f.gE4;have aE:=f.fz 0;have b0:=f.fz 1;have b1:=f.fz 2;have b2:=f.fz 3;have bn:=hD a2;have bf:=hD b6;have a9:=hD f;clear a2 b6 f ab;go_wp2_with fail;refine bodyPost_ret (bU Tryz.results116 rfl (cs:=#[.string ⟨#[]⟩,.int .i64 0,.slice C q c',.int .i64 e]) ((((a9.O.s_ 0 _).s_ 1 _).s_ 2 _).s_ 3 _) Tryz.underlying30 rfl (by kernel_rfl)) rfl ?_;have a5:=aB (i:=3) (u:=.int .i64 e) (aB (i:=2) (u:=.slice C q c') (aB (i:=1) (u:=.int .i64 0) (ag br (g+1) 0 (.string ⟨#[]⟩))));have bq:=(a0.O.trans bn.O).trans' a5 (λb r=>.inr (by rw[r,Y.O];exact yX _));refine⟨bq,λm=>absurd l.O m,λ_=>⟨C,c',?_,?_⟩⟩
  ·unfold db
   rw[<-v.O.2.1,<-bc.O];rfl
  ·exact(bf.O.by_type a5 a9.O (by decide)).mo λb r=>⟨lT a0.O.size r.1,lL r.2 a5.size⟩
 ·have bt:(P==0)=false:=bF K
  have bv:(P !=0)=true:=bT K;have l:Hd (fU p j.length e=P):=hD (by unfold fU;rw[<-v.O.2.1,<-v.O.2.2.1,yf K]);go_wp2_with fail;refine bodyPost_ret (bU Tryz.results116 rfl (cs:=#[.string ⟨#[]⟩,.int .i64 0,.slice none 0 0,.int .i64 0]) R.O Tryz.underlying30 rfl (by kernel_rfl)) rfl ?_;refine⟨S.O,λ_=>by rw[l.O];rfl,λm=>?_⟩;rw[l.O] at m;exact absurd m K
end
end Go.Proofs.YtmdocplknceilaaGreat
