import Derived.Test.YtmdocplknceilaaGreatRWAS
import Derived.Test.YtmdocplknceilaaGreatRWAC
set_option linter.all false
set_option maxRecDepth 100000
set_option maxHeartbeats 1000000
namespace Go.Proofs.YtmdocplknceilaaGreat
section
open Go.RowKit Go.Maps
theorem Ee(l:Nat):((l:Int).tdiv 2)=((l / 2:Nat):Int):=by
 rw[Int.tdiv_eq_ediv_of_nonneg (by omega)];omega
theorem zu7{l:Nat}(a:l<=1000000):wrap64 (l:Int)=(l:Int):=by unfold wrap64;omega
theorem vC{l:Nat}(a:l<=1000000):l / 2<=1000000:=by omega
theorem dK(n:Nat):(0:Int)<=(n:Int):=by omega
theorem cO{n a:Nat}(b:n<a):(n:Int)<(a:Int):=by omega
theorem BI{a:Nat}(b:¬a=0):(0:Int)<(a:Int):=by omega
theorem qe{a b l c:Nat}(e:a+b<=l)(i:l<=1000)(g:l<=c):wrap64 ((a:Int)+(b:Int))=((a+b:Nat):Int)/\IntKind.i64.wrap ((a:Int)+(b:Int))=((a+b:Nat):Int)/\(0:Int)<=(a:Int)/\(a:Int)<=((a+b:Nat):Int)/\((a+b:Nat):Int)<=(c:Int)/\(0:Int)<=((a+b:Nat):Int):=by
 have d:wrap64 ((a:Int)+(b:Int))=((a+b:Nat):Int):=by unfold wrap64;omega
 exact⟨d,(aU _).trans d,by omega,by omega,by omega,by omega⟩
theorem A9{a b l:Nat}(c:a+b<=l)(d:l<=1000):b<=100000:=by omega
theorem pf{l:List Int}{a b k:Nat}(c:k<((l.drop a).take b).length):k<b/\a+k<l.length:=by
 rw[ze,zF] at c;omega
theorem nZ{l:List Int}{a b:Nat}{x:Int}(d:x=(b:Int))(c:x=0\/(a:Int)+x<=l.length):((l.drop a).take b).length=b:=by
 rw[ze,zF];omega
theorem sP{a b l:Nat}{x:Int}(d:¬b=0)(e:x=(b:Int))(c:x=0\/(a:Int)+x<=(l:Int)):a+b<=l:=by omega
theorem sZ{l:List Int}{a b:Nat}(c:a+b<=l.length):((l.drop a).take b).length=b:=by
 rw[ze,zF];omega
theorem tj{n:Nat}(a:n<16):¬(16:Int)<=(n:Int):=by omega
theorem jS(n:Nat):((n+1:Nat):Int)=(n:Int)+1:=by omega
theorem cK(k:Nat):Value.int .i64 ((k:Int)+1)=.int .i64 ((k+1:Nat):Int):=yl (Value.int .i64) (jS k).symm
theorem cH{a:Int}{k:Nat}(b:a=(k:Int)+1):Value.int .i64 a=.int .i64 ((k+1:Nat):Int):=yl (Value.int .i64) (b.trans (jS k).symm)
theorem kM{n:Nat}(a:n<16):wrap64 ((n:Int)+1)=(n:Int)+1:=by unfold wrap64;omega
theorem nJ{l a b:Nat}(d:l<=1000000)(e:a=l)(g:b=a / 2):wrap64 ((a:Int)-(b:Int))=((a-b:Nat):Int)/\IntKind.i64.wrap ((a:Int)-(b:Int))=((a-b:Nat):Int):=by
 have c:wrap64 ((a:Int)-(b:Int))=((a-b:Nat):Int):=by unfold wrap64;omega
 exact⟨c,(aU _).trans c⟩
theorem Ft{g s b t:Nat}(c:g<s)(d:s<=b/\b<t)(a:b=g):False:=by omega
section
variable {w w':World}{F F':Nat->Prop}{fb:Nat}{L:iC}{p:List ah}{f:Fr}
theorem CH(o:bK)(fn l:Nat)(x:ah)(f2:∀b,F b->b<w.heap.size)(c6:aZ w F fb L p f)(a4:f.kd.length<16)(b2:f.M.length<12)(dm:fU f.M)(d7:o.n=fn)(dr:p[fn]?=some x)(d4:o.a=l)
 (ds:0<=x.args) (Z:x.args=0\/(l:Int)+x.args<=f.rg.length) (am:f.rg.length<=1000) (b1:f.left<=1000000):
 Calls Tryz.prog 176 #[.pointer (some ⟨fb,0,none⟩),cR o] w λe w'=>∃q A c kv,e=.returned (.pointer (some ⟨q,0,none⟩))/\w.heap.size<=q/\ae w' q 181 (ms (dc p f.M f.kd.length o f.rg f.left) A c)/\aJ w' (λb=>w.heap.size<=b/\b<w'.heap.size) A (dc p f.M f.kd.length o f.rg f.left).args/\
  aZ w' (λb=>F b\/w.heap.size<=b/\b<w'.heap.size) fb {L with kv:=kv} p {f with left:=f.left-f.left / 2,kd:=f.kd++ [⟨o.d,false,⟨0,0⟩⟩]}/\aa F w w':=by
 obtain⟨a8,c9⟩:=eX (w.alloc (.cells #[.int .u8 o.k,.int .i64 o.d,.int .i64 (l:Int),.int .i64 o.b,.int .i64 (fn:Int)] 106));have e0:ac w a8:=by rw[c9];exact(aa.refl _ w).alloc _
 have cq:ae a8 w.heap.size 106 #[.int .u8 o.k,.int .i64 o.d,.int .i64 (l:Int),.int .i64 o.b,.int .i64 (fn:Int)]:=by rw[c9];exact bN
 have B:=c6.kp e0 nG;obtain⟨A,c,db⟩:=c6.kv_any;obtain⟨g,d8⟩:=eX w.heap.size;rw[<-d8] at cq;obtain⟨n,br⟩:=eX f.kd.length;rw[<-br] at a4;obtain⟨kp,da⟩:=eX (sB (f.M++ [UInt8.ofNat (n+1)]))
 have g6:Hd (∀W,Calls Tryz.prog 90 #[.string (sB f.M),.int .i64 ((n:Int)+1)] W λe w'=>e=.returned (.tuple #[.string kp,.bool true])/\ac W w'):=hD λW=>by
  have:=qm f.M dm (n+1) (Yh 1 n) a4 W;have e:=jS n;rw[e] at this;unfold mc at this;rw[yb (Yl b2),<-da] at this;exact this
 have gt:=kM a4;have ha:=(aU _).trans gt;have gs:=tj a4;have h8:decide ((16:Int)<=(n:Int))=false:=yd gs
 have bp:Hd (∀W,ac a8 W->ac a8 W/\W.cell? ⟨fb,1,none⟩=some (.string (sB f.M))/\W.cell? ⟨fb,8,none⟩=some (.slice A n c)):=hD λW b0=>by
  have q:=(B.kp b0 nG).J;refine⟨b0,q.I 1,?_⟩;rw[q.I 8];simp[cY,db,br]
 have ek:=hD da;obtain⟨i,cd⟩ :∃i:Nat,x.args=(i:Int):=ym ds;have e9:=hD cd;have fs:=hD B;have fx:=hD cq;have ba:=hD e0;have g5:=hD d8;have y:=hD db;have eq:=hD dr;have h6:=hD f2;have a2:=hD c6
 have bc:Hd (dc p f.M f.kd.length o f.rg f.left=⟨f.M++ [UInt8.ofNat (n+1)],(fn:Int),(f.rg.drop l).take i,f.left / 2⟩):=hD (by
  have gr:bG p (fn:Int)=x:=by unfold bG;rw[yo,yc,dr];rfl
  unfold dc;rw[d7,d4,gr,cd,br];rfl)
 have cn:Hd (((f.rg.drop l).take i).length=i):=hD (nZ cd Z);have em:=hD c9.symm;have ej:=hD (aI a4 (aI b2 dm));have b5:=hD (aI ds (aI Z (aI am b1)));unfold cR;rw[d7,d4];have b8:=hD br;clear c6 B cq e0 d8 db c9 f2 a4 b2 dm d7 d4 ds Z am b1 dr br da cd;go_enter Tryz.func176,Tryz.ntmps176;go_upto_region 1 with fail;rw[em.O,<-g5.O];clear em;have d1:=bp.O a8 oR
 go_region_held3 (λw'=>ac a8 w'/\w'.cell? ⟨fb,1,none⟩=some (.string (sB f.M))/\w'.cell? ⟨fb,8,none⟩=some (.slice A n c))
  (first|exact bp.O _ (yt ‹_›)|exact bp.O _ (aa.drew (yt ‹_›))|exact bp.O _ (aa.trans (aa.drew (yt ‹_›)) a0)|exact bp.O _ (aa.trans (yt ‹_›) a0)|fail)
  (first|(go_at_call 90;refine(g6.O _).mono ?_;rintro e a3 ⟨rfl,a0⟩)|fail)
 have bf:Hd (ac a8 a3):=hD (yt ‹_›);clear d1 a0;have cB:=fs.O.kp bf.O nG;have fq:=cB.J.I 8;simp[cY,y.O,<-b8.O] at fq;have e8:=hD cB;have f4:=bf.O.J fx.O nF;have ea:=hD f4;clear cB f4;go_wp2_with fail;clear fq;have dn:=Ee f.left;have cg:=zu7 (vC b5.O.2.2.2);have dp:=(aU _).trans cg
 have ad:Hd (∀W,ac a3 W->ac a3 W/\W.cell? ⟨g,4,none⟩=some (.int .i64 (fn:Int))/\W.cell? ⟨fb,6,none⟩=some (.int .i64 (f.left:Int))):=hD λW b0=>
  ⟨b0,(b0.J ea.O nF).I 4,(e8.O.kp b0 nG).J.I 6⟩
 obtain⟨E,b1⟩:=eX f.left;obtain⟨r,d9⟩:=eX (E / 2);rw[<-b1] at dn cg dp ad;rw[<-d9] at dn cg dp;have G:=hD (aI b1 d9);clear b1 d9;have d1:=ad.O a3 oR
 go_region_held3 (λw'=>ac a3 w'/\w'.cell? ⟨g,4,none⟩=some (.int .i64 (fn:Int))/\w'.cell? ⟨fb,6,none⟩=some (.int .i64 (E:Int)))
  (first|exact ad.O _ (yt ‹_›)|exact ad.O _ (aa.drew (yt ‹_›))|exact ad.O _ (aa.alloc (yt ‹_›) _)|exact ad.O _ (aa.alloc (aa.drew (yt ‹_›)) _)|fail) (fail)
 obtain⟨bm,cb⟩:=eX ((a3.alloc (.cells #[.string kp,.int .i64 (fn:Int),.slice none 0 0,.int .i64 (r:Int)] 30)).drew);obtain⟨z,cf⟩:=eX a3.heap.size;rw[<-cb,<-cf];have ch:ac a3 bm:=by rw[cb];exact(oR.alloc _).drew
 have eL:ae bm z 30 #[.string kp,.int .i64 (fn:Int),.slice none 0 0,.int .i64 (r:Int)]:=by rw[cb,cf];exact bN.drew
 have g0:=hD eL;have ei:=hD cf;have ga:=hD (bf.O.trans ch);have c7:=e8.O.kp ch nG;have ft:=hD c7;have d5:=ch.J ea.O nF;have g2:=hD d5;have Y:=(gS eq.O).1
 rcases c7.fns with⟨_,N⟩|⟨hb,hc,K,N⟩
 ·rw[N] at Y
  exact absurd Y (zZ _)
 obtain⟨_,_,fd,_⟩:=N fn x eq.O;rw[e9.O] at fd;have e2:=c7.J.I 0;simp[cY,K] at e2;obtain⟨pl,b2⟩:=eX p.length;rw[<-b2] at e2 Y;have gx:=dK fn;have gA:=cO Y;have h1:bm.cell? ⟨g,4,none⟩=some (.int .i64 (fn:Int)):=d5.I 4;clear d1 cb cf ch eL c7 d5 Y K N b2 dn cg dp ad;go_wp2_with fail
 go_quiet (fail)
 obtain⟨az,d2⟩:=eX (bm.drewN nq);rw[<-d2];have a0:ac bm az:=by rw[d2];exact oR.drewN nq
 have er:=hD (ga.O.trans a0);have f1:=ft.O.kp a0 nG;have ci:=hD f1;have f5:=a0.J g0.O nF;have eb:=hD f5;have f6:=a0.J g2.O nF;have cm:=hD f6;clear d2 a0 f1 f5 f6 e2 fd h1 gx gA
 by_cases dk:i=0
 ·subst dk
  have gu:decide ((0:Int)<((0:Nat):Int))=false:=rfl;go_wp2_with fail;have b3:w.heap.size<=z:=by rw[ei.O];exact lT ba.O.size bf.O.size
  have g7:=hD b3;obtain⟨j,T⟩:=eX az;obtain⟨u,d0⟩:=eX (none:Option Addr);obtain⟨H,f7⟩:=eX (0:Nat);rw[<-T];have a1:Hd (ae j z 30 #[.string kp,.int .i64 (fn:Int),.slice u 0 H,.int .i64 (r:Int)]):=hD (by rw[T,d0,f7];exact eb.O);have a7:Hd (ac w j):=hD (by rw[T];exact ba.O.trans er.O);have t:Hd (aZ j F fb L p f):=hD (a2.O.kp a7.O nG);have c4:Hd (aJ j (λb=>w.heap.size<=b/\b<j.heap.size) u ((f.rg.drop l).take 0)):=hD (by rw[d0];exact .inl ⟨rfl,rfl⟩);have b7:Hd (ae j g 106 #[.int .u8 o.k,.int .i64 o.d,.int .i64 (l:Int),.int .i64 o.b,.int .i64 (fn:Int)]):=hD (by rw[T];exact cm.O);obtain⟨i,f9⟩:=eX (0:Nat);rw[<-f9] at a1 c4 bc cn;clear T d0 f7 b3 gu f9
  have bn:j.drew.cell? ⟨fb,6,none⟩=some (.int .i64 (E:Int)):=by
   have:=t.O.J.drew.I 6;simp[cY,<-G.O.1] at this;exact this
  have cr:j.cell? ⟨fb,6,none⟩=some (.int .i64 (E:Int)):=bn;have cw:=t.O.J.fz 6;have cv:j.cell? ⟨z,3,none⟩=some (.int .i64 (r:Int)):=a1.O.I 3;obtain⟨v1,v2⟩:=nJ (b5.O.2.2.2) G.O.1 G.O.2
  go_still_tail 9,(by kernel_rfl)
  change wpList _ _ _ _ _ j.drew;go_wp2_with fail;obtain⟨W8,V⟩:=eX ((j.setCell ⟨fb,6,none⟩ (.int .i64 ((E-r:Nat):Int))).drew);rw[<-V];have R:aa (λb=>b=fb) j W8:=by rw[V];exact(af _ _ _ _).drew
  have s:Hd (aZ W8 F fb L p {f with left:=E-r}):=hD (t.O.td R (by rw[V];exact(t.O.J.s_ 6 _).drew) rfl rfl rfl rfl rfl rfl (t.O.wp_keep R) t.O.rp);have P:=hD R;have ai:=R.J b7.O (λe=>ae.ne_ b7.O t.O.J (by decide) e);have g4:=hD ai
  have cs:W8.cell? ⟨fb,8,none⟩=some (.slice A n c):=by
   rw[s.O.J.I 8];simp[cY,y.O,b8.O]
  have gf:=s.O.J.fz 8;have ge:W8.cell? ⟨g,1,none⟩=some (.int .i64 o.d):=ai.I 1;have C:f.kd.length=n:=b8.O.symm;have b9:Hd (z≠fb):=hD (λe=>ae.ne_ a1.O t.O.J (by decide) e);have b6:Hd (ae W8 z 30 #[.string kp,.int .i64 (fn:Int),.slice u i H,.int .i64 (r:Int)]):=hD (P.O.J a1.O b9.O);have gq:∀aw,(W8.alloc aw).cell? ⟨fb,8,none⟩=some (.slice A n c):=λaw=>(World.cell?_alloc_lt W8 aw ⟨fb,8,none⟩ s.O.J.lt).trans cs
  clear V R ai bn cr cw cv v1 v2
  have al:W8.ownsRow 0 260 4 (.slice A n c) n (f.kd.flatMap gh):=by
   have:=s.O.kd;rw[y.O,C] at this;exact this
  have bb:=hD al;have dl:some z≠(Value.slice A n c).ownBlock:=λe=>aA bb.O b6.O (by decide) e.symm
  have bt:some fb≠(Value.slice A n c).ownBlock:=λe=>aA al s.O.J (by decide) e.symm
  clear al
  go_region_law (
   refine qN rfl _ _ rfl _ rfl rfl rfl n (f.kd.flatMap gh) (aa.owns (S:=λ_=>False) (by repeat (first|with_reducible exact oR|with_reducible refine aa.drew ?_|with_reducible refine aa.alloc ?_ _)) bb.O nG) (by first|exact bN|exact bN.drew) ej.O.1 (by simp[Value.oneCell']) (λh2 w' K N c0=>?_);obtain⟨ar,av,rfl⟩:=mx K;have v:=nj (W8:=W8) N (by repeat (first|with_reducible exact oR|with_reducible refine aa.drew ?_|with_reducible refine aa.alloc ?_ _));have bv:=rV (W8:=W8) c0 (by repeat (first|with_reducible exact oR|with_reducible refine aa.drew ?_|with_reducible refine aa.alloc ?_ _));have kb:=ae.grown (aa.J (S:=λ_=>False) (by repeat (first|with_reducible exact oR|with_reducible refine aa.drew ?_|with_reducible refine aa.alloc ?_ _)) s.O.J nF) N bt;have c1:=kb.I 8;have dz:=kb.fz 8;simp[cY] at c1)
  all_goals (
   obtain⟨W9,X⟩:=eX (w'.setCell ⟨fb,8,none⟩ (.slice (some ⟨ar,0,none⟩) (n+1) av));rw[<-X];have D:aa (λb=>b=fb) w' W9:=by rw[X];exact af _ _ _ _
   have a9:=D.J (v.J b6.O (λe=>dl e.symm)) (λe=>b9.O e)
   have bo:aZ W9 (λb=>F b\/w.heap.size<=b/\b<W9.heap.size) fb {L with kv:=.slice (some ⟨ar,0,none⟩) (n+1) av} p {f with left:=E-r,kd:=f.kd++ [⟨o.d,false,⟨0,0⟩⟩]}:=by
    refine s.O.appended (by rw[y.O,C];exact v) D (by rw[C];exact K) (λb e=>.inl e) (λb e=>?_) (by rw[X];exact kb.s_ 8 _)
    rcases bv b e with ab|ab
    ·exact .inl (s.O.fk b (by rw[y.O,C];exact ab))
    ·refine .inr ⟨lT (lT a7.O.size P.O.size) ab,?_⟩
     have Y:=rt K e;exact lL Y D.size
   have ck:=hD bo;have g1:=hD a9
   have a6:aJ W9 (λb=>w.heap.size<=b/\b<W9.heap.size) u ((f.rg.drop l).take i):=by
    have bz:=c4.O.by_type P.O t.O.J (by decide)
    have dw:aJ w' (λb=>w.heap.size<=b/\b<j.heap.size) u ((f.rg.drop l).take i):=by
     rcases s.O.kv_form with⟨B,_⟩|⟨kb,c,B,_,⟨h3,dv⟩,_⟩
     ·refine bz.kp v (λb _ e=>?_)
      rw[y.O,C] at B;rw[B] at e
      cases e
     ·refine bz.by_type (q:=kb) (v.mono λb e=>?_) dv (by decide)
      rw[y.O,C] at B;rw[B] at e;exact(yz e).symm
    exact(dw.by_type D (v.J s.O.J (λe=>bt e.symm)) (by decide)).mo λb m=>⟨m.1,lL m.2 (lT P.O.size (lT v.size D.size))⟩
   have a6:=hD a6;have bk:Hd (aa F w W9):=hD ((((a7.O.mono λ_ e=>e.elim).trans (P.O.mono λb e=>by rw[e];exact a2.O.ff)).trans (v.mono λb e=>a2.O.fk b (by rw[y.O,C];exact e))).trans (D.mono λb e=>by rw[e];exact a2.O.ff));obtain⟨e4,e5,e6,e7⟩:=a9.gE4;clear bo a9 D X kb c1 dz K N c0 v bv;go_wp2_with fail;go_ret;have Q:ac W9 (W9.alloc (.cells #[.int .u8 2,.string kp,.int .i64 (fn:Int),.slice u i H,.int .i64 (r:Int),.int .i64 0,.int .i64 0] 181)):=oR.alloc _;have bq:f.left / 2=r:=by rw[G.O.2,G.O.1]
   have dq:E-r=f.left-f.left / 2:=by rw[bq,G.O.1]
   refine⟨W9.heap.size,u,H,.slice (some ⟨ar,0,none⟩) (n+1) av,rfl,bk.O.size,?_,?_,?_,bk.O.trans (Q.mono λ_ e=>e.elim)⟩
   ·have m:=ae.new W9 181 #[.int .u8 2,.string kp,.int .i64 (fn:Int),.slice u i H,.int .i64 (r:Int),.int .i64 0,.int .i64 0]
    rw[bc.O];unfold ms;simp only;rw[cn.O,<-ek.O,bq];exact m
   ·rw[bc.O]
    exact(a6.O.kp Q nG).mo λb m=>⟨m.1,lL m.2 Q.size⟩
   ·rw[<-dq]
    exact(ck.O.kp Q nG).mo λb m=>m.imp id λe=>⟨e.1,lL e.2 Q.size⟩)
 ·have h9:(0:Int)<(i:Int):=BI dk
  have Z:l+i<=f.rg.length:=sP dk e9.O b5.O.2.1;have am:=b5.O.2.2.1;have ce:=ci.O.cap;have e3:=ci.O.J.I 5;simp[cY] at e3;have h0:az.cell? ⟨g,2,none⟩=some (.int .i64 (l:Int)):=cm.O.I 2;obtain⟨rl,an⟩:=eX f.rg.length;obtain⟨gB,bx⟩:=eX L.rc;obtain⟨e1,a5⟩:=eX L.rb;rw[<-an,<-bx,<-a5] at e3;rw[<-an] at Z am ce;rw[<-bx] at ce;obtain⟨gc,c8⟩:=eX (l+i);obtain⟨fj,fl,gD,fm,fo,fp⟩:=qe Z am ce;have fw:Hd (l+i<=rl):=hD Z;have g8:Hd (i<=100000):=hD (A9 Z am);have gN:gc-l=i:=by rw[c8];exact Nat.add_sub_cancel_left l i
  rw[<-c8] at fj fl fm fo fp;have h5:=hD c8;have el:=hD (aI an (aI bx a5));clear an bx a5 Z am ce c8;go_wp2_with fail
  go_still_tail 11,(by kernel_rfl)
  change wpList _ _ _ _ _ az.drew;obtain⟨cp,d3⟩:=eX az.drew;rw[<-d3];have c2:ac az cp:=by rw[d3];exact oR.drew
  have aE:=ci.O.kp c2 nG
  have f3:aJ cp F (some ⟨e1,l,none⟩) ((f.rg.drop l).take i):=by
   obtain⟨an,bx,a5⟩:=el.O;refine .inr ⟨e1,l,rfl,λ_=>⟨by rw[a5];exact aE.fr,_,by rw[a5];exact aE.rg⟩,λk a4=>⟨by rw[a5];exact aE.fr,?_⟩⟩;have f8:k<i/\l+k<f.rg.length:=pf a4;rw[a5,fg aE.rg f8.2];simp[yc,zN,f8.1]
  have dd:((f.rg.drop l).take i).length=i:=sZ (by obtain⟨an,_⟩:=el.O;rw[<-an];exact fw.O);have d6:=lm (some ⟨e1,l,none⟩) ((f.rg.drop l).take i) (gB-l) F cp f3 (by rw[dd];exact g8.O);rw[dd] at d6;have eg:=hD d6;have fv:=hD aE;have es:=hD (er.O.trans c2);have ec:=hD (c2.J eb.O nF);have g3:=hD (c2.J cm.O nF);clear d3 c2 aE f3 dd d6 e3 h0;go_wp2_with fail;refine eg.O.mono ?_;rintro e ex ⟨u,H,rfl,fa,c3⟩;have g9:=hD fa;have c5:=c3.J ec.O nF;obtain⟨e4,e5,e6,e7⟩:=c5.gE4;obtain⟨gm,gn,go,gp⟩:=c5.fE4;have ee:=hD c5;have gb:=hD (es.O.trans c3);have h4:=hD (fv.O.kp c3 nG);have ef:=hD (c3.J g3.O nF);clear fa c3 c5 eg;go_wp2_with fail;obtain⟨j,T⟩:=eX (ex.setCell ⟨z,2,none⟩ (.slice u i H));rw[<-T];have b4:aa (λb=>b=z) ex j:=by rw[T];exact af _ _ _ _
  have f0:ae j z 30 #[.string kp,.int .i64 (fn:Int),.slice u i H,.int .i64 (r:Int)]:=by rw[T];exact ee.O.s_ 2 _
  have a1:=hD f0;have h7:=hD b4;have b3:w.heap.size<=z:=by rw[ei.O];exact lT ba.O.size bf.O.size
  have g7:=hD b3;have a7:Hd (ac w j):=hD ((ba.O.trans gb.O).trans' b4 (λb e=>.inr (by rw[e];exact b3)));have t:Hd (aZ j F fb L p f):=hD (a2.O.kp a7.O nG);have c4:Hd (aJ j (λb=>w.heap.size<=b/\b<j.heap.size) u ((f.rg.drop l).take i)):=hD ((g9.O.kp b4 (λb m e=>Ft ec.O.lt m e)).mo (λb m=>⟨lT (ba.O.trans es.O).size m.1,lL m.2 b4.size⟩));have b7:Hd (ae j g 106 #[.int .u8 o.k,.int .i64 o.d,.int .i64 (l:Int),.int .i64 o.b,.int .i64 (fn:Int)]):=hD (b4.J ef.O (λe=>ae.ne_ ef.O ee.O (by decide) e));clear T b4 f0 b3 e4 e5 e6 e7 gm gn go gp;clear fj fl gD fm fo fp gN
  have bn:j.drew.cell? ⟨fb,6,none⟩=some (.int .i64 (E:Int)):=by
   have:=t.O.J.drew.I 6;simp[cY,<-G.O.1] at this;exact this
  have cr:j.cell? ⟨fb,6,none⟩=some (.int .i64 (E:Int)):=bn;have cw:=t.O.J.fz 6;have cv:j.cell? ⟨z,3,none⟩=some (.int .i64 (r:Int)):=a1.O.I 3;obtain⟨v1,v2⟩:=nJ (b5.O.2.2.2) G.O.1 G.O.2
  go_still_tail 9,(by kernel_rfl)
  change wpList _ _ _ _ _ j.drew;go_wp2_with fail;obtain⟨W8,V⟩:=eX ((j.setCell ⟨fb,6,none⟩ (.int .i64 ((E-r:Nat):Int))).drew);rw[<-V];have R:aa (λb=>b=fb) j W8:=by rw[V];exact(af _ _ _ _).drew
  have s:Hd (aZ W8 F fb L p {f with left:=E-r}):=hD (t.O.td R (by rw[V];exact(t.O.J.s_ 6 _).drew) rfl rfl rfl rfl rfl rfl (t.O.wp_keep R) t.O.rp);have P:=hD R;have ai:=R.J b7.O (λe=>ae.ne_ b7.O t.O.J (by decide) e);have g4:=hD ai
  have cs:W8.cell? ⟨fb,8,none⟩=some (.slice A n c):=by
   rw[s.O.J.I 8];simp[cY,y.O,b8.O]
  have gf:=s.O.J.fz 8;have ge:W8.cell? ⟨g,1,none⟩=some (.int .i64 o.d):=ai.I 1;have C:f.kd.length=n:=b8.O.symm;have b9:Hd (z≠fb):=hD (λe=>ae.ne_ a1.O t.O.J (by decide) e);have b6:Hd (ae W8 z 30 #[.string kp,.int .i64 (fn:Int),.slice u i H,.int .i64 (r:Int)]):=hD (P.O.J a1.O b9.O);have gq:∀aw,(W8.alloc aw).cell? ⟨fb,8,none⟩=some (.slice A n c):=λaw=>(World.cell?_alloc_lt W8 aw ⟨fb,8,none⟩ s.O.J.lt).trans cs
  clear V R ai bn cr cw cv v1 v2
  have al:W8.ownsRow 0 260 4 (.slice A n c) n (f.kd.flatMap gh):=by
   have:=s.O.kd;rw[y.O,C] at this;exact this
  have bb:=hD al;have dl:some z≠(Value.slice A n c).ownBlock:=λe=>aA bb.O b6.O (by decide) e.symm
  have bt:some fb≠(Value.slice A n c).ownBlock:=λe=>aA al s.O.J (by decide) e.symm
  clear al
  go_region_law (
   refine qN rfl _ _ rfl _ rfl rfl rfl n (f.kd.flatMap gh) (aa.owns (S:=λ_=>False) (by repeat (first|with_reducible exact oR|with_reducible refine aa.drew ?_|with_reducible refine aa.alloc ?_ _)) bb.O nG) (by first|exact bN|exact bN.drew) ej.O.1 (by simp[Value.oneCell']) (λh2 w' K N c0=>?_);obtain⟨ar,av,rfl⟩:=mx K;have v:=nj (W8:=W8) N (by repeat (first|with_reducible exact oR|with_reducible refine aa.drew ?_|with_reducible refine aa.alloc ?_ _));have bv:=rV (W8:=W8) c0 (by repeat (first|with_reducible exact oR|with_reducible refine aa.drew ?_|with_reducible refine aa.alloc ?_ _));have kb:=ae.grown (aa.J (S:=λ_=>False) (by repeat (first|with_reducible exact oR|with_reducible refine aa.drew ?_|with_reducible refine aa.alloc ?_ _)) s.O.J nF) N bt;have c1:=kb.I 8;have dz:=kb.fz 8;simp[cY] at c1)
  all_goals (
   obtain⟨W9,X⟩:=eX (w'.setCell ⟨fb,8,none⟩ (.slice (some ⟨ar,0,none⟩) (n+1) av));rw[<-X];have D:aa (λb=>b=fb) w' W9:=by rw[X];exact af _ _ _ _
   have a9:=D.J (v.J b6.O (λe=>dl e.symm)) (λe=>b9.O e)
   have bo:aZ W9 (λb=>F b\/w.heap.size<=b/\b<W9.heap.size) fb {L with kv:=.slice (some ⟨ar,0,none⟩) (n+1) av} p {f with left:=E-r,kd:=f.kd++ [⟨o.d,false,⟨0,0⟩⟩]}:=by
    refine s.O.appended (by rw[y.O,C];exact v) D (by rw[C];exact K) (λb e=>.inl e) (λb e=>?_) (by rw[X];exact kb.s_ 8 _)
    rcases bv b e with ab|ab
    ·exact .inl (s.O.fk b (by rw[y.O,C];exact ab))
    ·refine .inr ⟨lT (lT a7.O.size P.O.size) ab,?_⟩
     have Y:=rt K e;exact lL Y D.size
   have ck:=hD bo;have g1:=hD a9
   have a6:aJ W9 (λb=>w.heap.size<=b/\b<W9.heap.size) u ((f.rg.drop l).take i):=by
    have bz:=c4.O.by_type P.O t.O.J (by decide)
    have dw:aJ w' (λb=>w.heap.size<=b/\b<j.heap.size) u ((f.rg.drop l).take i):=by
     rcases s.O.kv_form with⟨B,_⟩|⟨kb,c,B,_,⟨h3,dv⟩,_⟩
     ·refine bz.kp v (λb _ e=>?_)
      rw[y.O,C] at B;rw[B] at e
      cases e
     ·refine bz.by_type (q:=kb) (v.mono λb e=>?_) dv (by decide)
      rw[y.O,C] at B;rw[B] at e;exact(yz e).symm
    exact(dw.by_type D (v.J s.O.J (λe=>bt e.symm)) (by decide)).mo λb m=>⟨m.1,lL m.2 (lT P.O.size (lT v.size D.size))⟩
   have a6:=hD a6;have bk:Hd (aa F w W9):=hD ((((a7.O.mono λ_ e=>e.elim).trans (P.O.mono λb e=>by rw[e];exact a2.O.ff)).trans (v.mono λb e=>a2.O.fk b (by rw[y.O,C];exact e))).trans (D.mono λb e=>by rw[e];exact a2.O.ff));obtain⟨e4,e5,e6,e7⟩:=a9.gE4;clear bo a9 D X kb c1 dz K N c0 v bv;go_wp2_with fail;go_ret;have Q:ac W9 (W9.alloc (.cells #[.int .u8 2,.string kp,.int .i64 (fn:Int),.slice u i H,.int .i64 (r:Int),.int .i64 0,.int .i64 0] 181)):=oR.alloc _;have bq:f.left / 2=r:=by rw[G.O.2,G.O.1]
   have dq:E-r=f.left-f.left / 2:=by rw[bq,G.O.1]
   refine⟨W9.heap.size,u,H,.slice (some ⟨ar,0,none⟩) (n+1) av,rfl,bk.O.size,?_,?_,?_,bk.O.trans (Q.mono λ_ e=>e.elim)⟩
   ·have m:=ae.new W9 181 #[.int .u8 2,.string kp,.int .i64 (fn:Int),.slice u i H,.int .i64 (r:Int),.int .i64 0,.int .i64 0]
    rw[bc.O];unfold ms;simp only;rw[cn.O,<-ek.O,bq];exact m
   ·rw[bc.O]
    exact(a6.O.kp Q nG).mo λb m=>⟨m.1,lL m.2 Q.size⟩
   ·rw[<-dq]
    exact(ck.O.kp Q nG).mo λb m=>m.imp id λe=>⟨e.1,lL e.2 Q.size⟩)
end
theorem Ab(l:List UInt8)(b:fU l)(w:World):Calls Tryz.prog 90 #[.string (sB l),.int .i64 17] w λa w'=>a=.returned (.tuple #[.string ByteArray.empty,.bool false])/\ac w w':=by
 have d:=hD (lQ l b w);clear b;generalize sB l=s at*;go_enter Tryz.func90,Tryz.ntmps90;go_wp2_with fail;refine d.O.mono ?_;rintro a g ⟨rfl,c⟩;have e:=hD c;clear c;go_wp2_with fail
 go_ret2
 exact⟨rfl,e.O⟩
theorem jJ.back{b w w':World}{F:Nat->Prop}{fb:Nat}{L:iC}{p:List ah}{f:Fr}{x:aL}{a:Ending}(c:jJ w w' F fb L p f x a)(o:ac b w):jJ b w' F fb L p f x a:=by
 obtain⟨q,v,d,e,g,i,j⟩:=c;exact⟨q,v,d,lT o.size e,g,i,(o.mono λ_ a=>a.elim).trans j⟩
section
variable {w w':World}{F F':Nat->Prop}{fb:Nat}{L:iC}{p:List ah}{f:Fr}
theorem AE(o:bK)(D:∀b,F b->b<w.heap.size)(s:aZ w F fb L p f)(G:f.kd.length=16)(K:fU f.M):
 Calls Tryz.prog 176 #[.pointer (some ⟨fb,0,none⟩),cR o] w λe w'=>jJ w w' F fb L p f ⟨0,132⟩ e:=by
 obtain⟨i,u⟩:=eX (w.alloc (.cells #[.int .u8 o.k,.int .i64 o.d,.int .i64 o.a,.int .i64 o.b,.int .i64 o.n] 106));have r:ac w i:=by rw[u];exact(aa.refl _ w).alloc _
 have t:=s.kp r nG;obtain⟨A,c,H⟩:=s.kv_any;obtain⟨g,E⟩:=eX w.heap.size;obtain⟨n,x⟩:=eX f.kd.length
 have j:Hd (∀W,ac i W->ac i W/\W.cell? ⟨fb,1,none⟩=some (.string (sB f.M))/\W.cell? ⟨fb,8,none⟩=some (.slice A n c)):=hD λW l=>by
  have q:=(t.kp l nG).J;refine⟨l,q.I 1,?_⟩;rw[q.I 8];simp[cY,H,x]
 have N:Hd (∀m W,ac i W->Calls Tryz.prog 173 #[.pointer (some ⟨fb,0,none⟩),.int .i64 m] W λe w'=>jJ w w' F fb L p f ⟨0,m⟩ e):=hD λm W l=>by
  refine(lW m (λb T=>lL (D b T) (lT r.size l.size)) (t.kp l nG)).mono ?_;intro e w' k;exact k.back (r.trans l)
 have X:=hD E;have z:=hD u.symm;have P:Hd (∀W,Calls Tryz.prog 90 #[.string (sB f.M),.int .i64 17] W λe w'=>e=.returned (.tuple #[.string ByteArray.empty,.bool false])/\ac W w'):=hD (Ab f.M K);rw[G] at x;subst x;clear s t r H u D G K E;unfold cR;go_enter Tryz.func176,Tryz.ntmps176;go_upto_region 1 with fail;rw[z.O];clear z;have S:=j.O i oR
 go_region_held3 (λw'=>ac i w'/\w'.cell? ⟨fb,1,none⟩=some (.string (sB f.M))/\w'.cell? ⟨fb,8,none⟩=some (.slice A 16 c))
  (first|exact j.O _ (yt ‹_›)|exact j.O _ (aa.drew (yt ‹_›))|exact j.O _ (aa.trans (aa.drew (yt ‹_›)) y)|exact j.O _ (aa.trans (yt ‹_›) y)|fail)
  (first|(go_at_call 90;refine(P.O _).mono ?_;rintro e C ⟨rfl,y⟩)|fail)
 have B:Hd (ac i C):=hD (yt ‹_›);have Y:=(j.O C B.O).2.2;clear S y;go_wp2_with fail;refine(N.O _ _ B.O).mono ?_;intro e w' k;have⟨q,v,R,V⟩:=k;subst R;have Q:=hD k;clear k V;go_wp2_with fail;go_ret;exact Q.O
theorem AD(o:bK)(E:∀b,F b->b<w.heap.size)(t:aZ w F fb L p f)(m:f.kd.length<16)(N:fU f.M)(K:f.M.length=12):
 Calls Tryz.prog 176 #[.pointer (some ⟨fb,0,none⟩),cR o] w λe w'=>jJ w w' F fb L p f ⟨0,133⟩ e:=by
 obtain⟨i,x⟩:=eX (w.alloc (.cells #[.int .u8 o.k,.int .i64 o.d,.int .i64 o.a,.int .i64 o.b,.int .i64 o.n] 106));have s:ac w i:=by rw[x];exact(aa.refl _ w).alloc _
 have u:=t.kp s nG;obtain⟨A,c,H⟩:=t.kv_any;obtain⟨g,G⟩:=eX w.heap.size;obtain⟨n,y⟩:=eX f.kd.length
 have j:Hd (∀W,ac i W->ac i W/\W.cell? ⟨fb,1,none⟩=some (.string (sB f.M))/\W.cell? ⟨fb,8,none⟩=some (.slice A n c)):=hD λW l=>by
  have q:=(u.kp l nG).J;refine⟨l,q.I 1,?_⟩;rw[q.I 8];simp[cY,H,y]
 have P:Hd (∀r W,ac i W->Calls Tryz.prog 173 #[.pointer (some ⟨fb,0,none⟩),.int .i64 r] W λe w'=>jJ w w' F fb L p f ⟨0,r⟩ e):=hD λr W l=>by
  refine(lW r (λb V=>lL (E b V) (lT s.size l.size)) (u.kp l nG)).mono ?_;intro e w' k;exact k.back (s.trans l)
 have a0:=hD G;have B:=hD x.symm;rw[<-y] at m
 have Q:Hd (∀W,Calls Tryz.prog 90 #[.string (sB f.M),.int .i64 ((n:Int)+1)] W λe w'=>e=.returned (.tuple #[.string ByteArray.empty,.bool false])/\ac W w'):=hD λW=>by
  have:=qm f.M N (n+1) (Yh 1 n) m W;have e:=jS n;rw[e] at this;unfold mc at this;rw[yf K] at this;exact this
 have Y:=kM m;have a2:=(aU _).trans Y;have X:=tj m;have a1:decide ((16:Int)<=(n:Int))=false:=yd X;clear t u s H x E m N G y K;unfold cR;go_enter Tryz.func176,Tryz.ntmps176;go_upto_region 1 with fail;rw[B.O];clear B;have T:=j.O i oR
 go_region_held3 (λw'=>ac i w'/\w'.cell? ⟨fb,1,none⟩=some (.string (sB f.M))/\w'.cell? ⟨fb,8,none⟩=some (.slice A n c))
  (first|exact j.O _ (yt ‹_›)|exact j.O _ (aa.drew (yt ‹_›))|exact j.O _ (aa.trans (aa.drew (yt ‹_›)) z)|exact j.O _ (aa.trans (yt ‹_›) z)|fail)
  (first|(go_at_call 90;refine(Q.O _).mono ?_;rintro e D ⟨rfl,z⟩)|fail)
 have C:Hd (ac i D):=hD (yt ‹_›);have a3:=(j.O D C.O).2.2;clear T z;go_wp2_with fail;refine(P.O _ _ C.O).mono ?_;intro e w' k;have⟨q,v,S,Z⟩:=k;subst S;have R:=hD k;clear k Z;go_wp2_with fail;go_ret;exact R.O
end
def oJ(k:cZ):Value:=.agg #[.int .i64 k.into,.bool k.given,.int .i64 k.r.v,.int .i64 k.r.e]
theorem AT(k:cZ)(w:World):Calls Tryz.prog 170 #[oJ k] w λa w'=>a=.returned (.bool (!k.given))/\ac w w':=by
 unfold oJ;go_enter Tryz.func170,Tryz.ntmps170;go_wp2_with fail;go_ret;exact⟨rfl,oR.alloc _⟩
theorem AU(k:cZ)(w:World):Calls Tryz.prog 172 #[oJ k] w λa w'=>a=.returned (.bool (k.r.e !=0))/\ac w w':=by
 unfold oJ;go_enter Tryz.func172,Tryz.ntmps172;go_wp2_with fail;go_ret;exact⟨rfl,oR.alloc _⟩
def gR(w:World)(A:Option Addr)(l:List cZ):Prop:=∀(i:Nat) (k:cZ),l[i]?=some k->∃b o,A=some ⟨b,o,none⟩/\∀(j:Nat) (v:Value),(gh k)[j]?=some v->w.cell? ⟨b,o+i*4+j,none⟩=some v
theorem gR.kp{w w':World}{A:Option Addr}{l:List cZ}(c:gR w A l)(g:ac w w'):gR w' A l:=λi k e=>by
 obtain⟨b,o,d,a⟩:=c i k e;exact⟨b,o,d,λj v hv=>(g.I (p:=⟨b,o+i*4+j,none⟩) (block_lt_of_cell (a j v hv)) nF).trans (a j v hv)⟩
def fQ(pr:cZ->Bool):List cZ->Nat->Int
 | [],_=>-1
 |a :: l,k=>if pr a=true then(k:Int) else fQ pr l (k+1)
theorem CU(A:Option Addr)(l:List cZ)(c:Nat)(w:World)(D:gR w A l)(S:l.length<=1000):
 Calls Tryz.prog 171 #[.slice A l.length c,.func (.func 170) #[] #[]] w λj w'=>j=.returned (.int .i64 (fQ (λk=>!k.given) l 0))/\ac w w':=by
 obtain⟨r,x⟩:=eX (fQ (λk=>!k.given) l 0);rw[<-x];have P:=hD x;have K:=hD AT;have N:=hD D;obtain⟨n,v⟩:=eX l.length;rw[<-v] at S ⊢;have B:=hD v;clear x D v;go_enter Tryz.func171,Tryz.ntmps171;go_wp2_with fail
 go_loopw [8] (λi wr=>∃k:Nat,k<=n/\i=.int .i64 k/\fQ (λk=>!k.given) (l.drop k) k=r/\ac w wr) (λi _=>n-(intOf i).toNat)
 case atStart=>exact⟨0,yx _,rfl,P.O.symm,oR⟩
 case round=>
  obtain⟨k,Z,rfl,a,g⟩:=hrel
  by_cases u:k<n
  ·have a0:(0:Int)<=(k:Int):=dK k
   have R:(k:Int)<(n:Int):=cO u;have E:k<l.length:=by rw[<-B.O];exact u
   obtain⟨b,o,Q,e⟩:=N.O.kp g k l[k] (gG E);rw[yM E] at a;unfold fQ at a;generalize l[k] =y at*;have H:=e 0 _ rfl;have T:=e 1 _ rfl;have V:=e 2 _ rfl;have X:=e 3 _ rfl;rw[yW] at H;subst Q;obtain⟨s,t⟩:=eX ((λk=>!k.given) y:Bool);have m:(if s=true then(k:Int) else fQ (λk=>!k.given) (l.drop (k+1)) (k+1))=r:=by rw[t];exact a
   have z:Hd (∀W,Calls Tryz.prog 170 #[oJ y] W λj w'=>j=.returned (.bool s)/\ac W w'):=hD λW=>by rw[t];exact K.O y W
   have q:=hD g;clear e a g t;unfold oJ at z;go_wp2_with fail;refine(z.O _).mono ?_;rintro j Y ⟨rfl,G⟩;have C:=hD (q.O.trans G);clear G H T V X
   cases s
   ·have d:Hd (fQ (λk=>!k.given) (l.drop (k+1)) (k+1)=r):=hD m
    clear m;go_wp2_with fail;go_roundw
    case rel=>exact⟨k+1,u,by go_num,d.O,C.O⟩
    case measure=>simp[intOf];omega
   ·have d:Hd ((k:Int)=r):=hD m
    clear m;go_wp2_with fail;go_ret;exact⟨by rw[<-d.O];rfl,C.O⟩
  ·have R:¬(k:Int)<(n:Int):=by omega
   have:k=n:=by omega
   subst this;rw[B.O,zq] at a;have d:=hD a;have q:=hD g;clear a g;go_wp2_with fail;go_ret;exact⟨by rw[<-d.O];rfl,q.O⟩
theorem lZ(A:Option Addr)(l:List cZ)(c:Nat)(w:World)(D:gR w A l)(S:l.length<=1000):
 Calls Tryz.prog 171 #[.slice A l.length c,.func (.func 172) #[] #[]] w λj w'=>j=.returned (.int .i64 (fQ (λk=>k.r.e !=0) l 0))/\ac w w':=by
 obtain⟨r,x⟩:=eX (fQ (λk=>k.r.e !=0) l 0);rw[<-x];have P:=hD x;have K:=hD AU;have N:=hD D;obtain⟨n,v⟩:=eX l.length;rw[<-v] at S ⊢;have B:=hD v;clear x D v;go_enter Tryz.func171,Tryz.ntmps171;go_wp2_with fail
 go_loopw [8] (λi wr=>∃k:Nat,k<=n/\i=.int .i64 k/\fQ (λk=>k.r.e !=0) (l.drop k) k=r/\ac w wr) (λi _=>n-(intOf i).toNat)
 case atStart=>exact⟨0,yx _,rfl,P.O.symm,oR⟩
 case round=>
  obtain⟨k,Z,rfl,a,g⟩:=hrel
  by_cases u:k<n
  ·have a0:(0:Int)<=(k:Int):=dK k
   have R:(k:Int)<(n:Int):=cO u;have E:k<l.length:=by rw[<-B.O];exact u
   obtain⟨b,o,Q,e⟩:=N.O.kp g k l[k] (gG E);rw[yM E] at a;unfold fQ at a;generalize l[k] =y at*;have H:=e 0 _ rfl;have T:=e 1 _ rfl;have V:=e 2 _ rfl;have X:=e 3 _ rfl;rw[yW] at H;subst Q;obtain⟨s,t⟩:=eX ((λk=>k.r.e !=0) y:Bool);have m:(if s=true then(k:Int) else fQ (λk=>k.r.e !=0) (l.drop (k+1)) (k+1))=r:=by rw[t];exact a
   have z:Hd (∀W,Calls Tryz.prog 172 #[oJ y] W λj w'=>j=.returned (.bool s)/\ac W w'):=hD λW=>by rw[t];exact K.O y W
   have q:=hD g;clear e a g t;unfold oJ at z;go_wp2_with fail;refine(z.O _).mono ?_;rintro j Y ⟨rfl,G⟩;have C:=hD (q.O.trans G);clear G H T V X
   cases s
   ·have d:Hd (fQ (λk=>k.r.e !=0) (l.drop (k+1)) (k+1)=r):=hD m
    clear m;go_wp2_with fail;go_roundw
    case rel=>exact⟨k+1,u,by go_num,d.O,C.O⟩
    case measure=>simp[intOf];omega
   ·have d:Hd ((k:Int)=r):=hD m
    clear m;go_wp2_with fail;go_ret;exact⟨by rw[<-d.O];rfl,C.O⟩
  ·have R:¬(k:Int)<(n:Int):=by omega
   have:k=n:=by omega
   subst this;rw[B.O,zq] at a;have d:=hD a;have q:=hD g;clear a g;go_wp2_with fail;go_ret;exact⟨by rw[<-d.O];rfl,q.O⟩
theorem mG(c:cZ->Bool):∀(l:List cZ) (k:Nat),decide ((0:Int)<=fQ c l k)=l.any c
 | [],k=>by simp[fQ]
 |a :: l,k=>by
  unfold fQ
  by_cases b:c a=true
  ·rw[yf b]
   simp[b]
  ·rw[yb b,mG c l (k+1)]
   simp[b]
theorem tW(b:cZ->Bool):∀(l:List cZ) (k:Nat),0<=fQ b l k->∃(i:Nat) (y:cZ),fQ b l k=((k+i:Nat):Int)/\l[i]?=some y/\b y=true/\l.find? b=some y
 | [],k,c=>by simp[fQ] at c
 |a :: l,k,c=>by
  unfold fQ at c ⊢
  by_cases d:b a=true
  ·rw[yf d] at c ⊢
   exact⟨0,a,rfl,rfl,d,by simp[List.find?,d]⟩
  ·rw[yb d] at c ⊢
   obtain⟨i,y,e,g,j,m⟩:=tW b l (k+1) c;refine⟨i+1,y,?_,by simpa using g,j,?_⟩
   ·rw[e]
    have:k+1+i=k+(i+1):=by omega
    rw[this]
   ·have n:b a=false:=by simpa using d
    simp[List.find?,n,m]
theorem kG(A:Option Addr)(l:List cZ)(c:Nat)(w:World)(d:gR w A l)(e:l.length<=1000):
 Calls Tryz.prog 169 #[.slice A l.length c,.func (.func 170) #[] #[]] w λb w'=>b=.returned (.bool (l.any λk=>!k.given))/\ac w w':=by
 have a:=CU A l c w d e;rw[<-mG (λk=>!k.given) l 0];have i:=hD a;generalize fQ (λk=>!k.given) l 0=r at*;generalize l.length=n at*;clear a d e;go_enter Tryz.func169,Tryz.ntmps169;go_wp2_with fail;refine i.O.mono ?_;rintro b m ⟨rfl,g⟩;have j:=hD g;clear g;go_wp2_with fail;go_ret;exact⟨rfl,j.O⟩
section
variable {w w':World}{F F':Nat->Prop}{fb:Nat}{L:iC}{p:List ah}{f:Fr}
theorem aZ.regs_set{e:List Int}(a:aZ w F fb L p f)(d:aa (λb=>b=L.rb) w w')(n:ae w' L.rb 2 (e.map (Value.int .i64)).toArray)(j:e.length=f.rg.length):aZ w' F fb L p {f with rg:=e}:=by
 have t:fb≠L.rb:=λc=>ae.ne_ a.rg a.J (by decide) c.symm
 have i:=d.J a.J t;have r:cY L p f=cY L p {f with rg:=e}:=by unfold cY;simp only;rw[j]
 rw[r] at i;refine⟨a.ff,a.fr,a.fk,i,a.fns.by_type d a.rg (by decide) (by decide),n,d.owns a.kd (λk s c=>aA a.kd a.rg (by decide) (by rw[s,c])),?_,a.rp,by rw[j];exact a.cap⟩;have:=a.wp
 show match f.waits with
  |none=>L.wp=.pointer none
  |some o=>∃q,F q/\L.wp=.pointer (some ⟨q,0,none⟩)/\ae w' q 106 (eR o).toArray
 split<;>rename_i c<;>rw[c] at this
 ·exact this
 ·obtain⟨q,l,m,g⟩:=this
  exact⟨q,l,m,d.J g (λc=>ae.ne_ g a.rg (by decide) c)⟩
theorem aZ.reg_put(a:aZ w F fb L p f)(d:Nat)(x:Int):aZ (w.setCell ⟨L.rb,d,none⟩ (.int .i64 x)) F fb L p {f with rg:=f.rg.set d x}:=by
 refine a.regs_set (af _ _ _ _) ?_ (by simp);have:=a.rg.s_ d (.int .i64 x)
 have b:(f.rg.map (Value.int .i64)).toArray.setIfInBounds d (.int .i64 x)=((f.rg.set d x).map (Value.int .i64)).toArray:=by
  rw[List.setIfInBounds_toArray,List.map_set]
 rw[b] at this;exact this
theorem aZ.opens_at(d:aZ w F fb L p f){kb c:Nat}(n:L.kv=.slice (some ⟨kb,0,none⟩) f.kd.length c):gR w (some ⟨kb,f.joined*4,none⟩) f.os:=by
 intro i k e;refine⟨kb,f.joined*4,rfl,λj v hv=>?_⟩;have l:f.kd[f.joined+i]?=some k:=by simpa[Fr.os] using e
 have m:j<4:=by
  have:=(gS hv).1
  simpa[gh] using this
 have a:=d.kd;rw[n] at a;have:=a.cells (g:=kb) rfl ((f.joined+i)*4+j) v (by rw[jL _ _ j k l m];exact hv);rw[bg,yq] at this;have b:f.joined*4+i*4+j=(f.joined+i)*4+j:=by omega
 rw[b];exact this
theorem jU(A:Option Addr)(w:World):gR w A []:=λi k a=>by simp at a
end
def nQ:Array Value:=#[.int .u8 3,.string ⟨#[]⟩,.int .i64 0,.slice none 0 0,.int .i64 0,.int .i64 0,.int .i64 0]
theorem nx{j n c:Nat}(a:j<n)(b:n<=c):(0:Int)<=(j:Int)/\(j:Int)<=(n:Int)/\(j:Int)<=(c:Int)/\(n:Int)<=(c:Int):=by omega
section
variable {w w':World}{F F':Nat->Prop}{fb:Nat}{L:iC}{p:List ah}{f:Fr}
theorem AX(o:bK)(a1:∀b,F b->b<w.heap.size)(r:aZ w F fb L p f)(a5:f.os.any (λc=>!c.given)=true)(i:f.joined<f.kd.length)(N:f.kd.length<=16):
 Calls Tryz.prog 139 #[.pointer (some ⟨fb,0,none⟩),cR o] w λe w'=>∃q v,e=.returned (.pointer (some ⟨q,0,none⟩))/\w.heap.size<=q/\ae w' q 181 nQ/\
  aZ w' (λb=>F b\/w.heap.size<=b/\b<w'.heap.size) fb {L with wp:=v} p {f with waits:=some o}/\aa F w w':=by
 rcases r.kv_form with⟨_,an⟩|⟨kb,c,K,b2,⟨b7,aw⟩,_⟩
 ·rw[an] at i
  exact absurd i (zZ _)
 obtain⟨j,x⟩:=eX (w.alloc (.cells #[.int .u8 o.k,.int .i64 o.d,.int .i64 o.a,.int .i64 o.b,.int .i64 o.n] 106));have S:ac w j:=by rw[x];exact(aa.refl _ w).alloc _
 have D:ae j w.heap.size 106 #[.int .u8 o.k,.int .i64 o.d,.int .i64 o.a,.int .i64 o.b,.int .i64 o.n]:=by rw[x];exact bN
 have l:=r.kp S nG;obtain⟨g,G⟩:=eX w.heap.size;rw[<-G] at D;have a8:=l.J.I 10;have am:=l.J.fz 10;simp[cY] at a8;have V:=l.J.I 8;have W:=l.J.I 9;simp[cY,K] at V W
 have s:f.kd.length<=c:=by
  have:=r.kd;rw[K] at this
  rcases di this with⟨e,_⟩|⟨b0,aE,e,ar,_⟩
  ·cases e
  ·injection e with _ _ e3
   rw[e3];exact ar
 obtain⟨n,P⟩:=eX f.kd.length;obtain⟨R,H⟩:=eX f.joined;rw[<-P] at V s i N;rw[<-H] at W i;obtain⟨b3,b4,b5,b6⟩:=nx i s;have b1:¬c=R:=λe=>absurd (lL i s) (by rw[e];exact yQ _)
 have a9:=hD r;have t:=hD l;have A:=hD D;have ad:=hD S;have Y:=hD G;have az:=hD a1;have ab:=hD K;have m:=hD (aI P (aI H (aI i (aI s N))));have al:=hD a5;have Z:=hD x.symm;clear r l D S G a1 P H i N s a5 x aw;unfold cR;go_enter Tryz.func139,Tryz.ntmps139;go_upto_region 1 with fail;rw[Z.O,<-Y.O];clear Z;go_wp2_with fail
 go_quiet (fail)
 obtain⟨C,y⟩:=eX ((j.setCell ⟨fb,10,none⟩ (.pointer (some ⟨g,0,none⟩))).drewN nq);rw[<-y];have z:aa (λb=>b=fb) j C:=by rw[y];exact(af _ _ _ _).drewN nq
 have av:w.heap.size<=g/\g<j.heap.size:=⟨zl Y.O.symm,A.O.lt⟩
 have a2:g≠fb:=λe=>ae.ne_ A.O t.O.J (by decide) e
 have X:Hd (aZ C (λb=>F b\/w.heap.size<=b/\b<j.heap.size) fb {L with wp:=.pointer (some ⟨g,0,none⟩)} p {f with waits:=some o}):=hD ((t.O.mo λb E=>.inl E).td z (by rw[y];exact(t.O.J.s_ 10 _).drewN nq) rfl rfl rfl rfl rfl rfl ⟨g,.inr av,rfl,z.J A.O a2⟩ t.O.rp);have a3:=(X.O.opens_at (kb:=kb) (c:=c) ab.O)
 have a4:f.os.length=n-R:=by rw[eO,m.O.1,m.O.2.1]
 have Q:=kG (some ⟨kb,f.joined*4,none⟩) f.os (c-R) C a3 (by rw[eO];exact lT (Nat.sub_le _ _) (by rw[<-m.O.1];exact lT m.O.2.2.2.2 (by decide)));rw[a4,al.O,<-m.O.2.1] at Q;have ai:=hD Q;have a0:=hD z;clear a3 a4 Q z y a8 am V W a2;go_wp2_with fail;refine ai.O.mono ?_;rintro e u ⟨rfl,a6⟩;have B:=hD a6;clear a6;go_wp2_with fail;go_ret;have T:ac u (u.alloc (.cells nQ 181)):=oR.alloc _;have a7:aa F w u:=((ad.O.mono λ_ e=>e.elim).trans (a0.O.mono λb e=>by rw[e];exact a9.O.ff)).trans (B.O.mono λ_ e=>e.elim);refine⟨u.heap.size,.pointer (some ⟨g,0,none⟩),rfl,a7.size,bN,((X.O.kp B.O nG).kp T nG).mo λb E=>E.imp id λe=>⟨e.1,lL e.2 (lT a0.O.size (lT B.O.size T.size))⟩,a7.trans (T.mono λ_ e=>e.elim)⟩
end
theorem mv:∀l:List cZ,cD (eo l)=match l.find? (λk=>k.r.e !=0) with|some y=>y.r.e|none=>0
 | []=>rfl
 |a :: l=>by
  have c:=mv l;unfold eo at c ⊢;rw[zc];unfold cD
  by_cases b:a.r.e=0
  ·rw[yb (by simp[b]),c]
   simp[List.find?,b]
  ·rw[yf b]
   have:(a.r.e !=0)=true:=by simp[b]
   simp[List.find?,this]
theorem gR.keep_{S:Nat->Prop}{w w':World}{kb o:Nat}{l:List cZ}(d:gR w (some ⟨kb,o,none⟩) l)(m:aa S w w')(e:¬S kb):gR w' (some ⟨kb,o,none⟩) l:=λi k g=>by
 obtain⟨b,n,a,c⟩:=d i k g;injection a with a;injection a with e1 e2;subst e1;subst e2;exact⟨kb,o,rfl,λj v hv=>(m.I (p:=⟨kb,o+i*4+j,none⟩) (block_lt_of_cell (c j v hv)) e).trans (c j v hv)⟩
theorem jJ.wide{c w w':World}{F F':Nat->Prop}{fb:Nat}{L:iC}{p:List ah}{f:Fr}{x:aL}{a:Ending}(d:jJ w w' F fb L p f x a)(o:aa (λb=>b=fb) c w)(l:∀b,F b->F' b):jJ c w' F' fb L p f x a:=by
 obtain⟨q,v,e,g,i,j,k⟩:=d;exact⟨q,v,e,lT o.size g,i,j.mo l,o.trans k⟩
section
variable {w w':World}{F F':Nat->Prop}{fb:Nat}{L:iC}{p:List ah}{f:Fr}
theorem CZ(o:bK)(b9:∀b,F b->b<w.heap.size)(H:aZ w F fb L p f)(bo:f.os.any (λc=>!c.given)=false)(t:f.joined<f.kd.length)(ai:f.kd.length<=16)(bb:cD (eo f.os)≠0):
 Calls Tryz.prog 139 #[.pointer (some ⟨fb,0,none⟩),cR o] w λe w'=>∃c6,jJ w w' (λb=>F b\/w.heap.size<=b/\b<w'.heap.size) fb c6 p {f with waits:=none,joined:=f.kd.length} ⟨0,cD (eo f.os)⟩ e:=by
 rcases H.kv_form with⟨_,ce⟩|⟨kb,c,ad,cs,⟨az,X⟩,_⟩
 ·rw[ce] at t
  exact absurd t (zZ _)
 obtain⟨s,T⟩:=eX (w.alloc (.cells #[.int .u8 o.k,.int .i64 o.d,.int .i64 o.a,.int .i64 o.b,.int .i64 o.n] 106));have am:ac w s:=by rw[T];exact(aa.refl _ w).alloc _
 have a4:ae s w.heap.size 106 #[.int .u8 o.k,.int .i64 o.d,.int .i64 o.a,.int .i64 o.b,.int .i64 o.n]:=by rw[T];exact bN
 have A:=H.kp am nG;obtain⟨g,a8⟩:=eX w.heap.size;rw[<-a8] at a4;have N:=A.J.I 10;have a5:=A.J.fz 10;simp[cY] at N;have D:=A.J.I 8;have E:=A.J.I 9;simp[cY,ad] at D E;have bv:=hD bb
 have K:f.kd.length<=c:=by
  have:=H.kd;rw[ad] at this
  rcases di this with⟨e,_⟩|⟨R,cq,e,S,_⟩
  ·cases e
  ·injection e with _ _ e3
   rw[e3];exact S
 obtain⟨n,al⟩:=eX f.kd.length;obtain⟨C,a9⟩:=eX f.joined;rw[<-al] at D K t ai;rw[<-a9] at E t;obtain⟨d0,d1,d2,d3⟩:=nx t K;have cr:¬c=C:=λe=>absurd (lL t K) (by rw[e];exact yQ _)
 have cp:=hD H;have P:=hD A;have a0:=hD a4;have c1:=hD am;have b1:=hD a8;have bx:=hD b9;have G:=hD ad;have j:=hD (aI al (aI a9 (aI t (aI K ai))));have c4:=hD bo;have b2:=hD T.symm;clear H A a4 am a8 b9 al a9 t ai K bo T X bb;unfold cR;go_enter Tryz.func139,Tryz.ntmps139;go_upto_region 1 with fail;rw[b2.O,<-b1.O];clear b2;go_wp2_with fail
 go_quiet (fail)
 obtain⟨a2,V⟩:=eX ((s.setCell ⟨fb,10,none⟩ (.pointer (some ⟨g,0,none⟩))).drewN nq);rw[<-V];have Y:aa (λb=>b=fb) s a2:=by rw[V];exact(af _ _ _ _).drewN nq
 have cf:w.heap.size<=g/\g<s.heap.size:=⟨zl b1.O.symm,a0.O.lt⟩
 have bc:g≠fb:=λe=>ae.ne_ a0.O P.O.J (by decide) e
 have aE:Hd (aZ a2 (λb=>F b\/w.heap.size<=b/\b<s.heap.size) fb {L with wp:=.pointer (some ⟨g,0,none⟩)} p {f with waits:=some o}):=hD ((P.O.mo λb m=>.inl m).td Y (by rw[V];exact(P.O.J.s_ 10 _).drewN nq) rfl rfl rfl rfl rfl rfl ⟨g,.inr cf,rfl,Y.J a0.O bc⟩ P.O.rp);have bn:=(aE.O.opens_at (kb:=kb) (c:=c) G.O)
 have B:f.os.length=n-C:=by rw[eO,j.O.1,j.O.2.1]
 have u:=kG (some ⟨kb,f.joined*4,none⟩) f.os (c-C) a2 bn (by rw[eO];exact lT (Nat.sub_le _ _) (by rw[<-j.O.1];exact lT j.O.2.2.2.2 (by decide)));rw[B,c4.O,<-j.O.2.1] at u;have c2:=hD u;have b3:=hD Y;clear bn B u Y V N a5 D E bc;go_wp2_with fail;refine c2.O.mono ?_;rintro e a3 ⟨rfl,an⟩;have b4:=hD an;have l:=aE.O.kp an nG;have D:=l.J.I 8;have E:=l.J.I 9;have N:=l.J.I 10;have cb:=l.J.fz 9;have a5:=l.J.fz 10;simp[cY,G.O,<-j.O.1] at D E N;have x:=hD l;clear an l;go_wp2_with fail;obtain⟨Q,W⟩:=eX ((a3.setCell ⟨fb,10,none⟩ (.pointer none)).setCell ⟨fb,9,none⟩ (.int .i64 (n:Int)));rw[<-W];have Z:aa (λb=>b=fb) a3 Q:=by rw[W];exact aD (af _ _ _ _)
 have br:Hd (aZ Q (λb=>F b\/w.heap.size<=b/\b<s.heap.size) fb {L with wp:=.pointer none} p {f with waits:=none,joined:=f.kd.length}):=hD (x.O.td Z (by
  rw[W,j.O.1];exact(x.O.J.s_ 10 _).s_ 9 _) rfl rfl rfl rfl rfl rfl rfl x.O.rp)
 have cg:∃az,ae a3 kb 260 az:=by
  rcases x.O.kv_form with⟨e,_⟩|⟨cn,c',e,_,ch,_⟩
  ·have:=G.O
   rw[show L.kv=.slice none 0 0 from e] at this
   cases this
  ·have S:=G.O
   rw[show L.kv=.slice (some ⟨cn,0,none⟩) _ c' from e] at S;injection S with l;injection l with h4;injection h4 with h5;rw[<-h5];exact ch
 obtain⟨az,X⟩:=cg;have ab:gR Q (some ⟨kb,f.joined*4,none⟩) f.os:=(x.O.opens_at (kb:=kb) (c:=c) G.O).keep_ Z (λe=>ae.ne_ X x.O.J (by decide) e);have B:f.os.length=n-C:=by rw[eO,j.O.1,j.O.2.1]
 have u:=lZ (some ⟨kb,f.joined*4,none⟩) f.os (c-C) Q ab (by rw[eO];exact lT (Nat.sub_le _ _) (by rw[<-j.O.1];exact lT j.O.2.2.2.2 (by decide)))
 have bk:0<=fQ (λk=>k.r.e !=0) f.os 0:=by
  have z:=mv f.os
  cases hfd:f.os.find? (λk=>k.r.e !=0) with
  |none=>rw[hfd] at z;exact absurd z bv.O
  |some y=>
   have:f.os.any (λk=>k.r.e !=0)=true:=zT.2 ⟨y,List.mem_of_find?_eq_some hfd,List.find?_some (p:=λk:cZ=>k.r.e !=0) hfd⟩;rw[<-mG _ _ 0] at this;exact yD this
 obtain⟨i,y,a6,R,cd,b7⟩:=tW _ f.os 0 bk;have b8:cD (eo f.os)=y.r.e:=by rw[mv,b7]
 rw[yq] at a6;rw[B,<-j.O.2.1,a6] at u;have bm:i<n-C:=by rw[<-B];exact(gS R).1
 have c3:=hD u;have c0:=hD ab;have bz:=hD R;have bt:=hD b8;have b5:=hD Z;have cv:=dK i;have cw:=cO bm;clear u ab a6 R cd b7 b8 Z bk B X W D E N cb a5 bm;refine c3.O.mono ?_;rintro e b6 ⟨rfl,ar⟩;have a1:=hD ar;obtain⟨b,cB,a7,ba⟩:=c0.O.kp ar i y bz.O;injection a7 with a7;injection a7 with z e2;subst z;subst e2;have bq:=ba 3 _ rfl;rw[<-j.O.2.1] at bq;clear ar ba;go_wp2_with fail;have av:aa (λb=>b=fb) w b6:=((((c1.O.mono λ_ e=>e.elim).trans b3.O).trans (b4.O.mono λ_ e=>e.elim)).trans b5.O).trans (a1.O.mono λ_ e=>e.elim);have aw:aa (λb=>b=fb) s b6:=(((b3.O).trans (b4.O.mono λ_ e=>e.elim)).trans b5.O).trans (a1.O.mono λ_ e=>e.elim);have b0:=br.O.kp a1.O nG
 have bf:=lW y.r.e (λb m=>by
  rcases m with m|m
  ·exact lL (bx.O b m) av.size
  ·exact lL m.2 aw.size) b0
 refine bf.mono ?_;intro e d4 k;have⟨q,v,z,ci,ck,cm,bp⟩:=k;subst z;have c5:=hD k;have c7:=hD bp;have c8:=hD av;have c9:=hD aw;clear k ci ck cm bp b0 bf av aw bq;go_wp2_with fail;go_ret;refine⟨{L with wp:=.pointer none},?_⟩;rw[bt.O];exact c5.O.wide c8.O (λb m=>m.imp id λe=>⟨e.1,lL e.2 (lT c9.O.size c7.O.size)⟩)
end
def uR:Array Value:=#[.int .u8 1,.string ⟨#[]⟩,.int .i64 0,.slice none 0 0,.int .i64 0,.int .i64 0,.int .i64 0]
def jb(s:iX)(A:Option Addr)(c:Nat):Array Value:=
 match s with
 | .more=>uR
 | .fork t=>ms t A c
 | .join=>nQ
 | .done r=>nP r
def bl(w w':World)(b:Nat):Prop:=w.heap.size<=b/\b<w'.heap.size
def fy(w w':World)(F:Nat->Prop)(fb:Nat)(p:List ah)(x:Fr×Option iX)(e:Ending):Prop:=
 (∃L',aZ w' (λb=>F b\/bl w w' b) fb L' p x.1)/\aa F w w'/\
  match x.2 with
  |none=>e=.returned (.pointer none)
  |some s=>∃q A c,e=.returned (.pointer (some ⟨q,0,none⟩))/\w.heap.size<=q/\ae w' q 181 (jb s A c)/\(∀t,s=.fork t->aJ w' (bl w w') A t.args)
theorem fy.ptr{w w':World}{F:Nat->Prop}{fb:Nat}{p:List ah}{x:Fr×Option iX}{b:Ending}(a:fy w w' F fb p x b):(x.2=none/\b=.returned (.pointer none))\/∃s q A c,x.2=some s/\b=.returned (.pointer (some ⟨q,0,none⟩))/\ae w' q 181 (jb s A c):=by
 obtain⟨_,_,a⟩:=a
 cases hx:x.2 with
 |none=>rw[hx] at a;exact .inl ⟨rfl,a⟩
 |some s=>
  rw[hx] at a;obtain⟨q,A,c,d,g,e,_⟩:=a;exact .inr ⟨s,q,A,c,rfl,d,e⟩
theorem fy.back{g w w':World}{F F':Nat->Prop}{fb:Nat}{p:List ah}{x:Fr×Option iX}{d:Ending}(n:fy w w' F' fb p x d)(o:aa F g w)(l:∀b,F' b->F b\/bl g w b):fy g w' F fb p x d:=by
 obtain⟨⟨m,r⟩,j,e⟩:=n;have i:=o.size;have v:=j.size
 have u:∀b,F' b\/bl w w' b->F b\/bl g w' b:=λb a=>by
  rcases a with a|a
  ·exact(l b a).imp id λk=>⟨k.1,lL k.2 v⟩
  ·exact .inr ⟨lT i a.1,a.2⟩
 refine⟨⟨m,r.mo u⟩,o.trans' j (λb a=>(l b a).imp id λk=>k.1),?_⟩
 ·cases hx:x.2 with
  |none=>rw[hx] at e;exact e
  |some s=>
   rw[hx] at e;obtain⟨q,A,c,y,z,B,C⟩:=e;exact⟨q,A,c,y,lT i z,B,λt d=>(C t d).mo λb a=>⟨lT i a.1,a.2⟩⟩
theorem jJ.tell{w w':World}{F F':Nat->Prop}{fb:Nat}{L:iC}{p:List ah}{f:Fr}{x:aL}{a:Ending}(c:jJ w w' F' fb L p f x a)(k:∀b,F' b->F b\/bl w w' b)(l:F fb):fy w w' F fb p (f.ended x) a:=by
 obtain⟨q,v,d,e,g,i,j⟩:=c;exact⟨⟨_,i.mo k⟩,j.mono λb a=>by rw[a];exact l,q,none,0,d,e,g,λt a=>by cases a⟩
theorem aB{a k:Nat}{x:Int}(e:x=(k:Int)+1)(d:k<a):a-(intOf (.int .i64 x)).toNat<a-(intOf (.int .i64 (k:Int))).toNat:=by
 have b:(intOf (.int .i64 x))=x:=rfl;have c:(intOf (.int .i64 (k:Int)))=k:=rfl;rw[b,c];omega
theorem tX(c:cZ->Bool):∀(l:List cZ) (k:Nat),l.any c=false->fQ c l k= -1
 | [],k,_=>rfl
 |a :: l,k,b=>by
  rw[List.any_cons,Bool.or_eq_false_iff] at b;unfold fQ;rw[yb (by rw[b.1];simp)];exact tX c l (k+1) b.2
theorem Az{l:List cZ}(a:cD (eo l)=0):fQ (λk=>k.r.e !=0) l 0= -1:=by
 refine tX _ _ _ ?_;rw[mv] at a
 cases hf:l.find? (λk=>k.r.e !=0) with
 |none=>exact zI.2 λx b=>List.find?_eq_none.1 hf x b
 |some y=>
  rw[hf] at a;have:=List.find?_some hf;simp only at a;rw[a] at this;simp at this
theorem oV:∀(l:List (Int×aL)) (c:Int×aL) (regs:List Int),dC (l++ [c]) regs=jq (dC l regs) c.1 c.2.v
 | [],c,regs=>rfl
 |a :: l,c,regs=>by rw[Ye];unfold dC;exact oV l c _
theorem BP(l:List cZ)(k:Nat)(y:cZ)(a:l[k]?=some y)(regs:List Int):dC (eo (l.take (k+1))) regs=jq (dC (eo (l.take k)) regs) y.into y.r.v:=by
 have c:k<l.length:=(gS a).1
 have b:l.take (k+1)=l.take k++ [y]:=by
  rw[yO,a];rfl
 rw[b];unfold eo;rw[yS];exact oV _ (y.into,y.r) regs
section
variable {w w':World}{F F':Nat->Prop}{fb:Nat}{L:iC}{p:List ah}{f:Fr}
theorem AV(o:bK)(da:∀b,F b->b<w.heap.size)(a7:aZ w F fb L p f)(ch:f.os.any (λc=>!c.given)=false)(C:f.joined<f.kd.length)(ce:f.kd.length<=16)(c4:cD (eo f.os)=0)
 (dm:∀k∈f.kd,0<=k.into/\k.into<f.rg.length) (dp:o.k=14->0<=o.a/\o.a<f.rg.length) (ds:f.rg.length<=16):
 Calls Tryz.prog 139 #[.pointer (some ⟨fb,0,none⟩),cR o] w λe w'=>fy w w' F fb p (f.joins o) e:=by
 obtain⟨m,c5⟩:=eX ({f with waits:=none,joined:=f.kd.length,rg:=dC (eo f.os) f.rg}:Fr)
 have dd:f.joins o=if o.k=14 then m.ended ⟨ct m.rg o.a,0⟩ else(m,none):=by
  rw[c5];unfold Fr.joins;rw[yb (by rw[ch];simp),yb (by rw[c4];simp)]
 rw[dd]
 rcases a7.kv_form with⟨_,f1⟩|⟨kb,c,cd,fp,⟨b9,X⟩,_⟩
 ·rw[f1] at C
  exact absurd C (zZ _)
 obtain⟨t,aE⟩:=eX (w.alloc (.cells #[.int .u8 o.k,.int .i64 o.d,.int .i64 o.a,.int .i64 o.b,.int .i64 o.n] 106));have cn:ac w t:=by rw[aE];exact(aa.refl _ w).alloc _
 have bt:ae t w.heap.size 106 #[.int .u8 o.k,.int .i64 o.d,.int .i64 o.a,.int .i64 o.b,.int .i64 o.n]:=by rw[aE];exact bN
 have R:=a7.kp cn nG;obtain⟨g,c7⟩:=eX w.heap.size;rw[<-c7] at bt;have am:=R.J.I 10;have bx:=R.J.fz 10;simp[cY] at am;have Z:=R.J.I 8;have a0:=R.J.I 9;simp[cY,cd] at Z a0;have e8:=hD c4
 have ab:f.kd.length<=c:=by
  have:=a7.kd;rw[cd] at this
  rcases di this with⟨e,_⟩|⟨aw,bv,e,az,_⟩
  ·cases e
  ·injection e with _ _ e3
   rw[e3];exact az
 obtain⟨n,cg⟩:=eX f.kd.length;obtain⟨x,c9⟩:=eX f.joined;rw[<-cg] at Z ab C ce;rw[<-c9] at a0 C;obtain⟨fw,fx,g0,g1⟩:=nx C ab;have fn:¬c=x:=λe=>absurd (lL C ab) (by rw[e];exact yQ _)
 have a3:=hD a7;have a1:=hD R;have a2:=hD bt;have eg:=hD cn;have d2:=hD c7;have e9:=hD da;have a4:=hD cd;have l:=hD (aI cg (aI c9 (aI C (aI ab ce))));have el:=hD ch;have d1:=hD c5;have ee:=hD dm;have ej:=hD dp;have fl:=hD ds;have d3:=hD aE.symm;clear a7 R bt cn c7 da cg c9 C ce ab ch aE X c4 dd c5 dm dp ds;obtain⟨bq,c1⟩:=eX ((if o.k=14 then m.ended ⟨ct m.rg o.a,0⟩ else(m,none)));rw[<-c1];have d5:=hD c1;clear c1;unfold cR;go_enter Tryz.func139,Tryz.ntmps139;go_upto_region 1 with fail;rw[d3.O,<-d2.O];clear d3;go_wp2_with fail
 go_quiet (fail)
 obtain⟨bo,b0⟩:=eX ((t.setCell ⟨fb,10,none⟩ (.pointer (some ⟨g,0,none⟩))).drewN nq);rw[<-b0];have al:aa (λb=>b=fb) t bo:=by rw[b0];exact(af _ _ _ _).drewN nq
 have f2:w.heap.size<=g/\g<t.heap.size:=⟨zl d2.O.symm,a2.O.lt⟩
 have S:g≠fb:=λe=>ae.ne_ a2.O a1.O.J (by decide) e
 have cw:Hd (aZ bo (λb=>F b\/w.heap.size<=b/\b<t.heap.size) fb {L with wp:=.pointer (some ⟨g,0,none⟩)} p {f with waits:=some o}):=hD ((a1.O.mo λb j=>.inl j).td al (by rw[b0];exact(a1.O.J.s_ 10 _).drewN nq) rfl rfl rfl rfl rfl rfl ⟨g,.inr f2,rfl,al.J a2.O S⟩ a1.O.rp);have dk:=(cw.O.opens_at (kb:=kb) (c:=c) a4.O)
 have cf:f.os.length=n-x:=by rw[eO,l.O.1,l.O.2.1]
 have bc:=hD cf;have H:=kG (some ⟨kb,f.joined*4,none⟩) f.os (c-x) bo dk (by rw[eO];exact lT (Nat.sub_le _ _) (by rw[<-l.O.1];exact lT l.O.2.2.2.2 (by decide)));rw[cf,el.O,<-l.O.2.1] at H;have ei:=hD H;have d6:=hD al;have e5:=hD (al.J a2.O S);clear dk cf H al b0 am bx Z a0 S;go_wp2_with fail;refine ei.O.mono ?_;rintro e bp ⟨rfl,cp⟩;have bk:=hD cp;have u:=cw.O.kp cp nG;have Z:=u.J.I 8;have a0:=u.J.I 9;have am:=u.J.I 10;have f0:=u.J.fz 9;have bx:=u.J.fz 10;simp[cY,a4.O,<-l.O.1] at Z a0 am;have E:=hD u;clear cp u;go_wp2_with fail;obtain⟨P,b1⟩:=eX ((bp.setCell ⟨fb,10,none⟩ (.pointer none)).setCell ⟨fb,9,none⟩ (.int .i64 (n:Int)));rw[<-b1];have Y:aa (λb=>b=fb) bp P:=by rw[b1];exact aD (af _ _ _ _)
 have e1:Hd (aZ P (λb=>F b\/w.heap.size<=b/\b<t.heap.size) fb {L with wp:=.pointer none} p {f with waits:=none,joined:=f.kd.length}):=hD (E.O.td Y (by
  rw[b1,l.O.1];exact(E.O.J.s_ 10 _).s_ 9 _) rfl rfl rfl rfl rfl rfl rfl E.O.rp)
 have f4:∃b9,ae bp kb 260 b9:=by
  rcases E.O.kv_form with⟨e,_⟩|⟨f9,c',e,_,f6,_⟩
  ·have:=a4.O
   rw[show L.kv=.slice none 0 0 from e] at this
   cases this
  ·have az:=a4.O
   rw[show L.kv=.slice (some ⟨f9,0,none⟩) _ c' from e] at az;injection az with u;injection u with h4;injection h4 with h5;rw[<-h5];exact f6
 obtain⟨b9,X⟩:=f4;have cb:gR P (some ⟨kb,f.joined*4,none⟩) f.os:=(E.O.opens_at (kb:=kb) (c:=c) a4.O).keep_ Y (λe=>ae.ne_ X E.O.J (by decide) e);have dz:ae P kb 260 b9:=Y.J X (λe=>ae.ne_ X E.O.J (by decide) e);have S:g≠fb:=λe=>ae.ne_ a2.O a1.O.J (by decide) e
 have db:ae P g 106 #[.int .u8 o.k,.int .i64 o.d,.int .i64 o.a,.int .i64 o.b,.int .i64 o.n]:=Y.J (bk.O.J e5.O nF) S;have H:=lZ (some ⟨kb,f.joined*4,none⟩) f.os (c-x) P cb (by rw[eO];exact lT (Nat.sub_le _ _) (by rw[<-l.O.1];exact lT l.O.2.2.2.2 (by decide)));rw[bc.O,<-l.O.2.1,Az e8.O] at H;have ek:=hD H;have eb:=hD cb;have er:=hD dz;have e6:=hD db;have d7:=hD Y;clear H cb dz db Y X b1 Z a0 am f0 bx S;refine ek.O.mono ?_;rintro e ar ⟨rfl,K⟩;have ba:=hD (e1.O.kp K nG);have cB:=hD (K.J e6.O nF);have es:=hD (K.J er.O nF);have ec:=hD (eb.O.kp K);have bm:Hd (aa F w ar):=hD (((((eg.O.mono λ_ e=>e.elim).trans (d6.O.mono λb e=>by rw[e];exact a3.O.ff)).trans (bk.O.mono λ_ e=>e.elim)).trans (d7.O.mono λb e=>by rw[e];exact a3.O.ff)).trans (K.mono λ_ e=>e.elim));have bn:Hd (t.heap.size<=ar.heap.size):=hD (lT d6.O.size (lT bk.O.size (lT d7.O.size K.size)));clear K;go_wp2_with fail
 go_loopw [50] (λi wr=>∃k:Nat,k<=n-x/\i=.int .i64 k/\aa (λb=>b=L.rb) ar wr/\aZ wr (λb=>F b\/w.heap.size<=b/\b<t.heap.size) fb {L with wp:=.pointer none} p {f with waits:=none,joined:=f.kd.length,rg:=dC (eo (f.os.take k)) f.rg}) (λi _=>(n-x)-(intOf i).toNat)
 case atStart=>exact⟨0,yx _,rfl,oR,ba.O⟩
 case round=>
  obtain⟨k,fo,rfl,V,T⟩:=hrel
  by_cases G:k<n-x
  ·have fq:(0:Int)<=(k:Int):=dK k
   have f3:(k:Int)<((n-x:Nat):Int):=cO G;have dn:k<f.os.length:=by rw[bc.O];exact G
   have b6:f.os[k]?=some f.os[k]:=gG dn;obtain⟨b,fv,bz,ad⟩:=(ec.O.keep_ V (λe=>ae.ne_ es.O ba.O.rg (by decide) e)) k f.os[k] b6;generalize f.os[k] =y at*;injection bz with bz;injection bz with a6 e2;subst a6;subst e2;have cv:=ad 0 _ rfl;have fd:=ad 1 _ rfl;have fj:=ad 2 _ rfl;have fk:=ad 3 _ rfl;rw[yW] at cv;rw[<-l.O.2.1] at cv fd fj fk;have cm:=ee.O y (oP (yh b6));obtain⟨d,b4⟩ :∃d:Nat,y.into=(d:Int):=ym cm.1;have b5:d<f.rg.length:=by have:=cm.2;rw[b4] at this;exact yB.1 this
   obtain⟨rl,D⟩:=eX f.rg.length;have N:=T.J.I 5;simp[cY,fR,<-D] at N;rw[<-D] at b5;have f7:=dK d;have f8:=cO b5;obtain⟨B,b2⟩:=eX (wr.alloc (.cells #[.int .i64 (d:Int),.bool y.given,.int .i64 y.r.v,.int .i64 y.r.e] 260));have b8:ac wr B:=by rw[b2];exact(aa.refl _ wr).alloc _
   have av:ae B wr.heap.size 260 #[.int .i64 (d:Int),.bool y.given,.int .i64 y.r.v,.int .i64 y.r.e]:=by rw[b2];exact bN
   obtain⟨fm,c8⟩:=eX wr.heap.size;rw[<-c8] at av;have bb:=hD (T.kp b8 nG)
   have fa:B.cell? ⟨fb,5,none⟩=some (.slice (some ⟨L.rb,0,none⟩) rl L.rc):=by
    rw[<-N];exact b8.I (p:=⟨fb,5,none⟩) (block_lt_of_cell N) nF
   have d8:=av.I 0;have bv:=av.I 2;simp at d8 bv;have dv:(dC (eo (f.os.take k)) f.rg).length=rl:=by rw[fR,D]
   have b7:B.cell? ⟨L.rb,d,none⟩=some (.int .i64 ((dC (eo (f.os.take k)) f.rg).getD d 0)):=fg bb.O.rg (by rw[dv];exact b5);have dr:B.frozen? ⟨L.rb,d,none⟩=false:=bb.O.rg.fz d;have z:=hD V;have ef:=hD b6;have e7:=hD b4;have ex:=hD b8;have d4:=hD b2.symm;have ea:=hD c8;rw[b4] at cv;clear V b6 b4 b8 av T ad dn cm b5 D dv N b2 c8;go_upto_region 12 with fail;rw[d4.O,<-ea.O];clear d4
   go_still_tail 10,(by kernel_rfl)
   change wpList _ _ _ _ _ B.drew;obtain⟨a5,a9⟩:=eX B.drew;rw[<-a9];have fs:a5.cell? ⟨L.rb,d,none⟩=some (.int .i64 ((dC (eo (f.os.take k)) f.rg).getD d 0)):=by rw[a9];exact b7
   have ft:a5.frozen? ⟨L.rb,d,none⟩=false:=by rw[a9];exact dr
   have cq:ac B a5:=by rw[a9];exact oR.drew
   have e4:=hD ((bb.O.kp cq nG).reg_put d y.r.v)
   have dq:dC (eo (f.os.take (k+1))) f.rg=(dC (eo (f.os.take k)) f.rg).set d y.r.v:=by
    rw[BP _ _ _ ef.O,e7.O];unfold jq;rw[yo]
   have em:=hD dq;have eL:Hd (aa (λb=>b=L.rb) ar (a5.setCell ⟨L.rb,d,none⟩ (.int .i64 y.r.v))):=hD (aD (((z.O).trans (ex.O.mono λ_ e=>e.elim)).trans (cq.mono λ_ e=>e.elim)));clear a9 cq b7 dr dq fa d8 bv;go_wp2_with fail;have ck:wrap64 ((k:Int)+1)=(k:Int)+1:=kM (lL G (lT (Nat.sub_le _ _) l.O.2.2.2.2));go_roundw
   case rel=>exact⟨k+1,G,by first|exact cH ck|exact yl (Value.int .i64) (((aU _).trans ck).trans (jS k).symm),eL.O,by rw[em.O];exact e4.O⟩
   case measure=>exact aB ck G
  ·have f3:¬(k:Int)<((n-x:Nat):Int):=λe=>G (yB.1 e)
   have dl:f.os.take k=f.os:=by
    rw[List.take_of_length_le];rw[bc.O];exact yA G
   rw[dl,<-d1.O] at T;have an:=hD T;have z:=hD V;have br:ae wr g 106 #[.int .u8 o.k,.int .i64 o.d,.int .i64 o.a,.int .i64 o.b,.int .i64 o.n]:=V.J cB.O (λe=>ae.ne_ cB.O ba.O.rg (by decide) e);have cr:=br.I 0;have cs:=br.I 2;simp at cr cs;clear T V br dl
   by_cases a8:o.k=14
   ·have ai:bq=m.ended ⟨ct m.rg o.a,0⟩:=by rw[d5.O,yf a8]
    obtain⟨d9,aw⟩:=ej.O a8;obtain⟨Q,b3⟩ :∃Q:Nat,o.a=(Q:Int):=ym d9;obtain⟨rl,D⟩:=eX f.rg.length;have c6:m.rg.length=rl:=by rw[d1.O,D];exact fR _ _
    have c2:Q<rl:=by rw[b3,<-D] at aw;exact yB.1 aw
    have f7:=dK Q;have f8:=cO c2;have N:=an.O.J.I 5;simp[cY,c6] at N
    have b7:wr.cell? ⟨L.rb,Q,none⟩=some (.int .i64 (ct m.rg o.a)):=by
     have:=fg an.O.rg (i:=Q) (by rw[c6];exact c2);unfold ct;rw[b3,yo];exact this
    rw[a8] at cr;rw[b3] at cs;generalize ct m.rg o.a=e0 at*;have dw:w.heap.size<=wr.heap.size:=lT bm.O.size z.O.size
    have d0:Hd (∀W,ac wr W->Calls Tryz.prog 174 #[.pointer (some ⟨fb,0,none⟩),eV ⟨e0,0⟩] W λe w'=>fy w w' F fb p bq e):=hD λW c0=>by
     have ci:=c0.size;refine(mP ⟨e0,0⟩ (λb j=>?_) (an.O.kp c0 nG)).mono ?_
     ·rcases j with j|j
      ·exact lL (e9.O b j) (lT dw ci)
      ·exact lL j.2 (lT bn.O (lT z.O.size ci))
     ·intro e w' k
      rw[ai];refine(k.tell (F:=λb=>F b\/w.heap.size<=b/\b<t.heap.size) (λb j=>.inl j) (.inl a3.O.ff)).back ((bm.O.trans (z.O.mono λb e=>by rw[e];exact a3.O.fr)).trans (c0.mono λ_ e=>e.elim)) (λb j=>j.imp id λk=>⟨k.1,lL k.2 (lT bn.O (lT z.O.size ci))⟩)
    clear ai d9 aw b3 D c6 c2 dw a8;unfold eV at d0;go_wp2_with fail
    go_still_tail 10,(by kernel_rfl)
    change wpList _ _ _ _ _ wr.drew;have c3:=d0.O wr.drew oR.drew;generalize wr.drew=a5 at*;clear N cr cs b7;go_wp2_with fail;refine c3.mono ?_;intro e w' k
    rcases k.ptr with⟨_,a6⟩|⟨s,q,A,c',_,a6,_⟩
    ·subst a6
     have bf:=hD k;clear k c3;go_wp2_with fail;go_ret;exact bf.O
    ·subst a6
     have bf:=hD k;clear k c3;go_wp2_with fail;go_ret;exact bf.O
   ·have ai:bq=(m,none):=by rw[d5.O,yb a8]
    have eq:=hD ai;clear ai;go_wp2_with fail;go_ret;have f5:=lT bn.O z.O.size;rw[eq.O];exact⟨⟨_,an.O.mo λb j=>j.imp id λk=>⟨k.1,lL k.2 f5⟩⟩,bm.O.trans (z.O.mono λb e=>by rw[e];exact a3.O.fr),rfl⟩
end
theorem wY(n:Nat):(0:Int)<=(n:Int)/\(n:Int)<=(n:Int):=by omega
theorem Aj{n c:Nat}(a:n<=c):(n:Int)<=(c:Int):=by omega
section
variable {w w':World}{F F':Nat->Prop}{fb:Nat}{L:iC}{p:List ah}{f:Fr}
theorem AW(o:bK)(bt:∀b,F b->b<w.heap.size)(G:aZ w F fb L p f)(az:f.joined=f.kd.length)(ci:f.kd.length<=16)
 (bv:o.k=14->0<=o.a/\o.a<f.rg.length) (bx:f.rg.length<=16):
 Calls Tryz.prog 139 #[.pointer (some ⟨fb,0,none⟩),cR o] w λe w'=>fy w w' F fb p (f.joins o) e:=by
 have br:f.os= []:=by unfold Fr.os;rw[az];exact zq
 obtain⟨l,bp⟩:=eX ({f with waits:=none,joined:=f.kd.length}:Fr)
 have cp:f.joins o=if o.k=14 then l.ended ⟨ct l.rg o.a,0⟩ else(l,none):=by
  rw[bp];unfold Fr.joins;rw[br];rfl
 rw[cp];obtain⟨aw,bo⟩:=eX ((if o.k=14 then l.ended ⟨ct l.rg o.a,0⟩ else(l,none)));rw[<-bo];clear cp;obtain⟨m,bb⟩:=eX (w.alloc (.cells #[.int .u8 o.k,.int .i64 o.d,.int .i64 o.a,.int .i64 o.b,.int .i64 o.n] 106));have a0:ac w m:=by rw[bb];exact(aa.refl _ w).alloc _
 have bn:ae m w.heap.size 106 #[.int .u8 o.k,.int .i64 o.d,.int .i64 o.a,.int .i64 o.b,.int .i64 o.n]:=by rw[bb];exact bN
 obtain⟨g,bq⟩:=eX w.heap.size;rw[<-bq] at bn;obtain⟨n,av⟩:=eX f.kd.length
 rcases G.kv_form with⟨ar,cn⟩|⟨kb,c,ar,cq,⟨d6,cr⟩,_⟩
 ·have d1:n=0:=by rw[av,cn];rfl
  subst d1;have H:=(G.kp a0 nG).J.I 8;have K:=(G.kp a0 nG).J.I 9;simp[cY,ar,az,<-av] at H K;clear cn;have Q:=G.kp a0 nG;have E:=Q.J.I 10;have a7:=Q.J.fz 10;simp[cY] at E;have a3:=hD G;have v:=hD Q;have x:=hD bn;have c6:=hD a0;have b1:=hD bq;have c4:=hD bt;have c5:=hD ar;have an:=hD (aI av (aI az br));have b0:=hD bp;have b3:=hD bo;have c8:=hD bv;have ck:=hD bx;have b2:=hD bb.symm;have c7:Hd (∀A c W,Calls Tryz.prog 169 #[.slice A 0 c,.func (.func 170) #[] #[]] W λe w'=>e=.returned (.bool false)/\ac W w'):=hD λA c W=>kG A [] c W (jU A W) (yx _)
  have c9:Hd (∀A c W,Calls Tryz.prog 171 #[.slice A 0 c,.func (.func 172) #[] #[]] W λe w'=>e=.returned (.int .i64 (-1))/\ac W w'):=hD λA c W=>lZ A [] c W (jU A W) (yx _)
  clear G Q bn a0 bq bt av az bb bp bv bx bo ci br ar;unfold cR;go_enter Tryz.func139,Tryz.ntmps139;go_upto_region 1 with fail;rw[b2.O,<-b1.O];clear b2;go_wp2_with fail
  go_quiet (fail)
  obtain⟨b7,R⟩:=eX ((m.setCell ⟨fb,10,none⟩ (.pointer (some ⟨g,0,none⟩))).drewN nq);rw[<-R];have C:aa (λb=>b=fb) m b7:=by rw[R];exact(af _ _ _ _).drewN nq
  have cf:w.heap.size<=g/\g<m.heap.size:=⟨zl b1.O.symm,x.O.lt⟩
  have u:g≠fb:=λe=>ae.ne_ x.O v.O.J (by decide) e
  have bz:Hd (aZ b7 (λb=>F b\/w.heap.size<=b/\b<m.heap.size) fb {L with wp:=.pointer (some ⟨g,0,none⟩)} p {f with waits:=some o}):=hD ((v.O.mo λb j=>.inl j).td C (by rw[R];exact(v.O.J.s_ 10 _).drewN nq) rfl rfl rfl rfl rfl rfl ⟨g,.inr cf,rfl,C.J x.O u⟩ v.O.rp);have b4:=hD C;have c1:=hD (C.J x.O u);clear C R E a7 H K u;go_wp2_with fail;refine(c7.O _ _ _).mono ?_;rintro e b8 ⟨rfl,V⟩;have b5:=hD V;have r:=bz.O.kp V nG;have H:=r.J.I 8;have K:=r.J.I 9;have E:=r.J.I 10;have cd:=r.J.fz 9;have a7:=r.J.fz 10;simp[cY,c5.O] at H K E;have a2:=hD r;have c2:=hD (V.J c1.O nF);clear V r;go_wp2_with fail;obtain⟨b9,S⟩:=eX ((b8.setCell ⟨fb,10,none⟩ (.pointer none)).setCell ⟨fb,9,none⟩ (.int .i64 (0:Int)));rw[<-S];have X:aa (λb=>b=fb) b8 b9:=by rw[S];exact aD (af _ _ _ _)
  have c0:Hd (aZ b9 (λb=>F b\/w.heap.size<=b/\b<m.heap.size) fb {L with wp:=.pointer none} p l):=hD (by
   rw[b0.O]
   exact a2.O.td X (by
    have ce:(0:Int)=((f.kd.length:Nat):Int):=by first|(rw[<-an.O.1];done)|(rw[<-an.O.1];rfl)
    rw[S,ce];exact(a2.O.J.s_ 10 _).s_ 9 _) rfl rfl rfl rfl rfl rfl rfl a2.O.rp)
  have u:g≠fb:=λe=>ae.ne_ x.O v.O.J (by decide) e
  have c3:=hD (X.J c2.O u);have b6:=hD X;clear X S H K E cd a7 u;refine(c9.O _ _ _).mono ?_;rintro e am ⟨rfl,D⟩;have y:=hD (c0.O.kp D nG);have a5:=D.J c3.O nF;have Y:=a5.I 0;have Z:=a5.I 2;simp at Y Z;have N:Hd (aa F w am):=hD (((((c6.O.mono λ_ e=>e.elim).trans (b4.O.mono λb e=>by rw[e];exact a3.O.ff)).trans (b5.O.mono λ_ e=>e.elim)).trans (b6.O.mono λb e=>by rw[e];exact a3.O.ff)).trans (D.mono λ_ e=>e.elim));have P:Hd (m.heap.size<=am.heap.size):=hD (lT b4.O.size (lT b5.O.size (lT b6.O.size D.size)));clear D a5;go_wp2_with fail;have cw:=aU
  go_loopw [50] (λi wr=>i=.int .i64 0/\wr=am) (λi _=>0)
  case atStart=>exact⟨rfl,rfl⟩
  case round=>
   obtain⟨rfl,bf⟩:=hrel;rw[<-bf] at y N P Y Z;clear bf
   by_cases z:o.k=14
   ·have B:aw=l.ended ⟨ct l.rg o.a,0⟩:=by rw[b3.O,yf z]
    obtain⟨ba,a1⟩:=c8.O z;obtain⟨t,T⟩ :∃t:Nat,o.a=(t:Int):=ym ba;obtain⟨rl,ai⟩:=eX f.rg.length;have ad:l.rg.length=rl:=by rw[b0.O,ai]
    have a9:t<rl:=by rw[T,<-ai] at a1;exact yB.1 a1
    have cs:=dK t;have cv:=cO a9;have bm:=y.O.J.I 5;simp[cY,ad] at bm
    have cg:wr.cell? ⟨L.rb,t,none⟩=some (.int .i64 (ct l.rg o.a)):=by
     have:=fg y.O.rg (i:=t) (by rw[ad];exact a9);unfold ct;rw[T,yo];exact this
    rw[z] at Y;rw[T] at Z;generalize ct l.rg o.a=bk at*;have bc:w.heap.size<=wr.heap.size:=N.O.size
    have aE:Hd (∀W,ac wr W->Calls Tryz.prog 174 #[.pointer (some ⟨fb,0,none⟩),eV ⟨bk,0⟩] W λe w'=>fy w w' F fb p aw e):=hD λW a8=>by
     have al:=a8.size;refine(mP ⟨bk,0⟩ (λb j=>?_) (y.O.kp a8 nG)).mono ?_
     ·rcases j with j|j
      ·exact lL (c4.O b j) (lT bc al)
      ·exact lL j.2 (lT P.O al)
     ·intro e w' k
      rw[B];refine(k.tell (F:=λb=>F b\/w.heap.size<=b/\b<m.heap.size) (λb j=>.inl j) (.inl a3.O.ff)).back (N.O.trans (a8.mono λ_ e=>e.elim)) (λb j=>j.imp id λk=>⟨k.1,lL k.2 (lT P.O al)⟩)
    clear B ba a1 T ai ad a9 bc z;unfold eV at aE;go_wp2_with fail
    go_still_tail 10,(by kernel_rfl)
    change wpList _ _ _ _ _ wr.drew;have ab:=aE.O wr.drew oR.drew;generalize wr.drew=cm at*;clear bm Y Z cg;go_wp2_with fail;refine ab.mono ?_;intro e w' k
    rcases k.ptr with⟨_,a6⟩|⟨s,q,A,c',_,a6,_⟩
    ·subst a6
     have a4:=hD k;clear k ab;go_wp2_with fail;go_ret;exact a4.O
    ·subst a6
     have a4:=hD k;clear k ab;go_wp2_with fail;go_ret;exact a4.O
   ·have B:aw=(l,none):=by rw[b3.O,yb z]
    have cb:=hD B;clear B;go_wp2_with fail;go_ret;rw[cb.O];exact⟨⟨_,y.O.mo λb j=>j.imp id λk=>⟨k.1,lL k.2 P.O⟩⟩,N.O,rfl⟩
 ·have ch:f.kd.length<=c:=by
   have:=G.kd;rw[ar] at this
   rcases di this with⟨e,_⟩|⟨a1,d2,e,cB,_⟩
   ·cases e
   ·injection e with _ _ e3
    rw[e3];exact cB
  rw[<-av] at ch;have H:=(G.kp a0 nG).J.I 8;have K:=(G.kp a0 nG).J.I 9;simp[cY,ar,az,<-av] at H K;obtain⟨d3,d4⟩:=wY n;have d5:=Aj ch
  by_cases d0:c=n
  ·subst d0
   clear ch cr cq;have Q:=G.kp a0 nG;have E:=Q.J.I 10;have a7:=Q.J.fz 10;simp[cY] at E;have a3:=hD G;have v:=hD Q;have x:=hD bn;have c6:=hD a0;have b1:=hD bq;have c4:=hD bt;have c5:=hD ar;have an:=hD (aI av (aI az br));have b0:=hD bp;have b3:=hD bo;have c8:=hD bv;have ck:=hD bx;have b2:=hD bb.symm;have c7:Hd (∀A c W,Calls Tryz.prog 169 #[.slice A 0 c,.func (.func 170) #[] #[]] W λe w'=>e=.returned (.bool false)/\ac W w'):=hD λA c W=>kG A [] c W (jU A W) (yx _)
   have c9:Hd (∀A c W,Calls Tryz.prog 171 #[.slice A 0 c,.func (.func 172) #[] #[]] W λe w'=>e=.returned (.int .i64 (-1))/\ac W w'):=hD λA c W=>lZ A [] c W (jU A W) (yx _)
   clear G Q bn a0 bq bt av az bb bp bv bx bo ci br ar;unfold cR;go_enter Tryz.func139,Tryz.ntmps139;go_upto_region 1 with fail;rw[b2.O,<-b1.O];clear b2;go_wp2_with fail
   go_quiet (fail)
   obtain⟨b7,R⟩:=eX ((m.setCell ⟨fb,10,none⟩ (.pointer (some ⟨g,0,none⟩))).drewN nq);rw[<-R];have C:aa (λb=>b=fb) m b7:=by rw[R];exact(af _ _ _ _).drewN nq
   have cf:w.heap.size<=g/\g<m.heap.size:=⟨zl b1.O.symm,x.O.lt⟩
   have u:g≠fb:=λe=>ae.ne_ x.O v.O.J (by decide) e
   have bz:Hd (aZ b7 (λb=>F b\/w.heap.size<=b/\b<m.heap.size) fb {L with wp:=.pointer (some ⟨g,0,none⟩)} p {f with waits:=some o}):=hD ((v.O.mo λb j=>.inl j).td C (by rw[R];exact(v.O.J.s_ 10 _).drewN nq) rfl rfl rfl rfl rfl rfl ⟨g,.inr cf,rfl,C.J x.O u⟩ v.O.rp);have b4:=hD C;have c1:=hD (C.J x.O u);clear C R E a7 H K u;go_wp2_with fail;refine(c7.O _ _ _).mono ?_;rintro e b8 ⟨rfl,V⟩;have b5:=hD V;have r:=bz.O.kp V nG;have H:=r.J.I 8;have K:=r.J.I 9;have E:=r.J.I 10;have cd:=r.J.fz 9;have a7:=r.J.fz 10;simp[cY,c5.O,<-an.O.1] at H K E;have a2:=hD r;have c2:=hD (V.J c1.O nF);clear V r;go_wp2_with fail;obtain⟨b9,S⟩:=eX ((b8.setCell ⟨fb,10,none⟩ (.pointer none)).setCell ⟨fb,9,none⟩ (.int .i64 (c:Int)));rw[<-S];have X:aa (λb=>b=fb) b8 b9:=by rw[S];exact aD (af _ _ _ _)
   have c0:Hd (aZ b9 (λb=>F b\/w.heap.size<=b/\b<m.heap.size) fb {L with wp:=.pointer none} p l):=hD (by
    rw[b0.O]
    exact a2.O.td X (by
     have ce:(c:Int)=((f.kd.length:Nat):Int):=by first|(rw[<-an.O.1];done)|(rw[<-an.O.1];rfl)
     rw[S,ce];exact(a2.O.J.s_ 10 _).s_ 9 _) rfl rfl rfl rfl rfl rfl rfl a2.O.rp)
   have u:g≠fb:=λe=>ae.ne_ x.O v.O.J (by decide) e
   have c3:=hD (X.J c2.O u);have b6:=hD X;clear X S H K E cd a7 u;refine(c9.O _ _ _).mono ?_;rintro e am ⟨rfl,D⟩;have y:=hD (c0.O.kp D nG);have a5:=D.J c3.O nF;have Y:=a5.I 0;have Z:=a5.I 2;simp at Y Z;have N:Hd (aa F w am):=hD (((((c6.O.mono λ_ e=>e.elim).trans (b4.O.mono λb e=>by rw[e];exact a3.O.ff)).trans (b5.O.mono λ_ e=>e.elim)).trans (b6.O.mono λb e=>by rw[e];exact a3.O.ff)).trans (D.mono λ_ e=>e.elim));have P:Hd (m.heap.size<=am.heap.size):=hD (lT b4.O.size (lT b5.O.size (lT b6.O.size D.size)));clear D a5;go_wp2_with fail;have cw:=aU
   go_loopw [50] (λi wr=>i=.int .i64 0/\wr=am) (λi _=>0)
   case atStart=>exact⟨rfl,rfl⟩
   case round=>
    obtain⟨rfl,bf⟩:=hrel;rw[<-bf] at y N P Y Z;clear bf
    by_cases z:o.k=14
    ·have B:aw=l.ended ⟨ct l.rg o.a,0⟩:=by rw[b3.O,yf z]
     obtain⟨ba,a1⟩:=c8.O z;obtain⟨t,T⟩ :∃t:Nat,o.a=(t:Int):=ym ba;obtain⟨rl,ai⟩:=eX f.rg.length;have ad:l.rg.length=rl:=by rw[b0.O,ai]
     have a9:t<rl:=by rw[T,<-ai] at a1;exact yB.1 a1
     have cs:=dK t;have cv:=cO a9;have bm:=y.O.J.I 5;simp[cY,ad] at bm
     have cg:wr.cell? ⟨L.rb,t,none⟩=some (.int .i64 (ct l.rg o.a)):=by
      have:=fg y.O.rg (i:=t) (by rw[ad];exact a9);unfold ct;rw[T,yo];exact this
     rw[z] at Y;rw[T] at Z;generalize ct l.rg o.a=bk at*;have bc:w.heap.size<=wr.heap.size:=N.O.size
     have aE:Hd (∀W,ac wr W->Calls Tryz.prog 174 #[.pointer (some ⟨fb,0,none⟩),eV ⟨bk,0⟩] W λe w'=>fy w w' F fb p aw e):=hD λW a8=>by
      have al:=a8.size;refine(mP ⟨bk,0⟩ (λb j=>?_) (y.O.kp a8 nG)).mono ?_
      ·rcases j with j|j
       ·exact lL (c4.O b j) (lT bc al)
       ·exact lL j.2 (lT P.O al)
      ·intro e w' k
       rw[B];refine(k.tell (F:=λb=>F b\/w.heap.size<=b/\b<m.heap.size) (λb j=>.inl j) (.inl a3.O.ff)).back (N.O.trans (a8.mono λ_ e=>e.elim)) (λb j=>j.imp id λk=>⟨k.1,lL k.2 (lT P.O al)⟩)
     clear B ba a1 T ai ad a9 bc z;unfold eV at aE;go_wp2_with fail
     go_still_tail 10,(by kernel_rfl)
     change wpList _ _ _ _ _ wr.drew;have ab:=aE.O wr.drew oR.drew;generalize wr.drew=cm at*;clear bm Y Z cg;go_wp2_with fail;refine ab.mono ?_;intro e w' k
     rcases k.ptr with⟨_,a6⟩|⟨s,q,A,c',_,a6,_⟩
     ·subst a6
      have a4:=hD k;clear k ab;go_wp2_with fail;go_ret;exact a4.O
     ·subst a6
      have a4:=hD k;clear k ab;go_wp2_with fail;go_ret;exact a4.O
    ·have B:aw=(l,none):=by rw[b3.O,yb z]
     have cb:=hD B;clear B;go_wp2_with fail;go_ret;rw[cb.O];exact⟨⟨_,y.O.mo λb j=>j.imp id λk=>⟨k.1,lL k.2 P.O⟩⟩,N.O,rfl⟩
  ·clear ch cr cq
   have Q:=G.kp a0 nG;have E:=Q.J.I 10;have a7:=Q.J.fz 10;simp[cY] at E;have a3:=hD G;have v:=hD Q;have x:=hD bn;have c6:=hD a0;have b1:=hD bq;have c4:=hD bt;have c5:=hD ar;have an:=hD (aI av (aI az br));have b0:=hD bp;have b3:=hD bo;have c8:=hD bv;have ck:=hD bx;have b2:=hD bb.symm;have c7:Hd (∀A c W,Calls Tryz.prog 169 #[.slice A 0 c,.func (.func 170) #[] #[]] W λe w'=>e=.returned (.bool false)/\ac W w'):=hD λA c W=>kG A [] c W (jU A W) (yx _)
   have c9:Hd (∀A c W,Calls Tryz.prog 171 #[.slice A 0 c,.func (.func 172) #[] #[]] W λe w'=>e=.returned (.int .i64 (-1))/\ac W w'):=hD λA c W=>lZ A [] c W (jU A W) (yx _)
   clear G Q bn a0 bq bt av az bb bp bv bx bo ci br ar;unfold cR;go_enter Tryz.func139,Tryz.ntmps139;go_upto_region 1 with fail;rw[b2.O,<-b1.O];clear b2;go_wp2_with fail
   go_quiet (fail)
   obtain⟨b7,R⟩:=eX ((m.setCell ⟨fb,10,none⟩ (.pointer (some ⟨g,0,none⟩))).drewN nq);rw[<-R];have C:aa (λb=>b=fb) m b7:=by rw[R];exact(af _ _ _ _).drewN nq
   have cf:w.heap.size<=g/\g<m.heap.size:=⟨zl b1.O.symm,x.O.lt⟩
   have u:g≠fb:=λe=>ae.ne_ x.O v.O.J (by decide) e
   have bz:Hd (aZ b7 (λb=>F b\/w.heap.size<=b/\b<m.heap.size) fb {L with wp:=.pointer (some ⟨g,0,none⟩)} p {f with waits:=some o}):=hD ((v.O.mo λb j=>.inl j).td C (by rw[R];exact(v.O.J.s_ 10 _).drewN nq) rfl rfl rfl rfl rfl rfl ⟨g,.inr cf,rfl,C.J x.O u⟩ v.O.rp);have b4:=hD C;have c1:=hD (C.J x.O u);clear C R E a7 H K u;go_wp2_with fail;refine(c7.O _ _ _).mono ?_;rintro e b8 ⟨rfl,V⟩;have b5:=hD V;have r:=bz.O.kp V nG;have H:=r.J.I 8;have K:=r.J.I 9;have E:=r.J.I 10;have cd:=r.J.fz 9;have a7:=r.J.fz 10;simp[cY,c5.O,<-an.O.1] at H K E;have a2:=hD r;have c2:=hD (V.J c1.O nF);clear V r;go_wp2_with fail;obtain⟨b9,S⟩:=eX ((b8.setCell ⟨fb,10,none⟩ (.pointer none)).setCell ⟨fb,9,none⟩ (.int .i64 (n:Int)));rw[<-S];have X:aa (λb=>b=fb) b8 b9:=by rw[S];exact aD (af _ _ _ _)
   have c0:Hd (aZ b9 (λb=>F b\/w.heap.size<=b/\b<m.heap.size) fb {L with wp:=.pointer none} p l):=hD (by
    rw[b0.O]
    exact a2.O.td X (by
     have ce:(n:Int)=((f.kd.length:Nat):Int):=by first|(rw[<-an.O.1];done)|(rw[<-an.O.1];rfl)
     rw[S,ce];exact(a2.O.J.s_ 10 _).s_ 9 _) rfl rfl rfl rfl rfl rfl rfl a2.O.rp)
   have u:g≠fb:=λe=>ae.ne_ x.O v.O.J (by decide) e
   have c3:=hD (X.J c2.O u);have b6:=hD X;clear X S H K E cd a7 u;refine(c9.O _ _ _).mono ?_;rintro e am ⟨rfl,D⟩;have y:=hD (c0.O.kp D nG);have a5:=D.J c3.O nF;have Y:=a5.I 0;have Z:=a5.I 2;simp at Y Z;have N:Hd (aa F w am):=hD (((((c6.O.mono λ_ e=>e.elim).trans (b4.O.mono λb e=>by rw[e];exact a3.O.ff)).trans (b5.O.mono λ_ e=>e.elim)).trans (b6.O.mono λb e=>by rw[e];exact a3.O.ff)).trans (D.mono λ_ e=>e.elim));have P:Hd (m.heap.size<=am.heap.size):=hD (lT b4.O.size (lT b5.O.size (lT b6.O.size D.size)));clear D a5;go_wp2_with fail;have cw:=aU
   go_loopw [50] (λi wr=>i=.int .i64 0/\wr=am) (λi _=>0)
   case atStart=>exact⟨rfl,rfl⟩
   case round=>
    obtain⟨rfl,bf⟩:=hrel;rw[<-bf] at y N P Y Z;clear bf
    by_cases z:o.k=14
    ·have B:aw=l.ended ⟨ct l.rg o.a,0⟩:=by rw[b3.O,yf z]
     obtain⟨ba,a1⟩:=c8.O z;obtain⟨t,T⟩ :∃t:Nat,o.a=(t:Int):=ym ba;obtain⟨rl,ai⟩:=eX f.rg.length;have ad:l.rg.length=rl:=by rw[b0.O,ai]
     have a9:t<rl:=by rw[T,<-ai] at a1;exact yB.1 a1
     have cs:=dK t;have cv:=cO a9;have bm:=y.O.J.I 5;simp[cY,ad] at bm
     have cg:wr.cell? ⟨L.rb,t,none⟩=some (.int .i64 (ct l.rg o.a)):=by
      have:=fg y.O.rg (i:=t) (by rw[ad];exact a9);unfold ct;rw[T,yo];exact this
     rw[z] at Y;rw[T] at Z;generalize ct l.rg o.a=bk at*;have bc:w.heap.size<=wr.heap.size:=N.O.size
     have aE:Hd (∀W,ac wr W->Calls Tryz.prog 174 #[.pointer (some ⟨fb,0,none⟩),eV ⟨bk,0⟩] W λe w'=>fy w w' F fb p aw e):=hD λW a8=>by
      have al:=a8.size;refine(mP ⟨bk,0⟩ (λb j=>?_) (y.O.kp a8 nG)).mono ?_
      ·rcases j with j|j
       ·exact lL (c4.O b j) (lT bc al)
       ·exact lL j.2 (lT P.O al)
      ·intro e w' k
       rw[B];refine(k.tell (F:=λb=>F b\/w.heap.size<=b/\b<m.heap.size) (λb j=>.inl j) (.inl a3.O.ff)).back (N.O.trans (a8.mono λ_ e=>e.elim)) (λb j=>j.imp id λk=>⟨k.1,lL k.2 (lT P.O al)⟩)
     clear B ba a1 T ai ad a9 bc z;unfold eV at aE;go_wp2_with fail
     go_still_tail 10,(by kernel_rfl)
     change wpList _ _ _ _ _ wr.drew;have ab:=aE.O wr.drew oR.drew;generalize wr.drew=cm at*;clear bm Y Z cg;go_wp2_with fail;refine ab.mono ?_;intro e w' k
     rcases k.ptr with⟨_,a6⟩|⟨s,q,A,c',_,a6,_⟩
     ·subst a6
      have a4:=hD k;clear k ab;go_wp2_with fail;go_ret;exact a4.O
     ·subst a6
      have a4:=hD k;clear k ab;go_wp2_with fail;go_ret;exact a4.O
    ·have B:aw=(l,none):=by rw[b3.O,yb z]
     have cb:=hD B;clear B;go_wp2_with fail;go_ret;rw[cb.O];exact⟨⟨_,y.O.mo λb j=>j.imp id λk=>⟨k.1,lL k.2 P.O⟩⟩,N.O,rfl⟩
end
section
variable {w w':World}{F F':Nat->Prop}{fb:Nat}{L:iC}{p:List ah}{f:Fr}
theorem tZ(o:bK)(j:∀b,F b->b<w.heap.size)(g:aZ w F fb L p f)(E:f.joined<=f.kd.length)(l:f.kd.length<=16)
 (C:∀k∈f.kd,0<=k.into/\k.into<f.rg.length) (r:o.k=14->0<=o.a/\o.a<f.rg.length) (u:f.rg.length<=16):
 Calls Tryz.prog 139 #[.pointer (some ⟨fb,0,none⟩),cR o] w λd w'=>fy w w' F fb p (f.joins o) d:=by
 by_cases e:f.os.any (λc=>!c.given)=true
 ·have m:f.joined<f.kd.length:=by
   have i:f.os≠[]:=λd=>by rw[d] at e;cases e
   have:=zK.2 i;rw[eO] at this;omega
  have d:f.joins o=({f with waits:=some o},some .join):=by unfold Fr.joins;rw[yf e]
  rw[d];refine(AX o j g e m l).mono ?_;rintro d w' ⟨q,v,i,x,y,z,A⟩;exact⟨⟨_,z⟩,A,q,none,0,i,x,y,λt d=>by cases d⟩
 ·have s:f.os.any (λc=>!c.given)=false:=by simpa using e
  by_cases m:f.joined<f.kd.length
  ·by_cases n:cD (eo f.os)=0
   ·exact AV o j g s m l n C r u
   ·have d:f.joins o=Fr.ended {f with waits:=none,joined:=f.kd.length} ⟨0,cD (eo f.os)⟩:=by unfold Fr.joins;rw[yb e,yf n]
    rw[d];refine(CZ o j g s m l n).mono ?_;rintro d w' ⟨D,i⟩;exact i.tell (λb B=>B) g.ff
  ·exact AW o j g (by omega) l r u
theorem AG(o:bK)(l:∀b,F b->b<w.heap.size)(e:aZ w F fb L p f)(Q:f.kd.length<=16)(i:fU f.M)(H:gH p)(g:0<=o.n/\o.n<p.length)(E:0<=o.a)(K:(bG p o.n).args=0\/o.a+(bG p o.n).args<=f.rg.length)
 (S:f.rg.length<=16) (R:f.left<=65536):
 Calls Tryz.prog 176 #[.pointer (some ⟨fb,0,none⟩),cR o] w λd w'=>fy w w' F fb p (f.forks p o) d:=by
 unfold Fr.forks
 by_cases s:16<=f.kd.length
 ·rw[yf s]
  exact(AE o l e (by omega) i).mono λd w' k=>k.tell (λb m=>.inl m) e.ff
 ·rw[yb s]
  by_cases r:12<=f.M.length
  ·rw[yf r]
   exact(AD o l e (by omega) i (by have:=i.1;omega)).mono λd w' k=>k.tell (λb m=>.inl m) e.ff
  ·rw[yb r]
   obtain⟨fn,v⟩ :∃fn:Nat,o.n=(fn:Int):=ym g.1;obtain⟨j,u⟩ :∃j:Nat,o.a=(j:Int):=ym E;have N:=(gy g.1 g.2).2;have G:=H.fn g.1 g.2;have P:p[fn]?=some (bG p o.n):=by rw[<-N,v,yo]
   refine(CH o fn j (bG p o.n) l e (by omega) (by omega) i v P u G.a0 (by rw[<-u];exact K) (by omega) (by omega)).mono ?_;rintro d w' ⟨q,A,c,kv,x,y,z,B,C,D⟩;refine⟨⟨_,C⟩,D,q,A,c,x,y,z,λt d=>?_⟩
   cases d
   exact B
end
end
end Go.Proofs.YtmdocplknceilaaGreat
