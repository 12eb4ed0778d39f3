import Derived.Test.YtmdocplknceilaaGreatSWAS
import Derived.Test.YtmdocplknceilaaGreatSWAC
set_option linter.all false
set_option maxRecDepth 100000
set_option maxHeartbeats 1000000
namespace Go.Proofs.YtmdocplknceilaaGreat
section
open Go.RowKit Go.Maps
theorem DJ(l:Nat):((l:Int).tdiv 2)=((l / 2:Nat):Int):=by
 rw[Int.tdiv_eq_ediv_of_nonneg (by omega)];omega
theorem BP{l:Nat}(a:l<=1000000):wrap64 (l:Int)=(l:Int):=by unfold wrap64;omega
theorem Ck{l:Nat}(a:l<=1000000):l / 2<=1000000:=by omega
theorem dN(n:Nat):(0:Int)<=(n:Int):=by omega
theorem cN{n a:Nat}(b:n<a):(n:Int)<(a:Int):=by omega
theorem Dp{a:Nat}(b:¬a=0):(0:Int)<(a:Int):=by omega
theorem tv{a b l c:Nat}(e:a+b<=l)(i:l<=1000)(g:l<=c):wrap64 ((a:Int)+(b:Int))=((a+b:Nat):Int)/\IntKind.i64.wrap ((a:Int)+(b:Int))=((a+b:Nat):Int)/\(0:Int)<=(a:Int)/\(a:Int)<=((a+b:Nat):Int)/\((a+b:Nat):Int)<=(c:Int)/\(0:Int)<=((a+b:Nat):Int):=by
 have d:wrap64 ((a:Int)+(b:Int))=((a+b:Nat):Int):=by unfold wrap64;omega
 exact⟨d,(cQ _).trans d,by omega,by omega,by omega,by omega⟩
theorem Db{a b l:Nat}(c:a+b<=l)(d:l<=1000):b<=100000:=by omega
theorem sR{l:List Int}{a b k:Nat}(c:k<((l.drop a).take b).length):k<b/\a+k<l.length:=by
 rw[ze,zF] at c;omega
theorem qU{l:List Int}{a b:Nat}{x:Int}(d:x=(b:Int))(c:x=0\/(a:Int)+x<=l.length):((l.drop a).take b).length=b:=by
 rw[ze,zF];omega
theorem xL{a b l:Nat}{x:Int}(d:¬b=0)(e:x=(b:Int))(c:x=0\/(a:Int)+x<=(l:Int)):a+b<=l:=by omega
theorem qV{l:List Int}{a b:Nat}(c:a+b<=l.length):((l.drop a).take b).length=b:=by
 rw[ze,zF];omega
theorem B3{n:Nat}(a:n<16):¬(16:Int)<=(n:Int):=by omega
theorem kt(n:Nat):((n+1:Nat):Int)=(n:Int)+1:=by omega
theorem cK(k:Nat):Value.int .i64 ((k:Int)+1)=.int .i64 ((k+1:Nat):Int):=yl (Value.int .i64) (kt k).symm
theorem cH{a:Int}{k:Nat}(b:a=(k:Int)+1):Value.int .i64 a=.int .i64 ((k+1:Nat):Int):=yl (Value.int .i64) (b.trans (kt k).symm)
theorem nC{n:Nat}(a:n<16):wrap64 ((n:Int)+1)=(n:Int)+1:=by unfold wrap64;omega
theorem pF{l a b:Nat}(d:l<=1000000)(e:a=l)(g:b=a / 2):wrap64 ((a:Int)-(b:Int))=((a-b:Nat):Int)/\IntKind.i64.wrap ((a:Int)-(b:Int))=((a-b:Nat):Int):=by
 have c:wrap64 ((a:Int)-(b:Int))=((a-b:Nat):Int):=by unfold wrap64;omega
 exact⟨c,(cQ _).trans c⟩
theorem Dc{g s b t:Nat}(c:g<s)(d:s<=b/\b<t)(a:b=g):False:=by omega
section
variable {w w':World}{F F':Nat->Prop}{fb:Nat}{L:gl}{p:List aj}{f:Fr}
theorem Au(o:bQ)(fn l:Nat)(x:aj)(f8:∀b,F b->b<w.heap.size)(c7:aT w F fb L p f)(a5:f.kd.length<16)(b4:f.M.length<12)(dv:gK f.M)(dk:o.n=fn)(e1:p[fn]?=some x)(d6:o.a=l)
 (e2:0<=x.args) (a0:x.args=0\/(l:Int)+x.args<=f.rg.length) (ar:f.rg.length<=1000) (b3:f.left<=1000000):
 Calls Tryz.prog 176 #[.pointer (some ⟨fb,0,none⟩),eS o] w λe w'=>∃q A c kv,e=.returned (.pointer (some ⟨q,0,none⟩))/\w.heap.size<=q/\ae w' q 181 (kQ (dK p f.M f.kd.length o f.rg f.left) A c)/\aU w' (λb=>w.heap.size<=b/\b<w'.heap.size) A (dK p f.M f.kd.length o f.rg f.left).args/\
  aT w' (λb=>F b\/w.heap.size<=b/\b<w'.heap.size) fb {L with kv:=kv} p {f with left:=f.left-f.left / 2,kd:=f.kd++ [⟨o.d,false,⟨0,0⟩⟩]}/\aa F w w':=by
 obtain⟨a9,cb⟩:=eX (w.alloc (.cells #[.int .u8 o.k,.int .i64 o.d,.int .i64 (l:Int),.int .i64 o.b,.int .i64 (fn:Int)] 106));have e6:ac w a9:=by rw[cb];exact(aa.refl _ w).alloc _
 have cr:ae a9 w.heap.size 106 #[.int .u8 o.k,.int .i64 o.d,.int .i64 (l:Int),.int .i64 o.b,.int .i64 (fn:Int)]:=by rw[cb];exact bN
 have C:=c7.kp e6 nG;obtain⟨A,c,dp⟩:=c7.kv_any;obtain⟨g,dl⟩:=eX w.heap.size;rw[<-dl] at cr;obtain⟨n,bv⟩:=eX f.kd.length;rw[<-bv] at a5;obtain⟨kp,dn⟩:=eX (sB (f.M++ [UInt8.ofNat (n+1)]))
 have gc:Hd (∀W,Calls Tryz.prog 90 #[.string (sB f.M),.int .i64 ((n:Int)+1)] W λe w'=>e=.returned (.tuple #[.string kp,.bool true])/\ac W w'):=hD λW=>by
  have:=n5 f.M dv (n+1) (Yh 1 n) a5 W;have e:=kt n;rw[e] at this;unfold pY at this;rw[yb (Yl b4),<-dn] at this;exact this
 have h3:=nC a5;have hl:=(cQ _).trans h3;have h2:=B3 a5;have hj:decide ((16:Int)<=(n:Int))=false:=yd h2
 have br:Hd (∀W,ac a9 W->ac a9 W/\W.cell? ⟨fb,1,none⟩=some (.string (sB f.M))/\W.cell? ⟨fb,8,none⟩=some (.slice A n c)):=hD λW b2=>by
  have q:=(C.kp b2 nG).J;refine⟨b2,q.I 1,?_⟩;rw[q.I 8];simp[cC,dp,bv]
 have ex:=hD dn;obtain⟨i,ce⟩ :∃i:Nat,x.args=(i:Int):=ym e2;have eg:=hD ce;have g1:=hD C;have g5:=hD cr;have bc:=hD e6;have gb:=hD dl;have z:=hD dp;have f1:=hD e1;have hh:=hD f8;have a3:=hD c7
 have bk:Hd (dK p f.M f.kd.length o f.rg f.left=⟨f.M++ [UInt8.ofNat (n+1)],(fn:Int),(f.rg.drop l).take i,f.left / 2⟩):=hD (by
  have h1:bY p (fn:Int)=x:=by unfold bY;rw[yo,yc,e1];rfl
  unfold dK;rw[dk,d6,h1,ce,bv];rfl)
 have cp:Hd (((f.rg.drop l).take i).length=i):=hD (qU ce a0);have f0:=hD cb.symm;have es:=hD (aI a5 (aI b4 dv));have b7:=hD (aI e2 (aI a0 (aI ar b3)));unfold eS;rw[dk,d6];have ba:=hD bv;clear c7 C cr e6 dl dp cb f8 a5 b4 dv dk d6 e2 a0 ar b3 e1 bv dn ce;go_enter Tryz.func176,Tryz.ntmps176;go_upto_region 1 with fail;rw[f0.O,<-gb.O];clear f0;have d3:=br.O a9 oR
 go_region_held3 (λw'=>ac a9 w'/\w'.cell? ⟨fb,1,none⟩=some (.string (sB f.M))/\w'.cell? ⟨fb,8,none⟩=some (.slice A n c))
  (first|exact br.O _ (yt ‹_›)|exact br.O _ (aa.drew (yt ‹_›))|exact br.O _ (aa.trans (aa.drew (yt ‹_›)) a1)|exact br.O _ (aa.trans (yt ‹_›) a1)|fail)
  (first|(go_at_call 90;refine(gc.O _).mono ?_;rintro e a4 ⟨rfl,a1⟩)|fail)
 have bm:Hd (ac a9 a4):=hD (yt ‹_›);clear d3 a1;have d1:=g1.O.kp bm.O nG;have g0:=d1.J.I 8;simp[cC,z.O,<-ba.O] at g0;have ef:=hD d1;have fa:=bm.O.J g5.O nF;have ei:=hD fa;clear d1 fa;go_wp2_with fail;clear g0;have dw:=DJ f.left;have ch:=BP (Ck b7.O.2.2.2);have dz:=(cQ _).trans ch
 have al:Hd (∀W,ac a4 W->ac a4 W/\W.cell? ⟨g,4,none⟩=some (.int .i64 (fn:Int))/\W.cell? ⟨fb,6,none⟩=some (.int .i64 (f.left:Int))):=hD λW b2=>
  ⟨b2,(b2.J ei.O nF).I 4,(ef.O.kp b2 nG).J.I 6⟩
 obtain⟨G,b3⟩:=eX f.left;obtain⟨r,dm⟩:=eX (G / 2);rw[<-b3] at dw ch dz al;rw[<-dm] at dw ch dz;have H:=hD (aI b3 dm);clear b3 dm;have d3:=al.O a4 oR
 go_region_held3 (λw'=>ac a4 w'/\w'.cell? ⟨g,4,none⟩=some (.int .i64 (fn:Int))/\w'.cell? ⟨fb,6,none⟩=some (.int .i64 (G:Int)))
  (first|exact al.O _ (yt ‹_›)|exact al.O _ (aa.drew (yt ‹_›))|exact al.O _ (aa.alloc (yt ‹_›) _)|exact al.O _ (aa.alloc (aa.drew (yt ‹_›)) _)|fail) (fail)
 obtain⟨bo,cd⟩:=eX ((a4.alloc (.cells #[.string kp,.int .i64 (fn:Int),.slice none 0 0,.int .i64 (r:Int)] 30)).drew);obtain⟨B,cg⟩:=eX a4.heap.size;rw[<-cd,<-cg];have ci:ac a4 bo:=by rw[cd];exact(oR.alloc _).drew
 have f5:ae bo B 30 #[.string kp,.int .i64 (fn:Int),.slice none 0 0,.int .i64 (r:Int)]:=by rw[cd,cg];exact bN.drew
 have g6:=hD f5;have er:=hD cg;have gn:=hD (bm.O.trans ci);have c8:=ef.O.kp ci nG;have g2:=hD c8;have d7:=ci.J ei.O nF;have g8:=hD d7;have Z:=(gS f1.O).1
 rcases c8.fns with⟨_,P⟩|⟨hm,hn,N,P⟩
 ·rw[P] at Z
  exact absurd Z (zZ _)
 obtain⟨_,_,fq,_⟩:=P fn x f1.O;rw[eg.O] at fq;have e8:=c8.J.I 0;simp[cC,N] at e8;obtain⟨pl,b4⟩:=eX p.length;rw[<-b4] at e8 Z;have h5:=dN fn;have h6:=cN Z;have hc:bo.cell? ⟨g,4,none⟩=some (.int .i64 (fn:Int)):=d7.I 4;clear d3 cd cg ci f5 c8 d7 Z N P b4 dw ch dz al;go_wp2_with fail
 go_quiet (fail)
 obtain⟨b0,d4⟩:=eX (bo.drewN nq);rw[<-d4];have a1:ac bo b0:=by rw[d4];exact oR.drewN nq
 have f2:=hD (gn.O.trans a1);have f7:=g2.O.kp a1 nG;have ck:=hD f7;have fd:=a1.J g6.O nF;have ej:=hD fd;have fj:=a1.J g8.O nF;have cn:=hD fj;clear d4 a1 f7 fd fj e8 fq hc h5 h6
 by_cases dr:i=0
 ·subst dr
  have h4:decide ((0:Int)<((0:Nat):Int))=false:=rfl;go_wp2_with fail;have b5:w.heap.size<=B:=by rw[er.O];exact lT bc.O.size bm.O.size
  have ge:=hD b5;obtain⟨j,V⟩:=eX b0;obtain⟨v,d2⟩:=eX (none:Option Addr);obtain⟨K,fl⟩:=eX (0:Nat);rw[<-V];have a2:Hd (ae j B 30 #[.string kp,.int .i64 (fn:Int),.slice v 0 K,.int .i64 (r:Int)]):=hD (by rw[V,d2,fl];exact ej.O);have a8:Hd (ac w j):=hD (by rw[V];exact bc.O.trans f2.O);have u:Hd (aT j F fb L p f):=hD (a3.O.kp a8.O nG);have c6:Hd (aU j (λb=>w.heap.size<=b/\b<j.heap.size) v ((f.rg.drop l).take 0)):=hD (by rw[d2];exact .inl ⟨rfl,rfl⟩);have b9:Hd (ae j g 106 #[.int .u8 o.k,.int .i64 o.d,.int .i64 (l:Int),.int .i64 o.b,.int .i64 (fn:Int)]):=hD (by rw[V];exact cn.O);obtain⟨i,fo⟩:=eX (0:Nat);rw[<-fo] at a2 c6 bk cp;clear V d2 fl b5 h4 fo
  have bp:j.drew.cell? ⟨fb,6,none⟩=some (.int .i64 (G:Int)):=by
   have:=u.O.J.drew.I 6;simp[cC,<-H.O.1] at this;exact this
  have cs:j.cell? ⟨fb,6,none⟩=some (.int .i64 (G:Int)):=bp;have d0:=u.O.J.fz 6;have cB:j.cell? ⟨B,3,none⟩=some (.int .i64 (r:Int)):=a2.O.I 3;obtain⟨v1,v2⟩:=pF (b7.O.2.2.2) H.O.1 H.O.2
  go_still_tail 9,(by kernel_rfl)
  change wpList _ _ _ _ _ j.drew;go_wp2_with fail;obtain⟨W8,X⟩:=eX ((j.setCell ⟨fb,6,none⟩ (.int .i64 ((G-r:Nat):Int))).drew);rw[<-X];have T:aa (λb=>b=fb) j W8:=by rw[X];exact(ag _ _ _ _).drew
  have s:Hd (aT W8 F fb L p {f with left:=G-r}):=hD (u.O.td T (by rw[X];exact(u.O.J.s_ 6 _).drew) rfl rfl rfl rfl rfl rfl (u.O.wp_keep T) u.O.rp);have Q:=hD T;have am:=T.J b9.O (λe=>ae.ne_ b9.O u.O.J (by decide) e);have ga:=hD am
  have cv:W8.cell? ⟨fb,8,none⟩=some (.slice A n c):=by
   rw[s.O.J.I 8];simp[cC,z.O,ba.O]
  have gr:=s.O.J.fz 8;have gq:W8.cell? ⟨g,1,none⟩=some (.int .i64 o.d):=am.I 1;have D:f.kd.length=n:=ba.O.symm;have bb:Hd (B≠fb):=hD (λe=>ae.ne_ a2.O u.O.J (by decide) e);have b8:Hd (ae W8 B 30 #[.string kp,.int .i64 (fn:Int),.slice v i K,.int .i64 (r:Int)]):=hD (Q.O.J a2.O bb.O);have h0:∀aE,(W8.alloc aE).cell? ⟨fb,8,none⟩=some (.slice A n c):=λaE=>(World.cell?_alloc_lt W8 aE ⟨fb,8,none⟩ s.O.J.lt).trans cv
  clear X T am bp cs d0 cB v1 v2
  have an:W8.ownsRow 0 260 4 (.slice A n c) n (f.kd.flatMap fA):=by
   have:=s.O.kd;rw[z.O,D] at this;exact this
  have bf:=hD an;have ds:some B≠(Value.slice A n c).ownBlock:=λe=>bl bf.O b8.O (by decide) e.symm
  have bx:some fb≠(Value.slice A n c).ownBlock:=λe=>bl an s.O.J (by decide) e.symm
  clear an
  go_region_law (
   refine oS rfl _ _ rfl _ rfl rfl rfl n (f.kd.flatMap fA) (aa.owns (S:=λ_=>False) (by repeat (first|with_reducible exact oR|with_reducible refine aa.drew ?_|with_reducible refine aa.alloc ?_ _)) bf.O nG) (by first|exact bN|exact bN.drew) es.O.1 (by simp[Value.oneCell']) (λhd w' N P c2=>?_);obtain⟨aw,az,rfl⟩:=mQ N;have y:=pi (W8:=W8) P (by repeat (first|with_reducible exact oR|with_reducible refine aa.drew ?_|with_reducible refine aa.alloc ?_ _));have bz:=tK (W8:=W8) c2 (by repeat (first|with_reducible exact oR|with_reducible refine aa.drew ?_|with_reducible refine aa.alloc ?_ _));have kb:=ae.grown (aa.J (S:=λ_=>False) (by repeat (first|with_reducible exact oR|with_reducible refine aa.drew ?_|with_reducible refine aa.alloc ?_ _)) s.O.J nF) P bx;have c3:=kb.I 8;have e5:=kb.fz 8;simp[cC] at c3)
  all_goals (
   obtain⟨t,Y⟩:=eX (w'.setCell ⟨fb,8,none⟩ (.slice (some ⟨aw,0,none⟩) (n+1) az));rw[<-Y];have E:aa (λb=>b=fb) w' t:=by rw[Y];exact ag _ _ _ _
   have ad:=E.J (y.J b8.O (λe=>ds e.symm)) (λe=>bb.O e)
   have bq:aT t (λb=>F b\/w.heap.size<=b/\b<t.heap.size) fb {L with kv:=.slice (some ⟨aw,0,none⟩) (n+1) az} p {f with left:=G-r,kd:=f.kd++ [⟨o.d,false,⟨0,0⟩⟩]}:=by
    refine s.O.appended (by rw[z.O,D];exact y) E (by rw[D];exact N) (λb e=>.inl e) (λb e=>?_) (by rw[Y];exact kb.s_ 8 _)
    rcases bz b e with ai|ai
    ·exact .inl (s.O.fk b (by rw[z.O,D];exact ai))
    ·refine .inr ⟨lT (lT a8.O.size Q.O.size) ai,?_⟩
     have Z:=sm N e;exact lL Z E.size
   have cm:=hD bq;have g7:=hD ad
   have a7:aU t (λb=>w.heap.size<=b/\b<t.heap.size) v ((f.rg.drop l).take i):=by
    have c1:=c6.O.by_type Q.O u.O.J (by decide)
    have e4:aU w' (λb=>w.heap.size<=b/\b<j.heap.size) v ((f.rg.drop l).take i):=by
     rcases s.O.kv_form with⟨C,_⟩|⟨kb,c,C,_,⟨he,e3⟩,_⟩
     ·refine c1.kp y (λb _ e=>?_)
      rw[z.O,D] at C;rw[C] at e
      cases e
     ·refine c1.by_type (q:=kb) (y.mono λb e=>?_) e3 (by decide)
      rw[z.O,D] at C;rw[C] at e;exact(yz e).symm
    exact(e4.by_type E (y.J s.O.J (λe=>bx e.symm)) (by decide)).mo λb m=>⟨m.1,lL m.2 (lT Q.O.size (lT y.size E.size))⟩
   have a7:=hD a7;have bn:Hd (aa F w t):=hD ((((a8.O.mono λ_ e=>e.elim).trans (Q.O.mono λb e=>by rw[e];exact a3.O.ff)).trans (y.mono λb e=>a3.O.fk b (by rw[z.O,D];exact e))).trans (E.mono λb e=>by rw[e];exact a3.O.ff));obtain⟨ea,eb,ec,ee⟩:=ad.gE4;clear bq ad E Y kb c3 e5 N P c2 y bz;go_wp2_with fail;go_ret;have R:ac t (t.alloc (.cells #[.int .u8 2,.string kp,.int .i64 (fn:Int),.slice v i K,.int .i64 (r:Int),.int .i64 0,.int .i64 0] 181)):=oR.alloc _;have bt:f.left / 2=r:=by rw[H.O.2,H.O.1]
   have e0:G-r=f.left-f.left / 2:=by rw[bt,H.O.1]
   refine⟨t.heap.size,v,K,.slice (some ⟨aw,0,none⟩) (n+1) az,rfl,bn.O.size,?_,?_,?_,bn.O.trans (R.mono λ_ e=>e.elim)⟩
   ·have m:=ae.new t 181 #[.int .u8 2,.string kp,.int .i64 (fn:Int),.slice v i K,.int .i64 (r:Int),.int .i64 0,.int .i64 0]
    rw[bk.O];unfold kQ;simp only;rw[cp.O,<-ex.O,bt];exact m
   ·rw[bk.O]
    exact(a7.O.kp R nG).mo λb m=>⟨m.1,lL m.2 R.size⟩
   ·rw[<-e0]
    exact(cm.O.kp R nG).mo λb m=>m.imp id λe=>⟨e.1,lL e.2 R.size⟩)
 ·have hk:(0:Int)<(i:Int):=Dp dr
  have a0:l+i<=f.rg.length:=xL dr eg.O b7.O.2.1;have ar:=b7.O.2.2.1;have cf:=ck.O.cap;have e9:=ck.O.J.I 5;simp[cC] at e9;have hb:b0.cell? ⟨g,2,none⟩=some (.int .i64 (l:Int)):=cn.O.I 2;obtain⟨h8,av⟩:=eX f.rg.length;obtain⟨h7,c0⟩:=eX L.rc;obtain⟨e7,a6⟩:=eX L.rb;rw[<-av,<-c0,<-a6] at e9;rw[<-av] at a0 ar cf;rw[<-c0] at cf;obtain⟨gp,c9⟩:=eX (l+i);obtain⟨fs,ft,h9,fv,fw,fx⟩:=tv a0 ar cf;have g4:Hd (l+i<=h8):=hD a0;have gf:Hd (i<=100000):=hD (Db a0 ar);have ha:gp-l=i:=by rw[c9];exact Nat.add_sub_cancel_left l i
  rw[<-c9] at fs ft fv fw fx;have hg:=hD c9;have eL:=hD (aI av (aI c0 a6));clear av c0 a6 a0 ar cf c9;go_wp2_with fail
  go_still_tail 11,(by kernel_rfl)
  change wpList _ _ _ _ _ b0.drew;obtain⟨cq,d5⟩:=eX b0.drew;rw[<-d5];have c4:ac b0 cq:=by rw[d5];exact oR.drew
  have b1:=ck.O.kp c4 nG
  have f9:aU cq F (some ⟨e7,l,none⟩) ((f.rg.drop l).take i):=by
   obtain⟨av,c0,a6⟩:=eL.O;refine .inr ⟨e7,l,rfl,λ_=>⟨by rw[a6];exact b1.fr,_,by rw[a6];exact b1.rg⟩,λk a5=>⟨by rw[a6];exact b1.fr,?_⟩⟩;have fm:k<i/\l+k<f.rg.length:=sR a5;rw[a6,ey b1.rg fm.2];simp[yc,zN,fm.1]
  have dq:((f.rg.drop l).take i).length=i:=qV (by obtain⟨av,_⟩:=eL.O;rw[<-av];exact g4.O);have d8:=j9 (some ⟨e7,l,none⟩) ((f.rg.drop l).take i) (h7-l) F cq f9 (by rw[dq];exact gf.O);rw[dq] at d8;have eq:=hD d8;have g3:=hD b1;have f3:=hD (f2.O.trans c4);have ek:=hD (c4.J ej.O nF);have g9:=hD (c4.J cn.O nF);clear d5 c4 b1 f9 dq d8 e9 hb;go_wp2_with fail;refine eq.O.mono ?_;rintro e f4 ⟨v,K,rfl,fp,c5⟩;have gm:=hD fp;have ab:=c5.J ek.O nF;obtain⟨ea,eb,ec,ee⟩:=ab.gE4;have gs:=ab.fz 0;have gt:=ab.fz 1;have gu:=ab.fz 2;have gx:=ab.fz 3;have el:=hD ab;have go:=hD (f3.O.trans c5);have hf:=hD (g3.O.kp c5 nG);have em:=hD (c5.J g9.O nF);clear fp c5 ab eq;go_wp2_with fail;obtain⟨j,V⟩:=eX (f4.setCell ⟨B,2,none⟩ (.slice v i K));rw[<-V];have b6:aa (λb=>b=B) f4 j:=by rw[V];exact ag _ _ _ _
  have f6:ae j B 30 #[.string kp,.int .i64 (fn:Int),.slice v i K,.int .i64 (r:Int)]:=by rw[V];exact el.O.s_ 2 _
  have a2:=hD f6;have hi:=hD b6;have b5:w.heap.size<=B:=by rw[er.O];exact lT bc.O.size bm.O.size
  have ge:=hD b5;have a8:Hd (ac w j):=hD ((bc.O.trans go.O).trans' b6 (λb e=>.inr (by rw[e];exact b5)));have u:Hd (aT j F fb L p f):=hD (a3.O.kp a8.O nG);have c6:Hd (aU j (λb=>w.heap.size<=b/\b<j.heap.size) v ((f.rg.drop l).take i)):=hD ((gm.O.kp b6 (λb m e=>Dc ek.O.lt m e)).mo (λb m=>⟨lT (bc.O.trans f3.O).size m.1,lL m.2 b6.size⟩));have b9:Hd (ae j g 106 #[.int .u8 o.k,.int .i64 o.d,.int .i64 (l:Int),.int .i64 o.b,.int .i64 (fn:Int)]):=hD (b6.J em.O (λe=>ae.ne_ em.O el.O (by decide) e));clear V b6 f6 b5 ea eb ec ee gs gt gu gx;clear fs ft h9 fv fw fx ha
  have bp:j.drew.cell? ⟨fb,6,none⟩=some (.int .i64 (G:Int)):=by
   have:=u.O.J.drew.I 6;simp[cC,<-H.O.1] at this;exact this
  have cs:j.cell? ⟨fb,6,none⟩=some (.int .i64 (G:Int)):=bp;have d0:=u.O.J.fz 6;have cB:j.cell? ⟨B,3,none⟩=some (.int .i64 (r:Int)):=a2.O.I 3;obtain⟨v1,v2⟩:=pF (b7.O.2.2.2) H.O.1 H.O.2
  go_still_tail 9,(by kernel_rfl)
  change wpList _ _ _ _ _ j.drew;go_wp2_with fail;obtain⟨W8,X⟩:=eX ((j.setCell ⟨fb,6,none⟩ (.int .i64 ((G-r:Nat):Int))).drew);rw[<-X];have T:aa (λb=>b=fb) j W8:=by rw[X];exact(ag _ _ _ _).drew
  have s:Hd (aT W8 F fb L p {f with left:=G-r}):=hD (u.O.td T (by rw[X];exact(u.O.J.s_ 6 _).drew) rfl rfl rfl rfl rfl rfl (u.O.wp_keep T) u.O.rp);have Q:=hD T;have am:=T.J b9.O (λe=>ae.ne_ b9.O u.O.J (by decide) e);have ga:=hD am
  have cv:W8.cell? ⟨fb,8,none⟩=some (.slice A n c):=by
   rw[s.O.J.I 8];simp[cC,z.O,ba.O]
  have gr:=s.O.J.fz 8;have gq:W8.cell? ⟨g,1,none⟩=some (.int .i64 o.d):=am.I 1;have D:f.kd.length=n:=ba.O.symm;have bb:Hd (B≠fb):=hD (λe=>ae.ne_ a2.O u.O.J (by decide) e);have b8:Hd (ae W8 B 30 #[.string kp,.int .i64 (fn:Int),.slice v i K,.int .i64 (r:Int)]):=hD (Q.O.J a2.O bb.O);have h0:∀aE,(W8.alloc aE).cell? ⟨fb,8,none⟩=some (.slice A n c):=λaE=>(World.cell?_alloc_lt W8 aE ⟨fb,8,none⟩ s.O.J.lt).trans cv
  clear X T am bp cs d0 cB v1 v2
  have an:W8.ownsRow 0 260 4 (.slice A n c) n (f.kd.flatMap fA):=by
   have:=s.O.kd;rw[z.O,D] at this;exact this
  have bf:=hD an;have ds:some B≠(Value.slice A n c).ownBlock:=λe=>bl bf.O b8.O (by decide) e.symm
  have bx:some fb≠(Value.slice A n c).ownBlock:=λe=>bl an s.O.J (by decide) e.symm
  clear an
  go_region_law (
   refine oS rfl _ _ rfl _ rfl rfl rfl n (f.kd.flatMap fA) (aa.owns (S:=λ_=>False) (by repeat (first|with_reducible exact oR|with_reducible refine aa.drew ?_|with_reducible refine aa.alloc ?_ _)) bf.O nG) (by first|exact bN|exact bN.drew) es.O.1 (by simp[Value.oneCell']) (λhd w' N P c2=>?_);obtain⟨aw,az,rfl⟩:=mQ N;have y:=pi (W8:=W8) P (by repeat (first|with_reducible exact oR|with_reducible refine aa.drew ?_|with_reducible refine aa.alloc ?_ _));have bz:=tK (W8:=W8) c2 (by repeat (first|with_reducible exact oR|with_reducible refine aa.drew ?_|with_reducible refine aa.alloc ?_ _));have kb:=ae.grown (aa.J (S:=λ_=>False) (by repeat (first|with_reducible exact oR|with_reducible refine aa.drew ?_|with_reducible refine aa.alloc ?_ _)) s.O.J nF) P bx;have c3:=kb.I 8;have e5:=kb.fz 8;simp[cC] at c3)
  all_goals (
   obtain⟨t,Y⟩:=eX (w'.setCell ⟨fb,8,none⟩ (.slice (some ⟨aw,0,none⟩) (n+1) az));rw[<-Y];have E:aa (λb=>b=fb) w' t:=by rw[Y];exact ag _ _ _ _
   have ad:=E.J (y.J b8.O (λe=>ds e.symm)) (λe=>bb.O e)
   have bq:aT t (λb=>F b\/w.heap.size<=b/\b<t.heap.size) fb {L with kv:=.slice (some ⟨aw,0,none⟩) (n+1) az} p {f with left:=G-r,kd:=f.kd++ [⟨o.d,false,⟨0,0⟩⟩]}:=by
    refine s.O.appended (by rw[z.O,D];exact y) E (by rw[D];exact N) (λb e=>.inl e) (λb e=>?_) (by rw[Y];exact kb.s_ 8 _)
    rcases bz b e with ai|ai
    ·exact .inl (s.O.fk b (by rw[z.O,D];exact ai))
    ·refine .inr ⟨lT (lT a8.O.size Q.O.size) ai,?_⟩
     have Z:=sm N e;exact lL Z E.size
   have cm:=hD bq;have g7:=hD ad
   have a7:aU t (λb=>w.heap.size<=b/\b<t.heap.size) v ((f.rg.drop l).take i):=by
    have c1:=c6.O.by_type Q.O u.O.J (by decide)
    have e4:aU w' (λb=>w.heap.size<=b/\b<j.heap.size) v ((f.rg.drop l).take i):=by
     rcases s.O.kv_form with⟨C,_⟩|⟨kb,c,C,_,⟨he,e3⟩,_⟩
     ·refine c1.kp y (λb _ e=>?_)
      rw[z.O,D] at C;rw[C] at e
      cases e
     ·refine c1.by_type (q:=kb) (y.mono λb e=>?_) e3 (by decide)
      rw[z.O,D] at C;rw[C] at e;exact(yz e).symm
    exact(e4.by_type E (y.J s.O.J (λe=>bx e.symm)) (by decide)).mo λb m=>⟨m.1,lL m.2 (lT Q.O.size (lT y.size E.size))⟩
   have a7:=hD a7;have bn:Hd (aa F w t):=hD ((((a8.O.mono λ_ e=>e.elim).trans (Q.O.mono λb e=>by rw[e];exact a3.O.ff)).trans (y.mono λb e=>a3.O.fk b (by rw[z.O,D];exact e))).trans (E.mono λb e=>by rw[e];exact a3.O.ff));obtain⟨ea,eb,ec,ee⟩:=ad.gE4;clear bq ad E Y kb c3 e5 N P c2 y bz;go_wp2_with fail;go_ret;have R:ac t (t.alloc (.cells #[.int .u8 2,.string kp,.int .i64 (fn:Int),.slice v i K,.int .i64 (r:Int),.int .i64 0,.int .i64 0] 181)):=oR.alloc _;have bt:f.left / 2=r:=by rw[H.O.2,H.O.1]
   have e0:G-r=f.left-f.left / 2:=by rw[bt,H.O.1]
   refine⟨t.heap.size,v,K,.slice (some ⟨aw,0,none⟩) (n+1) az,rfl,bn.O.size,?_,?_,?_,bn.O.trans (R.mono λ_ e=>e.elim)⟩
   ·have m:=ae.new t 181 #[.int .u8 2,.string kp,.int .i64 (fn:Int),.slice v i K,.int .i64 (r:Int),.int .i64 0,.int .i64 0]
    rw[bk.O];unfold kQ;simp only;rw[cp.O,<-ex.O,bt];exact m
   ·rw[bk.O]
    exact(a7.O.kp R nG).mo λb m=>⟨m.1,lL m.2 R.size⟩
   ·rw[<-e0]
    exact(cm.O.kp R nG).mo λb m=>m.imp id λe=>⟨e.1,lL e.2 R.size⟩)
end
theorem vA(l:List UInt8)(b:gK l)(w:World):Calls Tryz.prog 90 #[.string (sB l),.int .i64 17] w λa w'=>a=.returned (.tuple #[.string ByteArray.empty,.bool false])/\ac w w':=by
 have d:=hD (kE l b w);clear b;generalize sB l=s at*;go_enter Tryz.func90,Tryz.ntmps90;go_wp2_with fail;refine d.O.mono ?_;rintro a g ⟨rfl,c⟩;have e:=hD c;clear c;go_wp2_with fail
 go_ret2
 exact⟨rfl,e.O⟩
theorem iQ.back{b w w':World}{F:Nat->Prop}{fb:Nat}{L:gl}{p:List aj}{f:Fr}{x:aO}{a:Ending}(c:iQ w w' F fb L p f x a)(o:ac b w):iQ b w' F fb L p f x a:=by
 obtain⟨q,v,d,e,g,i,j⟩:=c;exact⟨q,v,d,lT o.size e,g,i,(o.mono λ_ a=>a.elim).trans j⟩
section
variable {w w':World}{F F':Nat->Prop}{fb:Nat}{L:gl}{p:List aj}{f:Fr}
theorem vS(o:bQ)(D:∀b,F b->b<w.heap.size)(s:aT w F fb L p f)(G:f.kd.length=16)(K:gK f.M):
 Calls Tryz.prog 176 #[.pointer (some ⟨fb,0,none⟩),eS o] w λe w'=>iQ w w' F fb L p f ⟨0,132⟩ e:=by
 obtain⟨i,u⟩:=eX (w.alloc (.cells #[.int .u8 o.k,.int .i64 o.d,.int .i64 o.a,.int .i64 o.b,.int .i64 o.n] 106));have r:ac w i:=by rw[u];exact(aa.refl _ w).alloc _
 have t:=s.kp r nG;obtain⟨A,c,H⟩:=s.kv_any;obtain⟨g,E⟩:=eX w.heap.size;obtain⟨n,x⟩:=eX f.kd.length
 have j:Hd (∀W,ac i W->ac i W/\W.cell? ⟨fb,1,none⟩=some (.string (sB f.M))/\W.cell? ⟨fb,8,none⟩=some (.slice A n c)):=hD λW l=>by
  have q:=(t.kp l nG).J;refine⟨l,q.I 1,?_⟩;rw[q.I 8];simp[cC,H,x]
 have N:Hd (∀m W,ac i W->Calls Tryz.prog 173 #[.pointer (some ⟨fb,0,none⟩),.int .i64 m] W λe w'=>iQ w w' F fb L p f ⟨0,m⟩ e):=hD λm W l=>by
  refine(kG m (λb T=>lL (D b T) (lT r.size l.size)) (t.kp l nG)).mono ?_;intro e w' k;exact k.back (r.trans l)
 have X:=hD E;have z:=hD u.symm;have P:Hd (∀W,Calls Tryz.prog 90 #[.string (sB f.M),.int .i64 17] W λe w'=>e=.returned (.tuple #[.string ByteArray.empty,.bool false])/\ac W w'):=hD (vA f.M K);rw[G] at x;subst x;clear s t r H u D G K E;unfold eS;go_enter Tryz.func176,Tryz.ntmps176;go_upto_region 1 with fail;rw[z.O];clear z;have S:=j.O i oR
 go_region_held3 (λw'=>ac i w'/\w'.cell? ⟨fb,1,none⟩=some (.string (sB f.M))/\w'.cell? ⟨fb,8,none⟩=some (.slice A 16 c))
  (first|exact j.O _ (yt ‹_›)|exact j.O _ (aa.drew (yt ‹_›))|exact j.O _ (aa.trans (aa.drew (yt ‹_›)) y)|exact j.O _ (aa.trans (yt ‹_›) y)|fail)
  (first|(go_at_call 90;refine(P.O _).mono ?_;rintro e C ⟨rfl,y⟩)|fail)
 have B:Hd (ac i C):=hD (yt ‹_›);have Y:=(j.O C B.O).2.2;clear S y;go_wp2_with fail;refine(N.O _ _ B.O).mono ?_;intro e w' k;have⟨q,v,R,V⟩:=k;subst R;have Q:=hD k;clear k V;go_wp2_with fail;go_ret;exact Q.O
theorem vR(o:bQ)(E:∀b,F b->b<w.heap.size)(t:aT w F fb L p f)(m:f.kd.length<16)(N:gK f.M)(K:f.M.length=12):
 Calls Tryz.prog 176 #[.pointer (some ⟨fb,0,none⟩),eS o] w λe w'=>iQ w w' F fb L p f ⟨0,133⟩ e:=by
 obtain⟨i,x⟩:=eX (w.alloc (.cells #[.int .u8 o.k,.int .i64 o.d,.int .i64 o.a,.int .i64 o.b,.int .i64 o.n] 106));have s:ac w i:=by rw[x];exact(aa.refl _ w).alloc _
 have u:=t.kp s nG;obtain⟨A,c,H⟩:=t.kv_any;obtain⟨g,G⟩:=eX w.heap.size;obtain⟨n,y⟩:=eX f.kd.length
 have j:Hd (∀W,ac i W->ac i W/\W.cell? ⟨fb,1,none⟩=some (.string (sB f.M))/\W.cell? ⟨fb,8,none⟩=some (.slice A n c)):=hD λW l=>by
  have q:=(u.kp l nG).J;refine⟨l,q.I 1,?_⟩;rw[q.I 8];simp[cC,H,y]
 have P:Hd (∀r W,ac i W->Calls Tryz.prog 173 #[.pointer (some ⟨fb,0,none⟩),.int .i64 r] W λe w'=>iQ w w' F fb L p f ⟨0,r⟩ e):=hD λr W l=>by
  refine(kG r (λb V=>lL (E b V) (lT s.size l.size)) (u.kp l nG)).mono ?_;intro e w' k;exact k.back (s.trans l)
 have a0:=hD G;have B:=hD x.symm;rw[<-y] at m
 have Q:Hd (∀W,Calls Tryz.prog 90 #[.string (sB f.M),.int .i64 ((n:Int)+1)] W λe w'=>e=.returned (.tuple #[.string ByteArray.empty,.bool false])/\ac W w'):=hD λW=>by
  have:=n5 f.M N (n+1) (Yh 1 n) m W;have e:=kt n;rw[e] at this;unfold pY at this;rw[yf K] at this;exact this
 have Y:=nC m;have a2:=(cQ _).trans Y;have X:=B3 m;have a1:decide ((16:Int)<=(n:Int))=false:=yd X;clear t u s H x E m N G y K;unfold eS;go_enter Tryz.func176,Tryz.ntmps176;go_upto_region 1 with fail;rw[B.O];clear B;have T:=j.O i oR
 go_region_held3 (λw'=>ac i w'/\w'.cell? ⟨fb,1,none⟩=some (.string (sB f.M))/\w'.cell? ⟨fb,8,none⟩=some (.slice A n c))
  (first|exact j.O _ (yt ‹_›)|exact j.O _ (aa.drew (yt ‹_›))|exact j.O _ (aa.trans (aa.drew (yt ‹_›)) z)|exact j.O _ (aa.trans (yt ‹_›) z)|fail)
  (first|(go_at_call 90;refine(Q.O _).mono ?_;rintro e D ⟨rfl,z⟩)|fail)
 have C:Hd (ac i D):=hD (yt ‹_›);have a3:=(j.O D C.O).2.2;clear T z;go_wp2_with fail;refine(P.O _ _ C.O).mono ?_;intro e w' k;have⟨q,v,S,Z⟩:=k;subst S;have R:=hD k;clear k Z;go_wp2_with fail;go_ret;exact R.O
end
def mJ(k:cD):Value:=.agg #[.int .i64 k.into,.bool k.given,.int .i64 k.r.v,.int .i64 k.r.e]
theorem ww(k:cD)(w:World):Calls Tryz.prog 170 #[mJ k] w λa w'=>a=.returned (.bool (!k.given))/\ac w w':=by
 unfold mJ;go_enter Tryz.func170,Tryz.ntmps170;go_wp2_with fail;go_ret;exact⟨rfl,oR.alloc _⟩
theorem wz(k:cD)(w:World):Calls Tryz.prog 172 #[mJ k] w λa w'=>a=.returned (.bool (k.r.e !=0))/\ac w w':=by
 unfold mJ;go_enter Tryz.func172,Tryz.ntmps172;go_wp2_with fail;go_ret;exact⟨rfl,oR.alloc _⟩
def fO(w:World)(A:Option Addr)(l:List cD):Prop:=∀(i:Nat) (k:cD),l[i]?=some k->∃b o,A=some ⟨b,o,none⟩/\∀(j:Nat) (v:Value),(fA k)[j]?=some v->w.cell? ⟨b,o+i*4+j,none⟩=some v
theorem fO.kp{w w':World}{A:Option Addr}{l:List cD}(c:fO w A l)(g:ac w w'):fO w' A l:=λi k e=>by
 obtain⟨b,o,d,a⟩:=c i k e;exact⟨b,o,d,λj v hv=>(g.I (p:=⟨b,o+i*4+j,none⟩) (block_lt_of_cell (a j v hv)) nF).trans (a j v hv)⟩
def eZ(pr:cD->Bool):List cD->Nat->Int
 | [],_=>-1
 |a :: l,k=>if pr a=true then(k:Int) else eZ pr l (k+1)
theorem AJ(A:Option Addr)(l:List cD)(c:Nat)(w:World)(D:fO w A l)(S:l.length<=1000):
 Calls Tryz.prog 171 #[.slice A l.length c,.func (.func 170) #[] #[]] w λj w'=>j=.returned (.int .i64 (eZ (λk=>!k.given) l 0))/\ac w w':=by
 obtain⟨r,x⟩:=eX (eZ (λk=>!k.given) l 0);rw[<-x];have P:=hD x;have K:=hD ww;have N:=hD D;obtain⟨n,v⟩:=eX l.length;rw[<-v] at S ⊢;have B:=hD v;clear x D v;go_enter Tryz.func171,Tryz.ntmps171;go_wp2_with fail
 go_loopw [8] (λi wr=>∃k:Nat,k<=n/\i=.int .i64 k/\eZ (λk=>!k.given) (l.drop k) k=r/\ac w wr) (λi _=>n-(intOf i).toNat)
 case atStart=>exact⟨0,yx _,rfl,P.O.symm,oR⟩
 case round=>
  obtain⟨k,Z,rfl,a,g⟩:=hrel
  by_cases u:k<n
  ·have a0:(0:Int)<=(k:Int):=dN k
   have R:(k:Int)<(n:Int):=cN u;have E:k<l.length:=by rw[<-B.O];exact u
   obtain⟨b,o,Q,e⟩:=N.O.kp g k l[k] (gG E);rw[yM E] at a;unfold eZ at a;generalize l[k] =y at*;have H:=e 0 _ rfl;have T:=e 1 _ rfl;have V:=e 2 _ rfl;have X:=e 3 _ rfl;rw[yW] at H;subst Q;obtain⟨s,t⟩:=eX ((λk=>!k.given) y:Bool);have m:(if s=true then(k:Int) else eZ (λk=>!k.given) (l.drop (k+1)) (k+1))=r:=by rw[t];exact a
   have z:Hd (∀W,Calls Tryz.prog 170 #[mJ y] W λj w'=>j=.returned (.bool s)/\ac W w'):=hD λW=>by rw[t];exact K.O y W
   have q:=hD g;clear e a g t;unfold mJ at z;go_wp2_with fail;refine(z.O _).mono ?_;rintro j Y ⟨rfl,G⟩;have C:=hD (q.O.trans G);clear G H T V X
   cases s
   ·have d:Hd (eZ (λk=>!k.given) (l.drop (k+1)) (k+1)=r):=hD m
    clear m;go_wp2_with fail;go_roundw
    case rel=>exact⟨k+1,u,by go_num,d.O,C.O⟩
    case measure=>simp[intOf];omega
   ·have d:Hd ((k:Int)=r):=hD m
    clear m;go_wp2_with fail;go_ret;exact⟨by rw[<-d.O];rfl,C.O⟩
  ·have R:¬(k:Int)<(n:Int):=by omega
   have:k=n:=by omega
   subst this;rw[B.O,zq] at a;have d:=hD a;have q:=hD g;clear a g;go_wp2_with fail;go_ret;exact⟨by rw[<-d.O];rfl,q.O⟩
theorem kI(A:Option Addr)(l:List cD)(c:Nat)(w:World)(D:fO w A l)(S:l.length<=1000):
 Calls Tryz.prog 171 #[.slice A l.length c,.func (.func 172) #[] #[]] w λj w'=>j=.returned (.int .i64 (eZ (λk=>k.r.e !=0) l 0))/\ac w w':=by
 obtain⟨r,x⟩:=eX (eZ (λk=>k.r.e !=0) l 0);rw[<-x];have P:=hD x;have K:=hD wz;have N:=hD D;obtain⟨n,v⟩:=eX l.length;rw[<-v] at S ⊢;have B:=hD v;clear x D v;go_enter Tryz.func171,Tryz.ntmps171;go_wp2_with fail
 go_loopw [8] (λi wr=>∃k:Nat,k<=n/\i=.int .i64 k/\eZ (λk=>k.r.e !=0) (l.drop k) k=r/\ac w wr) (λi _=>n-(intOf i).toNat)
 case atStart=>exact⟨0,yx _,rfl,P.O.symm,oR⟩
 case round=>
  obtain⟨k,Z,rfl,a,g⟩:=hrel
  by_cases u:k<n
  ·have a0:(0:Int)<=(k:Int):=dN k
   have R:(k:Int)<(n:Int):=cN u;have E:k<l.length:=by rw[<-B.O];exact u
   obtain⟨b,o,Q,e⟩:=N.O.kp g k l[k] (gG E);rw[yM E] at a;unfold eZ at a;generalize l[k] =y at*;have H:=e 0 _ rfl;have T:=e 1 _ rfl;have V:=e 2 _ rfl;have X:=e 3 _ rfl;rw[yW] at H;subst Q;obtain⟨s,t⟩:=eX ((λk=>k.r.e !=0) y:Bool);have m:(if s=true then(k:Int) else eZ (λk=>k.r.e !=0) (l.drop (k+1)) (k+1))=r:=by rw[t];exact a
   have z:Hd (∀W,Calls Tryz.prog 172 #[mJ y] W λj w'=>j=.returned (.bool s)/\ac W w'):=hD λW=>by rw[t];exact K.O y W
   have q:=hD g;clear e a g t;unfold mJ at z;go_wp2_with fail;refine(z.O _).mono ?_;rintro j Y ⟨rfl,G⟩;have C:=hD (q.O.trans G);clear G H T V X
   cases s
   ·have d:Hd (eZ (λk=>k.r.e !=0) (l.drop (k+1)) (k+1)=r):=hD m
    clear m;go_wp2_with fail;go_roundw
    case rel=>exact⟨k+1,u,by go_num,d.O,C.O⟩
    case measure=>simp[intOf];omega
   ·have d:Hd ((k:Int)=r):=hD m
    clear m;go_wp2_with fail;go_ret;exact⟨by rw[<-d.O];rfl,C.O⟩
  ·have R:¬(k:Int)<(n:Int):=by omega
   have:k=n:=by omega
   subst this;rw[B.O,zq] at a;have d:=hD a;have q:=hD g;clear a g;go_wp2_with fail;go_ret;exact⟨by rw[<-d.O];rfl,q.O⟩
theorem li(c:cD->Bool):∀(l:List cD) (k:Nat),decide ((0:Int)<=eZ c l k)=l.any c
 | [],k=>by simp[eZ]
 |a :: l,k=>by
  unfold eZ
  by_cases b:c a=true
  ·rw[yf b]
   simp[b]
  ·rw[yb b,li c l (k+1)]
   simp[b]
theorem rR(b:cD->Bool):∀(l:List cD) (k:Nat),0<=eZ b l k->∃(i:Nat) (y:cD),eZ b l k=((k+i:Nat):Int)/\l[i]?=some y/\b y=true/\l.find? b=some y
 | [],k,c=>by simp[eZ] at c
 |a :: l,k,c=>by
  unfold eZ at c ⊢
  by_cases d:b a=true
  ·rw[yf d] at c ⊢
   exact⟨0,a,rfl,rfl,d,by simp[List.find?,d]⟩
  ·rw[yb d] at c ⊢
   obtain⟨i,y,e,g,j,m⟩:=rR b l (k+1) c;refine⟨i+1,y,?_,by simpa using g,j,?_⟩
   ·rw[e]
    have:k+1+i=k+(i+1):=by omega
    rw[this]
   ·have n:b a=false:=by simpa using d
    simp[List.find?,n,m]
theorem jD(A:Option Addr)(l:List cD)(c:Nat)(w:World)(d:fO w A l)(e:l.length<=1000):
 Calls Tryz.prog 169 #[.slice A l.length c,.func (.func 170) #[] #[]] w λb w'=>b=.returned (.bool (l.any λk=>!k.given))/\ac w w':=by
 have a:=AJ A l c w d e;rw[<-li (λk=>!k.given) l 0];have i:=hD a;generalize eZ (λk=>!k.given) l 0=r at*;generalize l.length=n at*;clear a d e;go_enter Tryz.func169,Tryz.ntmps169;go_wp2_with fail;refine i.O.mono ?_;rintro b m ⟨rfl,g⟩;have j:=hD g;clear g;go_wp2_with fail;go_ret;exact⟨rfl,j.O⟩
section
variable {w w':World}{F F':Nat->Prop}{fb:Nat}{L:gl}{p:List aj}{f:Fr}
theorem aT.regs_set{e:List Int}(a:aT w F fb L p f)(d:aa (λb=>b=L.rb) w w')(n:ae w' L.rb 2 (e.map (Value.int .i64)).toArray)(j:e.length=f.rg.length):aT w' F fb L p {f with rg:=e}:=by
 have t:fb≠L.rb:=λc=>ae.ne_ a.rg a.J (by decide) c.symm
 have i:=d.J a.J t;have r:cC L p f=cC L p {f with rg:=e}:=by unfold cC;simp only;rw[j]
 rw[r] at i;refine⟨a.ff,a.fr,a.fk,i,a.fns.by_type d a.rg (by decide) (by decide),n,d.owns a.kd (λk s c=>bl a.kd a.rg (by decide) (by rw[s,c])),?_,a.rp,by rw[j];exact a.cap⟩;have:=a.wp
 show match f.waits with
  |none=>L.wp=.pointer none
  |some o=>∃q,F q/\L.wp=.pointer (some ⟨q,0,none⟩)/\ae w' q 106 (ep o).toArray
 split<;>rename_i c<;>rw[c] at this
 ·exact this
 ·obtain⟨q,l,m,g⟩:=this
  exact⟨q,l,m,d.J g (λc=>ae.ne_ g a.rg (by decide) c)⟩
theorem aT.reg_put(a:aT w F fb L p f)(d:Nat)(x:Int):aT (w.setCell ⟨L.rb,d,none⟩ (.int .i64 x)) F fb L p {f with rg:=f.rg.set d x}:=by
 refine a.regs_set (ag _ _ _ _) ?_ (by simp);have:=a.rg.s_ d (.int .i64 x)
 have b:(f.rg.map (Value.int .i64)).toArray.setIfInBounds d (.int .i64 x)=((f.rg.set d x).map (Value.int .i64)).toArray:=by
  rw[List.setIfInBounds_toArray,List.map_set]
 rw[b] at this;exact this
theorem aT.opens_at(d:aT w F fb L p f){kb c:Nat}(n:L.kv=.slice (some ⟨kb,0,none⟩) f.kd.length c):fO w (some ⟨kb,f.joined*4,none⟩) f.os:=by
 intro i k e;refine⟨kb,f.joined*4,rfl,λj v hv=>?_⟩;have l:f.kd[f.joined+i]?=some k:=by simpa[Fr.os] using e
 have m:j<4:=by
  have:=(gS hv).1
  simpa[fA] using this
 have a:=d.kd;rw[n] at a;have:=a.cells (g:=kb) rfl ((f.joined+i)*4+j) v (by rw[iS _ _ j k l m];exact hv);rw[bE,yq] at this;have b:f.joined*4+i*4+j=(f.joined+i)*4+j:=by omega
 rw[b];exact this
theorem i9(A:Option Addr)(w:World):fO w A []:=λi k a=>by simp at a
end
def mf:Array Value:=#[.int .u8 3,.string ⟨#[]⟩,.int .i64 0,.slice none 0 0,.int .i64 0,.int .i64 0,.int .i64 0]
theorem lQ{j n c:Nat}(a:j<n)(b:n<=c):(0:Int)<=(j:Int)/\(j:Int)<=(n:Int)/\(j:Int)<=(c:Int)/\(n:Int)<=(c:Int):=by omega
section
variable {w w':World}{F F':Nat->Prop}{fb:Nat}{L:gl}{p:List aj}{f:Fr}
theorem wC(o:bQ)(a1:∀b,F b->b<w.heap.size)(r:aT w F fb L p f)(a5:f.os.any (λc=>!c.given)=true)(i:f.joined<f.kd.length)(N:f.kd.length<=16):
 Calls Tryz.prog 139 #[.pointer (some ⟨fb,0,none⟩),eS o] w λe w'=>∃q v,e=.returned (.pointer (some ⟨q,0,none⟩))/\w.heap.size<=q/\ae w' q 181 mf/\
  aT w' (λb=>F b\/w.heap.size<=b/\b<w'.heap.size) fb {L with wp:=v} p {f with waits:=some o}/\aa F w w':=by
 rcases r.kv_form with⟨_,an⟩|⟨kb,c,K,b2,⟨b7,aw⟩,_⟩
 ·rw[an] at i
  exact absurd i (zZ _)
 obtain⟨j,x⟩:=eX (w.alloc (.cells #[.int .u8 o.k,.int .i64 o.d,.int .i64 o.a,.int .i64 o.b,.int .i64 o.n] 106));have S:ac w j:=by rw[x];exact(aa.refl _ w).alloc _
 have D:ae j w.heap.size 106 #[.int .u8 o.k,.int .i64 o.d,.int .i64 o.a,.int .i64 o.b,.int .i64 o.n]:=by rw[x];exact bN
 have l:=r.kp S nG;obtain⟨g,G⟩:=eX w.heap.size;rw[<-G] at D;have a8:=l.J.I 10;have am:=l.J.fz 10;simp[cC] at a8;have V:=l.J.I 8;have W:=l.J.I 9;simp[cC,K] at V W
 have s:f.kd.length<=c:=by
  have:=r.kd;rw[K] at this
  rcases cT this with⟨e,_⟩|⟨b0,aE,e,ar,_⟩
  ·cases e
  ·injection e with _ _ e3
   rw[e3];exact ar
 obtain⟨n,P⟩:=eX f.kd.length;obtain⟨R,H⟩:=eX f.joined;rw[<-P] at V s i N;rw[<-H] at W i;obtain⟨b3,b4,b5,b6⟩:=lQ i s;have b1:¬c=R:=λe=>absurd (lL i s) (by rw[e];exact yQ _)
 have a9:=hD r;have t:=hD l;have A:=hD D;have ad:=hD S;have Y:=hD G;have az:=hD a1;have ab:=hD K;have m:=hD (aI P (aI H (aI i (aI s N))));have al:=hD a5;have Z:=hD x.symm;clear r l D S G a1 P H i N s a5 x aw;unfold eS;go_enter Tryz.func139,Tryz.ntmps139;go_upto_region 1 with fail;rw[Z.O,<-Y.O];clear Z;go_wp2_with fail
 go_quiet (fail)
 obtain⟨C,y⟩:=eX ((j.setCell ⟨fb,10,none⟩ (.pointer (some ⟨g,0,none⟩))).drewN nq);rw[<-y];have z:aa (λb=>b=fb) j C:=by rw[y];exact(ag _ _ _ _).drewN nq
 have av:w.heap.size<=g/\g<j.heap.size:=⟨zl Y.O.symm,A.O.lt⟩
 have a2:g≠fb:=λe=>ae.ne_ A.O t.O.J (by decide) e
 have X:Hd (aT C (λb=>F b\/w.heap.size<=b/\b<j.heap.size) fb {L with wp:=.pointer (some ⟨g,0,none⟩)} p {f with waits:=some o}):=hD ((t.O.mo λb E=>.inl E).td z (by rw[y];exact(t.O.J.s_ 10 _).drewN nq) rfl rfl rfl rfl rfl rfl ⟨g,.inr av,rfl,z.J A.O a2⟩ t.O.rp);have a3:=(X.O.opens_at (kb:=kb) (c:=c) ab.O)
 have a4:f.os.length=n-R:=by rw[dW,m.O.1,m.O.2.1]
 have Q:=jD (some ⟨kb,f.joined*4,none⟩) f.os (c-R) C a3 (by rw[dW];exact lT (Nat.sub_le _ _) (by rw[<-m.O.1];exact lT m.O.2.2.2.2 (by decide)));rw[a4,al.O,<-m.O.2.1] at Q;have ai:=hD Q;have a0:=hD z;clear a3 a4 Q z y a8 am V W a2;go_wp2_with fail;refine ai.O.mono ?_;rintro e u ⟨rfl,a6⟩;have B:=hD a6;clear a6;go_wp2_with fail;go_ret;have T:ac u (u.alloc (.cells mf 181)):=oR.alloc _;have a7:aa F w u:=((ad.O.mono λ_ e=>e.elim).trans (a0.O.mono λb e=>by rw[e];exact a9.O.ff)).trans (B.O.mono λ_ e=>e.elim);refine⟨u.heap.size,.pointer (some ⟨g,0,none⟩),rfl,a7.size,bN,((X.O.kp B.O nG).kp T nG).mo λb E=>E.imp id λe=>⟨e.1,lL e.2 (lT a0.O.size (lT B.O.size T.size))⟩,a7.trans (T.mono λ_ e=>e.elim)⟩
end
theorem kT:∀l:List cD,fz (dF l)=match l.find? (λk=>k.r.e !=0) with|some y=>y.r.e|none=>0
 | []=>rfl
 |a :: l=>by
  have c:=kT l;unfold dF at c ⊢;rw[zc];unfold fz
  by_cases b:a.r.e=0
  ·rw[yb (by simp[b]),c]
   simp[List.find?,b]
  ·rw[yf b]
   have:(a.r.e !=0)=true:=by simp[b]
   simp[List.find?,this]
theorem fO.keep_{S:Nat->Prop}{w w':World}{kb o:Nat}{l:List cD}(d:fO w (some ⟨kb,o,none⟩) l)(m:aa S w w')(e:¬S kb):fO w' (some ⟨kb,o,none⟩) l:=λi k g=>by
 obtain⟨b,n,a,c⟩:=d i k g;injection a with a;injection a with e1 e2;subst e1;subst e2;exact⟨kb,o,rfl,λj v hv=>(m.I (p:=⟨kb,o+i*4+j,none⟩) (block_lt_of_cell (c j v hv)) e).trans (c j v hv)⟩
theorem iQ.wide{c w w':World}{F F':Nat->Prop}{fb:Nat}{L:gl}{p:List aj}{f:Fr}{x:aO}{a:Ending}(d:iQ w w' F fb L p f x a)(o:aa (λb=>b=fb) c w)(l:∀b,F b->F' b):iQ c w' F' fb L p f x a:=by
 obtain⟨q,v,e,g,i,j,k⟩:=d;exact⟨q,v,e,lT o.size g,i,j.mo l,o.trans k⟩
section
variable {w w':World}{F F':Nat->Prop}{fb:Nat}{L:gl}{p:List aj}{f:Fr}
theorem AN(o:bQ)(b9:∀b,F b->b<w.heap.size)(H:aT w F fb L p f)(bo:f.os.any (λc=>!c.given)=false)(t:f.joined<f.kd.length)(ai:f.kd.length<=16)(bb:fz (dF f.os)≠0):
 Calls Tryz.prog 139 #[.pointer (some ⟨fb,0,none⟩),eS o] w λe w'=>∃c6,iQ w w' (λb=>F b\/w.heap.size<=b/\b<w'.heap.size) fb c6 p {f with waits:=none,joined:=f.kd.length} ⟨0,fz (dF f.os)⟩ e:=by
 rcases H.kv_form with⟨_,ce⟩|⟨kb,c,ad,cs,⟨az,X⟩,_⟩
 ·rw[ce] at t
  exact absurd t (zZ _)
 obtain⟨s,T⟩:=eX (w.alloc (.cells #[.int .u8 o.k,.int .i64 o.d,.int .i64 o.a,.int .i64 o.b,.int .i64 o.n] 106));have am:ac w s:=by rw[T];exact(aa.refl _ w).alloc _
 have a4:ae s w.heap.size 106 #[.int .u8 o.k,.int .i64 o.d,.int .i64 o.a,.int .i64 o.b,.int .i64 o.n]:=by rw[T];exact bN
 have A:=H.kp am nG;obtain⟨g,a8⟩:=eX w.heap.size;rw[<-a8] at a4;have N:=A.J.I 10;have a5:=A.J.fz 10;simp[cC] at N;have D:=A.J.I 8;have E:=A.J.I 9;simp[cC,ad] at D E;have bv:=hD bb
 have K:f.kd.length<=c:=by
  have:=H.kd;rw[ad] at this
  rcases cT this with⟨e,_⟩|⟨R,cq,e,S,_⟩
  ·cases e
  ·injection e with _ _ e3
   rw[e3];exact S
 obtain⟨n,al⟩:=eX f.kd.length;obtain⟨C,a9⟩:=eX f.joined;rw[<-al] at D K t ai;rw[<-a9] at E t;obtain⟨d1,d2,d3,d4⟩:=lQ t K;have cr:¬c=C:=λe=>absurd (lL t K) (by rw[e];exact yQ _)
 have cp:=hD H;have P:=hD A;have a0:=hD a4;have c1:=hD am;have b1:=hD a8;have bx:=hD b9;have G:=hD ad;have j:=hD (aI al (aI a9 (aI t (aI K ai))));have c4:=hD bo;have b2:=hD T.symm;clear H A a4 am a8 b9 al a9 t ai K bo T X bb;unfold eS;go_enter Tryz.func139,Tryz.ntmps139;go_upto_region 1 with fail;rw[b2.O,<-b1.O];clear b2;go_wp2_with fail
 go_quiet (fail)
 obtain⟨a2,V⟩:=eX ((s.setCell ⟨fb,10,none⟩ (.pointer (some ⟨g,0,none⟩))).drewN nq);rw[<-V];have Y:aa (λb=>b=fb) s a2:=by rw[V];exact(ag _ _ _ _).drewN nq
 have cf:w.heap.size<=g/\g<s.heap.size:=⟨zl b1.O.symm,a0.O.lt⟩
 have bc:g≠fb:=λe=>ae.ne_ a0.O P.O.J (by decide) e
 have aE:Hd (aT a2 (λb=>F b\/w.heap.size<=b/\b<s.heap.size) fb {L with wp:=.pointer (some ⟨g,0,none⟩)} p {f with waits:=some o}):=hD ((P.O.mo λb m=>.inl m).td Y (by rw[V];exact(P.O.J.s_ 10 _).drewN nq) rfl rfl rfl rfl rfl rfl ⟨g,.inr cf,rfl,Y.J a0.O bc⟩ P.O.rp);have bn:=(aE.O.opens_at (kb:=kb) (c:=c) G.O)
 have B:f.os.length=n-C:=by rw[dW,j.O.1,j.O.2.1]
 have u:=jD (some ⟨kb,f.joined*4,none⟩) f.os (c-C) a2 bn (by rw[dW];exact lT (Nat.sub_le _ _) (by rw[<-j.O.1];exact lT j.O.2.2.2.2 (by decide)));rw[B,c4.O,<-j.O.2.1] at u;have c2:=hD u;have b3:=hD Y;clear bn B u Y V N a5 D E bc;go_wp2_with fail;refine c2.O.mono ?_;rintro e a3 ⟨rfl,an⟩;have b4:=hD an;have l:=aE.O.kp an nG;have D:=l.J.I 8;have E:=l.J.I 9;have N:=l.J.I 10;have cb:=l.J.fz 9;have a5:=l.J.fz 10;simp[cC,G.O,<-j.O.1] at D E N;have x:=hD l;clear an l;go_wp2_with fail;obtain⟨Q,W⟩:=eX ((a3.setCell ⟨fb,10,none⟩ (.pointer none)).setCell ⟨fb,9,none⟩ (.int .i64 (n:Int)));rw[<-W];have Z:aa (λb=>b=fb) a3 Q:=by rw[W];exact aB (ag _ _ _ _)
 have br:Hd (aT Q (λb=>F b\/w.heap.size<=b/\b<s.heap.size) fb {L with wp:=.pointer none} p {f with waits:=none,joined:=f.kd.length}):=hD (x.O.td Z (by
  rw[W,j.O.1];exact(x.O.J.s_ 10 _).s_ 9 _) rfl rfl rfl rfl rfl rfl rfl x.O.rp)
 have cg:∃az,ae a3 kb 260 az:=by
  rcases x.O.kv_form with⟨e,_⟩|⟨cn,c',e,_,ch,_⟩
  ·have:=G.O
   rw[show L.kv=.slice none 0 0 from e] at this
   cases this
  ·have S:=G.O
   rw[show L.kv=.slice (some ⟨cn,0,none⟩) _ c' from e] at S;injection S with l;injection l with h4;injection h4 with h5;rw[<-h5];exact ch
 obtain⟨az,X⟩:=cg;have ab:fO Q (some ⟨kb,f.joined*4,none⟩) f.os:=(x.O.opens_at (kb:=kb) (c:=c) G.O).keep_ Z (λe=>ae.ne_ X x.O.J (by decide) e);have B:f.os.length=n-C:=by rw[dW,j.O.1,j.O.2.1]
 have u:=kI (some ⟨kb,f.joined*4,none⟩) f.os (c-C) Q ab (by rw[dW];exact lT (Nat.sub_le _ _) (by rw[<-j.O.1];exact lT j.O.2.2.2.2 (by decide)))
 have bk:0<=eZ (λk=>k.r.e !=0) f.os 0:=by
  have z:=kT f.os
  cases hfd:f.os.find? (λk=>k.r.e !=0) with
  |none=>rw[hfd] at z;exact absurd z bv.O
  |some y=>
   have:f.os.any (λk=>k.r.e !=0)=true:=zT.2 ⟨y,List.mem_of_find?_eq_some hfd,List.find?_some (p:=λk:cD=>k.r.e !=0) hfd⟩;rw[<-li _ _ 0] at this;exact yD this
 obtain⟨i,y,a6,R,cd,b7⟩:=rR _ f.os 0 bk;have b8:fz (dF f.os)=y.r.e:=by rw[kT,b7]
 rw[yq] at a6;rw[B,<-j.O.2.1,a6] at u;have bm:i<n-C:=by rw[<-B];exact(gS R).1
 have c3:=hD u;have c0:=hD ab;have bz:=hD R;have bt:=hD b8;have b5:=hD Z;have cv:=dN i;have cB:=cN bm;clear u ab a6 R cd b7 b8 Z bk B X W D E N cb a5 bm;refine c3.O.mono ?_;rintro e b6 ⟨rfl,ar⟩;have a1:=hD ar;obtain⟨b,d0,a7,ba⟩:=c0.O.kp ar i y bz.O;injection a7 with a7;injection a7 with z e2;subst z;subst e2;have bq:=ba 3 _ rfl;rw[<-j.O.2.1] at bq;clear ar ba;go_wp2_with fail;have av:aa (λb=>b=fb) w b6:=((((c1.O.mono λ_ e=>e.elim).trans b3.O).trans (b4.O.mono λ_ e=>e.elim)).trans b5.O).trans (a1.O.mono λ_ e=>e.elim);have aw:aa (λb=>b=fb) s b6:=(((b3.O).trans (b4.O.mono λ_ e=>e.elim)).trans b5.O).trans (a1.O.mono λ_ e=>e.elim);have b0:=br.O.kp a1.O nG
 have bf:=kG y.r.e (λb m=>by
  rcases m with m|m
  ·exact lL (bx.O b m) av.size
  ·exact lL m.2 aw.size) b0
 refine bf.mono ?_;intro e d5 k;have⟨q,v,z,ci,ck,cm,bp⟩:=k;subst z;have c5:=hD k;have c7:=hD bp;have c8:=hD av;have c9:=hD aw;clear k ci ck cm bp b0 bf av aw bq;go_wp2_with fail;go_ret;refine⟨{L with wp:=.pointer none},?_⟩;rw[bt.O];exact c5.O.wide c8.O (λb m=>m.imp id λe=>⟨e.1,lL e.2 (lT c9.O.size c7.O.size)⟩)
end
def sP:Array Value:=#[.int .u8 1,.string ⟨#[]⟩,.int .i64 0,.slice none 0 0,.int .i64 0,.int .i64 0,.int .i64 0]
def hU(s:gT)(A:Option Addr)(c:Nat):Array Value:=
 match s with
 | .more=>sP
 | .fork t=>kQ t A c
 | .join=>mf
 | .done r=>me r
def bC(w w':World)(b:Nat):Prop:=w.heap.size<=b/\b<w'.heap.size
def eC(w w':World)(F:Nat->Prop)(fb:Nat)(p:List aj)(x:Fr×Option gT)(e:Ending):Prop:=
 (∃L',aT w' (λb=>F b\/bC w w' b) fb L' p x.1)/\aa F w w'/\
  match x.2 with
  |none=>e=.returned (.pointer none)
  |some s=>∃q A c,e=.returned (.pointer (some ⟨q,0,none⟩))/\w.heap.size<=q/\ae w' q 181 (hU s A c)/\(∀t,s=.fork t->aU w' (bC w w') A t.args)
theorem eC.ptr{w w':World}{F:Nat->Prop}{fb:Nat}{p:List aj}{x:Fr×Option gT}{b:Ending}(a:eC w w' F fb p x b):(x.2=none/\b=.returned (.pointer none))\/∃s q A c,x.2=some s/\b=.returned (.pointer (some ⟨q,0,none⟩))/\ae w' q 181 (hU s A c):=by
 obtain⟨_,_,a⟩:=a
 cases hx:x.2 with
 |none=>rw[hx] at a;exact .inl ⟨rfl,a⟩
 |some s=>
  rw[hx] at a;obtain⟨q,A,c,d,g,e,_⟩:=a;exact .inr ⟨s,q,A,c,rfl,d,e⟩
theorem eC.back{g w w':World}{F F':Nat->Prop}{fb:Nat}{p:List aj}{x:Fr×Option gT}{d:Ending}(n:eC w w' F' fb p x d)(o:aa F g w)(l:∀b,F' b->F b\/bC g w b):eC g w' F fb p x d:=by
 obtain⟨⟨m,r⟩,j,e⟩:=n;have i:=o.size;have v:=j.size
 have u:∀b,F' b\/bC w w' b->F b\/bC g w' b:=λb a=>by
  rcases a with a|a
  ·exact(l b a).imp id λk=>⟨k.1,lL k.2 v⟩
  ·exact .inr ⟨lT i a.1,a.2⟩
 refine⟨⟨m,r.mo u⟩,o.trans' j (λb a=>(l b a).imp id λk=>k.1),?_⟩
 ·cases hx:x.2 with
  |none=>rw[hx] at e;exact e
  |some s=>
   rw[hx] at e;obtain⟨q,A,c,y,z,B,C⟩:=e;exact⟨q,A,c,y,lT i z,B,λt d=>(C t d).mo λb a=>⟨lT i a.1,a.2⟩⟩
theorem iQ.tell{w w':World}{F F':Nat->Prop}{fb:Nat}{L:gl}{p:List aj}{f:Fr}{x:aO}{a:Ending}(c:iQ w w' F' fb L p f x a)(k:∀b,F' b->F b\/bC w w' b)(l:F fb):eC w w' F fb p (f.ended x) a:=by
 obtain⟨q,v,d,e,g,i,j⟩:=c;exact⟨⟨_,i.mo k⟩,j.mono λb a=>by rw[a];exact l,q,none,0,d,e,g,λt a=>by cases a⟩
theorem aG{a k:Nat}{x:Int}(e:x=(k:Int)+1)(d:k<a):a-(intOf (.int .i64 x)).toNat<a-(intOf (.int .i64 (k:Int))).toNat:=by
 have b:(intOf (.int .i64 x))=x:=rfl;have c:(intOf (.int .i64 (k:Int)))=k:=rfl;rw[b,c];omega
theorem rS(c:cD->Bool):∀(l:List cD) (k:Nat),l.any c=false->eZ c l k= -1
 | [],k,_=>rfl
 |a :: l,k,b=>by
  rw[List.any_cons,Bool.or_eq_false_iff] at b;unfold eZ;rw[yb (by rw[b.1];simp)];exact rS c l (k+1) b.2
theorem vN{l:List cD}(a:fz (dF l)=0):eZ (λk=>k.r.e !=0) l 0= -1:=by
 refine rS _ _ _ ?_;rw[kT] at a
 cases hf:l.find? (λk=>k.r.e !=0) with
 |none=>exact zI.2 λx b=>List.find?_eq_none.1 hf x b
 |some y=>
  rw[hf] at a;have:=List.find?_some hf;simp only at a;rw[a] at this;simp at this
theorem qJ:∀(l:List (Int×aO)) (c:Int×aO) (regs:List Int),fc (l++ [c]) regs=iX (fc l regs) c.1 c.2.v
 | [],c,regs=>rfl
 |a :: l,c,regs=>by rw[Ye];unfold fc;exact qJ l c _
theorem xz(l:List cD)(k:Nat)(y:cD)(a:l[k]?=some y)(regs:List Int):fc (dF (l.take (k+1))) regs=iX (fc (dF (l.take k)) regs) y.into y.r.v:=by
 have c:k<l.length:=(gS a).1
 have b:l.take (k+1)=l.take k++ [y]:=by
  rw[yO,a];rfl
 rw[b];unfold dF;rw[yS];exact qJ _ (y.into,y.r) regs
section
variable {w w':World}{F F':Nat->Prop}{fb:Nat}{L:gl}{p:List aj}{f:Fr}
theorem wA(o:bQ)(dn:∀b,F b->b<w.heap.size)(a7:aT w F fb L p f)(ci:f.os.any (λc=>!c.given)=false)(C:f.joined<f.kd.length)(cf:f.kd.length<=16)(c5:fz (dF f.os)=0)
 (dv:∀k∈f.kd,0<=k.into/\k.into<f.rg.length) (dz:o.k=14->0<=o.a/\o.a<f.rg.length) (e4:f.rg.length<=16):
 Calls Tryz.prog 139 #[.pointer (some ⟨fb,0,none⟩),eS o] w λe w'=>eC w w' F fb p (f.joins o) e:=by
 obtain⟨m,c6⟩:=eX ({f with waits:=none,joined:=f.kd.length,rg:=fc (dF f.os) f.rg}:Fr)
 have dq:f.joins o=if o.k=14 then m.ended ⟨cI m.rg o.a,0⟩ else(m,none):=by
  rw[c6];unfold Fr.joins;rw[yb (by rw[ci];simp),yb (by rw[c5];simp)]
 rw[dq]
 rcases a7.kv_form with⟨_,f7⟩|⟨kb,c,ce,fx,⟨ba,X⟩,_⟩
 ·rw[f7] at C
  exact absurd C (zZ _)
 obtain⟨t,b0⟩:=eX (w.alloc (.cells #[.int .u8 o.k,.int .i64 o.d,.int .i64 o.a,.int .i64 o.b,.int .i64 o.n] 106));have cp:ac w t:=by rw[b0];exact(aa.refl _ w).alloc _
 have bv:ae t w.heap.size 106 #[.int .u8 o.k,.int .i64 o.d,.int .i64 o.a,.int .i64 o.b,.int .i64 o.n]:=by rw[b0];exact bN
 have R:=a7.kp cp nG;obtain⟨g,c8⟩:=eX w.heap.size;rw[<-c8] at bv;have an:=R.J.I 10;have bz:=R.J.fz 10;simp[cC] at an;have Z:=R.J.I 8;have a0:=R.J.I 9;simp[cC,ce] at Z a0;have ef:=hD c5
 have ab:f.kd.length<=c:=by
  have:=a7.kd;rw[ce] at this
  rcases cT this with⟨e,_⟩|⟨az,bx,e,aE,_⟩
  ·cases e
  ·injection e with _ _ e3
   rw[e3];exact aE
 obtain⟨n,ch⟩:=eX f.kd.length;obtain⟨x,cb⟩:=eX f.joined;rw[<-ch] at Z ab C cf;rw[<-cb] at a0 C;obtain⟨g4,g5,g6,g7⟩:=lQ C ab;have fv:¬c=x:=λe=>absurd (lL C ab) (by rw[e];exact yQ _)
 have a3:=hD a7;have a1:=hD R;have a2:=hD bv;have eq:=hD cp;have d4:=hD c8;have eg:=hD dn;have a4:=hD ce;have l:=hD (aI ch (aI cb (aI C (aI ab cf))));have eL:=hD ci;have d3:=hD c6;have el:=hD dv;have es:=hD dz;have fs:=hD e4;have d5:=hD b0.symm;clear a7 R bv cp c8 dn ch cb C cf ab ci b0 X c5 dq c6 dv dz e4;obtain⟨br,c2⟩:=eX ((if o.k=14 then m.ended ⟨cI m.rg o.a,0⟩ else(m,none)));rw[<-c2];have d7:=hD c2;clear c2;unfold eS;go_enter Tryz.func139,Tryz.ntmps139;go_upto_region 1 with fail;rw[d5.O,<-d4.O];clear d5;go_wp2_with fail
 go_quiet (fail)
 obtain⟨bp,b1⟩:=eX ((t.setCell ⟨fb,10,none⟩ (.pointer (some ⟨g,0,none⟩))).drewN nq);rw[<-b1];have al:aa (λb=>b=fb) t bp:=by rw[b1];exact(ag _ _ _ _).drewN nq
 have f8:w.heap.size<=g/\g<t.heap.size:=⟨zl d4.O.symm,a2.O.lt⟩
 have S:g≠fb:=λe=>ae.ne_ a2.O a1.O.J (by decide) e
 have d0:Hd (aT bp (λb=>F b\/w.heap.size<=b/\b<t.heap.size) fb {L with wp:=.pointer (some ⟨g,0,none⟩)} p {f with waits:=some o}):=hD ((a1.O.mo λb j=>.inl j).td al (by rw[b1];exact(a1.O.J.s_ 10 _).drewN nq) rfl rfl rfl rfl rfl rfl ⟨g,.inr f8,rfl,al.J a2.O S⟩ a1.O.rp);have dr:=(d0.O.opens_at (kb:=kb) (c:=c) a4.O)
 have cg:f.os.length=n-x:=by rw[dW,l.O.1,l.O.2.1]
 have bf:=hD cg;have H:=jD (some ⟨kb,f.joined*4,none⟩) f.os (c-x) bp dr (by rw[dW];exact lT (Nat.sub_le _ _) (by rw[<-l.O.1];exact lT l.O.2.2.2.2 (by decide)));rw[cg,eL.O,<-l.O.2.1] at H;have er:=hD H;have d8:=hD al;have eb:=hD (al.J a2.O S);clear dr cg H al b1 an bz Z a0 S;go_wp2_with fail;refine er.O.mono ?_;rintro e bq ⟨rfl,cq⟩;have bm:=hD cq;have u:=d0.O.kp cq nG;have Z:=u.J.I 8;have a0:=u.J.I 9;have an:=u.J.I 10;have f6:=u.J.fz 9;have bz:=u.J.fz 10;simp[cC,a4.O,<-l.O.1] at Z a0 an;have E:=hD u;clear cq u;go_wp2_with fail;obtain⟨P,b2⟩:=eX ((bq.setCell ⟨fb,10,none⟩ (.pointer none)).setCell ⟨fb,9,none⟩ (.int .i64 (n:Int)));rw[<-b2];have Y:aa (λb=>b=fb) bq P:=by rw[b2];exact aB (ag _ _ _ _)
 have e9:Hd (aT P (λb=>F b\/w.heap.size<=b/\b<t.heap.size) fb {L with wp:=.pointer none} p {f with waits:=none,joined:=f.kd.length}):=hD (E.O.td Y (by
  rw[b2,l.O.1];exact(E.O.J.s_ 10 _).s_ 9 _) rfl rfl rfl rfl rfl rfl rfl E.O.rp)
 have fa:∃ba,ae bq kb 260 ba:=by
  rcases E.O.kv_form with⟨e,_⟩|⟨fm,c',e,_,fj,_⟩
  ·have:=a4.O
   rw[show L.kv=.slice none 0 0 from e] at this
   cases this
  ·have aE:=a4.O
   rw[show L.kv=.slice (some ⟨fm,0,none⟩) _ c' from e] at aE;injection aE with u;injection u with h4;injection h4 with h5;rw[<-h5];exact fj
 obtain⟨ba,X⟩:=fa;have cd:fO P (some ⟨kb,f.joined*4,none⟩) f.os:=(E.O.opens_at (kb:=kb) (c:=c) a4.O).keep_ Y (λe=>ae.ne_ X E.O.J (by decide) e);have e7:ae P kb 260 ba:=Y.J X (λe=>ae.ne_ X E.O.J (by decide) e);have S:g≠fb:=λe=>ae.ne_ a2.O a1.O.J (by decide) e
 have dp:ae P g 106 #[.int .u8 o.k,.int .i64 o.d,.int .i64 o.a,.int .i64 o.b,.int .i64 o.n]:=Y.J (bm.O.J eb.O nF) S;have H:=kI (some ⟨kb,f.joined*4,none⟩) f.os (c-x) P cd (by rw[dW];exact lT (Nat.sub_le _ _) (by rw[<-l.O.1];exact lT l.O.2.2.2.2 (by decide)));rw[bf.O,<-l.O.2.1,vN ef.O] at H;have ex:=hD H;have ej:=hD cd;have f2:=hD e7;have ec:=hD dp;have dk:=hD Y;clear H cd e7 dp Y X b2 Z a0 an f6 bz S;refine ex.O.mono ?_;rintro e av ⟨rfl,K⟩;have bb:=hD (e9.O.kp K nG);have d1:=hD (K.J ec.O nF);have f3:=hD (K.J f2.O nF);have ek:=hD (ej.O.kp K);have bn:Hd (aa F w av):=hD (((((eq.O.mono λ_ e=>e.elim).trans (d8.O.mono λb e=>by rw[e];exact a3.O.ff)).trans (bm.O.mono λ_ e=>e.elim)).trans (dk.O.mono λb e=>by rw[e];exact a3.O.ff)).trans (K.mono λ_ e=>e.elim));have bo:Hd (t.heap.size<=av.heap.size):=hD (lT d8.O.size (lT bm.O.size (lT dk.O.size K.size)));clear K;go_wp2_with fail
 go_loopw [50] (λi wr=>∃k:Nat,k<=n-x/\i=.int .i64 k/\aa (λb=>b=L.rb) av wr/\aT wr (λb=>F b\/w.heap.size<=b/\b<t.heap.size) fb {L with wp:=.pointer none} p {f with waits:=none,joined:=f.kd.length,rg:=fc (dF (f.os.take k)) f.rg}) (λi _=>(n-x)-(intOf i).toNat)
 case atStart=>exact⟨0,yx _,rfl,oR,bb.O⟩
 case round=>
  obtain⟨k,fw,rfl,V,T⟩:=hrel
  by_cases G:k<n-x
  ·have g0:(0:Int)<=(k:Int):=dN k
   have f9:(k:Int)<((n-x:Nat):Int):=cN G;have dw:k<f.os.length:=by rw[bf.O];exact G
   have b7:f.os[k]?=some f.os[k]:=gG dw;obtain⟨b,g3,c0,ad⟩:=(ek.O.keep_ V (λe=>ae.ne_ f3.O bb.O.rg (by decide) e)) k f.os[k] b7;generalize f.os[k] =y at*;injection c0 with c0;injection c0 with a6 e2;subst a6;subst e2;have cB:=ad 0 _ rfl;have fo:=ad 1 _ rfl;have fp:=ad 2 _ rfl;have fq:=ad 3 _ rfl;rw[yW] at cB;rw[<-l.O.2.1] at cB fo fp fq;have cn:=el.O y (mO (yh b7));obtain⟨d,b5⟩ :∃d:Nat,y.into=(d:Int):=ym cn.1;have b6:d<f.rg.length:=by have:=cn.2;rw[b5] at this;exact yB.1 this
   obtain⟨am,D⟩:=eX f.rg.length;have N:=T.J.I 5;simp[cC,iW,<-D] at N;rw[<-D] at b6;have fk:=dN d;have fl:=cN b6;obtain⟨B,b3⟩:=eX (wr.alloc (.cells #[.int .i64 (d:Int),.bool y.given,.int .i64 y.r.v,.int .i64 y.r.e] 260));have b9:ac wr B:=by rw[b3];exact(aa.refl _ wr).alloc _
   have aw:ae B wr.heap.size 260 #[.int .i64 (d:Int),.bool y.given,.int .i64 y.r.v,.int .i64 y.r.e]:=by rw[b3];exact bN
   obtain⟨ft,c9⟩:=eX wr.heap.size;rw[<-c9] at aw;have bc:=hD (T.kp b9 nG)
   have fn:B.cell? ⟨fb,5,none⟩=some (.slice (some ⟨L.rb,0,none⟩) am L.rc):=by
    rw[<-N];exact b9.I (p:=⟨fb,5,none⟩) (block_lt_of_cell N) nF
   have dl:=aw.I 0;have bx:=aw.I 2;simp at dl bx;have e5:(fc (dF (f.os.take k)) f.rg).length=am:=by rw[iW,D]
   have b8:B.cell? ⟨L.rb,d,none⟩=some (.int .i64 ((fc (dF (f.os.take k)) f.rg).getD d 0)):=ey bc.O.rg (by rw[e5];exact b6);have e1:B.frozen? ⟨L.rb,d,none⟩=false:=bc.O.rg.fz d;have z:=hD V;have em:=hD b7;have ee:=hD b5;have f4:=hD b9;have d6:=hD b3.symm;have ei:=hD c9;rw[b5] at cB;clear V b7 b5 b9 aw T ad dw cn b6 D e5 N b3 c9;go_upto_region 12 with fail;rw[d6.O,<-ei.O];clear d6
   go_still_tail 10,(by kernel_rfl)
   change wpList _ _ _ _ _ B.drew;obtain⟨a5,a9⟩:=eX B.drew;rw[<-a9];have g1:a5.cell? ⟨L.rb,d,none⟩=some (.int .i64 ((fc (dF (f.os.take k)) f.rg).getD d 0)):=by rw[a9];exact b8
   have g2:a5.frozen? ⟨L.rb,d,none⟩=false:=by rw[a9];exact e1
   have cr:ac B a5:=by rw[a9];exact oR.drew
   have ea:=hD ((bc.O.kp cr nG).reg_put d y.r.v)
   have e0:fc (dF (f.os.take (k+1))) f.rg=(fc (dF (f.os.take k)) f.rg).set d y.r.v:=by
    rw[xz _ _ _ em.O,ee.O];unfold iX;rw[yo]
   have f0:=hD e0;have f5:Hd (aa (λb=>b=L.rb) av (a5.setCell ⟨L.rb,d,none⟩ (.int .i64 y.r.v))):=hD (aB (((z.O).trans (f4.O.mono λ_ e=>e.elim)).trans (cr.mono λ_ e=>e.elim)));clear a9 cr b8 e1 e0 fn dl bx;go_wp2_with fail;have cm:wrap64 ((k:Int)+1)=(k:Int)+1:=nC (lL G (lT (Nat.sub_le _ _) l.O.2.2.2.2));go_roundw
   case rel=>exact⟨k+1,G,by first|exact cH cm|exact yl (Value.int .i64) (((cQ _).trans cm).trans (kt k).symm),f5.O,by rw[f0.O];exact ea.O⟩
   case measure=>exact aG cm G
  ·have f9:¬(k:Int)<((n-x:Nat):Int):=λe=>G (yB.1 e)
   have ds:f.os.take k=f.os:=by
    rw[List.take_of_length_le];rw[bf.O];exact yA G
   rw[ds,<-d3.O] at T;have ar:=hD T;have z:=hD V;have bt:ae wr g 106 #[.int .u8 o.k,.int .i64 o.d,.int .i64 o.a,.int .i64 o.b,.int .i64 o.n]:=V.J d1.O (λe=>ae.ne_ d1.O bb.O.rg (by decide) e);have cs:=bt.I 0;have cv:=bt.I 2;simp at cs cv;clear T V bt ds
   by_cases a8:o.k=14
   ·have ai:br=m.ended ⟨cI m.rg o.a,0⟩:=by rw[d7.O,yf a8]
    obtain⟨dm,az⟩:=es.O a8;obtain⟨Q,b4⟩ :∃Q:Nat,o.a=(Q:Int):=ym dm;obtain⟨am,D⟩:=eX f.rg.length;have c7:m.rg.length=am:=by rw[d3.O,D];exact iW _ _
    have c3:Q<am:=by rw[b4,<-D] at az;exact yB.1 az
    have fk:=dN Q;have fl:=cN c3;have N:=ar.O.J.I 5;simp[cC,c7] at N
    have b8:wr.cell? ⟨L.rb,Q,none⟩=some (.int .i64 (cI m.rg o.a)):=by
     have:=ey ar.O.rg (i:=Q) (by rw[c7];exact c3);unfold cI;rw[b4,yo];exact this
    rw[a8] at cs;rw[b4] at cv;generalize cI m.rg o.a=e8 at*;have e6:w.heap.size<=wr.heap.size:=lT bn.O.size z.O.size
    have d2:Hd (∀W,ac wr W->Calls Tryz.prog 174 #[.pointer (some ⟨fb,0,none⟩),eT ⟨e8,0⟩] W λe w'=>eC w w' F fb p br e):=hD λW c1=>by
     have ck:=c1.size;refine(lu ⟨e8,0⟩ (λb j=>?_) (ar.O.kp c1 nG)).mono ?_
     ·rcases j with j|j
      ·exact lL (eg.O b j) (lT e6 ck)
      ·exact lL j.2 (lT bo.O (lT z.O.size ck))
     ·intro e w' k
      rw[ai];refine(k.tell (F:=λb=>F b\/w.heap.size<=b/\b<t.heap.size) (λb j=>.inl j) (.inl a3.O.ff)).back ((bn.O.trans (z.O.mono λb e=>by rw[e];exact a3.O.fr)).trans (c1.mono λ_ e=>e.elim)) (λb j=>j.imp id λk=>⟨k.1,lL k.2 (lT bo.O (lT z.O.size ck))⟩)
    clear ai dm az b4 D c7 c3 e6 a8;unfold eT at d2;go_wp2_with fail
    go_still_tail 10,(by kernel_rfl)
    change wpList _ _ _ _ _ wr.drew;have c4:=d2.O wr.drew oR.drew;generalize wr.drew=a5 at*;clear N cs cv b8;go_wp2_with fail;refine c4.mono ?_;intro e w' k
    rcases k.ptr with⟨_,a6⟩|⟨s,q,A,c',_,a6,_⟩
    ·subst a6
     have bk:=hD k;clear k c4;go_wp2_with fail;go_ret;exact bk.O
    ·subst a6
     have bk:=hD k;clear k c4;go_wp2_with fail;go_ret;exact bk.O
   ·have ai:br=(m,none):=by rw[d7.O,yb a8]
    have f1:=hD ai;clear ai;go_wp2_with fail;go_ret;have fd:=lT bo.O z.O.size;rw[f1.O];exact⟨⟨_,ar.O.mo λb j=>j.imp id λk=>⟨k.1,lL k.2 fd⟩⟩,bn.O.trans (z.O.mono λb e=>by rw[e];exact a3.O.fr),rfl⟩
end
theorem uL(n:Nat):(0:Int)<=(n:Int)/\(n:Int)<=(n:Int):=by omega
theorem vE{n c:Nat}(a:n<=c):(n:Int)<=(c:Int):=by omega
section
variable {w w':World}{F F':Nat->Prop}{fb:Nat}{L:gl}{p:List aj}{f:Fr}
theorem wB(o:bQ)(bv:∀b,F b->b<w.heap.size)(G:aT w F fb L p f)(az:f.joined=f.kd.length)(ck:f.kd.length<=16)
 (bx:o.k=14->0<=o.a/\o.a<f.rg.length) (bz:f.rg.length<=16):
 Calls Tryz.prog 139 #[.pointer (some ⟨fb,0,none⟩),eS o] w λe w'=>eC w w' F fb p (f.joins o) e:=by
 have bt:f.os= []:=by unfold Fr.os;rw[az];exact zq
 obtain⟨l,bq⟩:=eX ({f with waits:=none,joined:=f.kd.length}:Fr)
 have cq:f.joins o=if o.k=14 then l.ended ⟨cI l.rg o.a,0⟩ else(l,none):=by
  rw[bq];unfold Fr.joins;rw[bt];rfl
 rw[cq];obtain⟨aw,bp⟩:=eX ((if o.k=14 then l.ended ⟨cI l.rg o.a,0⟩ else(l,none)));rw[<-bp];clear cq;obtain⟨m,bb⟩:=eX (w.alloc (.cells #[.int .u8 o.k,.int .i64 o.d,.int .i64 o.a,.int .i64 o.b,.int .i64 o.n] 106));have a0:ac w m:=by rw[bb];exact(aa.refl _ w).alloc _
 have bo:ae m w.heap.size 106 #[.int .u8 o.k,.int .i64 o.d,.int .i64 o.a,.int .i64 o.b,.int .i64 o.n]:=by rw[bb];exact bN
 obtain⟨g,br⟩:=eX w.heap.size;rw[<-br] at bo;obtain⟨n,av⟩:=eX f.kd.length
 rcases G.kv_form with⟨ar,cp⟩|⟨kb,c,ar,cr,⟨d8,cs⟩,_⟩
 ·have d3:n=0:=by rw[av,cp];rfl
  subst d3;have H:=(G.kp a0 nG).J.I 8;have K:=(G.kp a0 nG).J.I 9;simp[cC,ar,az,<-av] at H K;clear cp;have Q:=G.kp a0 nG;have E:=Q.J.I 10;have a7:=Q.J.fz 10;simp[cC] at E;have a3:=hD G;have v:=hD Q;have x:=hD bo;have c7:=hD a0;have b1:=hD br;have c5:=hD bv;have c6:=hD ar;have an:=hD (aI av (aI az bt));have b0:=hD bq;have b3:=hD bp;have c9:=hD bx;have cm:=hD bz;have b2:=hD bb.symm;have c8:Hd (∀A c W,Calls Tryz.prog 169 #[.slice A 0 c,.func (.func 170) #[] #[]] W λe w'=>e=.returned (.bool false)/\ac W w'):=hD λA c W=>jD A [] c W (i9 A W) (yx _)
  have cb:Hd (∀A c W,Calls Tryz.prog 171 #[.slice A 0 c,.func (.func 172) #[] #[]] W λe w'=>e=.returned (.int .i64 (-1))/\ac W w'):=hD λA c W=>kI A [] c W (i9 A W) (yx _)
  clear G Q bo a0 br bv av az bb bq bx bz bp ck bt ar;unfold eS;go_enter Tryz.func139,Tryz.ntmps139;go_upto_region 1 with fail;rw[b2.O,<-b1.O];clear b2;go_wp2_with fail
  go_quiet (fail)
  obtain⟨b7,R⟩:=eX ((m.setCell ⟨fb,10,none⟩ (.pointer (some ⟨g,0,none⟩))).drewN nq);rw[<-R];have C:aa (λb=>b=fb) m b7:=by rw[R];exact(ag _ _ _ _).drewN nq
  have cg:w.heap.size<=g/\g<m.heap.size:=⟨zl b1.O.symm,x.O.lt⟩
  have u:g≠fb:=λe=>ae.ne_ x.O v.O.J (by decide) e
  have c0:Hd (aT b7 (λb=>F b\/w.heap.size<=b/\b<m.heap.size) fb {L with wp:=.pointer (some ⟨g,0,none⟩)} p {f with waits:=some o}):=hD ((v.O.mo λb j=>.inl j).td C (by rw[R];exact(v.O.J.s_ 10 _).drewN nq) rfl rfl rfl rfl rfl rfl ⟨g,.inr cg,rfl,C.J x.O u⟩ v.O.rp);have b4:=hD C;have c2:=hD (C.J x.O u);clear C R E a7 H K u;go_wp2_with fail;refine(c8.O _ _ _).mono ?_;rintro e b8 ⟨rfl,V⟩;have b5:=hD V;have r:=c0.O.kp V nG;have H:=r.J.I 8;have K:=r.J.I 9;have E:=r.J.I 10;have ce:=r.J.fz 9;have a7:=r.J.fz 10;simp[cC,c6.O] at H K E;have a2:=hD r;have c3:=hD (V.J c2.O nF);clear V r;go_wp2_with fail;obtain⟨b9,S⟩:=eX ((b8.setCell ⟨fb,10,none⟩ (.pointer none)).setCell ⟨fb,9,none⟩ (.int .i64 (0:Int)));rw[<-S];have X:aa (λb=>b=fb) b8 b9:=by rw[S];exact aB (ag _ _ _ _)
  have c1:Hd (aT b9 (λb=>F b\/w.heap.size<=b/\b<m.heap.size) fb {L with wp:=.pointer none} p l):=hD (by
   rw[b0.O]
   exact a2.O.td X (by
    have cf:(0:Int)=((f.kd.length:Nat):Int):=by first|(rw[<-an.O.1];done)|(rw[<-an.O.1];rfl)
    rw[S,cf];exact(a2.O.J.s_ 10 _).s_ 9 _) rfl rfl rfl rfl rfl rfl rfl a2.O.rp)
  have u:g≠fb:=λe=>ae.ne_ x.O v.O.J (by decide) e
  have c4:=hD (X.J c3.O u);have b6:=hD X;clear X S H K E ce a7 u;refine(cb.O _ _ _).mono ?_;rintro e am ⟨rfl,D⟩;have y:=hD (c1.O.kp D nG);have a5:=D.J c4.O nF;have Y:=a5.I 0;have Z:=a5.I 2;simp at Y Z;have N:Hd (aa F w am):=hD (((((c7.O.mono λ_ e=>e.elim).trans (b4.O.mono λb e=>by rw[e];exact a3.O.ff)).trans (b5.O.mono λ_ e=>e.elim)).trans (b6.O.mono λb e=>by rw[e];exact a3.O.ff)).trans (D.mono λ_ e=>e.elim));have P:Hd (m.heap.size<=am.heap.size):=hD (lT b4.O.size (lT b5.O.size (lT b6.O.size D.size)));clear D a5;go_wp2_with fail;have d0:=cQ
  go_loopw [50] (λi wr=>i=.int .i64 0/\wr=am) (λi _=>0)
  case atStart=>exact⟨rfl,rfl⟩
  case round=>
   obtain⟨rfl,bf⟩:=hrel;rw[<-bf] at y N P Y Z;clear bf
   by_cases z:o.k=14
   ·have B:aw=l.ended ⟨cI l.rg o.a,0⟩:=by rw[b3.O,yf z]
    obtain⟨ba,a1⟩:=c9.O z;obtain⟨t,T⟩ :∃t:Nat,o.a=(t:Int):=ym ba;obtain⟨bk,ai⟩:=eX f.rg.length;have ad:l.rg.length=bk:=by rw[b0.O,ai]
    have a9:t<bk:=by rw[T,<-ai] at a1;exact yB.1 a1
    have cv:=dN t;have cB:=cN a9;have bn:=y.O.J.I 5;simp[cC,ad] at bn
    have ch:wr.cell? ⟨L.rb,t,none⟩=some (.int .i64 (cI l.rg o.a)):=by
     have:=ey y.O.rg (i:=t) (by rw[ad];exact a9);unfold cI;rw[T,yo];exact this
    rw[z] at Y;rw[T] at Z;generalize cI l.rg o.a=bm at*;have bc:w.heap.size<=wr.heap.size:=N.O.size
    have aE:Hd (∀W,ac wr W->Calls Tryz.prog 174 #[.pointer (some ⟨fb,0,none⟩),eT ⟨bm,0⟩] W λe w'=>eC w w' F fb p aw e):=hD λW a8=>by
     have al:=a8.size;refine(lu ⟨bm,0⟩ (λb j=>?_) (y.O.kp a8 nG)).mono ?_
     ·rcases j with j|j
      ·exact lL (c5.O b j) (lT bc al)
      ·exact lL j.2 (lT P.O al)
     ·intro e w' k
      rw[B];refine(k.tell (F:=λb=>F b\/w.heap.size<=b/\b<m.heap.size) (λb j=>.inl j) (.inl a3.O.ff)).back (N.O.trans (a8.mono λ_ e=>e.elim)) (λb j=>j.imp id λk=>⟨k.1,lL k.2 (lT P.O al)⟩)
    clear B ba a1 T ai ad a9 bc z;unfold eT at aE;go_wp2_with fail
    go_still_tail 10,(by kernel_rfl)
    change wpList _ _ _ _ _ wr.drew;have ab:=aE.O wr.drew oR.drew;generalize wr.drew=cn at*;clear bn Y Z ch;go_wp2_with fail;refine ab.mono ?_;intro e w' k
    rcases k.ptr with⟨_,a6⟩|⟨s,q,A,c',_,a6,_⟩
    ·subst a6
     have a4:=hD k;clear k ab;go_wp2_with fail;go_ret;exact a4.O
    ·subst a6
     have a4:=hD k;clear k ab;go_wp2_with fail;go_ret;exact a4.O
   ·have B:aw=(l,none):=by rw[b3.O,yb z]
    have cd:=hD B;clear B;go_wp2_with fail;go_ret;rw[cd.O];exact⟨⟨_,y.O.mo λb j=>j.imp id λk=>⟨k.1,lL k.2 P.O⟩⟩,N.O,rfl⟩
 ·have ci:f.kd.length<=c:=by
   have:=G.kd;rw[ar] at this
   rcases cT this with⟨e,_⟩|⟨a1,d4,e,d1,_⟩
   ·cases e
   ·injection e with _ _ e3
    rw[e3];exact d1
  rw[<-av] at ci;have H:=(G.kp a0 nG).J.I 8;have K:=(G.kp a0 nG).J.I 9;simp[cC,ar,az,<-av] at H K;obtain⟨d5,d6⟩:=uL n;have d7:=vE ci
  by_cases d2:c=n
  ·subst d2
   clear ci cs cr;have Q:=G.kp a0 nG;have E:=Q.J.I 10;have a7:=Q.J.fz 10;simp[cC] at E;have a3:=hD G;have v:=hD Q;have x:=hD bo;have c7:=hD a0;have b1:=hD br;have c5:=hD bv;have c6:=hD ar;have an:=hD (aI av (aI az bt));have b0:=hD bq;have b3:=hD bp;have c9:=hD bx;have cm:=hD bz;have b2:=hD bb.symm;have c8:Hd (∀A c W,Calls Tryz.prog 169 #[.slice A 0 c,.func (.func 170) #[] #[]] W λe w'=>e=.returned (.bool false)/\ac W w'):=hD λA c W=>jD A [] c W (i9 A W) (yx _)
   have cb:Hd (∀A c W,Calls Tryz.prog 171 #[.slice A 0 c,.func (.func 172) #[] #[]] W λe w'=>e=.returned (.int .i64 (-1))/\ac W w'):=hD λA c W=>kI A [] c W (i9 A W) (yx _)
   clear G Q bo a0 br bv av az bb bq bx bz bp ck bt ar;unfold eS;go_enter Tryz.func139,Tryz.ntmps139;go_upto_region 1 with fail;rw[b2.O,<-b1.O];clear b2;go_wp2_with fail
   go_quiet (fail)
   obtain⟨b7,R⟩:=eX ((m.setCell ⟨fb,10,none⟩ (.pointer (some ⟨g,0,none⟩))).drewN nq);rw[<-R];have C:aa (λb=>b=fb) m b7:=by rw[R];exact(ag _ _ _ _).drewN nq
   have cg:w.heap.size<=g/\g<m.heap.size:=⟨zl b1.O.symm,x.O.lt⟩
   have u:g≠fb:=λe=>ae.ne_ x.O v.O.J (by decide) e
   have c0:Hd (aT b7 (λb=>F b\/w.heap.size<=b/\b<m.heap.size) fb {L with wp:=.pointer (some ⟨g,0,none⟩)} p {f with waits:=some o}):=hD ((v.O.mo λb j=>.inl j).td C (by rw[R];exact(v.O.J.s_ 10 _).drewN nq) rfl rfl rfl rfl rfl rfl ⟨g,.inr cg,rfl,C.J x.O u⟩ v.O.rp);have b4:=hD C;have c2:=hD (C.J x.O u);clear C R E a7 H K u;go_wp2_with fail;refine(c8.O _ _ _).mono ?_;rintro e b8 ⟨rfl,V⟩;have b5:=hD V;have r:=c0.O.kp V nG;have H:=r.J.I 8;have K:=r.J.I 9;have E:=r.J.I 10;have ce:=r.J.fz 9;have a7:=r.J.fz 10;simp[cC,c6.O,<-an.O.1] at H K E;have a2:=hD r;have c3:=hD (V.J c2.O nF);clear V r;go_wp2_with fail;obtain⟨b9,S⟩:=eX ((b8.setCell ⟨fb,10,none⟩ (.pointer none)).setCell ⟨fb,9,none⟩ (.int .i64 (c:Int)));rw[<-S];have X:aa (λb=>b=fb) b8 b9:=by rw[S];exact aB (ag _ _ _ _)
   have c1:Hd (aT b9 (λb=>F b\/w.heap.size<=b/\b<m.heap.size) fb {L with wp:=.pointer none} p l):=hD (by
    rw[b0.O]
    exact a2.O.td X (by
     have cf:(c:Int)=((f.kd.length:Nat):Int):=by first|(rw[<-an.O.1];done)|(rw[<-an.O.1];rfl)
     rw[S,cf];exact(a2.O.J.s_ 10 _).s_ 9 _) rfl rfl rfl rfl rfl rfl rfl a2.O.rp)
   have u:g≠fb:=λe=>ae.ne_ x.O v.O.J (by decide) e
   have c4:=hD (X.J c3.O u);have b6:=hD X;clear X S H K E ce a7 u;refine(cb.O _ _ _).mono ?_;rintro e am ⟨rfl,D⟩;have y:=hD (c1.O.kp D nG);have a5:=D.J c4.O nF;have Y:=a5.I 0;have Z:=a5.I 2;simp at Y Z;have N:Hd (aa F w am):=hD (((((c7.O.mono λ_ e=>e.elim).trans (b4.O.mono λb e=>by rw[e];exact a3.O.ff)).trans (b5.O.mono λ_ e=>e.elim)).trans (b6.O.mono λb e=>by rw[e];exact a3.O.ff)).trans (D.mono λ_ e=>e.elim));have P:Hd (m.heap.size<=am.heap.size):=hD (lT b4.O.size (lT b5.O.size (lT b6.O.size D.size)));clear D a5;go_wp2_with fail;have d0:=cQ
   go_loopw [50] (λi wr=>i=.int .i64 0/\wr=am) (λi _=>0)
   case atStart=>exact⟨rfl,rfl⟩
   case round=>
    obtain⟨rfl,bf⟩:=hrel;rw[<-bf] at y N P Y Z;clear bf
    by_cases z:o.k=14
    ·have B:aw=l.ended ⟨cI l.rg o.a,0⟩:=by rw[b3.O,yf z]
     obtain⟨ba,a1⟩:=c9.O z;obtain⟨t,T⟩ :∃t:Nat,o.a=(t:Int):=ym ba;obtain⟨bk,ai⟩:=eX f.rg.length;have ad:l.rg.length=bk:=by rw[b0.O,ai]
     have a9:t<bk:=by rw[T,<-ai] at a1;exact yB.1 a1
     have cv:=dN t;have cB:=cN a9;have bn:=y.O.J.I 5;simp[cC,ad] at bn
     have ch:wr.cell? ⟨L.rb,t,none⟩=some (.int .i64 (cI l.rg o.a)):=by
      have:=ey y.O.rg (i:=t) (by rw[ad];exact a9);unfold cI;rw[T,yo];exact this
     rw[z] at Y;rw[T] at Z;generalize cI l.rg o.a=bm at*;have bc:w.heap.size<=wr.heap.size:=N.O.size
     have aE:Hd (∀W,ac wr W->Calls Tryz.prog 174 #[.pointer (some ⟨fb,0,none⟩),eT ⟨bm,0⟩] W λe w'=>eC w w' F fb p aw e):=hD λW a8=>by
      have al:=a8.size;refine(lu ⟨bm,0⟩ (λb j=>?_) (y.O.kp a8 nG)).mono ?_
      ·rcases j with j|j
       ·exact lL (c5.O b j) (lT bc al)
       ·exact lL j.2 (lT P.O al)
      ·intro e w' k
       rw[B];refine(k.tell (F:=λb=>F b\/w.heap.size<=b/\b<m.heap.size) (λb j=>.inl j) (.inl a3.O.ff)).back (N.O.trans (a8.mono λ_ e=>e.elim)) (λb j=>j.imp id λk=>⟨k.1,lL k.2 (lT P.O al)⟩)
     clear B ba a1 T ai ad a9 bc z;unfold eT at aE;go_wp2_with fail
     go_still_tail 10,(by kernel_rfl)
     change wpList _ _ _ _ _ wr.drew;have ab:=aE.O wr.drew oR.drew;generalize wr.drew=cn at*;clear bn Y Z ch;go_wp2_with fail;refine ab.mono ?_;intro e w' k
     rcases k.ptr with⟨_,a6⟩|⟨s,q,A,c',_,a6,_⟩
     ·subst a6
      have a4:=hD k;clear k ab;go_wp2_with fail;go_ret;exact a4.O
     ·subst a6
      have a4:=hD k;clear k ab;go_wp2_with fail;go_ret;exact a4.O
    ·have B:aw=(l,none):=by rw[b3.O,yb z]
     have cd:=hD B;clear B;go_wp2_with fail;go_ret;rw[cd.O];exact⟨⟨_,y.O.mo λb j=>j.imp id λk=>⟨k.1,lL k.2 P.O⟩⟩,N.O,rfl⟩
  ·clear ci cs cr
   have Q:=G.kp a0 nG;have E:=Q.J.I 10;have a7:=Q.J.fz 10;simp[cC] at E;have a3:=hD G;have v:=hD Q;have x:=hD bo;have c7:=hD a0;have b1:=hD br;have c5:=hD bv;have c6:=hD ar;have an:=hD (aI av (aI az bt));have b0:=hD bq;have b3:=hD bp;have c9:=hD bx;have cm:=hD bz;have b2:=hD bb.symm;have c8:Hd (∀A c W,Calls Tryz.prog 169 #[.slice A 0 c,.func (.func 170) #[] #[]] W λe w'=>e=.returned (.bool false)/\ac W w'):=hD λA c W=>jD A [] c W (i9 A W) (yx _)
   have cb:Hd (∀A c W,Calls Tryz.prog 171 #[.slice A 0 c,.func (.func 172) #[] #[]] W λe w'=>e=.returned (.int .i64 (-1))/\ac W w'):=hD λA c W=>kI A [] c W (i9 A W) (yx _)
   clear G Q bo a0 br bv av az bb bq bx bz bp ck bt ar;unfold eS;go_enter Tryz.func139,Tryz.ntmps139;go_upto_region 1 with fail;rw[b2.O,<-b1.O];clear b2;go_wp2_with fail
   go_quiet (fail)
   obtain⟨b7,R⟩:=eX ((m.setCell ⟨fb,10,none⟩ (.pointer (some ⟨g,0,none⟩))).drewN nq);rw[<-R];have C:aa (λb=>b=fb) m b7:=by rw[R];exact(ag _ _ _ _).drewN nq
   have cg:w.heap.size<=g/\g<m.heap.size:=⟨zl b1.O.symm,x.O.lt⟩
   have u:g≠fb:=λe=>ae.ne_ x.O v.O.J (by decide) e
   have c0:Hd (aT b7 (λb=>F b\/w.heap.size<=b/\b<m.heap.size) fb {L with wp:=.pointer (some ⟨g,0,none⟩)} p {f with waits:=some o}):=hD ((v.O.mo λb j=>.inl j).td C (by rw[R];exact(v.O.J.s_ 10 _).drewN nq) rfl rfl rfl rfl rfl rfl ⟨g,.inr cg,rfl,C.J x.O u⟩ v.O.rp);have b4:=hD C;have c2:=hD (C.J x.O u);clear C R E a7 H K u;go_wp2_with fail;refine(c8.O _ _ _).mono ?_;rintro e b8 ⟨rfl,V⟩;have b5:=hD V;have r:=c0.O.kp V nG;have H:=r.J.I 8;have K:=r.J.I 9;have E:=r.J.I 10;have ce:=r.J.fz 9;have a7:=r.J.fz 10;simp[cC,c6.O,<-an.O.1] at H K E;have a2:=hD r;have c3:=hD (V.J c2.O nF);clear V r;go_wp2_with fail;obtain⟨b9,S⟩:=eX ((b8.setCell ⟨fb,10,none⟩ (.pointer none)).setCell ⟨fb,9,none⟩ (.int .i64 (n:Int)));rw[<-S];have X:aa (λb=>b=fb) b8 b9:=by rw[S];exact aB (ag _ _ _ _)
   have c1:Hd (aT b9 (λb=>F b\/w.heap.size<=b/\b<m.heap.size) fb {L with wp:=.pointer none} p l):=hD (by
    rw[b0.O]
    exact a2.O.td X (by
     have cf:(n:Int)=((f.kd.length:Nat):Int):=by first|(rw[<-an.O.1];done)|(rw[<-an.O.1];rfl)
     rw[S,cf];exact(a2.O.J.s_ 10 _).s_ 9 _) rfl rfl rfl rfl rfl rfl rfl a2.O.rp)
   have u:g≠fb:=λe=>ae.ne_ x.O v.O.J (by decide) e
   have c4:=hD (X.J c3.O u);have b6:=hD X;clear X S H K E ce a7 u;refine(cb.O _ _ _).mono ?_;rintro e am ⟨rfl,D⟩;have y:=hD (c1.O.kp D nG);have a5:=D.J c4.O nF;have Y:=a5.I 0;have Z:=a5.I 2;simp at Y Z;have N:Hd (aa F w am):=hD (((((c7.O.mono λ_ e=>e.elim).trans (b4.O.mono λb e=>by rw[e];exact a3.O.ff)).trans (b5.O.mono λ_ e=>e.elim)).trans (b6.O.mono λb e=>by rw[e];exact a3.O.ff)).trans (D.mono λ_ e=>e.elim));have P:Hd (m.heap.size<=am.heap.size):=hD (lT b4.O.size (lT b5.O.size (lT b6.O.size D.size)));clear D a5;go_wp2_with fail;have d0:=cQ
   go_loopw [50] (λi wr=>i=.int .i64 0/\wr=am) (λi _=>0)
   case atStart=>exact⟨rfl,rfl⟩
   case round=>
    obtain⟨rfl,bf⟩:=hrel;rw[<-bf] at y N P Y Z;clear bf
    by_cases z:o.k=14
    ·have B:aw=l.ended ⟨cI l.rg o.a,0⟩:=by rw[b3.O,yf z]
     obtain⟨ba,a1⟩:=c9.O z;obtain⟨t,T⟩ :∃t:Nat,o.a=(t:Int):=ym ba;obtain⟨bk,ai⟩:=eX f.rg.length;have ad:l.rg.length=bk:=by rw[b0.O,ai]
     have a9:t<bk:=by rw[T,<-ai] at a1;exact yB.1 a1
     have cv:=dN t;have cB:=cN a9;have bn:=y.O.J.I 5;simp[cC,ad] at bn
     have ch:wr.cell? ⟨L.rb,t,none⟩=some (.int .i64 (cI l.rg o.a)):=by
      have:=ey y.O.rg (i:=t) (by rw[ad];exact a9);unfold cI;rw[T,yo];exact this
     rw[z] at Y;rw[T] at Z;generalize cI l.rg o.a=bm at*;have bc:w.heap.size<=wr.heap.size:=N.O.size
     have aE:Hd (∀W,ac wr W->Calls Tryz.prog 174 #[.pointer (some ⟨fb,0,none⟩),eT ⟨bm,0⟩] W λe w'=>eC w w' F fb p aw e):=hD λW a8=>by
      have al:=a8.size;refine(lu ⟨bm,0⟩ (λb j=>?_) (y.O.kp a8 nG)).mono ?_
      ·rcases j with j|j
       ·exact lL (c5.O b j) (lT bc al)
       ·exact lL j.2 (lT P.O al)
      ·intro e w' k
       rw[B];refine(k.tell (F:=λb=>F b\/w.heap.size<=b/\b<m.heap.size) (λb j=>.inl j) (.inl a3.O.ff)).back (N.O.trans (a8.mono λ_ e=>e.elim)) (λb j=>j.imp id λk=>⟨k.1,lL k.2 (lT P.O al)⟩)
     clear B ba a1 T ai ad a9 bc z;unfold eT at aE;go_wp2_with fail
     go_still_tail 10,(by kernel_rfl)
     change wpList _ _ _ _ _ wr.drew;have ab:=aE.O wr.drew oR.drew;generalize wr.drew=cn at*;clear bn Y Z ch;go_wp2_with fail;refine ab.mono ?_;intro e w' k
     rcases k.ptr with⟨_,a6⟩|⟨s,q,A,c',_,a6,_⟩
     ·subst a6
      have a4:=hD k;clear k ab;go_wp2_with fail;go_ret;exact a4.O
     ·subst a6
      have a4:=hD k;clear k ab;go_wp2_with fail;go_ret;exact a4.O
    ·have B:aw=(l,none):=by rw[b3.O,yb z]
     have cd:=hD B;clear B;go_wp2_with fail;go_ret;rw[cd.O];exact⟨⟨_,y.O.mo λb j=>j.imp id λk=>⟨k.1,lL k.2 P.O⟩⟩,N.O,rfl⟩
end
section
variable {w w':World}{F F':Nat->Prop}{fb:Nat}{L:gl}{p:List aj}{f:Fr}
theorem rU(o:bQ)(j:∀b,F b->b<w.heap.size)(g:aT w F fb L p f)(E:f.joined<=f.kd.length)(l:f.kd.length<=16)
 (C:∀k∈f.kd,0<=k.into/\k.into<f.rg.length) (r:o.k=14->0<=o.a/\o.a<f.rg.length) (u:f.rg.length<=16):
 Calls Tryz.prog 139 #[.pointer (some ⟨fb,0,none⟩),eS o] w λd w'=>eC w w' F fb p (f.joins o) d:=by
 by_cases e:f.os.any (λc=>!c.given)=true
 ·have m:f.joined<f.kd.length:=by
   have i:f.os≠[]:=λd=>by rw[d] at e;cases e
   have:=zK.2 i;rw[dW] at this;omega
  have d:f.joins o=({f with waits:=some o},some .join):=by unfold Fr.joins;rw[yf e]
  rw[d];refine(wC o j g e m l).mono ?_;rintro d w' ⟨q,v,i,x,y,z,A⟩;exact⟨⟨_,z⟩,A,q,none,0,i,x,y,λt d=>by cases d⟩
 ·have s:f.os.any (λc=>!c.given)=false:=by simpa using e
  by_cases m:f.joined<f.kd.length
  ·by_cases n:fz (dF f.os)=0
   ·exact wA o j g s m l n C r u
   ·have d:f.joins o=Fr.ended {f with waits:=none,joined:=f.kd.length} ⟨0,fz (dF f.os)⟩:=by unfold Fr.joins;rw[yb e,yf n]
    rw[d];refine(AN o j g s m l n).mono ?_;rintro d w' ⟨D,i⟩;exact i.tell (λb B=>B) g.ff
  ·exact wB o j g (by omega) l r u
theorem vU(o:bQ)(l:∀b,F b->b<w.heap.size)(e:aT w F fb L p f)(Q:f.kd.length<=16)(i:gK f.M)(H:jw p)(g:0<=o.n/\o.n<p.length)(E:0<=o.a)(K:(bY p o.n).args=0\/o.a+(bY p o.n).args<=f.rg.length)
 (S:f.rg.length<=16) (R:f.left<=65536):
 Calls Tryz.prog 176 #[.pointer (some ⟨fb,0,none⟩),eS o] w λd w'=>eC w w' F fb p (f.forks p o) d:=by
 unfold Fr.forks
 by_cases s:16<=f.kd.length
 ·rw[yf s]
  exact(vS o l e (by omega) i).mono λd w' k=>k.tell (λb m=>.inl m) e.ff
 ·rw[yb s]
  by_cases r:12<=f.M.length
  ·rw[yf r]
   exact(vR o l e (by omega) i (by have:=i.1;omega)).mono λd w' k=>k.tell (λb m=>.inl m) e.ff
  ·rw[yb r]
   obtain⟨fn,v⟩ :∃fn:Nat,o.n=(fn:Int):=ym g.1;obtain⟨j,u⟩ :∃j:Nat,o.a=(j:Int):=ym E;have N:=(jz g.1 g.2).2;have G:=H.fn g.1 g.2;have P:p[fn]?=some (bY p o.n):=by rw[<-N,v,yo]
   refine(Au o fn j (bY p o.n) l e (by omega) (by omega) i v P u G.a0 (by rw[<-u];exact K) (by omega) (by omega)).mono ?_;rintro d w' ⟨q,A,c,kv,x,y,z,B,C,D⟩;refine⟨⟨_,C⟩,D,q,A,c,x,y,z,λt d=>?_⟩
   cases d
   exact B
end
end
end Go.Proofs.YtmdocplknceilaaGreat
