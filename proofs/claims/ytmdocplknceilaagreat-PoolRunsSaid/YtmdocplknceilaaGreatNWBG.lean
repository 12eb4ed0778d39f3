import Derived.Test.YtmdocplknceilaaGreatNWBD
import Derived.Test.YtmdocplknceilaaGreatNWBF
set_option linter.all false
set_option maxRecDepth 100000
set_option maxHeartbeats 4000000
namespace Go.Proofs.YtmdocplknceilaaGreat
section
open Go.RowKit Go.Maps
structure LK(L L':cP)(s s':PS)(d:Int):Prop where
 pb:L'.pb=L.pb
 mz:L'.most=L.most
 tp:L'.tps=L.tps
 dp:L'.dp=L.dp
 nn:L'.n<=L.n+d
 fn:(L'.fn:Int)<=L.fn+d
 nm:(s'.nms.length:Int)<=s.nms.length+d
 dn:∃x,s'.T.hist=s.T.hist++x/\L'.dn=L.dn++x
theorem LK.refl(L:cP)(s:PS):LK L L s s 0:=⟨rfl,rfl,rfl,rfl,by omega,by omega,by omega,[],by simp,by simp⟩
theorem LK.trans{L L' b:cP}{s s' e:PS}{d c:Int}(a:LK L L' s s' d)(k:LK L' b s' e c):LK L b s e (d+c):=by
 obtain⟨x,f,g⟩:=a.dn;obtain⟨y,j,l⟩:=k.dn;exact⟨k.pb.trans a.pb,k.mz.trans a.mz,k.tp.trans a.tp,k.dp.trans a.dp,by have:=a.nn;have:=k.nn;omega,by have:=a.fn;have:=k.fn;omega,by have:=a.nm;have:=k.nm;omega,x++y,by rw[j,f,yY],by rw[l,g,yY]⟩
theorem LK.mo{L L':cP}{s s':PS}{d b:Int}(a:LK L L' s s' d)(c:d<=b):LK L L' s s' b:=⟨a.pb,a.mz,a.tp,a.dp,by have:=a.nn;omega,by have:=a.fn;omega,by have:=a.nm;omega,a.dn⟩
def cV(w w':World)(tag:Nat->Nat)(L:cP)(s s':PS)(d:Int):Prop:=∃tag' L',aX w' tag' L' s'/\aQ w w' tag tag'/\LK L L' s s' d
structure lH(p:List ah):Prop where
 ok:gC p
 ck:bU p=0
 wf:∀x∈p,nU x
section
variable {w w':World}{tag tag':Nat->Nat}{L L':cP}{s s':PS}{i:Nat}{n:Nm}{X:List Nat}
theorem aY.same(c:aY X w tag L s)(d:aa (λb=>tag b=i) w w'):aY (i :: X) w' tag L s:=
 c.kp d (λb a=>a) (λ_ _=>rfl) (λb a=>lL (c.tlt b a) d.size)
theorem aQ.same(d:i≠0)(e:aa (λb=>tag b=i) w w'):aQ w w' tag tag:=⟨e.mono λb a=>by rw[a];exact d,λ_ _=>rfl,λb c=>.inl c⟩
theorem aY.tagB(a:aY X w tag L s)(d:i≠0):∀b,tag b=i->b<w.heap.size:=λb c=>a.tlt b (by rw[c];exact d)
theorem aY.retag(b:aY X w tag L s)(c:ac w w')(i:Nat):aY X w' (cS tag w w' i) L s:=
 (b.kp (i:=0) c (λ_ a=>a.elim) (bJ b.tlt) (rP b.tlt c.size)).mono λj d e=>by
  rcases yG.1 e with a|a
  ·exact absurd a d
  ·exact a
theorem aQ.retag(c:∀b,tag b≠0->b<w.heap.size)(d:ac w w')(i:Nat):aQ w w' tag (cS tag w w' i):=⟨d.mono λ_ a=>a.elim,bJ c,kH⟩
theorem vq(av:Value)(kd d:Nat)(cur n:Nm)(fv a:Value):(((dQ av kd d cur fv).setIfInBounds 3 (.int .u64 n.job)).setIfInBounds 4 (.string (sB n.M))).setIfInBounds 5 a=dQ av kd d n a:=by simp[dQ]
theorem vF(d:aX w tag L s)(k tp:Nat)(e:dh n)(b:∀r,s.T.rw n=some r->r.sa≠1/\r.sa≠4):dX s k n=s:=by
 unfold dX;split
 ·rfl
 ·rename_i r a
  rw[yb (λc=>by have:=b r a;omega)]
theorem A8(A:aX w tag L s)(tp:Nat)(u:dh n)(C:∀r,s.T.rw n=some r->r.sa≠1/\r.sa≠4):
 Calls Tryz.prog 84 #[ptr L.pb,ptr tp,aV n] w λk w'=>k=.returned (.tuple #[])/\ac w w':=by
 obtain⟨a,q⟩:=eX (w.alloc (.cells #[.int .u64 n.job,.string (sB n.M)] 58));have x:ac w a:=by rw[q];exact(aa.refl _ w).alloc _
 obtain⟨l,t⟩:=eX w.heap.size;have o:ae a l 58 #[.int .u64 n.job,.string (sB n.M)]:=by rw[q,t];exact bN
 have p:=A.U x;have B:=(p.p1 (by decide)).2;have z:=hD q.symm;have F:=hD t;have P:=hD u;have K:=hD p;have N:=hD o;have G:=hD x;have m:Hd (ac a (a.alloc (.cells #[.string ⟨#[]⟩,.int .i64 0,.slice none 0 0,.int .i64 0] 30))):=hD (oR.alloc _);have E:Hd (ae (a.alloc (.cells #[.string ⟨#[]⟩,.int .i64 0,.slice none 0 0,.int .i64 0] 30)) a.heap.size 30 #[.string ⟨#[]⟩,.int .i64 0,.slice none 0 0,.int .i64 0]):=hD (ae.new a _ _);have y:Hd (∀W,ac a W->Calls Tryz.prog 136 #[.pointer (some ⟨L.tb,0,none⟩),.agg #[.int .u64 n.job,.string (sB n.M)]] W λk w'=>∃c,k=.returned (.tuple #[.agg #[.string ⟨#[]⟩,.int .i64 0,.slice none 0 0,.int .i64 0],.int .i64 c])/\(c !=0)=true/\ac W w'):=hD λW g=>BM ((p.U g).p2 (by decide)) u C
 have d:Hd (∀W,ac a W->ac a W/\W.cell? ⟨L.pb,4,none⟩=some (.pointer (some ⟨L.tb,0,none⟩))/\W.cell? ⟨l,0,none⟩=some (.int .u64 n.job)/\W.cell? ⟨l,1,none⟩=some (.string (sB n.M))):=hD λW g=>⟨g,(g.J B nF).I 4,(g.J o nF).I 0,(g.J o nF).I 1⟩
 have a2:=d.O a oR;unfold ptr aV eT;clear A u C x q t o p B;go_enter Tryz.func84,Tryz.ntmps84;go_upto_region 1 with fail;rw[z.O,<-F.O];clear z
 go_cut [6,7] (λs6 s7 wx=>∃c,s7=.int .i64 c/\(c !=0)=true/\ac a wx)
 case first=>
  go_region_held3 (λw'=>ac a w'/\w'.cell? ⟨L.pb,4,none⟩=some (.pointer (some ⟨L.tb,0,none⟩))/\w'.cell? ⟨l,0,none⟩=some (.int .u64 n.job)/\w'.cell? ⟨l,1,none⟩=some (.string (sB n.M)))
   (first|with_reducible exact d.O _ f.O|with_reducible exact d.O _ (aa.alloc f.O _)|with_reducible exact d.O _ (aa.drew f.O)|with_reducible exact d.O _ m.O|with_reducible exact d.O _ (aa.drew m.O)|with_reducible exact d.O _ (aa.drew oR)|with_reducible exact d.O _ oR|(with_reducible refine d.O _ ?_;with_reducible refine aa.setCell ?_ (Or.inr (lR)) _;repeat (first|with_reducible exact f.O|with_reducible refine aa.setCell ?_ (Or.inr (lR)) _))|(trace_state;fail))
   (first
    |(go_at_call 136;refine(y.O a.drew (aa.drew oR)).mono ?_;rintro k b ⟨c,rfl,v,j⟩;have f:Hd (ac a b):=hD (aa.trans (aa.drew oR) j);clear j)
    |(go_at_call 136;refine(y.O _ (aa.drew m.O)).mono ?_;rintro k b ⟨c,rfl,v,j⟩;have f:Hd (ac a b):=hD (aa.trans (aa.drew m.O) j);have e:=hD (j.J E.O nF);have Q:b.cell? ⟨a.heap.size,0,none⟩=some (.string ⟨#[]⟩):=e.O.I 0;have R:b.cell? ⟨a.heap.size,1,none⟩=some (.int .i64 0):=e.O.I 1;have S:b.cell? ⟨a.heap.size,2,none⟩=some (.slice none 0 0):=e.O.I 2;have V:b.cell? ⟨a.heap.size,3,none⟩=some (.int .i64 0):=e.O.I 3;have Y:b.frozen? ⟨a.heap.size,0,none⟩=false:=e.O.fz 0;have Z:b.frozen? ⟨a.heap.size,1,none⟩=false:=e.O.fz 1;have a0:b.frozen? ⟨a.heap.size,2,none⟩=false:=e.O.fz 2;have a1:b.frozen? ⟨a.heap.size,3,none⟩=false:=e.O.fz 3;clear j)
    |fail)
  all_goals (
   go_wp2_with fail;go_meet
   case rel=>exact⟨c,rfl,v,by first|exact f.O.alloc _|(repeat (first|exact f.O|refine aa.setCell ?_ (Or.inr (lR)) _))⟩)
 case rest=>
  obtain⟨c,rfl,v,D⟩:=hcut;have H:=hD D;clear D;go_wp2_with fail;refine bodyPost_ret (results_none rfl _ _ _) rfl ?_;exact⟨rfl,G.O.trans H.O⟩
def Ev(w W1 wx:World)(tag:Nat->Nat)(L:cP)(rows:Nm->Option aG)(cnt:Nat)(t:aj)(tp:ByteArray)(fn:Int)(al:Nat)(tf:Int)(s6 s7:Value):Prop:=
 ∃g6 A2 c2,s7=.int .i64 0/\s6=.pointer (some ⟨g6,0,none⟩)/\w.heap.size<=g6/\ae wx g6 30 #[.string tp,.int .i64 fn,.slice A2 al c2,.int .i64 tf]/\aL wx (λb=>tag b=0) A2 t.args/\bQ wx (λb=>tag b=2) L.tb L.mb L.most rows cnt L.rp/\aa (λb=>tag b=2) W1 wx
theorem hU(c:∀b,tag b≠0->b<w.heap.size){b:Nat}(d:w.heap.size<=b):tag b=0:=Decidable.byContradiction λa=>absurd (c b a) (zC.2 d)
theorem wz(a4:aX w tag L s){k tp:Nat}{th:Th}(ek:L.tps[k]?=some tp)(ea:s.ths[k]?=some th)(d4:dh n){r:aG}(bv:s.T.rw n=some r)(bx:r.sa=1\/r.sa=4){p:List ah}(d7:s.progs n.job=some p)(e5:lH p)(e6:bW p r.tk)
 (e8:r.sa=1->s.T.fm n=none) (e9:r.sa=4->s.T.fm n≠none) (ej:s.T.fm n=none->∀(k:Nat) (th:Th),s.ths[k]?=some th->th.run=true->th.cur≠n) (g5:L.fn<=1000000000):
 Calls Tryz.prog 84 #[ptr L.pb,ptr tp,aV n] w λa w'=>a=.returned (.tuple #[])/\cV w w' tag L s (dX s k n) 1:=by
 have ei:s.prog n.job=p:=by unfold PS.prog;rw[d7];rfl
 have e7:dX s k n= {s with T:=gQ (s.prog n.job) s.T n r,ths:=s.ths.set k {s.th k with cur:=n,run:=true}}:=by
  unfold dX;rw[bv];simp only;rw[yf bx]
 obtain⟨c,br⟩:=eX (w.alloc (.cells #[.int .u64 n.job,.string (sB n.M)] 58));have b3:ac w c:=by rw[br];exact(aa.refl _ w).alloc _
 obtain⟨u,bt⟩:=eX w.heap.size;have bn:ae c u 58 #[.int .u64 n.job,.string (sB n.M)]:=by rw[br,bt];exact bN
 have H:=a4.U b3;have b1:=(H.p1 (by decide)).2;have dq:=hD br.symm;have c5:=hD bt;have c8:=hD d4;have eq:=hD H;have ex:=hD bn;have f3:=hD b3;have bk:Hd (ac c (c.alloc (.cells #[.string ⟨#[]⟩,.int .i64 0,.slice none 0 0,.int .i64 0] 30))):=hD (oR.alloc _);have es:Hd (ae (c.alloc (.cells #[.string ⟨#[]⟩,.int .i64 0,.slice none 0 0,.int .i64 0] 30)) c.heap.size 30 #[.string ⟨#[]⟩,.int .i64 0,.slice none 0 0,.int .i64 0]):=hD (ae.new c _ _);obtain⟨kp,d2⟩:=eX (sB r.tk.M);obtain⟨a7,d1⟩:=eX r.tk.fn;obtain⟨a6,d0⟩:=eX r.tk.args.length;obtain⟨a8,d3⟩:=eX ((r.tk.fuel:Int):Int);have bf:=hD (aI d2 (aI d1 (aI d0 d3)));obtain⟨rows,d9⟩:=eX (ay s.T.rw n (some {r with sa:=2}));have dp:=hD d9
 have c3:Hd (∀W,ac c W->Calls Tryz.prog 136 #[.pointer (some ⟨L.tb,0,none⟩),.agg #[.int .u64 n.job,.string (sB n.M)]] W λa w'=>∃b9 c',a=.returned (.tuple #[.agg #[.string kp,.int .i64 a7,.slice b9 a6 c',.int .i64 a8],.int .i64 0])/\aL w' (λb=>tag b=0) b9 r.tk.args/\bQ w' (λb=>tag b=2) L.tb L.mb L.most rows s.T.ks.length L.rp/\aa (λb=>tag b=2) W w'):=hD λW j=>by
  refine(xH ((H.U j).tagB (by decide)) ((H.U j).p2 (by decide)) d4 bv bx).mono ?_;rintro a w' ⟨b9,c',rfl,fq,a5,fr⟩;refine⟨b9,c',by rw[d2,d1,d0,d3];rfl,fq.mo λb A=>hU a4.tlt (lT (b3.trans j).size A.1),by rw[d9];exact a5,fr⟩
 have m:Hd (∀W,aa (λb=>tag b=2) c W->aa (λb=>tag b=2) c W/\W.cell? ⟨L.pb,4,none⟩=some (.pointer (some ⟨L.tb,0,none⟩))/\W.cell? ⟨u,0,none⟩=some (.int .u64 n.job)/\W.cell? ⟨u,1,none⟩=some (.string (sB n.M))):=hD λW j=>by
  have dz:¬tag L.pb=2:=λa=>by have:=(a4.p1 (by decide)).1;rw[a] at this;exact absurd this (by decide)
  have ci:¬tag u=2:=λa=>by have:=hU a4.tlt (b:=u) (by rw[bt];exact lR);rw[a] at this;exact absurd this (by decide)
  exact⟨j,(j.J b1 dz).I 4,(j.J bn ci).I 0,(j.J bn ci).I 1⟩
 have cr:=m.O c oR;have c9:Hd (∀W,ac c W->aa (λb=>tag b=2) c W):=hD λW j=>j.mono λ_ a=>a.elim
 have cb:Hd (∀b,w.heap.size<=b->¬tag b=2):=hD λb A a=>by have:=hU a4.tlt A;rw[a] at this;exact absurd this (by decide)
 have f1:=hD a4;have l:=hD (aI ek (aI ea (aI bv bx)));have y:=hD (aI d7 (aI ei (aI e5 e6)));have c4:=hD (aI e8 (aI e9 ej));have bb:=hD e7;have bm:Hd (w.heap.size<=c.heap.size):=hD b3.size;unfold ptr aV eT;clear a4 d4 bv bx b3 br bt bn H b1 d2 d1 d0 d3 d9 ek ea d7 e5 e6 ei e8 e9 ej e7;go_enter Tryz.func84,Tryz.ntmps84;go_upto_region 1 with fail;rw[dq.O,<-c5.O];clear dq
 go_cut [6,7] (λs6 s7 wx=>Ev w c wx tag L rows s.T.ks.length r.tk kp a7 a6 a8 s6 s7)
 case first=>
  go_region_held3 (λw'=>aa (λb=>tag b=2) c w'/\w'.cell? ⟨L.pb,4,none⟩=some (.pointer (some ⟨L.tb,0,none⟩))/\w'.cell? ⟨u,0,none⟩=some (.int .u64 n.job)/\w'.cell? ⟨u,1,none⟩=some (.string (sB n.M)))
   (first|with_reducible exact m.O _ K.O|with_reducible exact m.O _ (aa.alloc K.O _)|with_reducible exact m.O _ (aa.drew K.O)|with_reducible exact m.O _ (c9.O _ bk.O)|with_reducible exact m.O _ (c9.O _ (aa.drew bk.O))|with_reducible exact m.O _ (aa.drew oR)|with_reducible exact m.O _ oR|(with_reducible refine m.O _ ?_;with_reducible refine aa.setCell ?_ (Or.inr (lR)) _;repeat (first|with_reducible exact K.O|with_reducible refine aa.setCell ?_ (Or.inr (lR)) _))|(trace_state;fail))
   (first
    |(go_at_call 136;refine(c3.O c.drew (aa.drew oR)).mono ?_;rintro a e ⟨B,D,rfl,a5,b7,al⟩;have K:Hd (aa (λb=>tag b=2) c e):=hD (aa.trans (aa.drew oR) al);have c6:=hD a5;have cd:=hD b7;clear al a5 b7)
    |(go_at_call 136;refine(c3.O _ (aa.drew bk.O)).mono ?_;rintro a e ⟨B,D,rfl,a5,b7,al⟩;have K:Hd (aa (λb=>tag b=2) c e):=hD (aa.trans (c9.O _ (aa.drew bk.O)) al);have C:=hD (al.J es.O (cb.O _ bm.O));have c6:=hD a5;have cd:=hD b7;have fx:e.cell? ⟨c.heap.size,0,none⟩=some (.string ⟨#[]⟩):=C.O.I 0;have dz:e.cell? ⟨c.heap.size,1,none⟩=some (.int .i64 0):=C.O.I 1;have ci:e.cell? ⟨c.heap.size,2,none⟩=some (.slice none 0 0):=C.O.I 2;have g0:e.cell? ⟨c.heap.size,3,none⟩=some (.int .i64 0):=C.O.I 3;have g1:e.frozen? ⟨c.heap.size,0,none⟩=false:=C.O.fz 0;have g2:e.frozen? ⟨c.heap.size,1,none⟩=false:=C.O.fz 1;have g3:e.frozen? ⟨c.heap.size,2,none⟩=false:=C.O.fz 2;have g4:e.frozen? ⟨c.heap.size,3,none⟩=false:=C.O.fz 3;clear al a5 b7)
    |fail)
  all_goals (
   go_wp2_with fail;go_meet)
  case rel=>
   have dl:=(aa.refl (λ_=>False) e).alloc (.cells #[.string kp,.int .i64 a7,.slice B a6 D,.int .i64 a8] 30);exact⟨e.heap.size,B,D,rfl,rfl,lT bm.O K.O.size,bN,c6.O.kp dl nG,cd.O.kp dl nG,K.O.trans (dl.mono λ_ a=>a.elim)⟩
  case rel=>
   obtain⟨E,F⟩:=wZ C.O rfl (.string kp) (.int .i64 a7) (.slice B a6 D) (.int .i64 a8);exact⟨c.heap.size,B,D,rfl,rfl,bm.O,E,c6.O.by_type F C.O (by decide),cd.O.kp F (λb A a=>cb.O b (by rw[a];exact bm.O) A),K.O.trans' F (λb a=>.inr (by rw[a];exact lR))⟩
 case rest=>
  obtain⟨N,B,D,rfl,rfl,g8,dw,el,en,G⟩:=hcut;obtain⟨e,fd⟩:=eX wc;subst fd;have bo:aX e tag L {s with T:={s.T with rw:=rows}}:=(eq.O.same G).fill2 (T':={s.T with rw:=rows}) en rfl;have b1:=(bo.p1 (by decide)).2;have cw:=G.J ex.O (cb.O u (by rw[c5.O];exact lR));have ad:=b1.I 9;simp[bB] at ad;obtain⟨an,ar⟩:=cw.gE2;obtain⟨g6,fj⟩:=c8.O.key;have Q:=(((bo.p11 (by decide)).2).heap (w':=e.drew) rfl).look fF Tryz.underlying119 (z:=.pointer none) (by kernel_rfl) fj;rw[gl] at Q;change (Instr.lookup 119 (.map (some L.fb)) (.agg #[.int .u64 n.job,.string (sB n.M)]) false).run Tryz.prog e.drew=.ok (((s.T.fm n).map λ_=>ptr (L.fp n)).getD (.pointer none)) e.drew at Q;obtain⟨o,cs⟩:=eX e.drew;have am:ac e o:=by rw[cs];exact oR.drew
  have cm:=bo.U am;have Z:=hD cm;have c2:=hD (am.J cw nF);have er:=hD (am.J dw nF);have f2:=hD (el.kp am nG);have dr:=hD cs.symm;have ds:Hd (aQ w o tag tag):=hD (((aQ.U f3.O).trans (aQ.same (by decide) G)).trans (aQ.U am));obtain⟨c0,d,av,fv,E,F,R,g,S,V,fs,ft⟩:=(cm.p15 (by decide)).2.1 k th l.O.2.1;rw[l.O.1] at E
  cases E
  have f5:=hD (aI R (aI g (aI S V)));have f4:=hD F;clear dw el en G bo b1 cw cs am cm F R g S V fs ft cr c3 m
  by_cases aE:r.sa=4
  ·obtain⟨f,P⟩ :∃f,s.T.fm n=some f:=Option.ne_none_iff_exists'.1 (c4.O.2.1 aE)
   rw[P] at Q;have a0:=hD P;change (Instr.lookup 119 (.map (some L.fb)) (.agg #[.int .u64 n.job,.string (sB n.M)]) false).run Tryz.prog e.drew=.ok (.pointer (some ⟨L.fp n,0,none⟩)) e.drew at Q;clear P;go_upto_region 3 with fail
   go_still_tail 6,(by kernel_rfl)
   change wpList _ _ _ _ _ e.drew;rw[dr.O];go_upto_region 7 with fail;clear Q ad an ar;obtain⟨an,ar⟩:=c2.O.gE2;obtain⟨c0,d,av,fv,E,F,R,g,S,V,_⟩:=(Z.O.p15 (by decide)).2.1 k th l.O.2.1;have dk:tp=c0:=yz (l.O.1.symm.trans E);subst dk;have cf:=g.I 3;have cg:=g.I 4;have ch:=g.I 5;simp[dQ] at cf cg ch;have f9:=g.fz 3;have fa:=g.fz 4;have a3:=g.fz 5;have c7:=hD g;have a1:=hD (aI R (aI S V));have f8:(o.setCell ⟨tp,3,none⟩ (.int .u64 n.job)).cell? ⟨tp,4,none⟩=some (.string (sB th.cur.M)):=by rw[(g.s_ 3 _).I 4];simp[dQ]
   clear E F R g S V;go_wp2_with fail
   go_end0
   have az:=((c7.O.s_ 3 (.int .u64 n.job)).s_ 4 (.string (sB n.M))).s_ 5 (.pointer (some ⟨(L.fp n),0,none⟩));rw[vq] at az;have b4:aa (λb=>b=tp) o (((o.setCell ⟨tp,3,none⟩ (.int .u64 n.job)).setCell ⟨tp,4,none⟩ (.string (sB n.M))).setCell ⟨tp,5,none⟩ (.pointer (some ⟨(L.fp n),0,none⟩))):=((af _ tp 3 _).trans (af _ tp 4 _)).trans (af _ tp 5 _);have cp:=aY.thread (k:=k) (th:=th) (av:=av) {th with cur:=n,run:=true} Z.O l.O.2.1 l.O.1 a1.O.1 b4 az a1.O.2.1 a1.O.2.2 (λ_=>rfl) (λa=>by cases a)
   have db:tag tp=15:=by
    obtain⟨_,_,_,_,Y,b6,_⟩:=(Z.O.p15 (by decide)).2.1 k th l.O.2.1;rw[show _=tp from yz (Y.symm.trans l.O.1)] at b6;exact b6
   refine⟨rfl,tag,L,?_,ds.O.trans (aQ.same (i:=15) (by decide) (b4.mono λb a=>by rw[a];exact db)),?_⟩
   ·rw[bb.O,PS.th_eq l.O.2.1]
    have:({({s with T:={s.T with rw:=rows}}:PS) with ths:=(({s with T:={s.T with rw:=rows}}:PS)).ths.set k {th with cur:=n,run:=true}}:PS)= {s with T:=gQ (s.prog n.job) s.T n r,ths:=s.ths.set k {th with cur:=n,run:=true}}:=by
     unfold gQ;rw[a0.O,dp.O]
     first|rfl|(simp only[zU];rw[<-a0.O,jU])|(simp only[Option.getD_none];rw[y.O.2.1])
    rw[<-this];exact cp
   ·rw[bb.O]
    exact⟨rfl,rfl,rfl,rfl,by omega,by omega,by simp;omega,[],by simp[gQ],by simp⟩
  ·have H:r.sa=1:=l.O.2.2.2.resolve_right aE
   have P:=c4.O.1 H;rw[P] at Q;have a0:=hD P;change (Instr.lookup 119 (.map (some L.fb)) (.agg #[.int .u64 n.job,.string (sB n.M)]) false).run Tryz.prog e.drew=.ok (.pointer none) e.drew at Q;go_upto_region 3 with fail
   go_still_tail 6,(by kernel_rfl)
   change wpList _ _ _ _ _ e.drew;rw[dr.O];go_upto_region 5 with fail;clear Q ad an ar f5 f4;obtain⟨pA,d5⟩ :∃x,x=L.pA n.job:=⟨_,rfl⟩
   obtain⟨pn,d8⟩ :∃x,x=p.length:=⟨_,rfl⟩
   have ec:∀W,ac o W->(Instr.lookup 116 (.map (some L.gb)) (.int .u64 n.job) false).run Tryz.prog W=.ok (.agg #[.slice pA.1 pn pA.2]) W:=λW j=>by
    have:=((Z.O.U j).p8 (by decide)).2.look (t:=116) oi Tryz.underlying116 (z:=.agg #[.slice none 0 0]) (by kernel_rfl) (Maps.keyOf_int_mk Tryz.underlying54 c8.O.1);rw[mX] at this;change _=Result.ok (((s.progs n.job).map λp=>aP p (L.pA n.job).1 (L.pA n.job).2).getD _) W at this;rw[y.O.1,<-d5] at this;rw[this,d8];rfl
   have dn:Hd (∀W,ac o W->Calls Tryz.prog 62 #[.agg #[.slice pA.1 pn pA.2],.agg #[.string kp,.int .i64 a7,.slice B a6 D,.int .i64 a8]] W λa w'=>∃e1 L,a=.returned (.tuple #[.pointer (some ⟨e1,0,none⟩),.int .i64 0])/\aZ w' (bC W w') e1 L p (Fr.begun p r.tk)/\ac W w'):=hD λW j=>by
    have aE:=Z.O.U j;have:=uC p pA.1 B pA.2 D (λb=>tag b=4) (λb=>tag b=0) r.tk W (by rw[d5];exact aE.p4 (by decide) n.job p y.O.1) (aE.tagB (by decide)) y.O.2.2.1.ck y.O.2.2.1.ok y.O.2.2.1.wf (f2.O.kp j nG) y.O.2.2.2;unfold BH aP bO at this;rw[<-bf.O.1,<-bf.O.2.1,<-bf.O.2.2.1,<-bf.O.2.2.2,<-d8] at this;exact this
   have ee:=(Z.O.p1 (by decide)).2
   have m:Hd (∀W,ac o W->ac o W/\W.cell? ⟨L.pb,5,none⟩=some (.map (some L.gb))/\W.cell? ⟨u,0,none⟩=some (.int .u64 n.job)/\W.cell? ⟨N,0,none⟩=some (.string kp)/\W.cell? ⟨N,1,none⟩=some (.int .i64 a7)/\W.cell? ⟨N,2,none⟩=some (.slice B a6 D)/\W.cell? ⟨N,3,none⟩=some (.int .i64 a8)/\(Instr.lookup 116 (.map (some L.gb)) (.int .u64 n.job) false).run Tryz.prog W=.ok (.agg #[.slice pA.1 pn pA.2]) W):=hD λW j=>by
    have Y:=j.J er.O nF;exact⟨j,(j.J ee nF).I 5,(j.J c2.O nF).I 0,Y.I 0,Y.I 1,Y.I 2,Y.I 3,ec W j⟩
   have cr:=m.O o oR;clear d5 d8 ee ec
   go_region_held3 (λW=>ac o W/\W.cell? ⟨L.pb,5,none⟩=some (.map (some L.gb))/\W.cell? ⟨u,0,none⟩=some (.int .u64 n.job)/\W.cell? ⟨N,0,none⟩=some (.string kp)/\W.cell? ⟨N,1,none⟩=some (.int .i64 a7)/\W.cell? ⟨N,2,none⟩=some (.slice B a6 D)/\W.cell? ⟨N,3,none⟩=some (.int .i64 a8)/\(Instr.lookup 116 (.map (some L.gb)) (.int .u64 n.job) false).run Tryz.prog W=.ok (.agg #[.slice pA.1 pn pA.2]) W)
    (first|with_reducible exact m.O _ (aa.trans (aa.drew oR) a9.O)|with_reducible exact m.O _ (aa.drew oR)|with_reducible exact m.O _ oR|fail)
    (first
     |(go_at_call 62;refine(dn.O o.drew (aa.drew oR)).mono ?_;rintro a a2 ⟨q,fl,rfl,e0,em⟩;have a9:=hD em;have a3:=hD e0;clear em e0)
     |fail)
   clear cr m;obtain⟨ab,b0⟩:=eX o.drew;have fw:Hd (o.drew=ab):=hD b0.symm;have ce:Hd (ac o ab):=hD (by rw[b0];exact oR.drew);have ba:=hD (Z.O.U ce.O);have dm:=hD (ce.O.J c2.O nF);have a9:ac ab a2:=by rw[b0];exact a9.O
   have a3:aZ a2 (bC ab a2) q fl p (Fr.begun p r.tk):=by rw[b0];exact a3.O
   clear b0;go_upto_region 6 with fail;obtain⟨dv,cv⟩:=eX a2.drew;have G:ac a2 dv:=by rw[cv];exact oR.drew
   have bp:=ba.O.retag a9 (100+q);obtain⟨b8,b2⟩ :∃t,t=cS tag ab a2 (100+q):=⟨_,rfl⟩
   rw[<-b2] at bp;have bq:=bp.U G;obtain⟨g7,eb⟩:=c8.O.key;obtain⟨aw,eg,e4,b5⟩:=(bq.p11 (by decide)).2.put (t:=119) (v:=ptr q) fF Tryz.underlying119 eb (by unfold maxLen;omega);have ai:=(bq.p11 (by decide)).1;have e3:=bq.same (i:=11) (b5.mono λb a=>by rw[a];exact ai);have fo:ab.heap.size<=q:=a3.ff.1;obtain⟨cn,cB⟩:=eX ((if (dY (λbz=>(s.T.fm bz).map λ_=>ptr (L.fp bz)) (aV n)).isSome then L.fn else L.fn+1));have da:({s with T:={s.T with rw:=rows}}:PS).prog n.job=p:=y.O.2.1
   have e2:=e3.frameNew (n:=n) (q:=q) (cn:=cn) (l':=fl) (f':=Fr.begun p r.tk) a0.O (c4.O.2.2 a0.O) (by
    rw[da];refine((a3.mo λb A=>?_).kp G nG).kp b5 (λb A a=>?_)
    ·rw[b2];exact fR A
    ·have A:b8 b=100+q:=A
     rw[a,ai] at A;omega) (λ_=>by rw[da];exact oS y.O.2.2.1.ok y.O.2.2.2) (λbz fk a=>by
    obtain⟨f,P⟩:=Option.ne_none_iff_exists'.1 fk;have:=(ba.O.p16 bz f P (by simp)).1.ff;have H:=ba.O.tlt _ (by rw[this];omega);rw[a] at H;omega) ⟨ai,by rw[cB];exact e4⟩
   have f7:Hd (aQ w aw tag b8):=hD (((((ds.O.trans (aQ.U ce.O)).trans (by rw[b2];exact aQ.retag ba.O.tlt a9 (100+q)))).trans (aQ.U G)).trans (aQ.same (i:=11) (by decide) (b5.mono λb a=>by rw[a];exact ai)));have c1:=hD e2;have f0:Hd ((cn:Int)<=L.fn+1):=hD (by rw[cB];split<;>omega);have cq:=a9.J dm.O nF
   have dd:b8 u=0:=by
    have fb:tag u=0:=hU f1.O.tlt (by rw[c5.O];exact lR);rw[b2];unfold cS;rw[yb (λa=>zC.2 a.1 dm.O.lt)];exact fb
   have eL:=hD (b5.J (G.J cq nF) (λa=>by rw[a,ai] at dd;exact absurd dd (by decide)));have ef:=(bp.p1 (by decide)).2;have ad:=ef.I 9;simp[bB] at ad;obtain⟨an,ar⟩:=cq.gE2;have f6:=hD cv.symm;change (Instr.mapUpdate 119 (.map (some L.fb)) (.agg #[.int .u64 n.job,.string (sB n.M)]) (.pointer (some ⟨q,0,none⟩))).run Tryz.prog dv=.ok () aw at eg;clear dn a3 a9 cv G bp b2 bq eb e4 b5 ai e3 fo cB da e2 cq dd ef
   go_still_tail 6,(by kernel_rfl)
   change wpList _ _ _ _ _ a2.drew;rw[f6.O];go_upto_region 7 with fail;clear ad an ar eg;obtain⟨an,ar⟩:=eL.O.gE2;obtain⟨c0,d,av,fv,E,F,R,g,S,V,_⟩:=(c1.O.p15 (by decide)).2.1 k th l.O.2.1;have dk:tp=c0:=yz (l.O.1.symm.trans E);subst dk;have cf:=g.I 3;have cg:=g.I 4;have ch:=g.I 5;simp[dQ] at cf cg ch;have f9:=g.fz 3;have fa:=g.fz 4;have a3:=g.fz 5;have c7:=hD g;have a1:=hD (aI R (aI S V));have f8:(aw.setCell ⟨tp,3,none⟩ (.int .u64 n.job)).cell? ⟨tp,4,none⟩=some (.string (sB th.cur.M)):=by rw[(g.s_ 3 _).I 4];simp[dQ]
   clear E F R g S V;go_wp2_with fail
   go_end0
   have az:=((c7.O.s_ 3 (.int .u64 n.job)).s_ 4 (.string (sB n.M))).s_ 5 (.pointer (some ⟨q,0,none⟩));rw[vq] at az;have b4:aa (λb=>b=tp) aw (((aw.setCell ⟨tp,3,none⟩ (.int .u64 n.job)).setCell ⟨tp,4,none⟩ (.string (sB n.M))).setCell ⟨tp,5,none⟩ (.pointer (some ⟨q,0,none⟩))):=((af _ tp 3 _).trans (af _ tp 4 _)).trans (af _ tp 5 _);have cp:=aY.thread (k:=k) (th:=th) (av:=av) {th with cur:=n,run:=true} c1.O l.O.2.1 l.O.1 a1.O.1 b4 az a1.O.2.1 a1.O.2.2 (λ_=>(by show _=ptr (ay L.fp n q n);rw[aA];rfl)) (λa=>by cases a)
   have db:b8 tp=15:=by
    obtain⟨_,_,_,_,Y,b6,_⟩:=(c1.O.p15 (by decide)).2.1 k th l.O.2.1;rw[show _=tp from yz (Y.symm.trans l.O.1)] at b6;exact b6
   refine⟨rfl,b8,({L with fp:=ay L.fp n q,fl:=ay L.fl n fl,fn:=cn}:cP),?_,f7.O.trans (aQ.same (i:=15) (by decide) (b4.mono λb a=>by rw[a];exact db)),?_⟩
   ·rw[bb.O,PS.th_eq l.O.2.1]
    have:({({s with T:={{s.T with rw:=rows} with fm:=ay s.T.fm n (some (Fr.begun p r.tk))}}:PS) with ths:=(({s with T:={{s.T with rw:=rows} with fm:=ay s.T.fm n (some (Fr.begun p r.tk))}}:PS)).ths.set k {th with cur:=n,run:=true}}:PS)= {s with T:=gQ (s.prog n.job) s.T n r,ths:=s.ths.set k {th with cur:=n,run:=true}}:=by
     unfold gQ;rw[a0.O,dp.O]
     first|rfl|(simp only;rw[<-a0.O,jU])|(simp only[Option.getD_none];rw[y.O.2.1])
    rw[<-this];exact cp
   ·rw[bb.O]
    exact⟨rfl,rfl,rfl,rfl,by simp;omega,f0.O,by simp;omega,[],by simp[gQ],by simp⟩
end
end
end Go.Proofs.YtmdocplknceilaaGreat
