import Derived.Test.YtmdocplknceilaaGreatNWBY
set_option linter.all false
set_option maxRecDepth 100000
set_option maxHeartbeats 8000000
namespace Go.Proofs.YtmdocplknceilaaGreat
section
open Go.RowKit Go.Maps
def Du(w w':World)(p:List ah)(inp:List Int)(fuel:Int)(e:Ending):Prop:=
 ac w w'/\(js p inp.length fuel≠0->e=.returned (.tuple #[.agg #[.string ⟨#[]⟩,.int .i64 0,.slice none 0 0,.int .i64 0],.int .i64 (js p inp.length fuel)]))/\
  (js p inp.length fuel=0->∃A c,e=.returned (.tuple #[.agg (bO ⟨[],0,inp,fuel.toNat⟩ A c),.int .i64 0])/\aL w' (bC w w') A inp)
theorem wV(p:List ah)(A v:Option Addr)(c V:Nat)(F ci:Nat->Prop)(e:List Int)(a:Int)(w:World)(b1:fN w F A p)(b8:p.length<=1000)(b9:∀x∈p,x.ops.length<=1000)(b3:cO w w.heap.size 1 v e.length (e.map (Value.int .i64)))(b7:e.length<=1000):
 Calls Tryz.prog 12 #[aP p A c,.slice v e.length V,.int .i64 a] w λz w'=>Du w w' p e a z:=by
 obtain⟨n,T⟩:=eX p.length;obtain⟨q,a7⟩:=eX e.length;obtain⟨D,E⟩:=eX (w.alloc (.cells #[.slice A n c] 24));obtain⟨r,Q⟩:=eX (D.alloc (.cells #[.string ⟨#[]⟩,.int .i64 0,.slice none 0 0,.int .i64 0] 30));have bb:ac w D:=by rw[E];exact(aa.refl _ w).alloc _
 have ab:ac D r:=by rw[Q];exact oR.alloc _
 obtain⟨f,R⟩:=eX w.heap.size;have b0:ae r f 24 #[.slice A n c]:=ab.J (by rw[E,R];exact bN) nF;have aE:ae r (f+1) 30 #[.string ⟨#[]⟩,.int .i64 0,.slice none 0 0,.int .i64 0]:=by rw[Q];have:=ae.new D 30 #[.string ⟨#[]⟩,.int .i64 0,.slice none 0 0,.int .i64 0];rw[show D.heap.size=f+1 by rw[E,R];simp] at this;exact this
 have W:=bb.trans ab;obtain⟨H,a4⟩:=eX (io p q)
 have av:Hd (Calls Tryz.prog 39 #[.agg #[.slice A n c],.slice v q V] r λz w'=>z=.returned (.int .i64 H)/\ac r w'):=hD (by
  have:=wO p A v c q V F r (b1.U W) b8 b9;unfold aP at this;rw[<-T,<-a4] at this;exact this)
 have am:=hD aE;have bp:=hD W;have ar:=hD (kM b3 W);have l:=hD (aI T (aI a7 (aI a4 b7)));have Z:=hD R;have az:=hD (show((w.alloc (.cells #[.slice A n c] 24)).alloc (.cells #[.string ⟨#[]⟩,.int .i64 0,.slice none 0 0,.int .i64 0] 30))=r by rw[Q,E]);have bf:=b0.I 0;simp at bf;unfold aP;rw[<-T,<-a7];clear b1 b8 b9 b3 b7 T a7 E Q bb ab R b0 aE W a4;go_enter Tryz.func12,Tryz.ntmps12;go_upto_region 1 with fail;rw[az.O,<-Z.O];clear az;go_wp2_with fail;refine av.O.mono ?_;rintro z j ⟨rfl,X⟩;have a1:=hD (bp.O.trans X);have d:=X.J am.O nF;obtain⟨bv,bx,bz,c0⟩:=d.gE4;have c1:=d.fz 0;have c6:=d.fz 1;have c7:=d.fz 2;have c8:=d.fz 3;have al:=hD d;have bn:=hD (kM ar.O X);clear X d av bf ar am;have K:Hd (ae ((((j.setCell ⟨f+1,0,none⟩ (.string ⟨#[]⟩)).setCell ⟨f+1,1,none⟩ (.int .i64 0)).setCell ⟨f+1,2,none⟩ (.slice none 0 0)).setCell ⟨f+1,3,none⟩ (.int .i64 0)) (f+1) 30 #[.string ⟨#[]⟩,.int .i64 0,.slice none 0 0,.int .i64 0]):=hD ((((al.O.s_ 0 _).s_ 1 _).s_ 2 _).s_ 3 _);have N:Hd (ac w ((((j.setCell ⟨f+1,0,none⟩ (.string ⟨#[]⟩)).setCell ⟨f+1,1,none⟩ (.int .i64 0)).setCell ⟨f+1,2,none⟩ (.slice none 0 0)).setCell ⟨f+1,3,none⟩ (.int .i64 0))):=hD (a1.O.trans' (aJ (aJ (aJ (af j (f+1) _ _)))) (λb G=>.inr (by rw[G,Z.O];exact yX _)))
 by_cases B:H=0
 ·subst B
  have a0:Hd (js p e.length a=if a<0\/65536<a then 2 else 0):=hD (by unfold js;rw[<-l.O.2.1,<-l.O.2.2.1,yb (by simp)])
  by_cases s:a<0
  ·have c9:decide (a<0)=true:=yg s
   have m:Hd (js p e.length a=2):=hD (by rw[a0.O,yf (.inl s)]);clear s;go_wp2_with fail;refine bodyPost_ret (aW Tryz.results12 rfl (cs:=#[.string ⟨#[]⟩,.int .i64 0,.slice none 0 0,.int .i64 0]) K.O Tryz.underlying30 rfl (by kernel_rfl)) rfl ?_;refine⟨N.O,λ_=>by rw[m.O];rfl,λo=>?_⟩;rw[m.O] at o
   cases o
  have c9:decide (a<0)=false:=yd s
  by_cases C:65536<a
  ·have cb:decide (65536<a)=true:=yg C
   have m:Hd (js p e.length a=2):=hD (by rw[a0.O,yf (.inr C)]);clear s C;go_wp2_with fail;refine bodyPost_ret (aW Tryz.results12 rfl (cs:=#[.string ⟨#[]⟩,.int .i64 0,.slice none 0 0,.int .i64 0]) K.O Tryz.underlying30 rfl (by kernel_rfl)) rfl ?_;refine⟨N.O,λ_=>by rw[m.O];rfl,λo=>?_⟩;rw[m.O] at o
   cases o
  have cb:decide (65536<a)=false:=yd C;have m:Hd (js p e.length a=0):=hD (by rw[a0.O,yb (λz=>z.elim s C)]);have bk:Hd (a=((a.toNat:Nat):Int)):=hD (by omega);clear s C K N;obtain⟨cg,b6,a8,a9,ba⟩:=mI
  have br:Hd (∀ad,cO (j.alloc ad) j.heap.size 1 v q (e.map (Value.int .i64))):=hD λad=>by
   have:=bn.O;rw[<-l.O.2.1] at this;exact this.alloc (lR) ad
  have L:=hD (aI b6 (aI a8 (aI a9 ba)));have aw:Hd (q<=1000):=hD (by rw[l.O.2.1];exact l.O.2.2.2);clear b6 a8 a9 ba
  go_wp2_with (at_builtin;refine fV _ rfl _ _ 25 rfl j.heap.size 2 cg (.int .i64 0) 1 8 Tryz.underlying25 L.O.1 L.O.2.1 L.O.2.2.1 L.O.2.2.2 rfl (by decide) _ _ _ rfl (World.ownsRow_made j #[] 0 (lR) (yx _) (by simp)) j.heap.size v q V (e.map (Value.int .i64)) rfl (br.O _) ?c2 ?c3 ?c4 ?c5 ?_)
  case c2=>intro u cf;obtain⟨y,_,rfl⟩:=yL.1 cf;rfl
  case c3=>rw[yq];exact lT aw.O (by unfold maxLen;decide)
  case c4=>rw[yq];exact lT (zP 8 aw.O) (by decide)
  case c5=>simp
  intro ch Y a6 b5 cd;have a5:ac j Y:=((aa.refl (λ_=>False) j).alloc _).grown b5 (λk S=>.inr (by simp[Value.ownBlock] at S;omega));have d:=a5.J al.O nF;obtain⟨bv,bx,bz,c0⟩:=d.gE4;have c1:=d.fz 0;have c6:=d.fz 1;have c7:=d.fz 2;have c8:=d.fz 3
  obtain⟨t,c',hv,b4⟩ :∃t c',ch=.slice t q c'/\aL Y (bC j Y) t e:=by
   rcases a6.2 with⟨P,a2⟩|⟨g,bt,cur,P,a2,a3,ck⟩
   ·exact⟨none,0,by rw[P,a2],.inl ⟨rfl,yr (by rw[<-l.O.2.1,a2])⟩⟩
   ·refine⟨some ⟨g,0,none⟩,bt,P,.inr ⟨g,0,rfl,λ_=>⟨⟨by assumption,(yu.1 a3).1⟩,cur,a3⟩,λk S=>⟨⟨by assumption,(yu.1 a3).1⟩,?_⟩⟩⟩
    have b2:=a6;rw[P] at b2;have:=b2.cells (g:=g) rfl k (.int .i64 (e.getD k 0)) (by rw[yJ,gG S,yc,gG S];rfl);rw[bw,yq] at this;rw[yq];exact this
  subst hv;have bq:=hD a5;have bm:=hD b4;have an:=hD d;clear a6 b5 cd a5 b4 d;go_wp2_with fail;refine bodyPost_ret (aW Tryz.results12 rfl (cs:=#[.string ⟨#[]⟩,.int .i64 0,.slice t q c',.int .i64 a]) ((((an.O.s_ 0 _).s_ 1 _).s_ 2 _).s_ 3 _) Tryz.underlying30 rfl (by kernel_rfl)) rfl ?_;have ai:=aJ (i:=3) (u:=.int .i64 a) (aJ (i:=2) (u:=.slice t q c') (aJ (i:=1) (u:=.int .i64 0) (af Y (f+1) 0 (.string ⟨#[]⟩))));have ce:=(a1.O.trans bq.O).trans' ai (λb G=>.inr (by rw[G,Z.O];exact yX _));refine⟨ce,λo=>absurd m.O o,λ_=>⟨t,c',?_,?_⟩⟩
  ·unfold bO
   rw[<-l.O.2.1,<-bk.O];rfl
  ·exact(bm.O.by_type ai an.O (by decide)).mo λb G=>(G.dn a1.O.size).up ai.size
 ·have a8:(H==0)=false:=bF B
  have a9:(H !=0)=true:=bT B;have m:Hd (js p e.length a=H):=hD (by rw[<-l.O.2.1,sk (by rw[<-l.O.2.2.1];exact B),l.O.2.2.1]);have bo:=hD B;clear B;go_wp2_with fail;refine bodyPost_ret (aW Tryz.results12 rfl (cs:=#[.string ⟨#[]⟩,.int .i64 0,.slice none 0 0,.int .i64 0]) K.O Tryz.underlying30 rfl (by kernel_rfl)) rfl ?_;refine⟨N.O,λ_=>by rw[m.O];rfl,λo=>?_⟩;rw[m.O] at o;exact absurd o bo.O
structure mG(w wr:World)(A TA:Option Addr)(c tc rb g:Nat)(o:bI)(L:gO)(p:List ah)(t:aj)(s:eh)(rs:List aD)(Ls:List aj)(wv:Value):Prop where
 r:cu wr rb L p t s
 ws:ju wr wv rs
 dn:bi wr (λb=>w.heap.size<=b/\b≠rb/\b≠L.gb) L.dv (Ls.flatMap (aK p))
 st:ac w wr
 pa:L.PA=A/\L.pc=c/\L.TA=TA/\L.tc=tc
 nb:w.heap.size<=rb/\w.heap.size<=L.gb
 ni:∀b,L.iv.ownBlock=some b->w.heap.size<=b
 nd:∀b,L.dv.ownBlock=some b->w.heap.size<=b
 nw:∀b,wv.ownBlock=some b->w.heap.size<=b
 kl:s.kd=Ls.length
 op:ae wr g 106 #[.int .u8 o.k,.int .i64 o.d,.int .i64 o.a,.int .i64 o.b,.int .i64 o.n]
 ll:(Ls.flatMap (aK p)).length<=t.fuel
def FO(w wr:World)(A TA:Option Addr)(c tc rb g:Nat)(o:bI)(l0:Nat)(p:List ah)(t:aj)(wv:Value)(er:Int):Prop:=
 ∃L s rs Ls,mG w wr A TA c tc rb g o L p t s rs Ls wv/\(er≠0->bH p t=⟨0,er⟩/\aS p t=Ls)/\
  (er=0->(o.k=13\/o.k=14)->∃s0,gJ p t s0 rs Ls/\s0.left≠0/\s0.left=l0/\bu p t.fn s0.at_=o/\s= {s0 with left:=s0.left-1,at_:=s0.at_+1})/\
  (er=0->o.k≠13->o.k≠14->gJ p t s rs Ls/\s.left<l0)
theorem Do.m{w z w':World}{A v:Option Addr}{c y j g:Nat}{L:gO}{p:List ah}{t:aj}{s s':eh}{x:List aD}{u:List aj}{B:Value}{o:bI}(e:Do w z A v c y j L p t s x u B)(D:cu w' j L p t s')(q:aa (λb=>b=j\/b=L.gb) z w')(C:s'.kd=s.kd)
 (l:ae w' g 106 #[.int .u8 o.k,.int .i64 o.d,.int .i64 o.a,.int .i64 o.b,.int .i64 o.n]):mG w w' A v c y j g o L p t s' x u B:=
 ⟨D,e.ws.run e.r q,e.dn.run e.r q (λb l=>l.2),e.st.trans' q (λb f=>.inr (f.elim (λf=>by rw[f];exact e.nb.1) (λf=>by rw[f];exact e.nb.2))),e.pa,e.nb,e.ni,e.nd,e.nw,by rw[C];exact e.i.kl,l,rt e.i⟩
theorem mG.run{w m w':World}{A j:Option Addr}{c l f g:Nat}{L:gO}{p:List ah}{t:aj}{s s':eh}{k:List aD}{i:List aj}{n:Value}{o:bI}(a:mG w m A j c l f g o L p t s k i n)(v:cu w' f L p t s')(e:aa (λb=>b=f\/b=L.gb) m w')(u:s'.kd=s.kd):mG w w' A j c l f g o L p t s' k i n:=
 ⟨v,a.ws.run a.r e,a.dn.run a.r e (λb q=>q.2),a.st.trans' e (λb d=>.inr (d.elim (λd=>by rw[d];exact a.nb.1) (λd=>by rw[d];exact a.nb.2))),a.pa,a.nb,a.ni,a.nd,a.nw,by rw[u];exact a.kl,e.J a.op (λd=>d.elim (ae.ne_ a.op a.r.J (by decide)) (ae.ne_ a.op a.r.rg (by decide))),a.ll⟩
theorem mG.U{w k w':World}{A e:Option Addr}{c j f g:Nat}{L:gO}{p:List ah}{t:aj}{s:eh}{i:List aD}{d:List aj}{l:Value}{o:bI}(a:mG w k A e c j f g o L p t s i d l)(b:ac k w'):mG w w' A e c j f g o L p t s i d l:=
 ⟨a.r.U b,b.owns a.ws nG,a.dn.U b,a.st.trans b,a.pa,a.nb,a.ni,a.nd,a.nw,a.kl,b.J a.op nF,a.ll⟩
theorem mG.res{w j w':World}{A m:Option Addr}{c v n g q:Nat}{L:gO}{p:List ah}{t:aj}{s:eh}{u:List aD}{l:List aj}{k:Value}{o:bI}{cs:Array Value}(a:mG w j A m c v n g o L p t s u l k)(e:ae j q 35 cs)(z:w.heap.size<=q)(y:∀b,k.ownBlock=some b->b≠q)(f:aa (λb=>b=q) j w'):mG w w' A m c v n g o L p t s u l k:=
 ⟨a.r.kp f (λd=>ae.ne_ e a.r.J (by decide) d.symm) (λd=>ae.ne_ e a.r.rg (by decide) d.symm) (λb x d=>aB a.r.into e (by decide) (by rw[x,d])),f.owns a.ws y,a.dn.keepT f (λb B _ i d=>ae.ne_ i e (by decide) d) (λb B i d=>ae.ne_ i e (by decide) d),a.st.trans' f (λb d=>.inr (by rw[d];exact z)),a.pa,a.nb,a.ni,a.nd,a.nw,a.kl,f.J a.op (λd=>ae.ne_ a.op e (by decide) d),a.ll⟩
theorem mG.l{w j:World}{A e:Option Addr}{c i f g:Nat}{L:gO}{p:List ah}{t:aj}{s:eh}{d:List aD}{b:List aj}{k:Value}{o:bI}(a:mG w j A e c i f g o L p t s d b k)(m:gJ p t s d b):Do w j A e c i f L p t s d b k:=
 ⟨a.r,m,a.ws,a.dn,a.st,a.pa,a.nb,a.ni,a.nd,a.nw⟩
theorem lX{p:List ah}{t:aj}{a:List aj}(b:aS p t=a):aK p t=⟨t,bH p t,a.length⟩ :: a.flatMap (aK p):=by rw[fG,b]
theorem lJ{W9 W w':World}{q f e:Nat}{cs k j:Array Value}{o:Value}(i:aa (λb=>b=q) W w')(s:∀b,o.ownBlock=some b->b=q\/W.heap.size<=b)(a:ac W9 W)(m:ae W q 77 cs)(n:W9.heap.size<=q)(l:∀W q cs,ac W9 W->ae W q 77 cs->f≠q/\e≠q)(g:ae W9 f 35 k)(r:ae W9 e 35 j):
 ae w' f 35 k/\ae w' e 35 j/\ac W9 w'/\∀b,o.ownBlock=some b->W9.heap.size<=b:=
 ⟨i.J (a.J g nF) (l W q cs a m).1,i.J (a.J r nF) (l W q cs a m).2,a.trans' i λb d=>.inr (by rw[d];exact n),λb g=>(s b g).elim (λd=>by rw[d];exact n) (λd=>lT a.size d)⟩
section
variable {p:List ah}{A:Option Addr}{c:Nat}{F:Nat->Prop}
theorem DK(fp:Nat)(hc:gC p)(hX:∀(t:aj),t.fuel<fp->∀(D:Option Addr) (N:Nat) (b3:Nat->Prop) (w:World),fN w F A p->aL w b3 D t.args->bW p t->Calls Tryz.prog 13 #[aP p A c,.agg (bO t D N)] w λe w'=>xr w w' b3 p t e)
 (t:aj) (ie:t.fuel<=fp) (D:Option Addr) (N:Nat) (b3:Nat->Prop) (w:World) (cb:fN w F A p) (hb:aL w b3 D t.args) (hd:bW p t):
 Calls Tryz.prog 13 #[aP p A c,.agg (bO t D N)] w λe w'=>xr w w' b3 p t e:=by
 obtain⟨n,gc⟩:=eX p.length;obtain⟨al,g8⟩:=eX t.args.length;obtain⟨tp,go⟩:=eX (sB t.M);obtain⟨fn,g9⟩:=eX t.fn;obtain⟨b0,gn⟩:=eX ((t.fuel:Int):Int);obtain⟨fr,eL⟩:=eX (w.alloc (.cells #[.slice A n c] 24));obtain⟨fs,f0⟩:=eX (fr.alloc (.cells #[.string tp,.int .i64 fn,.slice D al N,.int .i64 b0] 30));obtain⟨b6,g6⟩:=eX (fs.alloc (.cells #[.int .i64 0,.int .i64 0] 35));have j3:ac w fr:=by rw[eL];exact(aa.refl _ w).alloc _
 have hE:ac fr fs:=by rw[f0];exact oR.alloc _
 have gt:ac fs b6:=by rw[g6];exact oR.alloc _
 obtain⟨f,gb⟩:=eX w.heap.size;have Y:fr.heap.size=f+1:=by rw[eL,gb];simp
 have fa:fs.heap.size=f+1+1:=by rw[f0];simp[Y]
 have h5:ae b6 f 24 #[.slice A n c]:=(hE.trans gt).J (by rw[eL,gb];exact bN) nF;have h6:ae b6 (f+1) 30 #[.string tp,.int .i64 fn,.slice D al N,.int .i64 b0]:=gt.J (by rw[f0,<-Y];exact bN) nF;have i3:ae b6 (f+1+1) 35 #[.int .i64 0,.int .i64 0]:=by rw[g6,<-fa];exact bN
 have ef:=(j3.trans hE).trans gt;have fj:=hD (wL p A D c N F b3 t b6 (cb.U ef) hc (hb.kp ef nG) hd);unfold aP bO at fj;unfold aP bO;rw[<-gc,<-g8,<-go,<-g9,<-gn] at fj;rw[<-gc,<-g8,<-go,<-g9,<-gn];have hV:Hd (((w.alloc (.cells #[.slice A n c] 24)).alloc (.cells #[.string tp,.int .i64 fn,.slice D al N,.int .i64 b0] 30)).alloc (.cells #[.int .i64 0,.int .i64 0] 35)=b6):=hD (by rw[g6,f0,eL]);have b2:=h5.I 0;simp[] at b2;obtain⟨cf,cg,ch,ci⟩:=h6.gE4;have a6:=hD (aI gc (aI g8 (aI go (aI g9 gn))));have e7:=hD gb;have jn:=hD h5;have eg:=hD h6;have ck:=hD i3;have b4:=hD ef;have gN:=hD (cb.U ef);have ej:=hD (hb.kp ef nG);have ab:=hD hd;have c9:=hD hc;have k7:=hD hX;have ks:=hD ie;clear cb hb hd hc hX ie gc g8 go g9 gn eL f0 g6 j3 hE gt gb Y fa h5 h6 i3 ef;go_enter Tryz.func13,Tryz.ntmps13;go_upto_region 1 with fail;rw[hV.O,<-e7.O];clear hV;go_wp2_with fail;refine fj.O.mono ?_;rintro e m6 ⟨z,m8,mb,rfl,hZ,i0,h9,j5⟩;clear fj b2 cf cg ch ci;have hO:=hD h9;have hY:=hD j5;have gB:=hD (aI hZ i0);clear h9 j5 hZ i0;go_wp2_with fail
 go_loopw [7] (λi wr=>FP b6 wr A D c N z p t i) (λ_ wr=>leftOf wr z)
 case atStart=>
  refine⟨_,_,[],[],hO.O,gJ.start c9.O ab.O,⟨rfl,.inl ⟨rfl,rfl⟩⟩,⟨[],rfl,⟨rfl,.inl ⟨rfl,rfl⟩⟩,λi u a l6=>by simp at l6⟩,hY.O,⟨rfl,rfl,rfl,rfl⟩,⟨gB.O.1.1,gB.O.2.1⟩,?_,?_,?_⟩<;>(intro b x;cases x)
 case round=>
  clear hO hY gB;obtain⟨L,s,br,a5,dm⟩:=hrel;obtain⟨fd,fw,l9⟩:=bP dm.ws;subst l9;obtain⟨⟨k,d,a,b,bp⟩,hs⟩ :∃o,o=bu p t.fn s.at_:=⟨_,rfl⟩
  obtain⟨c0,he⟩:=eX ((eP p t s).1);obtain⟨fa,f5⟩:=eX ((eP p t s).2);have ek:=hD (Bv p F t wr z L s (by rw[dm.pa.1];exact gN.O.U dm.st) c9.O ab.O dm.r dm.i.b);unfold xB cR at ek;rw[<-hs,<-he,<-f5] at ek;simp only at ek;have c6:=hD dm;have ds:=hD hs;have c8:=hD (aI he f5);have ia:leftOf wr z=s.left:=dm.r.leftOf;have hQ:=hD ia;clear dm hs he f5 ia
  go_upto_region 4 with(go_at_call 41;refine ek.O.mono ?_;rintro e h2 ⟨rfl,i6,j6⟩)
  obtain⟨g,hf⟩:=eX h2.heap.size;obtain⟨dz,g7⟩:=eX (h2.alloc (.cells #[.int .u8 k,.int .i64 d,.int .i64 a,.int .i64 b,.int .i64 bp] 106));rw[<-g7,<-hf];have hF:ac h2 dz:=by rw[g7];exact oR.alloc _
  have h4:ae dz g 106 #[.int .u8 k,.int .i64 d,.int .i64 a,.int .i64 b,.int .i64 bp]:=by rw[g7,hf];exact bN
  have C:=hD (c6.O.m (o:=⟨k,d,a,b,bp⟩) (i6.U hF) (j6.trans (hF.mono λ_ e=>e.elim)) (by rw[c8.O.2];exact xg p t s) h4);obtain⟨b2,bt,bv,bx,bz⟩:=h4.gE5;clear ek i6 j6 hF h4 g7 hf
  by_cases bm:c0=0
  ·subst bm
   go_upto_if 29 with fail
   go_cut [7,9] (λs7 s9 wx=>∃e6 e3 ea b7,s7=.slice e6 e3 ea/\s9=.int .i64 b7/\FO b6 wx A D c N z g ⟨k,d,a,b,bp⟩ s.left p t (.slice e6 e3 ea) b7)
   case first=>
    by_cases hi:k=12
    ·subst hi
     have cd:=lq c8.O.1.symm;have cm:=hD cd;obtain⟨g0,g1,eq⟩:=c6.O.i.fork c9.O ab.O cd (by rw[<-ds.O]);have f5:fa= {s with left:=s.left-1,at_:=s.at_+1}:=by rw[c8.O.2];exact sm c8.O.1.symm (by rw[<-ds.O];exact .inl rfl)
     subst f5;rw[<-ds.O] at eq;have ce:=c6.O.i.op c9.O ab.O;rw[<-ds.O] at ce
     by_cases hj:s.kd=16
     ·have k2:=hD (g0 hj)
      have c5:=hD (Bq (k:=12) (d:=d) (a:=a) (b:=b) (n:=bp) C.O.r hj);unfold qu cR qr at c5;clear g0 g1 eq ce cd
      go_wp2_with (go_at_call 42;refine c5.O.mono ?_;rintro e e9 ⟨rfl,g2,e4⟩)
      go_meet
      case rel=>exact⟨fd,br.length,fw,132,rfl,rfl,L,_,br,a5,C.O.U (e4.alloc _),λ_=>k2.O,λe=>absurd e (by decide),λe=>absurd e (by decide)⟩
     ·have f2:s.kd<16:=Nat.lt_of_le_of_ne c6.O.i.k16 hj
      by_cases ht:t.M.length=12
      ·have k3:=hD (g1 f2 ht)
       have c5:=hD (Bp (k:=12) (d:=d) (a:=a) (b:=b) (n:=bp) C.O.r f2 ab.O.pth ht);unfold qu cR qr at c5;clear g0 g1 eq ce cd
       go_wp2_with (go_at_call 42;refine c5.O.mono ?_;rintro e e9 ⟨rfl,g2,e4⟩)
       go_meet
       case rel=>exact⟨fd,br.length,fw,133,rfl,rfl,L,_,br,a5,C.O.U (e4.alloc _),λ_=>k3.O,λe=>absurd e (by decide),λe=>absurd e (by decide)⟩
      ·have ib:t.M.length<12:=Nat.lt_of_le_of_ne ab.O.pth.1 ht
       obtain⟨hI,lk,hy⟩:=eq f2 ib;have f4:=ce.fk rfl;obtain⟨a,rfl⟩ :∃h3:Nat,a=(h3:Int):=ym ce.a.1;obtain⟨bp,rfl⟩ :∃n':Nat,bp=(n':Int):=ym f4.1;have ih:=c9.O.fn ab.O.fn0 ab.O.fn1;have ik:=c9.O.fn (i:=(bp:Int)) (zD _) f4.2.1;have ee:=c6.O.i.b.rl;have c5:=hD (El F 12 d b a bp (bG p (bp:Int)) (by rw[C.O.pa.1];exact gN.O.U C.O.st) C.O.r f2 ab.O.pth ib (by rw[<-(gk (p:=p) (i:=(bp:Int)) (zD _) f4.2.1).2,yo]) ik.a0 (by have dl:=f4.2.2;show _\/(a:Int)+(bG p (bp:Int)).args<=(s.rg.length:Int);rw[ee];exact dl) (by have:=ih.r16;show s.rg.length<=1000;omega) (by have:=c6.O.i.b.lf;show s.left-1<=1000000;omega) (by show s.into.length<16;rw[c6.O.i.il];exact f2));unfold xu cR bO at c5;obtain⟨a9,hn⟩:=eX (dc p t.M s.kd ⟨12,d,(a:Int),b,(bp:Int)⟩ s.rg (s.left-1));simp only at c5;rw[<-hn] at c5 hI hy;obtain⟨kp,hm⟩:=eX (sB a9.M);obtain⟨iz,hl⟩:=eX a9.fn;obtain⟨iw,hk⟩:=eX a9.args.length;obtain⟨j0,ho⟩:=eX ((a9.fuel:Int):Int);rw[<-hm,<-hl,<-hk,<-ho] at c5;have fo:=hD (aI hm (aI hl (aI hk ho)));have h0:=hD hy;have kk:=hD hI;have ka:Hd (a9.fuel<fp):=hD (by have:=ks.O;rw[hn];show(s.left-1) / 2<fp;omega);clear g0 g1 eq ce cd f4 ih ik ee hn hm hl hk ho hI lk hy
       go_upto_region 8 with(go_at_call 42;refine c5.O.mono ?_;rintro e e9 ⟨gw,h7,iv,rfl,is,g2,v6,e4⟩)
       obtain⟨d2,ec⟩:=eX (e9.alloc (.cells #[.string kp,.int .i64 iz,.slice gw iw h7,.int .i64 j0] 30));obtain⟨l1,hg⟩:=eX e9.heap.size;rw[<-ec,<-hg];have f8:ac e9 d2:=by rw[ec];exact oR.alloc _
       have i1:ae d2 l1 30 #[.string kp,.int .i64 iz,.slice gw iw h7,.int .i64 j0]:=by rw[ec,hg];exact bN
       have fq:=hD (e4.trans (f8.mono (T:=λb=>b=z\/L.iv.ownBlock=some b) λ_ e=>e.elim));have jl:=hD (g2.U f8);have kt:=hD (is.kp f8 nG);have kv:=hD v6;have hT:=hD (aI e4.size f8.size);have g4:ac b6 d2:=C.O.st.trans' fq.O λb e=>.inr (e.elim (λe=>by rw[e];exact C.O.nb.1) (λe=>C.O.ni b e))
       have h1:=hD g4;have kl:=hD (fq.O.owns C.O.ws (λb x e=>e.elim (λe=>aB C.O.ws C.O.r.J (by decide) (by rw[x,e])) (λe=>lp C.O.ws C.O.r.into (by decide) b x e)));have hR:=hD (fq.O.J C.O.op (λe=>e.elim (ae.ne_ C.O.op C.O.r.J (by decide)) (λe=>aB C.O.r.into C.O.op (by decide) e)))
       have k1:Hd (bi d2 (λb=>b6.heap.size<=b/\b≠z/\b≠L.gb) L.dv (a5.flatMap (aK p))):=hD (by
        exact C.O.dn.keepT fq.O (λb m2 x bm e=>e.elim x.2.1 (λe=>aB C.O.r.into bm (by decide) e)) (λb m2 bm e=>e.elim (λe=>ae.ne_ bm C.O.r.J (by decide) e) (λe=>aB C.O.r.into bm (by decide) e)))
       have j8:=((g4.J jn.O nF)).I 0;simp[] at j8;obtain⟨ln,f9,dp,e5⟩:=i1.gE4;have fm:=hD (k7.O a9 ka.O gw h7 (bC dz e9) d2 (gN.O.U g4) kt.O kk.O);unfold xr aP bO eO at fm;rw[<-fo.O.1,<-fo.O.2.1,<-fo.O.2.2.1,<-fo.O.2.2.2,<-a6.O.1] at fm;clear c5 f8 i1 g4 ec hg g2 is v6 e4
       go_upto_region 9 with(go_at_call 13;refine fm.O.mono ?_;rintro e W8 ⟨lw,rfl,fx,c7,hB⟩)
       obtain⟨fb,fv,l8⟩ :∃fb fv,lw=.slice fb (aK p a9).length fv:=by obtain⟨_,_,a3,_⟩:=fx;exact bP a3
       subst l8;obtain⟨j2,ge⟩:=eX ((aK p a9).length);rw[<-ge];rw[<-ge] at fx hB;obtain⟨b9,e0⟩:=eX ((bH p a9).v);obtain⟨hH,hu⟩:=eX ((bH p a9).e);rw[<-e0,<-hu];obtain⟨W9,R⟩:=eX (W8.alloc (.cells #[.int .i64 b9,.int .i64 hH] 35));obtain⟨l2,hh⟩:=eX W8.heap.size;rw[<-R,<-hh];have Q:ac W8 W9:=by rw[R];exact oR.alloc _
       have i2:ae W9 l2 35 #[.int .i64 b9,.int .i64 hH]:=by rw[R,hh];exact bN
       have dk:=hD (c7.trans Q);have m4:=hD ge;have dd:=hD (aI e0 hu);have k0:=hD (fx.U Q);have m3:=hD hB;have el:Hd (ju W9 (.slice fd br.length fw) br):=hD (dk.O.owns kl.O nG);have ki:Hd (br.length<=1000):=hD (by have:=c6.O.i.fl;have:=c6.O.i.k16;omega);have kf:Hd (md (bH p a9)= [.int .i64 b9,.int .i64 hH]):=hD (by rw[dd.O.1,dd.O.2];rfl);obtain⟨m0,m1⟩:=i2.gE2;clear fm fx hB c7 Q i2 R hh ge e0 hu j8 ln f9 dp e5
       go_upto_region 10 with(at_builtin;refine py rfl _ _ rfl _ rfl rfl br (bH p a9) (aa.owns (S:=λ_=>False) (by repeat (first|with_reducible exact oR|with_reducible refine aa.alloc ?_ _)) el.O nG) (by rw[kf.O];exact bN) ki.O ?_;intro lz b5 bn a3 c2)
       obtain⟨gA,eb,la⟩ :∃A c,lz=.slice A (br++ [bH p a9]).length c:=bP bn;subst la;obtain⟨hC,gf⟩:=eX ((br++ [bH p a9]).length);rw[<-gf] at bn c2;rw[<-gf];have e8:=hD (aa.trans (((aa.refl (λ_=>False) W9).alloc _).mono λ_ e=>e.elim) a3);have ku:Hd (∀b,(Value.slice gA hC eb).ownBlock=some b->b6.heap.size<=b):=hD λb x=>(c2 b x).elim (C.O.nw b) λe=>lT (lT h1.O.size dk.O.size) (lT (by simp) e)
       have ff:=hD ((jl.O.U dk.O).by_own e8.O el.O (by decide) (by decide) (by decide));have hW:=hD bn;have ic:=C.O.r.J.lt;have i8:=C.O.r.rg.lt;have hM:=hD ((k1.O.U dk.O).by_own e8.O el.O (by decide) (by decide))
       have ji:Hd (bi b5 (λb=>b6.heap.size<=b/\b≠z/\b≠L.gb) (.slice fb j2 fv) (aK p a9)):=hD ((k0.O.by_own e8.O el.O (by decide) (by decide)).mo λb x=>by
        have ha:dz.heap.size<=b:=x.elim (λe=>e.1) (λe=>lT (lT hT.O.1 hT.O.2) e);exact⟨lT C.O.st.size ha,λe=>absurd ic (by rw[<-e];exact zC.2 ha),λe=>absurd i8 (by rw[<-e];exact zC.2 ha)⟩)
       have hS:=hD (e8.O.J (dk.O.J hR.O nF) (λe=>aB el.O (dk.O.J hR.O nF) (by decide) e));obtain⟨X,b1⟩:=eX ((a5.flatMap (aK p)).length);obtain⟨H,K,V⟩ :∃H K,L.dv=.slice H X K:=by rw[b1];obtain⟨_,_,G,_⟩:=hM.O;exact bP G
       have dq:=hD V;have hN:Hd (bi b5 (λb=>b6.heap.size<=b/\b≠z/\b≠L.gb) (.slice H X K) (a5.flatMap (aK p))):=hD (by rw[<-V];exact hM.O);have hP:Hd (∃hG,b5.ownsRow 0 77 7 (.slice H X K) (a5.flatMap (aK p)).length hG):=hD (by obtain⟨hG,_,G,_⟩:=hN.O;exact⟨_,G⟩)
       have kc:Hd ((a5.flatMap (aK p)).length+(aK p a9).length<=1000000):=hD (by
        have dl:=rt h0.O;rw[zL,yk] at dl;simp at dl;have ex:=ab.O.fl;have h9:(a5.flatMap (aK p)).length=(a5.map λa=>(aK p a).length).sum:=List.length_flatMap;omega)
       have a8:=ff.O.J.I 11;simp[cT,V] at a8;have m5:=hD gf;clear bn a3 c2 m0 m1 V b1 ic i8 gf
       go_wp2_with (at_builtin;refine oN rfl _ _ rfl (.slice H X K) rfl (.slice fb j2 fv) rfl (a5.flatMap (aK p)) (aK p a9) hN.O ji.O kc.O ?_;intro l0 ft gp f6 lg;obtain⟨hA,gx,h8,l5⟩ :∃n A c,l0=.slice A n c:=(by obtain⟨_,_,G,_⟩:=gp;exact⟨_,bP G⟩);subst l5;have em:=f6.J ff.O.J (λe=>by obtain⟨_,G⟩:=hP.O;exact aB G ff.O.J (by decide) e);have kS:=em.I 11;have m7:=em.fz 11;simp[cT] at kS)
       go_meet
       case rel=>
        obtain⟨hG,G⟩:=hP.O;have jj:=ff.O.by_own f6 G (by decide) (by decide) (by decide);have gu:aa (λb=>b=z) ft (ft.setCell ⟨z,11,none⟩ (.slice gx hA h8)):=af _ _ _ _;have jd:ju ft (.slice gA hC eb) (br++ [bH p a9]):=f6.owns hW.O (λb x e=>lp hW.O G (by decide) b x e);have j7:=f6.J hS.O (λe=>aB G hS.O (by decide) e);have lo:ac b6 ft:=((h1.O.trans dk.O).trans' e8.O λb e=>.inr (C.O.nw b e)).trans' f6 λb e=>.inr (C.O.nd b (by rw[dq.O];exact e))
        refine⟨gA,hC,eb,0,rfl,rfl,{L with iv:=iv,dv:=.slice gx hA h8},_,br++ [bH p a9],a5++ [a9],⟨jj.dv_set (.slice gx hA h8),gu.owns jd (λb x e=>aB jd em (by decide) (by rw[x,e])),?_,lo.trans' gu (λb e=>.inr (by rw[e];exact C.O.nb.1)),C.O.pa,C.O.nb,?_,?_,ku.O,?_,gu.J j7 (λe=>ae.ne_ j7 em (by decide) e),rt h0.O⟩,λe=>absurd rfl e,λ_ e=>absurd (show(12:Int)=13\/(12:Int)=14 from e) (by decide),λ_ _ _=>⟨h0.O,?_⟩⟩
        ·have:=gp.by_type gu em (by decide) (by decide)
         rw[zL]
         simpa using this
        ·exact λb x=>(kv.O b x).elim (C.O.ni b) λe=>lT C.O.st.size e
        ·exact λb x=>(lg b x).elim (λe=>C.O.nd b (by rw[dq.O];exact e)) λe=>lT (((h1.O.trans dk.O).trans' e8.O λb e=>.inr (C.O.nw b e))).size e
        ·have:=C.O.kl
         show s.kd+1=(a5++ [a9]).length;rw[yk];have ex:s.kd=a5.length:=this;rw[ex];rfl
        ·have:=cm.O
         show(s.left-1)-(s.left-1) / 2<s.left;omega
    ·have l7:(k==12)=false:=bF hi
     go_wp2_with fail;go_meet
     case rel=>exact⟨fd,br.length,fw,0,rfl,rfl,L,fa,br,a5,C.O,λe=>absurd rfl e,λ_ l4=>⟨s,c6.O.i,lq c8.O.1.symm,rfl,ds.O.symm,by rw[c8.O.2];exact sm c8.O.1.symm (by rw[<-ds.O];exact .inr l4)⟩,λ_ er es=>by rw[c8.O.2];exact uT c6.O.i c9.O ab.O c8.O.1.symm (by rw[<-ds.O];exact λe=>e.elim hi (λe=>e.elim er es))⟩
   case rest=>
    obtain⟨e6,e3,ea,b7,rfl,rfl,cn,s7,aE,P,hz,f9,dp,e5⟩:=hcut;obtain⟨d2,ec⟩:=eX wc;subst ec;clear C;obtain⟨b2,bt,bv,bx,bz⟩:=hz.op.gE5;have bb:=hD hz;clear hz
    by_cases bm:b7=0
    ·subst bm
     clear f9
     by_cases er:k=13
     ·subst er
      obtain⟨Y,aw,f7,cd,f3,hv⟩:=dp rfl (.inl rfl);subst hv;have db:=hD aw;have dw:=hD f3;have cm:=hD (aI f7 cd);have dr:=hD (pQ (.slice e6 e3 ea) aE bb.O.r bb.O.ws aw.f1 (by show Y.first-1+aE.length=Y.into.length;rw[aw.il];exact aw.fl) (by show Y.into.length<=16;rw[aw.il];exact aw.k16) aw.k16 aw.ii);unfold ro at dr
      have hr:e3=aE.length:=by
       obtain⟨_,_,e⟩:=bP bb.O.ws;injection e
      subst hr;clear dp e5 aw f7 cd f3
      by_cases b8:cC (Y.ws aE)=0
      ·have ei:=hD b8
       clear b8;have cw:=hD (dr.O.mono λe w' cb=>cb.2 ei.O);have k8:=hD (((db.O.join c9.O ab.O cm.O.1 (by rw[dw.O])).2 ei.O))
       go_upto_region 14 with(go_at_call 43;refine cw.O.mono ?_;rintro e W8 ⟨rfl,d4,c7⟩)
       have a7:=bb.O.run d4 c7 rfl;clear b2 bt bv bx bz;obtain⟨b2,bt,bv,bx,bz⟩:=a7.op.gE5;have l3:=hD d4;clear d4 c7;go_wp2_with fail;have d4:=l3.O;refine⟨⟨cn,_,[],P,⟨d4,k8.O,⟨rfl,.inl ⟨rfl,rfl⟩⟩,a7.dn,a7.st,a7.pa,a7.nb,a7.ni,a7.nd,λb x=>by cases x⟩⟩,?_⟩;rw[hQ.O,d4.leftOf];show Y.left-1<s.left;have dl:=cm.O.1;have ex:=cm.O.2;omega
      ·have f1:(cC (Y.ws aE)==0)=false:=bF b8
       obtain⟨Z,c1⟩:=eX (cC (Y.ws aE));have ai:Hd (bH p t=⟨0,Z⟩/\aS p t=P):=hD (by rw[c1];exact(db.O.join c9.O ab.O cm.O.1 (by rw[dw.O])).1 b8);have e1:(Z==0)=false:=by rw[c1];exact f1
       have e2:(Z !=0)=true:=by rw[bne_iff_ne,c1];exact b8
       have cw:=hD (dr.O.mono λe w' cb=>cb.1 b8);unfold eh.ws at c1;clear b8 f1;rw[show cC (List.zip (Y.into.drop (Y.first-1)) aE)=Z from c1.symm] at cw;clear c1
       go_upto_region 14 with(go_at_call 43;refine cw.O.mono ?_;rintro e W8 ⟨rfl,c7⟩)
       have a7:=hD (bb.O.U c7);obtain⟨b2,bt,bv,bx,bz⟩:=a7.O.op.gE5;go_upto_region 18 with fail;obtain⟨y,a1⟩ :∃q,q=W8.heap.size:=⟨_,rfl⟩
       obtain⟨W9,R⟩:=eX (W8.alloc (.cells #[.int .i64 0,.int .i64 Z] 35));rw[<-R,<-a1];have Q:ac W8 W9:=by rw[R];exact oR.alloc _
       have a2:Hd (ae W9 y 35 #[.int .i64 0,.int .i64 Z]):=hD (by rw[R,a1];exact bN);have j:=hD (a7.O.U Q);have cr:Hd (f+1+1<y):=hD (by rw[a1];exact(a7.O.st.J ck.O nF).lt);clear e1 e2 R a1 Q b2 bt bv bx bz;obtain⟨X,b1⟩:=eX ((P.flatMap (aK p)).length);obtain⟨H,K,V⟩ :∃H K,cn.dv=.slice H X K:=by rw[b1];obtain⟨_,_,a3,_⟩:=j.O.dn;exact bP a3
       have dq:=hD V;obtain⟨a4,av⟩:=eX ((P.length:Int):Int);have an:=j.O.r.J.I 8;have a8:=j.O.r.J.I 11;simp[cT,V] at a8;rw[show(cT cn p.length t _)[8]?=some (.int .i64 a4) by rw[av,<-j.O.kl];rfl] at an;have cB:=hD av;have am:=j.O.st.J eg.O nF;have bf:=j.O.st.J ck.O nF;obtain⟨cf,cg,ch,ci⟩:=am.gE4;obtain⟨c3,c4⟩:=a2.O.gE2;have ad:=hD bf;have d1:Hd (∀W q cs,ac W9 W->ae W q 77 cs->f+1+1≠q/\y≠q):=hD λW q cs B x=>⟨ae.ne_ (B.J ad.O nF) x (by decide),ae.ne_ (B.J a2.O nF) x (by decide)⟩
       have cp:Hd (gR ⟨t,⟨0,Z⟩,P.length⟩ (D,N)= [.string tp,.int .i64 fn,.slice D al N,.int .i64 b0,.int .i64 0,.int .i64 Z,.int .i64 a4]):=hD (by rw[cB.O,a6.O.2.1,a6.O.2.2.1,a6.O.2.2.2.1,a6.O.2.2.2.2];rfl);have cv:Hd (aL W9 (λb=>b3 b\/w.heap.size<=b) D t.args):=hD ((ej.O.kp j.O.st nG).mo λ_ e=>.inl e);have cq:Hd (bi W9 (λb=>b3 b\/w.heap.size<=b) (.slice H X K) (P.flatMap (aK p))):=hD (by rw[<-V];exact j.O.dn.mo λb x=>.inr (lT b4.O.size x.1));have d0:Hd ((P.flatMap (aK p)).length<=100000):=hD (lT j.O.ll (lT ab.O.fl (by decide)))
       have E:Hd (∀W,aa (λb=>b=f+1+1) W9 W->aa (λb=>b=f+1+1) W9 W/\W.cell? ⟨z,8,none⟩=some (.int .i64 a4)/\W.cell? ⟨z,11,none⟩=some (.slice H X K)/\W.cell? ⟨y,0,none⟩=some (.int .i64 0)/\W.cell? ⟨y,1,none⟩=some (.int .i64 Z)/\W.cell? ⟨f+1,0,none⟩=some (.string tp)/\W.cell? ⟨f+1,1,none⟩=some (.int .i64 fn)/\W.cell? ⟨f+1,2,none⟩=some (.slice D al N)/\W.cell? ⟨f+1,3,none⟩=some (.int .i64 b0)):=hD λW B=>by
        have bk:z≠f+1+1:=λe=>ae.ne_ ad.O j.O.r.J (by decide) e.symm
        have d3:y≠f+1+1:=λe=>yQ _ (by have:=cr.O;rw[e] at this;exact this)
        have bq:=B.J a2.O d3;have G:=B.J am (Yl (Yf _));exact⟨B,(B.I (p:=⟨z,8,none⟩) j.O.r.J.lt bk).trans an,(B.I (p:=⟨z,11,none⟩) j.O.r.J.lt bk).trans a8,bq.I 0,bq.I 1,G.I 0,G.I 1,G.I 2,G.I 3⟩
       have g3:=E.O W9 oR;clear V av am bf b1 an a8 cf cg ch ci c3 c4
       go_region_held3 (λW=>aa (λb=>b=f+1+1) W9 W/\W.cell? ⟨z,8,none⟩=some (.int .i64 a4)/\W.cell? ⟨z,11,none⟩=some (.slice H X K)/\W.cell? ⟨y,0,none⟩=some (.int .i64 0)/\W.cell? ⟨y,1,none⟩=some (.int .i64 Z)/\W.cell? ⟨f+1,0,none⟩=some (.string tp)/\W.cell? ⟨f+1,1,none⟩=some (.int .i64 fn)/\W.cell? ⟨f+1,2,none⟩=some (.slice D al N)/\W.cell? ⟨f+1,3,none⟩=some (.int .i64 b0))
        (first|with_reducible exact E.O _ bo.O|with_reducible exact E.O _ (aa.setCell (aa.setCell bo.O (Or.inl rfl) _) (Or.inl rfl) _)|with_reducible exact E.O _ (aa.alloc oR _)|with_reducible exact E.O _ (aa.alloc (aa.drew oR) _)|with_reducible exact E.O _ (aa.drew oR)|with_reducible exact E.O _ oR|fail)
        (first
         |(refine gy rfl _ _ rfl rfl _ rfl ⟨t,⟨0,Z⟩,P.length⟩ (D,N) _ cp.O (by first|exact bN|exact bN.drew) (cv.O.kp (S:=λ_=>False) (by repeat (first|with_reducible exact oR|with_reducible refine aa.drew ?_|with_reducible refine aa.alloc ?_ _)) nG) (P.flatMap (aK p)) (cq.O.U (by repeat (first|with_reducible exact oR|with_reducible refine aa.drew ?_|with_reducible refine aa.alloc ?_ _))) d0.O (λda w' bn a3 c2=>?_)
           obtain⟨kb,gq,az,kn⟩:=lJ a3 c2 (W9:=W9) (by repeat (first|with_reducible exact oR|with_reducible refine aa.drew ?_|with_reducible refine aa.alloc ?_ _)) (by first|exact bN|exact bN.drew) (lR) d1.O ad.O a2.O;have d7:=hD az;have bo:Hd (aa (λb=>b=f+1+1) W9 w'):=hD (az.mono λ_ e=>e.elim);clear az;have d8:=kb.I 0;have d9:=kb.I 1;have gr:=kb.fz 0;have gs:=kb.fz 1;simp at d8 d9)
         |fail)
       go_wp2_with fail;have d5:=(kb.s_ 0 (.int .i64 0)).s_ 1 (.int .i64 Z);have Q:=(af w' (f+1+1) 0 (.int .i64 0)).trans (af _ (f+1+1) 1 (.int .i64 Z));refine bodyPost_ret (aW Tryz.results13 rfl d5 Tryz.underlying35 rfl (by kernel_rfl)) rfl ?_;refine⟨da,by rw[ai.O.1];rfl,?_,?_,λb x=>lT b4.O.size (lT j.O.st.size (kn b x))⟩
       ·rw[lX ai.O.2,ai.O.1]
        exact bn.by_type Q kb (by decide) (by decide)
       ·exact(b4.O.trans (j.O.st.trans d7.O)).trans' Q λb e=>.inr (by rw[e,e7.O];exact zJ (yX _))
     ·by_cases es:k=14
      ·subst es
       obtain⟨Y,aw,f7,cd,f3,hv⟩:=dp rfl (.inr rfl);subst hv;have db:=hD aw;have dw:=hD f3;have cm:=hD (aI f7 cd);have dr:=hD (pQ (.slice e6 e3 ea) aE bb.O.r bb.O.ws aw.f1 (by show Y.first-1+aE.length=Y.into.length;rw[aw.il];exact aw.fl) (by show Y.into.length<=16;rw[aw.il];exact aw.k16) aw.k16 aw.ii);unfold ro at dr
       have hr:e3=aE.length:=by
        obtain⟨_,_,e⟩:=bP bb.O.ws;injection e
       subst hr;clear dp e5 aw f7 cd f3
       by_cases b8:cC (Y.ws aE)=0
       ·have ei:=hD b8
        clear b8;have cw:=hD (dr.O.mono λe w' cb=>cb.2 ei.O);have gm:=db.O.ret cm.O.1 (by rw[dw.O]);have ce:=db.O.op c9.O ab.O;rw[dw.O] at gm ce;obtain⟨a,rfl⟩ :∃h3:Nat,a=(h3:Int):=ym ce.a.1;obtain⟨b9,e0⟩:=eX (ct (dC (Y.ws aE) Y.rg) (a:Int));have ai:Hd (bH p t=⟨b9,0⟩/\aS p t=P):=hD ⟨by rw[e0];exact gm.2.1 ei.O,gm.2.2⟩;obtain⟨rl,ee⟩:=eX Y.rg.length
        have i7:a<rl:=by
         have dl:=ce.ar (.inr (.inr rfl));have ex:=db.O.b.rl;rw[<-ex,<-ee] at dl;exact yB.1 dl
        have dd:=hD (aI e0 (aI ee i7));clear gm ce e0 ee i7
        go_upto_region 14 with(go_at_call 43;refine cw.O.mono ?_;rintro e W8 ⟨rfl,d4,c7⟩)
        have a7:=hD (bb.O.run d4 c7 rfl);clear d4 c7 b2 bt bv bx bz;obtain⟨b2,bt,bv,bx,bz⟩:=a7.O.op.gE5;go_upto_region 17 with fail;clear b2 bt bv bx bz;obtain⟨y,a1⟩ :∃q,q=W8.heap.size:=⟨_,rfl⟩
        obtain⟨W9,R⟩:=eX (W8.alloc (.cells #[.int .i64 0,.int .i64 0] 35));rw[<-R,<-a1];have Q:ac W8 W9:=by rw[R];exact oR.alloc _
        have en:ae W9 y 35 #[.int .i64 0,.int .i64 0]:=by rw[R,a1];exact bN
        have j:=hD (a7.O.U Q);have cr:Hd (f+1+1<y):=hD (by rw[a1];exact(a7.O.st.J ck.O nF).lt);have gD:=hD en
        have k5:Hd (∀b,(Value.slice e6 aE.length ea).ownBlock=some b->b≠y):=hD λb x e=>by
         have:=qU a7.O.ws x;rw[e,a1] at this;exact yQ _ this
        have k4:Hd (b6.heap.size<=y):=hD (by rw[a1];exact a7.O.st.size);obtain⟨b2,bt,bv,bx,bz⟩:=j.O.op.gE5;obtain⟨c3,c4⟩:=en.gE2;have hJ:=en.fz 0;have hL:=en.fz 1;have i4:=j.O.r.J.I 5;simp[cT,fQ,<-dd.O.2.1] at i4;have eb:=j.O.r.reg (k:=a) (by show a<(dC _ _).length;rw[fQ,<-dd.O.2.1];exact dd.O.2.2);rw[show(dC (List.zip (Y.into.drop (Y.first-1)) aE) Y.rg).getD a 0=b9 by rw[dd.O.1];unfold ct eh.ws;rw[yo]] at eb;obtain⟨le,gp⟩:=ca dd.O.2.2;clear R a1 Q en
        go_still_tail 8,(by kernel_rfl)
        change wpList _ _ _ _ _ W9.drew;clear i4 eb c3 c4 hJ hL;have x:=gD.O.drew;obtain⟨c3,c4⟩:=x.gE2;have hJ:=x.fz 0;have hL:=x.fz 1;clear x;go_upto_region 18 with fail;obtain⟨b5,g5⟩:=eX ((W9.setCell ⟨y,0,none⟩ (.int .i64 b9)).drew);rw[<-g5];have j4:aa (λb=>b=y) W9 b5:=by rw[g5];exact(af _ _ _ _).drew
        have a2:Hd (ae b5 y 35 #[.int .i64 b9,.int .i64 0]):=hD (by rw[g5];exact(gD.O.s_ 0 _).drew);have ba:=hD (j.O.res gD.O k4.O k5.O j4);clear g5 j4 b2 bt bv bx bz c3 c4 hJ hL le gp;obtain⟨X,b1⟩:=eX ((P.flatMap (aK p)).length);obtain⟨H,K,V⟩ :∃H K,cn.dv=.slice H X K:=by rw[b1];obtain⟨_,_,a3,_⟩:=ba.O.dn;exact bP a3
        have dq:=hD V;obtain⟨a4,av⟩:=eX ((P.length:Int):Int);have an:=ba.O.r.J.I 8;have a8:=ba.O.r.J.I 11;simp[cT,V] at a8;rw[show(cT cn p.length t _)[8]?=some (.int .i64 a4) by rw[av,<-ba.O.kl];rfl] at an;have cB:=hD av;have am:=ba.O.st.J eg.O nF;have bf:=ba.O.st.J ck.O nF;obtain⟨cf,cg,ch,ci⟩:=am.gE4;obtain⟨c3,c4⟩:=a2.O.gE2;have ad:=hD bf;have d1:Hd (∀W q cs,ac b5 W->ae W q 77 cs->f+1+1≠q/\y≠q):=hD λW q cs B x=>⟨ae.ne_ (B.J ad.O nF) x (by decide),ae.ne_ (B.J a2.O nF) x (by decide)⟩
        have cp:Hd (gR ⟨t,⟨b9,0⟩,P.length⟩ (D,N)= [.string tp,.int .i64 fn,.slice D al N,.int .i64 b0,.int .i64 b9,.int .i64 0,.int .i64 a4]):=hD (by rw[cB.O,a6.O.2.1,a6.O.2.2.1,a6.O.2.2.2.1,a6.O.2.2.2.2];rfl);have cv:Hd (aL b5 (λb=>b3 b\/w.heap.size<=b) D t.args):=hD ((ej.O.kp ba.O.st nG).mo λ_ e=>.inl e);have cq:Hd (bi b5 (λb=>b3 b\/w.heap.size<=b) (.slice H X K) (P.flatMap (aK p))):=hD (by rw[<-V];exact ba.O.dn.mo λb x=>.inr (lT b4.O.size x.1));have d0:Hd ((P.flatMap (aK p)).length<=100000):=hD (lT ba.O.ll (lT ab.O.fl (by decide)))
        have E:Hd (∀W,aa (λb=>b=f+1+1) b5 W->aa (λb=>b=f+1+1) b5 W/\W.cell? ⟨z,8,none⟩=some (.int .i64 a4)/\W.cell? ⟨z,11,none⟩=some (.slice H X K)/\W.cell? ⟨y,0,none⟩=some (.int .i64 b9)/\W.cell? ⟨y,1,none⟩=some (.int .i64 0)/\W.cell? ⟨f+1,0,none⟩=some (.string tp)/\W.cell? ⟨f+1,1,none⟩=some (.int .i64 fn)/\W.cell? ⟨f+1,2,none⟩=some (.slice D al N)/\W.cell? ⟨f+1,3,none⟩=some (.int .i64 b0)):=hD λW B=>by
         have bk:z≠f+1+1:=λe=>ae.ne_ ad.O ba.O.r.J (by decide) e.symm
         have d3:y≠f+1+1:=λe=>yQ _ (by have:=cr.O;rw[e] at this;exact this)
         have bq:=B.J a2.O d3;have G:=B.J am (Yl (Yf _));exact⟨B,(B.I (p:=⟨z,8,none⟩) ba.O.r.J.lt bk).trans an,(B.I (p:=⟨z,11,none⟩) ba.O.r.J.lt bk).trans a8,bq.I 0,bq.I 1,G.I 0,G.I 1,G.I 2,G.I 3⟩
        have g3:=E.O b5 oR;clear V av am bf b1 an a8 cf cg ch ci c3 c4
        go_region_held3 (λW=>aa (λb=>b=f+1+1) b5 W/\W.cell? ⟨z,8,none⟩=some (.int .i64 a4)/\W.cell? ⟨z,11,none⟩=some (.slice H X K)/\W.cell? ⟨y,0,none⟩=some (.int .i64 b9)/\W.cell? ⟨y,1,none⟩=some (.int .i64 0)/\W.cell? ⟨f+1,0,none⟩=some (.string tp)/\W.cell? ⟨f+1,1,none⟩=some (.int .i64 fn)/\W.cell? ⟨f+1,2,none⟩=some (.slice D al N)/\W.cell? ⟨f+1,3,none⟩=some (.int .i64 b0))
         (first|with_reducible exact E.O _ bo.O|with_reducible exact E.O _ (aa.setCell (aa.setCell bo.O (Or.inl rfl) _) (Or.inl rfl) _)|with_reducible exact E.O _ (aa.alloc oR _)|with_reducible exact E.O _ (aa.alloc (aa.drew oR) _)|with_reducible exact E.O _ (aa.drew oR)|with_reducible exact E.O _ oR|fail)
         (first
          |(refine gy rfl _ _ rfl rfl _ rfl ⟨t,⟨b9,0⟩,P.length⟩ (D,N) _ cp.O (by first|exact bN|exact bN.drew) (cv.O.kp (S:=λ_=>False) (by repeat (first|with_reducible exact oR|with_reducible refine aa.drew ?_|with_reducible refine aa.alloc ?_ _)) nG) (P.flatMap (aK p)) (cq.O.U (by repeat (first|with_reducible exact oR|with_reducible refine aa.drew ?_|with_reducible refine aa.alloc ?_ _))) d0.O (λda w' bn a3 c2=>?_)
            obtain⟨kb,gq,az,kn⟩:=lJ a3 c2 (W9:=b5) (by repeat (first|with_reducible exact oR|with_reducible refine aa.drew ?_|with_reducible refine aa.alloc ?_ _)) (by first|exact bN|exact bN.drew) (lR) d1.O ad.O a2.O;have d7:=hD az;have bo:Hd (aa (λb=>b=f+1+1) b5 w'):=hD (az.mono λ_ e=>e.elim);clear az;have d8:=kb.I 0;have d9:=kb.I 1;have gr:=kb.fz 0;have gs:=kb.fz 1;simp at d8 d9)
          |fail)
        go_wp2_with fail;have d5:=(kb.s_ 0 (.int .i64 b9)).s_ 1 (.int .i64 0);have Q:=(af w' (f+1+1) 0 (.int .i64 b9)).trans (af _ (f+1+1) 1 (.int .i64 0));refine bodyPost_ret (aW Tryz.results13 rfl d5 Tryz.underlying35 rfl (by kernel_rfl)) rfl ?_;refine⟨da,by rw[ai.O.1];rfl,?_,?_,λb x=>lT b4.O.size (lT ba.O.st.size (kn b x))⟩
        ·rw[lX ai.O.2,ai.O.1]
         exact bn.by_type Q kb (by decide) (by decide)
        ·exact(b4.O.trans (ba.O.st.trans d7.O)).trans' Q λb e=>.inr (by rw[e,e7.O];exact zJ (yX _))
       ·have f1:(cC (Y.ws aE)==0)=false:=bF b8
        obtain⟨Z,c1⟩:=eX (cC (Y.ws aE));have ai:Hd (bH p t=⟨0,Z⟩/\aS p t=P):=hD (by rw[c1];exact⟨(db.O.ret cm.O.1 (by rw[dw.O])).1 b8,(db.O.ret cm.O.1 (by rw[dw.O])).2.2⟩);have e1:(Z==0)=false:=by rw[c1];exact f1
        have e2:(Z !=0)=true:=by rw[bne_iff_ne,c1];exact b8
        have cw:=hD (dr.O.mono λe w' cb=>cb.1 b8);unfold eh.ws at c1;clear b8 f1;rw[show cC (List.zip (Y.into.drop (Y.first-1)) aE)=Z from c1.symm] at cw;clear c1
        go_upto_region 14 with(go_at_call 43;refine cw.O.mono ?_;rintro e W8 ⟨rfl,c7⟩)
        have a7:=hD (bb.O.U c7);obtain⟨b2,bt,bv,bx,bz⟩:=a7.O.op.gE5;go_upto_region 18 with fail;obtain⟨y,a1⟩ :∃q,q=W8.heap.size:=⟨_,rfl⟩
        obtain⟨W9,R⟩:=eX (W8.alloc (.cells #[.int .i64 0,.int .i64 Z] 35));rw[<-R,<-a1];have Q:ac W8 W9:=by rw[R];exact oR.alloc _
        have a2:Hd (ae W9 y 35 #[.int .i64 0,.int .i64 Z]):=hD (by rw[R,a1];exact bN);have j:=hD (a7.O.U Q);have cr:Hd (f+1+1<y):=hD (by rw[a1];exact(a7.O.st.J ck.O nF).lt);clear e1 e2 R a1 Q b2 bt bv bx bz;obtain⟨X,b1⟩:=eX ((P.flatMap (aK p)).length);obtain⟨H,K,V⟩ :∃H K,cn.dv=.slice H X K:=by rw[b1];obtain⟨_,_,a3,_⟩:=j.O.dn;exact bP a3
        have dq:=hD V;obtain⟨a4,av⟩:=eX ((P.length:Int):Int);have an:=j.O.r.J.I 8;have a8:=j.O.r.J.I 11;simp[cT,V] at a8;rw[show(cT cn p.length t _)[8]?=some (.int .i64 a4) by rw[av,<-j.O.kl];rfl] at an;have cB:=hD av;have am:=j.O.st.J eg.O nF;have bf:=j.O.st.J ck.O nF;obtain⟨cf,cg,ch,ci⟩:=am.gE4;obtain⟨c3,c4⟩:=a2.O.gE2;have ad:=hD bf;have d1:Hd (∀W q cs,ac W9 W->ae W q 77 cs->f+1+1≠q/\y≠q):=hD λW q cs B x=>⟨ae.ne_ (B.J ad.O nF) x (by decide),ae.ne_ (B.J a2.O nF) x (by decide)⟩
        have cp:Hd (gR ⟨t,⟨0,Z⟩,P.length⟩ (D,N)= [.string tp,.int .i64 fn,.slice D al N,.int .i64 b0,.int .i64 0,.int .i64 Z,.int .i64 a4]):=hD (by rw[cB.O,a6.O.2.1,a6.O.2.2.1,a6.O.2.2.2.1,a6.O.2.2.2.2];rfl);have cv:Hd (aL W9 (λb=>b3 b\/w.heap.size<=b) D t.args):=hD ((ej.O.kp j.O.st nG).mo λ_ e=>.inl e);have cq:Hd (bi W9 (λb=>b3 b\/w.heap.size<=b) (.slice H X K) (P.flatMap (aK p))):=hD (by rw[<-V];exact j.O.dn.mo λb x=>.inr (lT b4.O.size x.1));have d0:Hd ((P.flatMap (aK p)).length<=100000):=hD (lT j.O.ll (lT ab.O.fl (by decide)))
        have E:Hd (∀W,aa (λb=>b=f+1+1) W9 W->aa (λb=>b=f+1+1) W9 W/\W.cell? ⟨z,8,none⟩=some (.int .i64 a4)/\W.cell? ⟨z,11,none⟩=some (.slice H X K)/\W.cell? ⟨y,0,none⟩=some (.int .i64 0)/\W.cell? ⟨y,1,none⟩=some (.int .i64 Z)/\W.cell? ⟨f+1,0,none⟩=some (.string tp)/\W.cell? ⟨f+1,1,none⟩=some (.int .i64 fn)/\W.cell? ⟨f+1,2,none⟩=some (.slice D al N)/\W.cell? ⟨f+1,3,none⟩=some (.int .i64 b0)):=hD λW B=>by
         have bk:z≠f+1+1:=λe=>ae.ne_ ad.O j.O.r.J (by decide) e.symm
         have d3:y≠f+1+1:=λe=>yQ _ (by have:=cr.O;rw[e] at this;exact this)
         have bq:=B.J a2.O d3;have G:=B.J am (Yl (Yf _));exact⟨B,(B.I (p:=⟨z,8,none⟩) j.O.r.J.lt bk).trans an,(B.I (p:=⟨z,11,none⟩) j.O.r.J.lt bk).trans a8,bq.I 0,bq.I 1,G.I 0,G.I 1,G.I 2,G.I 3⟩
        have g3:=E.O W9 oR;clear V av am bf b1 an a8 cf cg ch ci c3 c4
        go_region_held3 (λW=>aa (λb=>b=f+1+1) W9 W/\W.cell? ⟨z,8,none⟩=some (.int .i64 a4)/\W.cell? ⟨z,11,none⟩=some (.slice H X K)/\W.cell? ⟨y,0,none⟩=some (.int .i64 0)/\W.cell? ⟨y,1,none⟩=some (.int .i64 Z)/\W.cell? ⟨f+1,0,none⟩=some (.string tp)/\W.cell? ⟨f+1,1,none⟩=some (.int .i64 fn)/\W.cell? ⟨f+1,2,none⟩=some (.slice D al N)/\W.cell? ⟨f+1,3,none⟩=some (.int .i64 b0))
         (first|with_reducible exact E.O _ bo.O|with_reducible exact E.O _ (aa.setCell (aa.setCell bo.O (Or.inl rfl) _) (Or.inl rfl) _)|with_reducible exact E.O _ (aa.alloc oR _)|with_reducible exact E.O _ (aa.alloc (aa.drew oR) _)|with_reducible exact E.O _ (aa.drew oR)|with_reducible exact E.O _ oR|fail)
         (first
          |(refine gy rfl _ _ rfl rfl _ rfl ⟨t,⟨0,Z⟩,P.length⟩ (D,N) _ cp.O (by first|exact bN|exact bN.drew) (cv.O.kp (S:=λ_=>False) (by repeat (first|with_reducible exact oR|with_reducible refine aa.drew ?_|with_reducible refine aa.alloc ?_ _)) nG) (P.flatMap (aK p)) (cq.O.U (by repeat (first|with_reducible exact oR|with_reducible refine aa.drew ?_|with_reducible refine aa.alloc ?_ _))) d0.O (λda w' bn a3 c2=>?_)
            obtain⟨kb,gq,az,kn⟩:=lJ a3 c2 (W9:=W9) (by repeat (first|with_reducible exact oR|with_reducible refine aa.drew ?_|with_reducible refine aa.alloc ?_ _)) (by first|exact bN|exact bN.drew) (lR) d1.O ad.O a2.O;have d7:=hD az;have bo:Hd (aa (λb=>b=f+1+1) W9 w'):=hD (az.mono λ_ e=>e.elim);clear az;have d8:=kb.I 0;have d9:=kb.I 1;have gr:=kb.fz 0;have gs:=kb.fz 1;simp at d8 d9)
          |fail)
        go_wp2_with fail;have d5:=(kb.s_ 0 (.int .i64 0)).s_ 1 (.int .i64 Z);have Q:=(af w' (f+1+1) 0 (.int .i64 0)).trans (af _ (f+1+1) 1 (.int .i64 Z));refine bodyPost_ret (aW Tryz.results13 rfl d5 Tryz.underlying35 rfl (by kernel_rfl)) rfl ?_;refine⟨da,by rw[ai.O.1];rfl,?_,?_,λb x=>lT b4.O.size (lT j.O.st.size (kn b x))⟩
        ·rw[lX ai.O.2,ai.O.1]
         exact bn.by_type Q kb (by decide) (by decide)
        ·exact(b4.O.trans (j.O.st.trans d7.O)).trans' Q λb e=>.inr (by rw[e,e7.O];exact zJ (yX _))
      ·obtain⟨it,j1⟩:=e5 rfl er es
       have k6:=hD it;have k9:=hD j1;have l7:(k==13)=false:=bF er;have m9:(k==14)=false:=bF es;clear dp e5 it j1;go_wp2_with fail;refine⟨⟨cn,s7,aE,P,bb.O.l k6.O⟩,?_⟩;rw[hQ.O,bb.O.r.leftOf];exact k9.O
    ·have ai:=hD (f9 bm)
     have e1:(b7==0)=false:=bF bm;have e2:(b7 !=0)=true:=by rw[bne_iff_ne];exact bm
     clear f9 dp e5;go_upto_region 18 with fail;obtain⟨y,a1⟩ :∃q,q=d2.heap.size:=⟨_,rfl⟩
     obtain⟨W9,R⟩:=eX (d2.alloc (.cells #[.int .i64 0,.int .i64 b7] 35));rw[<-R,<-a1];have Q:ac d2 W9:=by rw[R];exact oR.alloc _
     have a2:Hd (ae W9 y 35 #[.int .i64 0,.int .i64 b7]):=hD (by rw[R,a1];exact bN);have j:=hD (bb.O.U Q);have cr:Hd (f+1+1<y):=hD (by rw[a1];exact(bb.O.st.J ck.O nF).lt);clear e1 e2 R a1 Q b2 bt bv bx bz;obtain⟨X,b1⟩:=eX ((P.flatMap (aK p)).length);obtain⟨H,K,V⟩ :∃H K,cn.dv=.slice H X K:=by rw[b1];obtain⟨_,_,a3,_⟩:=j.O.dn;exact bP a3
     have dq:=hD V;obtain⟨a4,av⟩:=eX ((P.length:Int):Int);have an:=j.O.r.J.I 8;have a8:=j.O.r.J.I 11;simp[cT,V] at a8;rw[show(cT cn p.length t _)[8]?=some (.int .i64 a4) by rw[av,<-j.O.kl];rfl] at an;have cB:=hD av;have am:=j.O.st.J eg.O nF;have bf:=j.O.st.J ck.O nF;obtain⟨cf,cg,ch,ci⟩:=am.gE4;obtain⟨c3,c4⟩:=a2.O.gE2;have ad:=hD bf;have d1:Hd (∀W q cs,ac W9 W->ae W q 77 cs->f+1+1≠q/\y≠q):=hD λW q cs B x=>⟨ae.ne_ (B.J ad.O nF) x (by decide),ae.ne_ (B.J a2.O nF) x (by decide)⟩
     have cp:Hd (gR ⟨t,⟨0,b7⟩,P.length⟩ (D,N)= [.string tp,.int .i64 fn,.slice D al N,.int .i64 b0,.int .i64 0,.int .i64 b7,.int .i64 a4]):=hD (by rw[cB.O,a6.O.2.1,a6.O.2.2.1,a6.O.2.2.2.1,a6.O.2.2.2.2];rfl);have cv:Hd (aL W9 (λb=>b3 b\/w.heap.size<=b) D t.args):=hD ((ej.O.kp j.O.st nG).mo λ_ e=>.inl e);have cq:Hd (bi W9 (λb=>b3 b\/w.heap.size<=b) (.slice H X K) (P.flatMap (aK p))):=hD (by rw[<-V];exact j.O.dn.mo λb x=>.inr (lT b4.O.size x.1));have d0:Hd ((P.flatMap (aK p)).length<=100000):=hD (lT j.O.ll (lT ab.O.fl (by decide)))
     have E:Hd (∀W,aa (λb=>b=f+1+1) W9 W->aa (λb=>b=f+1+1) W9 W/\W.cell? ⟨z,8,none⟩=some (.int .i64 a4)/\W.cell? ⟨z,11,none⟩=some (.slice H X K)/\W.cell? ⟨y,0,none⟩=some (.int .i64 0)/\W.cell? ⟨y,1,none⟩=some (.int .i64 b7)/\W.cell? ⟨f+1,0,none⟩=some (.string tp)/\W.cell? ⟨f+1,1,none⟩=some (.int .i64 fn)/\W.cell? ⟨f+1,2,none⟩=some (.slice D al N)/\W.cell? ⟨f+1,3,none⟩=some (.int .i64 b0)):=hD λW B=>by
      have bk:z≠f+1+1:=λe=>ae.ne_ ad.O j.O.r.J (by decide) e.symm
      have d3:y≠f+1+1:=λe=>yQ _ (by have:=cr.O;rw[e] at this;exact this)
      have bq:=B.J a2.O d3;have G:=B.J am (Yl (Yf _));exact⟨B,(B.I (p:=⟨z,8,none⟩) j.O.r.J.lt bk).trans an,(B.I (p:=⟨z,11,none⟩) j.O.r.J.lt bk).trans a8,bq.I 0,bq.I 1,G.I 0,G.I 1,G.I 2,G.I 3⟩
     have g3:=E.O W9 oR;clear V av am bf b1 an a8 cf cg ch ci c3 c4
     go_region_held3 (λW=>aa (λb=>b=f+1+1) W9 W/\W.cell? ⟨z,8,none⟩=some (.int .i64 a4)/\W.cell? ⟨z,11,none⟩=some (.slice H X K)/\W.cell? ⟨y,0,none⟩=some (.int .i64 0)/\W.cell? ⟨y,1,none⟩=some (.int .i64 b7)/\W.cell? ⟨f+1,0,none⟩=some (.string tp)/\W.cell? ⟨f+1,1,none⟩=some (.int .i64 fn)/\W.cell? ⟨f+1,2,none⟩=some (.slice D al N)/\W.cell? ⟨f+1,3,none⟩=some (.int .i64 b0))
      (first|with_reducible exact E.O _ bo.O|with_reducible exact E.O _ (aa.setCell (aa.setCell bo.O (Or.inl rfl) _) (Or.inl rfl) _)|with_reducible exact E.O _ (aa.alloc oR _)|with_reducible exact E.O _ (aa.alloc (aa.drew oR) _)|with_reducible exact E.O _ (aa.drew oR)|with_reducible exact E.O _ oR|fail)
      (first
       |(refine gy rfl _ _ rfl rfl _ rfl ⟨t,⟨0,b7⟩,P.length⟩ (D,N) _ cp.O (by first|exact bN|exact bN.drew) (cv.O.kp (S:=λ_=>False) (by repeat (first|with_reducible exact oR|with_reducible refine aa.drew ?_|with_reducible refine aa.alloc ?_ _)) nG) (P.flatMap (aK p)) (cq.O.U (by repeat (first|with_reducible exact oR|with_reducible refine aa.drew ?_|with_reducible refine aa.alloc ?_ _))) d0.O (λda w' bn a3 c2=>?_)
         obtain⟨kb,gq,az,kn⟩:=lJ a3 c2 (W9:=W9) (by repeat (first|with_reducible exact oR|with_reducible refine aa.drew ?_|with_reducible refine aa.alloc ?_ _)) (by first|exact bN|exact bN.drew) (lR) d1.O ad.O a2.O;have d7:=hD az;have bo:Hd (aa (λb=>b=f+1+1) W9 w'):=hD (az.mono λ_ e=>e.elim);clear az;have d8:=kb.I 0;have d9:=kb.I 1;have gr:=kb.fz 0;have gs:=kb.fz 1;simp at d8 d9)
       |fail)
     go_wp2_with fail;have d5:=(kb.s_ 0 (.int .i64 0)).s_ 1 (.int .i64 b7);have Q:=(af w' (f+1+1) 0 (.int .i64 0)).trans (af _ (f+1+1) 1 (.int .i64 b7));refine bodyPost_ret (aW Tryz.results13 rfl d5 Tryz.underlying35 rfl (by kernel_rfl)) rfl ?_;refine⟨da,by rw[ai.O.1];rfl,?_,?_,λb x=>lT b4.O.size (lT j.O.st.size (kn b x))⟩
     ·rw[lX ai.O.2,ai.O.1]
      exact bn.by_type Q kb (by decide) (by decide)
     ·exact(b4.O.trans (j.O.st.trans d7.O)).trans' Q λb e=>.inr (by rw[e,e7.O];exact zJ (yX _))
  ·have ai:Hd (bH p t=⟨0,c0⟩/\aS p t=a5):=hD (by rw[c8.O.1];exact xf c6.O.i c9.O ab.O (by rw[<-c8.O.1];exact bm))
   have e1:(c0==0)=false:=bF bm;have e2:(c0 !=0)=true:=by rw[bne_iff_ne];exact bm
   go_upto_region 18 with fail;obtain⟨y,a1⟩ :∃q,q=dz.heap.size:=⟨_,rfl⟩
   obtain⟨W9,R⟩:=eX (dz.alloc (.cells #[.int .i64 0,.int .i64 c0] 35));rw[<-R,<-a1];have Q:ac dz W9:=by rw[R];exact oR.alloc _
   have a2:Hd (ae W9 y 35 #[.int .i64 0,.int .i64 c0]):=hD (by rw[R,a1];exact bN);have j:=hD (C.O.U Q);have cr:Hd (f+1+1<y):=hD (by rw[a1];exact(C.O.st.J ck.O nF).lt);clear e1 e2 R a1 Q b2 bt bv bx bz;obtain⟨X,b1⟩:=eX ((a5.flatMap (aK p)).length);obtain⟨H,K,V⟩ :∃H K,L.dv=.slice H X K:=by rw[b1];obtain⟨_,_,a3,_⟩:=j.O.dn;exact bP a3
   have dq:=hD V;obtain⟨a4,av⟩:=eX ((a5.length:Int):Int);have an:=j.O.r.J.I 8;have a8:=j.O.r.J.I 11;simp[cT,V] at a8;rw[show(cT L p.length t _)[8]?=some (.int .i64 a4) by rw[av,<-j.O.kl];rfl] at an;have cB:=hD av;have am:=j.O.st.J eg.O nF;have bf:=j.O.st.J ck.O nF;obtain⟨cf,cg,ch,ci⟩:=am.gE4;obtain⟨c3,c4⟩:=a2.O.gE2;have ad:=hD bf;have d1:Hd (∀W q cs,ac W9 W->ae W q 77 cs->f+1+1≠q/\y≠q):=hD λW q cs B x=>⟨ae.ne_ (B.J ad.O nF) x (by decide),ae.ne_ (B.J a2.O nF) x (by decide)⟩
   have cp:Hd (gR ⟨t,⟨0,c0⟩,a5.length⟩ (D,N)= [.string tp,.int .i64 fn,.slice D al N,.int .i64 b0,.int .i64 0,.int .i64 c0,.int .i64 a4]):=hD (by rw[cB.O,a6.O.2.1,a6.O.2.2.1,a6.O.2.2.2.1,a6.O.2.2.2.2];rfl);have cv:Hd (aL W9 (λb=>b3 b\/w.heap.size<=b) D t.args):=hD ((ej.O.kp j.O.st nG).mo λ_ e=>.inl e);have cq:Hd (bi W9 (λb=>b3 b\/w.heap.size<=b) (.slice H X K) (a5.flatMap (aK p))):=hD (by rw[<-V];exact j.O.dn.mo λb x=>.inr (lT b4.O.size x.1));have d0:Hd ((a5.flatMap (aK p)).length<=100000):=hD (lT j.O.ll (lT ab.O.fl (by decide)))
   have E:Hd (∀W,aa (λb=>b=f+1+1) W9 W->aa (λb=>b=f+1+1) W9 W/\W.cell? ⟨z,8,none⟩=some (.int .i64 a4)/\W.cell? ⟨z,11,none⟩=some (.slice H X K)/\W.cell? ⟨y,0,none⟩=some (.int .i64 0)/\W.cell? ⟨y,1,none⟩=some (.int .i64 c0)/\W.cell? ⟨f+1,0,none⟩=some (.string tp)/\W.cell? ⟨f+1,1,none⟩=some (.int .i64 fn)/\W.cell? ⟨f+1,2,none⟩=some (.slice D al N)/\W.cell? ⟨f+1,3,none⟩=some (.int .i64 b0)):=hD λW B=>by
    have bk:z≠f+1+1:=λe=>ae.ne_ ad.O j.O.r.J (by decide) e.symm
    have d3:y≠f+1+1:=λe=>yQ _ (by have:=cr.O;rw[e] at this;exact this)
    have bq:=B.J a2.O d3;have G:=B.J am (Yl (Yf _));exact⟨B,(B.I (p:=⟨z,8,none⟩) j.O.r.J.lt bk).trans an,(B.I (p:=⟨z,11,none⟩) j.O.r.J.lt bk).trans a8,bq.I 0,bq.I 1,G.I 0,G.I 1,G.I 2,G.I 3⟩
   have g3:=E.O W9 oR;clear V av am bf b1 an a8 cf cg ch ci c3 c4
   go_region_held3 (λW=>aa (λb=>b=f+1+1) W9 W/\W.cell? ⟨z,8,none⟩=some (.int .i64 a4)/\W.cell? ⟨z,11,none⟩=some (.slice H X K)/\W.cell? ⟨y,0,none⟩=some (.int .i64 0)/\W.cell? ⟨y,1,none⟩=some (.int .i64 c0)/\W.cell? ⟨f+1,0,none⟩=some (.string tp)/\W.cell? ⟨f+1,1,none⟩=some (.int .i64 fn)/\W.cell? ⟨f+1,2,none⟩=some (.slice D al N)/\W.cell? ⟨f+1,3,none⟩=some (.int .i64 b0))
    (first|with_reducible exact E.O _ bo.O|with_reducible exact E.O _ (aa.setCell (aa.setCell bo.O (Or.inl rfl) _) (Or.inl rfl) _)|with_reducible exact E.O _ (aa.alloc oR _)|with_reducible exact E.O _ (aa.alloc (aa.drew oR) _)|with_reducible exact E.O _ (aa.drew oR)|with_reducible exact E.O _ oR|fail)
    (first
     |(refine gy rfl _ _ rfl rfl _ rfl ⟨t,⟨0,c0⟩,a5.length⟩ (D,N) _ cp.O (by first|exact bN|exact bN.drew) (cv.O.kp (S:=λ_=>False) (by repeat (first|with_reducible exact oR|with_reducible refine aa.drew ?_|with_reducible refine aa.alloc ?_ _)) nG) (a5.flatMap (aK p)) (cq.O.U (by repeat (first|with_reducible exact oR|with_reducible refine aa.drew ?_|with_reducible refine aa.alloc ?_ _))) d0.O (λda w' bn a3 c2=>?_)
       obtain⟨kb,gq,az,kn⟩:=lJ a3 c2 (W9:=W9) (by repeat (first|with_reducible exact oR|with_reducible refine aa.drew ?_|with_reducible refine aa.alloc ?_ _)) (by first|exact bN|exact bN.drew) (lR) d1.O ad.O a2.O;have d7:=hD az;have bo:Hd (aa (λb=>b=f+1+1) W9 w'):=hD (az.mono λ_ e=>e.elim);clear az;have d8:=kb.I 0;have d9:=kb.I 1;have gr:=kb.fz 0;have gs:=kb.fz 1;simp at d8 d9)
     |fail)
   go_wp2_with fail;have d5:=(kb.s_ 0 (.int .i64 0)).s_ 1 (.int .i64 c0);have Q:=(af w' (f+1+1) 0 (.int .i64 0)).trans (af _ (f+1+1) 1 (.int .i64 c0));refine bodyPost_ret (aW Tryz.results13 rfl d5 Tryz.underlying35 rfl (by kernel_rfl)) rfl ?_;refine⟨da,by rw[ai.O.1];rfl,?_,?_,λb x=>lT b4.O.size (lT j.O.st.size (kn b x))⟩
   ·rw[lX ai.O.2,ai.O.1]
    exact bn.by_type Q kb (by decide) (by decide)
   ·exact(b4.O.trans (j.O.st.trans d7.O)).trans' Q λb e=>.inr (by rw[e,e7.O];exact zJ (yX _))
theorem xN(g:gC p):∀(b:Nat) (t:aj),t.fuel<b->∀(d:Option Addr) (f:Nat) (a:Nat->Prop) (w:World),fN w F A p->aL w a d t.args->bW p t->Calls Tryz.prog 13 #[aP p A c,.agg (bO t d f)] w λi w'=>xr w w' a p t i
 |0,t,e=>absurd e (zZ _)
 |b+1,t,e=>λd f a w j k l=>DK b g (xN g b) t (Nat.le_of_lt_succ e) d f a w j k l
end
end
end Go.Proofs.YtmdocplknceilaaGreat
