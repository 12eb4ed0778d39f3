import Derived.Test.YtmdocplknceilaaGreatNWBL
set_option linter.all false
set_option maxRecDepth 100000
set_option maxHeartbeats 6000000
namespace Go.Proofs.YtmdocplknceilaaGreat
section
open Go.RowKit Go.Maps
theorem pI(rows:Nm->Option aG)(n:Nm):∀(l:List Nat) (i:Nat) (f:Fr),bR rows n (l++ [i]) f=(bR rows n l f).give i (kN rows (aF n i))
 | [],i,f=>rfl
 |a :: l,i,f=>by
  simp only[Ye,bR];exact pI rows n l i _
theorem nN(rows:Nm->Option aG)(n:Nm):∀(l:List Nat) (f:Fr) (i:Nat),i ∉ l->(bR rows n l f).kd[i]?=f.kd[i]?
 | [],f,i,_=>rfl
 |a :: l,f,i,c=>by
  simp only[bR];rw[nN rows n l _ i (λb=>c (yV _ b))];simp only[Fr.give];rw[List.getElem?_set_ne (λb=>c (by rw[b];exact zh))]
theorem nL(rows:Nm->Option aG)(n:Nm)(p:List ah):∀(l:List Nat) (f:Fr),gK p f->(∀i∈l,i<f.kd.length/\dJ (kN rows (aF n i)).v)->gK p (bR rows n l f)/\(bR rows n l f).result=f.result/\(bR rows n l f).kd.length=f.kd.length
 | [],f,b,_=>⟨b,rfl,rfl⟩
 |a :: l,f,b,e=>by
  have d:=e a zh;have c:(f.give a (kN rows (aF n a))).kd.length=f.kd.length:=by simp[Fr.give]
  have:=nL rows n p l (f.give a (kN rows (aF n a))) (yy b d.2 d.1) λi g=>by rw[c];exact e i (yV _ g)
  simp only[bR];exact⟨this.1,this.2.1.trans rfl,this.2.2.trans c⟩
theorem xk(f:Fr){j i:Nat}(b:f.waitsOf[j]?=some i):(∃k,f.kd[i]?=some k/\k.given=false)/\i ∉ f.waitsOf.take j:=by
 constructor
 ·have a:=yh b
  unfold Fr.waitsOf at a;obtain⟨d,e⟩:=Yg.1 a;have c:=zw.1 d;refine⟨f.kd[i],gG c,?_⟩
  simpa[yc,gG c] using e
 ·intro a
  obtain⟨m,a⟩:=yF a;rw[List.getElem?_take] at a;split at a
  ·rename_i l
   have g:f.waitsOf.Nodup:=(List.nodup_range (n:=f.kd.length)).filter _;have:=(List.getElem?_inj (gS a).1 g).1 (a.trans b.symm);omega
  ·cases a
theorem D6{G:dx}{t:TS}{n:Nm}{r:aG}{p:List ah}{x:aj}{i:Nat}(b:cA G t)(m:t.rw n=some r)(F:r.opn=0)(f:G n.job=some (p,x))(j:i<r.kn)(e:gC p)(y:bW p r.tk):∃c,t.rw (aF n i)=some c/\dJ c.res.v/\kN t.rw (aF n i)=c.res:=by
 have l:=nu (rows:=t.rw) (n:=n) (kn:=r.kn) (by have:=(b.row n r m).opn;omega) i j;obtain⟨B,C,c,k,d,a,o,q,D,E⟩:=b.child m j;rw[f] at d
 cases d
 have u:c.sa=6:=by
  simp only[cI,a] at l
  simpa using l
 obtain⟨B,C,g,H,A⟩:=(b.row _ c a).node;rw[qh,f] at g
 cases g
 have z:c.res=bH p k:=by rw[(A.over u).2.1,q]
 refine⟨c,a,?_,by unfold kN;rw[a]⟩;rw[z];exact(lA e ((lA e y).2 k (yh o))).1.1
theorem EH{w:World}{base e n k:Nat}{b:TypeId}{v:Value}{xs:List Value}(c:w.ownsRow base b e v n xs)(hv:v.ownBlock=some k):base<=k:=by
 rcases c.2 with⟨a,_⟩|⟨g,f,cur,a,d,_⟩
 ·subst a;cases hv
 ·subst a;cases hv;exact d
theorem AY{w:World}{base a:Nat}{b:TypeId}{d n:Nat}{v:Value}{xs:List Value}(c:w.ownsRow base b d v n xs)(j:a<=base):w.ownsRow a b d v n xs:=
 ⟨c.1,c.2.imp id (λ⟨g,e,cur,f,i,k⟩=>⟨g,e,cur,f,lT j i,k⟩)⟩
theorem rn{w:World}{g:Nat}{T:TypeId}(a:ae w g T #[.int .u64 0,.string ⟨#[]⟩,.string ⟨#[]⟩,.int .i64 0,.slice none 0 0,.int .i64 0,.int .u8 0,.int .i64 0,.int .i64 0,.int .i64 0]):w.cell? ⟨g,0,none⟩=some (.int .u64 0)/\w.cell? ⟨g,1,none⟩=some (.string ⟨#[]⟩)/\w.cell? ⟨g,2,none⟩=some (.string ⟨#[]⟩)/\w.cell? ⟨g,3,none⟩=some (.int .i64 0)/\w.cell? ⟨g,4,none⟩=some (.slice none 0 0)/\w.cell? ⟨g,5,none⟩=some (.int .i64 0)/\w.cell? ⟨g,6,none⟩=some (.int .u8 0)/\w.cell? ⟨g,7,none⟩=some (.int .i64 0)/\w.cell? ⟨g,8,none⟩=some (.int .i64 0)/\w.cell? ⟨g,9,none⟩=some (.int .i64 0)/\w.frozen? ⟨g,0,none⟩=false/\w.frozen? ⟨g,1,none⟩=false/\w.frozen? ⟨g,2,none⟩=false/\w.frozen? ⟨g,3,none⟩=false/\w.frozen? ⟨g,4,none⟩=false/\w.frozen? ⟨g,5,none⟩=false/\w.frozen? ⟨g,6,none⟩=false/\w.frozen? ⟨g,7,none⟩=false/\w.frozen? ⟨g,8,none⟩=false/\w.frozen? ⟨g,9,none⟩=false:=
 ⟨a.I 0,a.I 1,a.I 2,a.I 3,a.I 4,a.I 5,a.I 6,a.I 7,a.I 8,a.I 9,a.fz 0,a.fz 1,a.fz 2,a.fz 3,a.fz 4,a.fz 5,a.fz 6,a.fz 7,a.fz 8,a.fz 9⟩
def xt(wr:World)(tag3:Nat->Nat)(L3:cP)(s:PS)(n:Nm)(gn q:Nat)(v:Value)(l:List Int)(f:Fr):Prop:=
 aX wr tag3 L3 {s with T:={s.T with fm:=ay s.T.fm n (some f)}}/\ae wr gn 58 #[.int .u64 n.job,.string (sB n.M)]/\wr.ownsRow 0 3 1 v l.length (l.map (Value.int .i64))
def xz(wo wx:World)(job:Int)(kp x2:ByteArray)(x3:Int)(x4:Nat)(x5 x6 x7 rv re:Int)(s13:Value):Prop:=∃(A:Option Addr) (c g:Nat),s13=.pointer (some ⟨g,0,none⟩)/\ae wx g 60 #[.int .u64 job,.string kp,.string x2,.int .i64 x3,.slice A x4 c,.int .i64 x5,.int .u8 x6,.int .i64 x7,.int .i64 rv,.int .i64 re]/\ac wo wx
section
variable {G:dx}{w w':World}{tag tag':Nat->Nat}{L L':cP}{s s':PS}{n:Nm}{r:aG}
attribute [local simp] ew fe fD cL dP Region.binds dD dN Is ao Act.put
theorem wF(em:gL G){k tp:Nat}{th:Th}{p:List ah}{f:Fr}(z:gP G w tag L s k tp th r p f)(c0:(f.run1 p).2=.join):
 Calls Tryz.prog 46 #[ptr L.pb,ptr tp] w λe w'=>e=.returned (.tuple #[])/\cV w w' tag L s (eW s k) 4:=by
 have gA:=hD em;have ds:=hD (z.step.join c0);clear em;have c2:=z.h;obtain⟨fj,d,av,fv,he,c3,hi,hj,g2,hm⟩:=c2.thW z.htp z.hk;obtain⟨q,bx⟩:=eX (L.fp th.cur);have f1:=g2 z.hrun;rw[<-bx] at f1;subst f1;have g6:=c3.I 3;have b1:=c3.I 4;simp[dQ] at g6 b1;obtain⟨b7,bk⟩:=eX (w.alloc (.cells #[.int .u64 th.cur.job,.string (sB th.cur.M)] 58));have c4:ac w b7:=by rw[bk];exact(aa.refl _ w).alloc _
 obtain⟨y,bp⟩:=eX w.heap.size;have ee:ae b7 y 58 #[.int .u64 th.cur.job,.string (sB th.cur.M)]:=by rw[bk,bp];exact bN
 have ad:=c2.U c4;obtain⟨cm,b8⟩:=ad.p16 th.cur f z.hf (by simp);rw[z.hpr,<-bx] at cm;rw[z.hpr] at b8;have X:=hD (pi (ad.tagB (i:=100+q) (by omega)) cm z.hP.ok (b8 z.hfi.res) z.hfi.res);unfold pW at X;obtain⟨f',al⟩:=eX ((f.run1 p).1);rw[c0,<-al] at X;simp only[iX,nI] at X;have g1:=c4.J c3 nF;have P:=g1.I 5;simp[dQ,ptr] at P;have l:=hD z;have eb:=hD bk.symm;have e2:=hD bp;have b3:=hD ad;have e4:=hD c4;have dr:=hD ee;have e5:=hD bx;have c7:=hD al;have gD:=hD c0;have e9:=hD fj;have am:tag y=0:=hU c2.tlt (by rw[bp];exact lR);have e0:=hD am
 have dw:Hd (f'.result=none->gK p f'):=hD λS=>by
  rcases qY z.hP.ok (b8 z.hfi.res) with⟨x,e,_⟩|⟨e,_⟩
  ·have:=(jS z.hfi.ok z.hfi.res (p:=p)).done x e
   rw[<-al,S] at this
   cases this.2.2
  ·rw[al];exact e
 unfold ptr;clear z c2 fj he c3 hi hj g2 hm bx bk c4 bp ee ad cm b8 al c0 g1 am;go_enter Tryz.func46,Tryz.ntmps46;go_upto_region 1 with fail;rw[eb.O,<-e2.O];clear eb g6 b1
 go_upto_region 2 with(go_at_call 86;refine X.O.mono ?_;rintro e a4 ⟨hG,hL,rfl,⟨az,cg⟩,K,g0⟩)
 clear X P;obtain⟨C,bm⟩:=eX (a4.alloc (.cells #[.int .u8 3,.string ⟨#[]⟩,.int .i64 0,.slice none 0 0,.int .i64 0,.int .i64 0,.int .i64 0] 181));obtain⟨ei,an⟩:=eX a4.heap.size;rw[<-bm,<-an];have aE:ac a4 C:=by rw[bm];exact oR.alloc _
 have bs:ae C ei 181 #[.int .u8 3,.string ⟨#[]⟩,.int .i64 0,.slice none 0 0,.int .i64 0,.int .i64 0,.int .i64 0]:=by rw[bm,an];exact bN
 obtain⟨m,aw⟩ :∃t,t=cS tag b7 a4 (100+q):=⟨_,rfl⟩
 have es:=b3.O.part (i:=100+q) K
 have eg:aZ a4 (λb=>cS tag b7 a4 (100+q) b=100+q) q az p f':=cg.mo λb H=>by
  rcases H with H|H
  ·exact(bJ b3.O.tlt b (by rw[H];omega)).trans H
  ·exact fR H
 have f9:s.T.fm th.cur≠none:=by rw[l.O.hf];simp
 have a2:=es.frame (n:=th.cur) e5.O f9 (by rw[l.O.hpr];exact eg) (by rw[l.O.hpr];exact dw.O);rw[<-aw] at a2
 have eq:qx w C tag m L {L with fl:=ay L.fl th.cur az} s k tp y ei th f' #[.int .u8 3,.string ⟨#[]⟩,.int .i64 0,.slice none 0 0,.int .i64 0,.int .i64 0,.int .i64 0]:=⟨a2.U aE,((aQ.U e4.O).trans (by rw[aw];exact aQ.part b3.O.tlt (by omega) K)).trans (aQ.U aE),aE.J (K.J dr.O (λe=>by rw[e0.O] at e;omega)) nF,bs,rfl,⟨by
  rw[aw];unfold cS;rw[yb (λe=>absurd dr.O.lt (zC.2 e.1))];exact e0.O,hU a2.tlt (by rw[an];exact lR)⟩,⟨by rw[e2.O];exact lR,by rw[an];exact lT e4.O.size K.size⟩,by rw[aw,bJ b3.O.tlt tp (by rw[e9.O];decide)];exact e9.O⟩
 have D:=hD eq;have hH:=hD aE;clear bm an aE aw es cg eg f9 a2 eq;have ai:=D.O.h;have d4:ae C L.pb 123 (bB {L with fl:=ay L.fl th.cur az}):=(ai.p1 (by decide)).2;have c1:=ai.p2 (by decide)
 have X:Hd (eW s k=if r.opn≠0 then {s with T:=iJ s.T th.cur r 3 f',ths:=s.ths.set k {th with cur:=gU,run:=false}} else {s with T:=iJ s.T th.cur r 2 (bR s.T.rw th.cur f'.waitsOf f')}):=hD (by
  unfold eW;rw[PS.th_eq l.O.hk,l.O.hr,l.O.hf];simp only;rw[l.O.hpr,gD.O];simp only;rw[c7.O])
 have a3:Hd (∀W,aa (λb=>m b=2) C W->aa (λb=>m b=2) C W/\W.cell? ⟨L.pb,4,none⟩=some (.pointer (some ⟨L.tb,0,none⟩))/\W.cell? ⟨y,0,none⟩=some (.int .u64 th.cur.job)/\W.cell? ⟨y,1,none⟩=some (.string (sB th.cur.M))):=hD λW o=>by
  have a5:¬m L.pb=2:=λe=>by have:=(ai.p1 (by decide)).1;have a2:m L.pb=1:=this;rw[e] at a2;exact absurd a2 (by decide)
  have a9:=o.J D.O.bn (λe=>by have:=D.O.t0.1;rw[e] at this;exact absurd this (by decide));exact⟨o,(o.J d4 a5).I 4,a9.I 0,a9.I 1⟩
 have Y:=a3.O C oR;have dl:=bs.I 0;simp at dl
 by_cases a8:r.opn=0
 ·have b4:=hD a8
  have ce:Hd (∀W,ac C W->Calls Tryz.prog 88 #[.pointer (some ⟨L.tb,0,none⟩),.agg #[.int .u64 th.cur.job,.string (sB th.cur.M)]] W λe w'=>e=.returned (.tuple #[.bool false,.int .i64 0])/\ac W w'):=hD λW o=>by
   have:=Et (c1.kp o nG) l.O.hn l.O.hr l.O.h2 a8;unfold aV eT at this;exact this
  clear bs K g0 ai d4 c1 a8;go_upto_region 6 with fail
  go_region_held3 (λw'=>aa (λb=>m b=2) C w'/\w'.cell? ⟨L.pb,4,none⟩=some (.pointer (some ⟨L.tb,0,none⟩))/\w'.cell? ⟨y,0,none⟩=some (.int .u64 th.cur.job)/\w'.cell? ⟨y,1,none⟩=some (.string (sB th.cur.M)))
   (first|with_reducible exact a3.O _ B.O|with_reducible exact a3.O _ (aa.drew oR)|with_reducible exact a3.O _ oR|fail)
   (first
    |(go_at_call 88;refine(ce.O _ (aa.drew oR)).mono ?_;rintro e N ⟨rfl,b0⟩;have b6:Hd (ac C N):=hD ((aa.drew oR).trans b0);have B:Hd (aa (λb=>m b=2) C N):=hD (b6.O.mono λ_ e=>e.elim);clear b0)
    |fail)
  have hb:∃u:cP,u= {L with fl:=ay L.fl th.cur az}:=⟨_,rfl⟩
  obtain⟨u,cq⟩:=hb;have R:=D.O.h.U b6.O;rw[<-cq] at R;have V:Hd (u.pb=L.pb/\u.tb=L.tb/\u.tps=L.tps/\u.fp th.cur=q/\u.dn=L.dn/\u.most=L.most/\u.dp=L.dp/\u.n=L.n/\u.fn=L.fn):=hD (by rw[cq];exact⟨rfl,rfl,rfl,e5.O.symm,rfl,rfl,rfl,rfl,rfl⟩);have gt:Hd (aQ w N tag m):=hD (D.O.go.trans (aQ.U b6.O));have el:=b6.O.J D.O.bn nF;have gn:=hD el;have gu:Hd (m y=0/\m tp=15):=hD ⟨D.O.t0.1,D.O.tp15⟩
  have cs:∀(W:World) (sT:TS),aX W m u {s with T:=sT}->W.cell? ⟨tp,5,none⟩=some (.pointer (some ⟨q,0,none⟩)):=λW sT cr=>by
   obtain⟨_,hN,hJ,i7,ii,hh,_,_,hl,_⟩:=cr.thW (k:=k) (tp:=tp) (th:=th) (by rw[V.O.2.2.1];exact l.O.htp) l.O.hk;have P:=hh.I 5;have h9:=hl l.O.hrun;rw[h9,V.O.2.2.2.1] at P;simp[dQ,ptr] at P;exact P
  have ea:=hD cs;have P:=cs N _ R;have en:f'.kd.length=r.kn:=by have:=ds.O.2.2.2.1;rw[<-c7.O] at this;rw[this];exact l.O.hfi.kd
  have S:f'.result=none:=by have:=ds.O.2.2.1;rw[<-c7.O] at this;exact this
  have ab:=hD (aI en S);have bb:=dw.O S
  have cB:∀(W:World) (F:Fr),aX W m u {s with T:={s.T with fm:=ay s.T.fm th.cur (some F)}}->aZ W (λb=>m b=100+q) q (u.fl th.cur) p F:=λW F cr=>by
   obtain⟨ch,_⟩:=cr.p16 th.cur F (by show ay s.T.fm th.cur _ th.cur=_;rw[aA]) (by simp);rw[V.O.2.2.2.1] at ch;have:=ch;rw[show({s with T:={s.T with fm:=ay s.T.fm th.cur (some F)}}:PS).prog th.cur.job=p from l.O.hpr] at this;exact this
  have gr:=hD cB;obtain⟨pl,bv⟩:=eX (f'.waitsOf.map λi:Nat=>(i:Int)+1:List Int);obtain⟨nw,br⟩:=eX pl.length;have bt:nw=f'.waitsOf.length:=by rw[br,bv,zY]
  have cb:=hD (aI bv (aI br bt))
  have h4:Hd (Calls Tryz.prog 89 #[.pointer (some ⟨q,0,none⟩)] N λe w'=>∃A c,e=.returned (.slice A nw c)/\w'.ownsRow 0 3 1 (.slice A nw c) pl.length (pl.map (Value.int .i64))/\(∀b,(Value.slice A nw c).ownBlock=some b->N.heap.size<=b)/\ac N w'):=hD (by
   refine(BG (cB N f' R) l.O.hP.ok.p0 bb.kl).mono ?_;rintro e W ⟨v,rfl,v1,v2⟩;obtain⟨A,c,rfl⟩:=bP v1;have a5:ub f'.waitsOf=pl.map (Value.int .i64):=by rw[bv,List.map_map];rfl
   rw[<-bt] at v1;refine⟨A,c,by rw[bt],?_,λb H=>?_,v2⟩
   ·rw[a5] at v1
    rw[<-br];exact AY v1 (yx _)
   ·exact EH v1 H)
  have gN:Hd (∀b,N.heap.size<=b->m b=0):=hD λb H=>hU R.tlt H
  have gf:=hD R
  have fo:nw<=16:=by
   have ad:f'.waitsOf.length<=f'.kd.length:=by unfold Fr.waitsOf;exact lT (List.length_filter_le _ _) (by simp)
   have:=bb.kl;omega
  have h3:=hD fo;have gq:=hD bb;clear R cq el cs en S bb cB bv br bt Y dl fo
  go_wp2_with (go_at_call 89;refine h4.O.mono ?_;rintro e ec ⟨A,ef,rfl,v1,v2,c5⟩;have h1:=hD v1;have h2:=hD v2;have c9:=hD c5;clear v1 v2 c5 P)
  go_loopw [59] (λi wr=>∃j:Nat,j<=nw/\i=.int .i64 j/\xt wr m u s th.cur y q (.slice A nw ef) pl (bR s.T.rw th.cur (f'.waitsOf.take j) f')/\aa (λb=>m b=100+q) ec wr) (λi _=>nw-(intOf i).toNat)
  case atStart=>exact⟨0,yx _,rfl,⟨gf.O.U c9.O,c9.O.J gn.O nF,h1.O⟩,oR⟩
  case round=>
   obtain⟨j,ib,rfl,⟨E,b9,ba⟩,cn⟩:=hrel;have cp:xt wr m u s th.cur y q (.slice A nw ef) pl (bR s.T.rw th.cur (f'.waitsOf.take j) f'):=⟨E,b9,ba⟩
   have dz:=hD cp;have e1:=hD cn
   by_cases ar:j<nw
   ·obtain⟨i,a7⟩ :∃i,f'.waitsOf[j]?=some i:=⟨f'.waitsOf[j]'(by rw[<-cb.O.2.2];exact ar),gG _⟩
    obtain⟨⟨kd,d1,f4⟩,f5⟩:=xk f' a7;have d0:i<r.kn:=by have:=(gS d1).1;rw[ab.O.1] at this;exact this
    obtain⟨it,am,_⟩:=l.O.hg;have S:=λi a7=>D6 (i:=i) l.O.inv.t l.O.hr b4.O am a7 l.O.hP.ok l.O.hT
    obtain⟨c,cv,eL,f0⟩:=S i d0;obtain⟨a1,cw⟩:=eX (bR s.T.rw th.cur (f'.waitsOf.take j) f')
    obtain⟨b2,dm,c6⟩:=nL s.T.rw th.cur p (f'.waitsOf.take j) f' gq.O λg3 ha=>by
     have f7:g3∈f'.waitsOf:=List.mem_of_mem_take ha;unfold Fr.waitsOf at f7;have f8:=zw.1 (Yg.1 f7).1;refine⟨f8,?_⟩;obtain⟨c',a9,hB,hC⟩:=S g3 (by rw[<-ab.O.1];exact f8);rw[hC];exact hB
    have dq:=nN s.T.rw th.cur (f'.waitsOf.take j) f' i f5;rw[<-cw] at E b2 dm c6 dq;have bq:a1.kd[i]?=some kd:=dq.trans d1
    have f2:bR s.T.rw th.cur (f'.waitsOf.take (j+1)) f'= {a1 with kd:=a1.kd.set i ⟨kd.into,true,c.res⟩}:=by
     rw[yO,a7];show bR s.T.rw th.cur (f'.waitsOf.take j++ [i]) f'=_;rw[pI,<-cw,f0];unfold Fr.give;rw[yc,bq];rfl
    obtain⟨ck,bo⟩ :∃g:Fr,g= {a1 with kd:=a1.kd.set i ⟨kd.into,true,c.res⟩}:=⟨_,rfl⟩
    have ek:gK p ck:=by
     have:=yy b2 eL (by rw[c6,ab.O.1];exact d0);unfold Fr.give at this;rw[yc,bq] at this;rw[bo];exact this
    have c8:=hD (aI f2 (aI bo ek));obtain⟨_,_,_,_,_,_,_,_,_,d3⟩:=l.O.inv.row_ok gA.O cv;obtain⟨d,bn⟩:=eX ((i:Int)+1:Int);have fd:pl[j]?=some d:=by rw[cb.O.1,yJ,a7,bn];rfl
    obtain⟨il,is,hv,hM⟩:=Al ba fd
    cases hv
    obtain⟨kp,d2⟩:=eX (sB (aF th.cur i).M);obtain⟨dk,d7⟩ :∃v,v=c.res.v:=⟨_,rfl⟩
    obtain⟨dd,d5⟩ :∃v,v=c.res.e:=⟨_,rfl⟩
    obtain⟨g7,fq⟩ :∃v,v=sB c.tk.M:=⟨_,rfl⟩
    obtain⟨g8,fr⟩ :∃v,v=c.tk.fn:=⟨_,rfl⟩
    obtain⟨g9,fs⟩ :∃v,v=c.tk.args.length:=⟨_,rfl⟩
    obtain⟨gb,ft⟩ :∃v:Int,v=(c.tk.fuel:Int):=⟨_,rfl⟩
    obtain⟨gc,fw⟩ :∃v:Int,v=(c.sa:Int):=⟨_,rfl⟩
    obtain⟨ge,fx⟩ :∃v,v=c.opn:=⟨_,rfl⟩
    have gB:Hd (∀W,Calls Tryz.prog 90 #[.string (sB th.cur.M),.int .i64 d] W λe w'=>e=.returned (.tuple #[.string kp,.bool true])/\ac W w'):=hD λW=>by
     have f6:=d3.2.1;have:=pY th.cur.M l.O.hn.2 (i+1) (Yh 1 _) (by have:=b2.kl;rw[c6,ab.O.1] at this;omega) W;unfold lV at this;rw[yb (λe=>by rw[show(aF th.cur i).M=th.cur.M++ [UInt8.ofNat (i+1)] from rfl,yk,e] at f6;simp at f6)] at this;rw[bn,d2];exact this
    have gw:Hd (∀W,ac wr W->Calls Tryz.prog 51 #[.pointer (some ⟨L.tb,0,none⟩),.agg #[.int .u64 th.cur.job,.string kp]] W λe w'=>∃Z c',e=.returned (.tuple #[.agg #[.int .u64 th.cur.job,.string kp,.string g7,.int .i64 g8,.slice Z g9 c',.int .i64 gb,.int .u8 gc,.int .i64 ge,.int .i64 dk,.int .i64 dd],.bool true])/\ac W w'):=hD λW o=>by
     have ff:=(E.U o).p2 (by decide);rw[V.O.2.1] at ff;have d8:=DR ff d3 cv;unfold aV eT jf at d8;rw[show(aF th.cur i).job=th.cur.job from rfl,<-d2,<-fq,<-fr,<-fs,<-ft,<-fw,<-fx,<-d7,<-d5] at d8;exact d8.mono λe hI ⟨Z,c',a5,_,hd⟩=>⟨Z,c',a5,hd⟩
    have gx:Hd (∀W,ac wr W->Calls Tryz.prog 91 #[.pointer (some ⟨q,0,none⟩),.int .i64 d,.agg #[.int .i64 dk,.int .i64 dd]] W λe w'=>e=.returned (.int .i64 0)/\aZ w' (λb=>m b=100+q) q (u.fl th.cur) p ck/\aa (λb=>m b=100+q) W w'):=hD λW o=>by
     have a6:=E.U o;have:=Cj i kd c.res (a6.tagB (by omega)) (gr.O W a1 a6) l.O.hP.ok.p0 bq f4 (dm.trans ab.O.2) b2.kl;unfold eO at this;rw[bn,d7,d5,bo];exact this
    have P:=ea.O wr _ E;have fb:ae wr L.pb 123 (bB u):=by have:=(E.p1 (by decide)).2;rw[V.O.1] at this;exact this
    have fk:u.tb=L.tb:=V.O.2.1
    have bf:Hd (∀W,ac wr W->ac wr W/\W.cell? ⟨L.pb,4,none⟩=some (.pointer (some ⟨L.tb,0,none⟩))/\W.cell? ⟨y,0,none⟩=some (.int .u64 th.cur.job)/\W.cell? ⟨y,1,none⟩=some (.string (sB th.cur.M))/\W.cell? ⟨tp,5,none⟩=some (.pointer (some ⟨q,0,none⟩))):=hD λW o=>by
     have a9:=o.J b9 nF;refine⟨o,?_,a9.I 0,a9.I 1,ea.O W _ (E.U o)⟩;rw[<-fk];exact(o.J fb nF).I 4
    have h7:Hd (aX wr m u {s with T:={s.T with fm:=ay s.T.fm th.cur (some a1)}}):=hD E;have Y:=bf.O wr oR;obtain⟨ie,ih⟩:=ca ar;have hc:=cG ar (lT h3.O (by decide));have ic:=(aR _).trans hc;clear E b9 ba cn cp a7 d1 f4 f5 d0 am S cv eL f0 cw b2 dm c6 dq bq f2 bo ek d3 bn fd d2 d7 d5 fq fr fs ft fw fx fb fk P
    go_upto_region 13 with(go_at_call 90;refine(gB.O _).mono ?_;rintro e a ⟨rfl,g4⟩;have a0:=hD g4;clear g4)
    clear Y;have Y:=bf.O a a0.O;have cd:Hd (ac a (a.alloc (.cells #[.int .u64 0,.string ⟨#[]⟩,.string ⟨#[]⟩,.int .i64 0,.slice none 0 0,.int .i64 0,.int .u8 0,.int .i64 0,.int .i64 0,.int .i64 0] 60))):=hD (oR.alloc _);have dv:Hd (ac a a.drew):=hD (aa.drew oR);have e8:Hd (ac a (a.alloc (.cells #[.int .u64 0,.string ⟨#[]⟩,.string ⟨#[]⟩,.int .i64 0,.slice none 0 0,.int .i64 0,.int .u8 0,.int .i64 0,.int .i64 0,.int .i64 0] 60)).drew):=hD (aa.drew cd.O);have gm:Hd (ae (a.alloc (.cells #[.int .u64 0,.string ⟨#[]⟩,.string ⟨#[]⟩,.int .i64 0,.slice none 0 0,.int .i64 0,.int .u8 0,.int .i64 0,.int .i64 0,.int .i64 0] 60)) a.heap.size 60 #[.int .u64 0,.string ⟨#[]⟩,.string ⟨#[]⟩,.int .i64 0,.slice none 0 0,.int .i64 0,.int .u8 0,.int .i64 0,.int .i64 0,.int .i64 0]):=hD (ae.new a _ _);have h6:Hd (∀W,ac (a.alloc (.cells #[.int .u64 0,.string ⟨#[]⟩,.string ⟨#[]⟩,.int .i64 0,.slice none 0 0,.int .i64 0,.int .u8 0,.int .i64 0,.int .i64 0,.int .i64 0] 60)).drew W->ae W a.heap.size 60 #[.int .u64 0,.string ⟨#[]⟩,.string ⟨#[]⟩,.int .i64 0,.slice none 0 0,.int .i64 0,.int .u8 0,.int .i64 0,.int .i64 0,.int .i64 0]):=hD λW o=>o.J gm.O.drew nF
    have Q:Hd (∀W,ac a W->ac a W/\W.cell? ⟨L.pb,4,none⟩=some (.pointer (some ⟨L.tb,0,none⟩))/\W.cell? ⟨y,0,none⟩=some (.int .u64 th.cur.job)):=hD λW o=>by
     have:=bf.O W (a0.O.trans o);exact⟨o,this.2.1,this.2.2.1⟩
    have e3:Hd (∀(W:World) (v0 v1 v2 v3 v4 v5 v6 v7 v8 v9:Value),ac a W->ac a ((((((((((W.setCell ⟨a.heap.size,0,none⟩ v0).setCell ⟨a.heap.size,1,none⟩ v1).setCell ⟨a.heap.size,2,none⟩ v2).setCell ⟨a.heap.size,3,none⟩ v3).setCell ⟨a.heap.size,4,none⟩ v4).setCell ⟨a.heap.size,5,none⟩ v5).setCell ⟨a.heap.size,6,none⟩ v6).setCell ⟨a.heap.size,7,none⟩ v7).setCell ⟨a.heap.size,8,none⟩ v8).setCell ⟨a.heap.size,9,none⟩ v9)/\((((((((((W.setCell ⟨a.heap.size,0,none⟩ v0).setCell ⟨a.heap.size,1,none⟩ v1).setCell ⟨a.heap.size,2,none⟩ v2).setCell ⟨a.heap.size,3,none⟩ v3).setCell ⟨a.heap.size,4,none⟩ v4).setCell ⟨a.heap.size,5,none⟩ v5).setCell ⟨a.heap.size,6,none⟩ v6).setCell ⟨a.heap.size,7,none⟩ v7).setCell ⟨a.heap.size,8,none⟩ v8).setCell ⟨a.heap.size,9,none⟩ v9).cell? ⟨L.pb,4,none⟩=some (.pointer (some ⟨L.tb,0,none⟩))/\((((((((((W.setCell ⟨a.heap.size,0,none⟩ v0).setCell ⟨a.heap.size,1,none⟩ v1).setCell ⟨a.heap.size,2,none⟩ v2).setCell ⟨a.heap.size,3,none⟩ v3).setCell ⟨a.heap.size,4,none⟩ v4).setCell ⟨a.heap.size,5,none⟩ v5).setCell ⟨a.heap.size,6,none⟩ v6).setCell ⟨a.heap.size,7,none⟩ v7).setCell ⟨a.heap.size,8,none⟩ v8).setCell ⟨a.heap.size,9,none⟩ v9).cell? ⟨y,0,none⟩=some (.int .u64 th.cur.job)):=hD λW v0 v1 v2 v3 v4 v5 v6 v7 v8 v9 o=>Q.O _ (by with_reducible (refine aa.setCell ?_ (Or.inr (lR)) _;refine aa.setCell ?_ (Or.inr (lR)) _;refine aa.setCell ?_ (Or.inr (lR)) _;refine aa.setCell ?_ (Or.inr (lR)) _;refine aa.setCell ?_ (Or.inr (lR)) _;refine aa.setCell ?_ (Or.inr (lR)) _;refine aa.setCell ?_ (Or.inr (lR)) _;refine aa.setCell ?_ (Or.inr (lR)) _;refine aa.setCell ?_ (Or.inr (lR)) _;refine aa.setCell ?_ (Or.inr (lR)) _;exact o))
    clear Y;have Y:=Q.O a oR
    go_cut [13,14] (λs13 s14 wx=>xz a wx th.cur.job kp g7 g8 g9 gb gc ge dk dd s13)
    case first=>
     go_region_held3 (λw'=>ac a w'/\w'.cell? ⟨L.pb,4,none⟩=some (.pointer (some ⟨L.tb,0,none⟩))/\w'.cell? ⟨y,0,none⟩=some (.int .u64 th.cur.job))
      (first|with_reducible exact e3.O _ _ _ _ _ _ _ _ _ _ _ B.O|with_reducible exact Q.O _ B.O|with_reducible exact Q.O _ (aa.alloc B.O _)|with_reducible exact Q.O _ (aa.drew B.O)|with_reducible exact Q.O _ cd.O|with_reducible exact Q.O _ (aa.drew cd.O)|with_reducible exact Q.O _ (aa.drew oR)|with_reducible exact Q.O _ oR|(with_reducible refine Q.O _ ?_;with_reducible refine aa.setCell ?_ (Or.inr (lR)) _;repeat (first|with_reducible exact B.O|with_reducible refine aa.setCell ?_ (Or.inr (lR)) _))|fail)
      (first|(go_at_call 51;refine(gw.O _ ?_).mono ?_;(first|with_reducible exact a0.O.trans dv.O|with_reducible exact a0.O.trans e8.O|fail);rintro e W8 ⟨Z,c',rfl,K⟩;(first|(have B:Hd (ac a W8):=hD (by with_reducible exact aa.trans dv.O K);clear K)|(have B:Hd (ac a W8):=hD (by with_reducible exact aa.trans e8.O K);have d9:=h6.O W8 K;have h5:=hD d9;obtain⟨hO,a5,hP,hQ,hR,hS,hV,hW,hX,hY,hZ,i0,cg,ch,i1,i2,i3,i4,ci,i6⟩:=rn d9;clear K d9)))|fail)
     all_goals (
      go_wp2_with fail;go_meet)
     all_goals (unfold xz;first
      |(with_reducible refine⟨Z,c',W8.heap.size,rfl,bN,?_⟩;with_reducible exact aa.alloc B.O _)
      |(with_reducible refine⟨Z,c',a.heap.size,rfl,sJ h5.O,?_⟩;with_reducible exact(e3.O W8 _ _ _ _ _ _ _ _ _ _ B.O).1))
    case rest=>
     obtain⟨Z,c',i8,rfl,da,db⟩:=hcut;obtain⟨cf,h8⟩:=eX wc;subst h8;have er:=bf.O cf (a0.O.trans db);have P:=er.2.2.2.2;have hE:=da.I 8;have hF:=da.I 9;simp[] at hE hF;have e6:=hD db;clear er da db Y;go_upto_region 14 with fail
     go_still_tail 7,(by kernel_rfl)
     change wpList _ _ _ _ _ cf.drew
     go_wp2_with (go_at_call 91;refine(gx.O _ (a0.O.trans (e6.O.trans (aa.drew oR)))).mono ?_;rintro e W8 ⟨rfl,ci,g5⟩;have gp:=hD ci;have b5:=hD g5;clear ci g5)
     go_roundw
     case measure=>exact au rfl ar
     case rel=>
      have bz:ac wr cf.drew:=a0.O.trans (e6.O.trans (aa.drew oR));have a6:=h7.O.U bz;have ej:=(a6.same (i:=100+q) b5.O).frame (n:=th.cur) (l':=u.fl th.cur) (f':=ck) V.O.2.2.2.1.symm (by show ay s.T.fm th.cur _ th.cur≠none;rw[aA];simp) (by have:=gp.O;rw[<-l.O.hpr] at this;exact this) (λ_=>by have:=c8.O.2.2;rw[<-l.O.hpr] at this;exact this);simp only[rm,jU] at ej;refine⟨j+1,ar,rfl,⟨?_,b5.O.J (bz.J dz.O.2.1 nF) (λe=>by rw[gu.O.1] at e;omega),b5.O.owns (bz.owns dz.O.2.2 nG) (λb H e=>by rw[gN.O b (h2.O b H)] at e;omega)⟩,(e1.O.trans (bz.mono λ_ e=>e.elim)).trans b5.O⟩;rw[c8.O.1,<-c8.O.2.1];exact ej
   ·have ia:¬(j:Int)<(nw:Int):=by omega
    have f3:j=nw:=by omega
    have ex:f'.waitsOf.take j=f'.waitsOf:=by rw[f3,cb.O.2.2,zr]
    rw[ex] at E;have gs:=hD E;clear E b9 ba cn cp f3 ex;go_wp2_with fail
    go_end0
    rw[X.O,yb (λe=>e b4.O)];refine⟨rfl,m,u,?_,(gt.O.trans (aQ.U c9.O)).trans (aQ.same (i:=100+q) (by omega) e1.O),?_⟩
    ·rw[tA l.O.hr l.O.h2]
     exact gs.O
    ·obtain⟨ho,az,hs,ik,ht,hu,hy,hz,hA⟩:=V.O
     exact⟨ho,hu,hs,hy,by rw[hz];omega,by rw[hA];omega,by simp;omega,[],by simp[iJ],by rw[ht];simp⟩
 ·have fa:(r.opn==0)=false:=bF a8
  have b4:=hD a8
  have ce:Hd (∀W,ac C W->Calls Tryz.prog 88 #[.pointer (some ⟨L.tb,0,none⟩),.agg #[.int .u64 th.cur.job,.string (sB th.cur.M)]] W λe w'=>e=.returned (.tuple #[.bool true,.int .i64 0])/\bQ w' (λb=>m b=2) L.tb L.mb L.most (ay s.T.rw th.cur (some {r with sa:=3})) s.T.ks.length L.rp/\aa (λb=>m b=2) W w'):=hD λW o=>by
   have:=Dl ((D.O.h.U o).tagB (by decide)) (c1.kp o nG) l.O.hn l.O.hr l.O.h2 fa;unfold aV eT at this;exact this
  clear bs K g0 ai d4 c1 a8 fa;go_upto_region 6 with fail
  go_region_held3 (λw'=>aa (λb=>m b=2) C w'/\w'.cell? ⟨L.pb,4,none⟩=some (.pointer (some ⟨L.tb,0,none⟩))/\w'.cell? ⟨y,0,none⟩=some (.int .u64 th.cur.job)/\w'.cell? ⟨y,1,none⟩=some (.string (sB th.cur.M)))
   (first|with_reducible exact a3.O _ B.O|with_reducible exact a3.O _ (aa.drew oR)|with_reducible exact a3.O _ oR|fail)
   (first
    |(go_at_call 88;refine(ce.O _ (aa.drew oR)).mono ?_;rintro e N ⟨rfl,b1,b0⟩;have B:Hd (aa (λb=>m b=2) C N):=hD (aa.trans (aa.drew oR) b0);have h0:=hD b1;clear b0 b1)
    |fail)
  have R:=(D.O.h.same (i:=2) B.O).fill2 (T':=iJ s.T th.cur r 3 f') (rp':=L.rp) h0.O rfl;have e7:=hD (sh R (k:=k) (th:=th) l.O.htp l.O.hk);unfold ptr at e7;clear R Y dl
  go_wp2_with (go_at_call 77;refine e7.O.mono ?_;rintro e ec ⟨rfl,a6,c5⟩)
  (try simp only[Exit.inBlock,Exit.then])
  refine bodyPost_ret (results_none rfl _ _ _) rfl ?_;rw[X.O,yf b4.O];exact⟨rfl,m,_,a6,(D.O.go.trans (aQ.same (i:=2) (by decide) B.O)).trans (aQ.same (i:=15) (by decide) (c5.mono λb e=>by rw[e];exact D.O.tp15)),⟨rfl,rfl,rfl,rfl,by simp;omega,by simp;omega,by simp;omega,[],by simp[iJ],by simp⟩⟩
end
end
end Go.Proofs.YtmdocplknceilaaGreat
