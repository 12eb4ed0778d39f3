import Derived.Test.YtmdocplknceilaaGreatRWBL
import Derived.Deep.CutBlock
set_option linter.all false
set_option maxRecDepth 100000
set_option maxHeartbeats 8000000
namespace Go.Proofs.YtmdocplknceilaaGreat
section
open Go.RowKit Go.Maps
theorem qK.uni{w w':World}{p:List ah}{a:List Int}{b:Int}{d:Ending}(k:qK w w' p a b d):∃(f:Option Addr) (j q:Nat) (i:Int),d=.returned (.tuple #[.agg #[.string ⟨#[]⟩,.int .i64 0,.slice f j q,.int .i64 i],.int .i64 (dZ p a.length b)])/\ac w w'/\(dZ p a.length b=0->j=a.length/\i=(b.toNat:Int)/\aJ w' (bl w w') f a):=by
 obtain⟨g,l,m⟩:=k
 by_cases e:dZ p a.length b=0
 ·obtain⟨A,c,o,n⟩:=m e
  exact⟨A,a.length,c,_,by rw[e];exact o,g,λ_=>⟨rfl,rfl,n⟩⟩
 ·exact⟨none,0,0,0,l e,g,λd=>absurd d e⟩
def Fk(p:List ah)(n:Nat)(fuel:Int):Int:=if bE p≠0 then bE p else dZ p n fuel
def tM(e1 thr lg mo:Int):Int:=if e1≠0 then e1 else if gd thr lg mo=true then 2 else 0
def kU(e2 thr:Int)(ps:List (Int×Nat)):Int:=if e2≠0 then e2 else if ps.any (ig thr)=true then 2 else 0
def tN(e3 fuel mo:Int):Int:=if e3≠0 then e3 else if mo<=fuel then 6 else 0
theorem vp(p:List ah)(n:Nat)(a thr lg b:Int)(ps:List (Int×Nat)):dD p n a thr lg b ps=tN (kU (tM (Fk p n a) thr lg b) thr ps) a b:=by
 unfold dD tN kU tM Fk
 by_cases d:bE p=0
 ·simp only[d]
  by_cases e:dZ p n a=0
  ·simp only[e]
   by_cases c:gd thr lg b=true
   ·simp[c]
   ·by_cases f:ps.any (ig thr)=true
    ·simp[c,f]
    ·simp[c,f]
  ·simp[e]
 ·simp[d]
theorem Cz{a thr lg b:Int}(c:false=(decide (a=0)&&gd thr lg b)):tM a thr lg b=a:=by
 unfold tM
 by_cases d:a=0
 ·rw[d] at c ⊢
  have e:gd thr lg b=false:=by simpa using c
  rw[e];rfl
 ·rw[yf d]
theorem Eo{b thr lg c:Int}(a:true=(decide (b=0)&&gd thr lg c)):tM b thr lg c=2:=by
 have a:=a.symm;rw[zm,zR] at a;unfold tM;rw[yb (λd=>d a.1),yf a.2]
theorem CA{a b c:Int}(d:false=(decide (a=0)&&decide (c<=b))):tN a b c=a:=by
 unfold tN
 by_cases e:a=0
 ·rw[e] at d ⊢
  have g:¬c<=b:=by simpa using d
  rw[yb (λf=>f rfl),yb g]
 ·rw[yf e]
theorem Eq{b c d:Int}(a:true=(decide (b=0)&&decide (d<=c))):tN b c d=6:=by
 have a:=a.symm;rw[zm,zR,zR] at a;unfold tN;rw[yb (λe=>e a.1),yf a.2]
theorem DL{p:List ah}{c:List Int}{a thr lg i:Int}{ps:List (Int×Nat)}{x:aj}(d:dD p c.length a thr lg i ps=0)(g:x=⟨[],0,c,a.toNat⟩):(aF p x).length<=100000:=by
 have b:=(un p x).2;obtain⟨_,e,_,j⟩:=qB d;unfold jv at e;rw[g] at b ⊢;have f:a.toNat+1<=100000:=by omega
 exact lT b f
theorem DD{a k:Int}(b:0<=a)(c:a.toNat<=65536)(d:k<=100*((a.toNat:Int)+4)):wrap64 (a+4)=a+4/\wrap64 (100*(a+4))=100*(a+4)/\¬100*(a+4)<k:=by
 refine⟨by unfold wrap64;omega,by unfold wrap64;omega,by omega⟩
theorem Fl(a thr:Int):kU a thr [] =a:=by
 unfold kU
 by_cases b:a=0
 ·simp[b]
 ·simp[b]
theorem rL{c thr:Int}{ps:List (Int×Nat)}{k:Nat}{y:Int×Nat}(f:ps[k]?=some y)(a:kU c thr (ps.take k)=0):kU c thr (ps.take (k+1))=if ig thr y=true then 2 else 0:=by
 unfold kU at a ⊢;split at a
 ·rename_i b;exact absurd a b
 ·rename_i b
  rw[yb b,yO,f];split at a
  ·cases a
  ·rename_i d
   simp at d;simp only[List.any_append,Option.toList_some,List.any_cons,List.any_nil,Bool.or_false]
   have:(ps.take k).any (ig thr)=false:=by
    rw[zI];intro x e;have:=d _ _ e
    simpa using this
   rw[this,Bool.false_or]
theorem Ep{a thr:Int}{ps:List (Int×Nat)}(k:Nat)(b:kU a thr (ps.take k)≠0):kU a thr ps=kU a thr (ps.take k):=by
 unfold kU at b ⊢
 by_cases c:a=0
 ·have d:¬a≠0:=λf=>f c
  rw[yb d] at b;rw[yb d,yb d];split at b
  ·rename_i e
   obtain⟨x,i,g⟩:=zT.1 e;rw[yf e,yf (zT.2 ⟨x,List.mem_of_mem_take i,g⟩)]
  ·exact absurd rfl b
 ·rw[yf c,yf c]
attribute [local simp] eM gw gz dj eD Region.binds ed ey Is ap Act.put
theorem xA(p:List ah)(A bo fb:Option Addr)(c ci hG:Nat)(u:List Int)(l s Q G:Int)(ps:List (Int×Nat))(F:Nat->Prop)(w:World)
 (ec:fP w F A p) (ge:∀b,F b->b<w.heap.size) (h4:∀x∈p,∀o∈x.ops,jz o/\dy o.n) (gf:bP w w.heap.size 1 bo u.length (u.map (Value.int .i64))) (gx:∀x∈u,dy x)
 (go:bP w w.heap.size 2 fb ps.length (ps.flatMap jF)) (gN:∀x∈ps,x.2<4294967296):
 Calls Tryz.prog 6 #[aM p A c,.slice bo u.length ci,.int .i64 l,.agg #[.int .i64 s,.int .i64 Q,.int .i64 G],.slice fb ps.length hG] w λf w'=>f=.returned (.bool true)/\ac w w':=by
 obtain⟨n,d8⟩:=eX p.length;obtain⟨q,eL⟩:=eX u.length;obtain⟨a0,ex⟩:=eX ps.length;obtain⟨d1,ce⟩:=eX (w.alloc (.cells #[.slice A n c] 24));obtain⟨b3,d5⟩:=eX (d1.alloc (.cells #[.int .i64 s,.int .i64 Q,.int .i64 G] 40));obtain⟨P,d7⟩:=eX w.heap.size;have h7:ac w d1:=by rw[ce];exact(aa.refl _ w).alloc _
 have f4:ac d1 b3:=by rw[d5];exact oR.alloc _
 have hf:d1.heap.size=P+1:=by rw[ce,d7];simp
 have bt:ae b3 P 24 #[.slice A n c]:=f4.J (by rw[ce,d7];exact bN) nF;have c8:ae b3 (P+1) 40 #[.int .i64 s,.int .i64 Q,.int .i64 G]:=by rw[d5,<-hf];exact bN
 have f5:ac w b3:=h7.trans f4
 have fq:Hd (Calls Tryz.prog 30 #[.agg #[.slice A n c],.slice bo q ci,.int .i64 l,.int .i64 (a0:Int)] b3 λf w'=>xT b3 w' p q l a0 f):=hD (by
  have:=vf p A bo c q ci l a0 F b3 (ec.U f5);unfold aM at this;rw[<-d8] at this;exact this)
 have ds:=hD (aI bt c8);have hu:=hD f5;have N:=hD (aI d8 (aI eL ex));have R:=hD (aI ec (aI ge (aI h4 (aI gf (aI gx (aI go gN))))));have hr:=hD d7;have e4:=hD (aI ce.symm d5.symm);have V:=bt.I 0;simp at V;unfold aM;rw[<-d8,<-eL,<-ex];clear d8 eL ex ce d5 d7 h7 f4 hf bt c8 f5 ec ge h4 gf gx go gN;go_enter Tryz.func6,Tryz.ntmps6;go_upto_region 1 with fail;rw[e4.O.1,e4.O.2,<-hr.O];clear e4;go_wp2_with fail;refine fq.O.mono ?_;rintro f D ⟨b,rfl,a6,dk⟩;have bn:=hD (hu.O.trans dk);have b0:=hD (aI (dk.J ds.O.1 nF) (dk.J ds.O.2 nF));have fp:=hD a6;clear dk a6 fq ds V
 cases b
 case true=>
  go_wp2_with fail;refine(mM _).mono ?_;rintro f g3 ⟨rfl,av⟩;have c6:=hD av;clear av;go_wp2_with fail;go_ret;exact⟨rfl,aa.trans bn.O c6.O⟩
 obtain⟨ha,hb,hc,hd,he⟩:=fp.O rfl;have gD:a0<=1000:=Int.ofNat_le.1 hd;have L:=hD (aI ha (aI hb (aI hc (aI gD he))));clear ha hb hc hd he gD fp
 have fj:Hd (∀W,ac w W->Calls Tryz.prog 33 #[.agg #[.slice A n c]] W λf w'=>∃a8 ba,f=.returned (.agg #[.slice a8 n ba])/\cW w' (bl W w') a8 p/\ac W w'):=hD λW E=>by
  have:=tK A p c F W (R.O.1.U E) (lT L.O.1 (by decide)) (λx Z=>lT (L.O.2.2.2.2 x Z) (by decide)) (λb a6=>lL (R.O.2.1 b a6) E.size);unfold ph aM at this;rw[<-N.O.1] at this;exact this
 have fv:Hd (∀(W:World) (a8 bf bk:Option Addr) (ba c' cb:Nat) (cr dr:Nat->Prop) (bb:List (Int×Nat)) (r:Nat) (dp db dd:Int),cW W cr a8 p->(∀b,cr b->b<W.heap.size)->aJ W dr bf u->bP W W.heap.size 2 bk bb.length (bb.flatMap jF)->r=bb.length->r<=1000->(∀x∈bb,x.2<4294967296)->
  Calls Tryz.prog 32 #[.agg #[.slice a8 n ba],.slice bf q c',.int .i64 l,.agg #[.int .i64 dp,.int .i64 db,.int .i64 dd],.slice bk r cb] W λf w'=>we W w' p u l dp db dd bb f):=hD λW a8 bf bk ba c' cb cr dr bb r dp db dd a7 e b8 d9 ck da hX=>by
  have:=uL p a8 bf bk ba c' cb cr dr u l dp db dd bb W a7 e L.O.1 L.O.2.2.2.2 R.O.2.2.1 b8 (by rw[<-N.O.2.1];exact L.O.2.1) R.O.2.2.2.2.1 d9 (by rw[<-ck];exact da) hX L.O.2.2.1;unfold aM at this;rw[<-N.O.1,<-N.O.2.1,<-ck] at this;exact this.mono λf w' k=>k.uni
 have e3:Hd (q=u.length/\u.length<=1000):=hD ⟨N.O.2.1,by rw[<-N.O.2.1];exact lT L.O.2.1 (by decide)⟩;go_upto_region 3 with fail
 go_cut [11,12] (λs15 s16 wx=>Ek D wx s15 s16 p u l s Q G ps)
 case first=>
  as_aux_lemma=>
  have H:Hd (∀W,ac D W->ac D W/\W.cell? ⟨P,0,none⟩=some (.slice A n c)/\W.cell? ⟨P+1,0,none⟩=some (.int .i64 s)/\W.cell? ⟨P+1,1,none⟩=some (.int .i64 Q)/\W.cell? ⟨P+1,2,none⟩=some (.int .i64 G)):=hD λW E=>
   ⟨E,(E.J b0.O.1 nF).I 0,(E.J b0.O.2 nF).I 0,(E.J b0.O.2 nF).I 1,(E.J b0.O.2 nF).I 2⟩
  have e0:Hd (∀(g:Nat) (W:World) (v0 v1 v2 v3:Value),(D).heap.size<=g->ac D W->ac D (nM W g v0 v1 v2 v3)/\(nM W g v0 v1 v2 v3).cell? ⟨P,0,none⟩=some (.slice A n c)/\(nM W g v0 v1 v2 v3).cell? ⟨P+1,0,none⟩=some (.int .i64 s)/\(nM W g v0 v1 v2 v3).cell? ⟨P+1,1,none⟩=some (.int .i64 Q)/\(nM W g v0 v1 v2 v3).cell? ⟨P+1,2,none⟩=some (.int .i64 G)):=hD λg W v0 v1 v2 v3 hT E=>H.O _ (E.trans' (sE W g v0 v1 v2 v3) (λb f=>.inr (by rw[f];exact hT)))
  unfold nM at e0;have ik:=H.O D oR
  go_region_held3 (λW=>ac D W/\W.cell? ⟨P,0,none⟩=some (.slice A n c)/\W.cell? ⟨P+1,0,none⟩=some (.int .i64 s)/\W.cell? ⟨P+1,1,none⟩=some (.int .i64 Q)/\W.cell? ⟨P+1,2,none⟩=some (.int .i64 G))
   (with_reducible first|exact e0.O _ _ _ _ _ _ bm.O bq.O|exact H.O _ (aa.alloc bq.O _)|exact H.O _ bq.O|exact H.O _ (aa.alloc d0.O _)|exact H.O _ d0.O|exact H.O _ (aa.alloc bp.O _)|exact H.O _ bp.O|exact H.O _ (aa.alloc b2.O _)|exact H.O _ b2.O|exact H.O _ (aa.drew b2.O)|exact H.O _ (aa.drew (aa.alloc oR _))|exact H.O _ (aa.alloc oR _)|exact H.O _ (aa.alloc (aa.drew oR) _)|exact H.O _ (aa.drew oR)|exact H.O _ oR|fail)
   (first
    |(go_at_call 33;refine(fj.O _ (aa.trans bn.O ?_)).mono ?_;(with_reducible first|exact aa.drew oR|exact aa.drew (aa.alloc oR _)|exact aa.alloc (aa.drew oR) _|fail);rintro f b4 ⟨a8,ba,rfl,h0,bz⟩;have hy:=hD h0;(first|(have C:=hD (bz.J (ae.drew (ae.new D _ _)) nF);have bm:Hd ((D).heap.size<=(D).heap.size):=hD (lR))|skip);have b2:Hd (ac D b4):=hD (by refine aa.trans ?_ bz;first|with_reducible exact aa.drew oR|with_reducible exact aa.drew (aa.alloc oR _)|with_reducible exact aa.alloc (aa.drew oR) _);clear h0 bz)
    |(go_at_call 32;refine(hz.O _ ?_).mono ?_;(with_reducible first|exact oR|exact aa.alloc oR _|fail);rintro f W8 ⟨f8,f7,hC,bc,i0,k,rfl,dm,gb⟩;have fo:=hD gb;(first|(have C:=hD (dm.J C.O nF))|(have C:=hD (dm.J (ae.new c7 _ _) nF);have bm:Hd ((D).heap.size<=c7.heap.size):=hD d0.O.size)|skip);have bq:Hd (ac D W8):=hD (by refine aa.trans d0.O (aa.trans ?_ dm);first|with_reducible exact oR|with_reducible exact aa.alloc oR _);(first|(have V:=C.O.I 0;have i4:=C.O.I 1;have i6:=C.O.I 2;have i7:=C.O.I 3;have ii:=C.O.fz 0;have Y:=C.O.fz 1;have a4:=C.O.fz 2;have a5:=C.O.fz 3;simp at V i4 i6 i7)|skip);clear gb dm)
    |(refine Fi rfl _ _ rfl rfl rfl e3.O.1 (eG R.O.2.2.2.1 (aa.trans bn.O (by first|with_reducible exact b2.O|with_reducible exact aa.alloc b2.O _))) e3.O.2 ?_;intro bf c' a2 gm b9;have ht:=hD gm;have e6:Hd (ac b4 a2):=hD (by refine aa.trans ?_ b9;first|with_reducible exact oR|with_reducible exact aa.alloc oR _);(first|(have C:=hD (b9.J C.O nF))|(have C:=hD (b9.J (ae.new b4 _ _) nF);have bm:Hd ((D).heap.size<=b4.heap.size):=hD b2.O.size)|skip);have bp:Hd (ac D a2):=hD (aa.trans b2.O e6.O);clear gm b9)
    |(refine Fj (ps:=ps) rfl _ _ rfl rfl rfl N.O.2.2 (eG R.O.2.2.2.2.2.1 (aa.trans bn.O (by first|with_reducible exact bp.O|with_reducible exact aa.alloc bp.O _))) (by rw[<-N.O.2.2];exact L.O.2.2.2.1) ?_;intro bk cb c7 gp dl;have cB:Hd (ac a2 c7):=hD (by refine aa.trans ?_ dl;first|with_reducible exact oR|with_reducible exact aa.alloc oR _);(first|(have C:=hD (dl.J C.O nF))|(have C:=hD (dl.J (ae.new a2 _ _) nF);have bm:Hd ((D).heap.size<=a2.heap.size):=hD bp.O.size)|skip);have d0:Hd (ac D c7):=hD (aa.trans bp.O cB.O);have hz:Hd (∀W,ac c7 W->Calls Tryz.prog 32 #[.agg #[.slice a8 n ba],.slice bf q c',.int .i64 l,.agg #[.int .i64 s,.int .i64 Q,.int .i64 G],.slice bk a0 cb] W λf w'=>we W w' p u l s Q G ps f):=hD (λW E=>fv.O W _ _ _ _ _ _ _ _ ps a0 s Q G (hy.O.kp (aa.trans e6.O (aa.trans cB.O E)) nG) (λb a6=>lL a6.2 (aa.trans e6.O (aa.trans cB.O E)).size) (ht.O.kp (aa.trans cB.O E) nG) (eG gp E) N.O.2.2 L.O.2.2.2.1 R.O.2.2.2.2.2.2);clear gp dl)
    |fail)
  all_goals (
   go_wp2_with fail;go_meet)
  all_goals (first
   |exact⟨_,_,_,_,_,_,_,rfl,rfl,bq.O.alloc _,bq.O.size,bN,fo.O.U (oR.alloc _)⟩
   |exact⟨_,_,_,_,_,_,_,rfl,rfl,(e0.O _ W8 _ _ _ _ bm.O bq.O).1,bm.O,(((C.O.s_ 0 _).s_ 1 _).s_ 2 _).s_ 3 _,fo.O.set4 C.O (sE W8 _ _ _ _ _)⟩)
 case rest=>
  obtain⟨g,f8,f7,hC,bc,i0,k,rfl,rfl,b5,hF,g8,g9⟩:=hcut;obtain⟨W9,hR⟩:=eX wc;subst hR;have c2:=hD (bn.O.trans b5);have cs:=hD (aI (b5.J b0.O.1 nF) (b5.J b0.O.2 nF));have fw:=hD (aI g8 g9);obtain⟨aw,f2⟩:=eX (dD p u.length l s Q G ps);have c3:=hD f2;rw[<-f2];obtain⟨b6,ej⟩:=eX (bE p);obtain⟨cm,f0⟩:=eX (dZ p u.length l)
  have fr:Hd (Calls Tryz.prog 34 #[.agg #[.slice A n c]] W9 λf w'=>∃fn h9,f=.returned (.tuple #[.int .i64 b6,.int .i64 fn,.int .i64 h9])/\ac W9 w'):=hD (by
   have:=rz p A c F W9 (R.O.1.U c2.O) (lT L.O.1 (by decide)) (λx Z=>lT (L.O.2.2.2.2 x Z) (by decide));unfold aM qj at this;rw[<-N.O.1,<-ej] at this;exact this)
  have ft:Hd (∀W,ac W9 W->Calls Tryz.prog 12 #[.agg #[.slice A n c],.slice bo q ci,.int .i64 l] W λf w'=>∃(X:Option Addr) (aE az:Nat) (ar:Int),f=.returned (.tuple #[.agg #[.string ⟨#[]⟩,.int .i64 0,.slice X aE az,.int .i64 ar],.int .i64 cm])/\ac W w'/\(cm=0->aE=u.length/\ar=(l.toNat:Int)/\aJ w' (bl W w') X u)):=hD λW E=>by
   have:=xy p A bo c ci F F u l W (R.O.1.U (c2.O.trans E)) (lT L.O.1 (by decide)) (λx Z=>lT (L.O.2.2.2.2 x Z) (by decide)) (eG R.O.2.2.2.1 (c2.O.trans E)) e3.O.2;unfold aM at this;rw[<-N.O.1,<-N.O.2.1] at this;rw[f0];exact this.mono λf w' k=>k.uni
  have dv:=hD (aI ej f0);have V:=cs.O.1.I 0;simp[] at V;clear b5 hF g8 g9 f2 b0 bn ej f0;go_wp2_with fail;refine fr.O.mono ?_;rintro f hE ⟨fn,h9,rfl,f6⟩;have fs:=hD f6;clear V fr;have V:=(f6.J cs.O.1 nF).I 0;simp at V;clear f6;go_wp2_with fail;refine(ft.O hE fs.O).mono ?_;rintro f e7 ⟨X,aE,az,ar,rfl,h8,h1⟩;obtain⟨a9,d6⟩:=eX (e7.alloc (.cells #[.string ⟨#[]⟩,.int .i64 0,.slice X aE az,.int .i64 ar] 30));obtain⟨hO,er⟩:=eX e7.heap.size;have dn:ac e7 a9:=by rw[d6];exact oR.alloc _
  have g5:ae a9 hO 30 #[.string ⟨#[]⟩,.int .i64 0,.slice X aE az,.int .i64 ar]:=by rw[d6,er];exact bN
  have br:=hD (fs.O.trans (h8.trans dn));have hl:=hD g5
  have hA:Hd (cm=0->aE=u.length/\ar=(l.toNat:Int)/\aJ a9 (λb=>b<a9.heap.size) X u):=hD λf=>by
   obtain⟨ee,hP,ef⟩:=h1 f;exact⟨ee,hP,(ef.kp dn nG).mo λb a6=>lL a6.2 dn.size⟩
  have g2:=hD d6.symm;have hs:=hD er;clear d6 er dn g5 h8 h1 V ft fv fj;go_upto_region 6 with fail;rw[g2.O,<-hs.O];clear g2;obtain⟨Y,em⟩:=eX (Fk p u.length l);have fm:Hd (Y=if b6≠0 then b6 else cm):=hD (by rw[em,dv.O.1,dv.O.2];rfl);have hn:=hD em;clear em
  go_upto_if 57 with fail
  go_cut [18] (λs18 wx=>s18=.int .i64 Y/\a9=wx)
  case first=>
   as_aux_lemma=>
   by_cases bv:b6=0
   ·have al:(b6==0)=true:=beq_iff_eq.2 bv
    have K:Hd (Y=cm):=hD (by rw[fm.O,yb (λf=>f bv)]);clear bv;go_wp2_with fail;go_meet
    case rel=>exact⟨by rw[K.O],rfl⟩
   ·have al:(b6==0)=false:=bF bv
    have K:Hd (Y=b6):=hD (by rw[fm.O,yf bv]);clear bv;go_wp2_with fail;go_meet
    case rel=>exact⟨by rw[K.O],rfl⟩
  case rest=>
  obtain⟨rfl,T⟩:=hcut;subst T;obtain⟨a3,gq⟩:=eX ((decide (Y=0)&&gd s Q G));have a1:=hD gq;obtain⟨a4,gs⟩:=eX (tM Y s Q G);have dw:=hD gs;have ad:=br.O.J cs.O.2 nF;have ff:=hD ad;obtain⟨hi,hj,cq⟩:=ad.gE3;clear gq gs ad;go_upto_region 9 with fail
  go_cut [90] (λs90 wx=>s90=.bool a3/\a9=wx)
  case first=>
   as_aux_lemma=>
   by_cases j:Y=0
   case neg=>
    have al:(Y==0)=false:=bF j;have t:Hd (a3=false):=hD (by rw[a1.O];unfold gd;simp[j]);clear j;go_wp2_with fail;go_meet
    case rel=>exact⟨by rw[t.O],rfl⟩
   have al:(Y==0)=true:=beq_iff_eq.2 j
   by_cases a7:s<1
   ·skip
    have t:Hd (a3=true):=hD (by rw[a1.O];unfold gd;simp[j,a7]);clear j;go_wp2_with fail;go_meet
    case rel=>exact⟨by rw[t.O],rfl⟩
   by_cases e:8<s
   ·skip
    have t:Hd (a3=true):=hD (by rw[a1.O];unfold gd;simp[j,e]);clear j;go_wp2_with fail;go_meet
    case rel=>exact⟨by rw[t.O],rfl⟩
   by_cases b8:Q<0
   ·skip
    have t:Hd (a3=true):=hD (by rw[a1.O];unfold gd;simp[j,b8]);clear j;go_wp2_with fail;go_meet
    case rel=>exact⟨by rw[t.O],rfl⟩
   by_cases d9:8<Q
   ·skip
    have t:Hd (a3=true):=hD (by rw[a1.O];unfold gd;simp[j,d9]);clear j;go_wp2_with fail;go_meet
    case rel=>exact⟨by rw[t.O],rfl⟩
   by_cases ck:G<1
   ·skip
    have t:Hd (a3=true):=hD (by rw[a1.O];unfold gd;simp[j,ck]);clear j;go_wp2_with fail;go_meet
    case rel=>exact⟨by rw[t.O],rfl⟩
   by_cases da:1024<G
   ·skip
    have t:Hd (a3=true):=hD (by rw[a1.O];unfold gd;simp[j,da]);clear j;go_wp2_with fail;go_meet
    case rel=>exact⟨by rw[t.O],rfl⟩
   have t:Hd (a3=false):=hD (by rw[a1.O];unfold gd;simp[j,a7,e,b8,d9,ck,da]);clear j;go_wp2_with fail;go_meet
   case rel=>exact⟨by rw[t.O],rfl⟩
  case rest=>
  obtain⟨rfl,T⟩:=hcut;subst T;clear hi hj cq
  go_upto_if 90 with fail
  go_cut [18] (λs18 wx=>s18=.int .i64 a4/\a9=wx)
  case first=>
   as_aux_lemma=>
   cases a3
   ·have K:Hd (a4=Y):=hD (by rw[dw.O];exact Cz a1.O)
    go_wp2_with fail;go_meet
    case rel=>exact⟨by rw[K.O],rfl⟩
   ·have K:Hd (a4=2):=hD (by rw[dw.O];exact Eo a1.O)
    go_wp2_with fail;go_meet
    case rel=>exact⟨by rw[K.O],rfl⟩
  case rest=>
  obtain⟨rfl,T⟩:=hcut;subst T;obtain⟨a5,gt⟩:=eX (kU a4 s ps);have dz:=hD gt;clear gt
  go_upto_block 0 with fail
  go_cut [18] (λs18 wx=>s18=.int .i64 a5/\ac a9 wx)
  case first=>
   as_aux_lemma=>
   go_wp2_with fail
   go_loopw [18,19] (λa i wr=>∃k:Nat,k<=a0/\i=.int .i64 k/\a=.int .i64 (kU a4 s (ps.take k))/\ac a9 wr) (λ_ i _=>a0-(intOf i).toNat)
   case atStart=>exact⟨0,yx _,rfl,by rw[List.take_zero,Fl],oR⟩
   case round=>
    obtain⟨e,gA,rfl,rfl,S⟩:=hrel;have am:=hD S;obtain⟨v,hv⟩:=eX (kU a4 s (ps.take e));have c5:=hD hv;rw[<-hv];clear hv
    by_cases m:e<a0
    ·have hV:(0:Int)<=(e:Int):=dK e
     have es:(e:Int)<(a0:Int):=cO m
     by_cases bx:v=0
     ·have al:(v==0)=true:=beq_iff_eq.2 bx
      have cw:=hD (c5.O.symm.trans bx);have ai:wrap64 ((e:Int)+1)=(e:Int)+1:=vJ m (lT L.O.2.2.2.1 (by decide));have ch:e<ps.length:=by rw[<-N.O.2.2];exact m
      have b7:ps[e]?=some ps[e]:=gG ch;generalize ps[e] =y at*;have e1:=hD b7;obtain⟨i8,is,ei,f9,hg⟩:=uu (eG R.O.2.2.2.2.2.1 (c2.O.trans (br.O.trans S))) b7;subst ei;have ad:=S.J ff.O nF;have fa:=ad.I 0;simp at fa;obtain⟨hh,f3⟩:=eX y.1;rw[<-f3] at f9;have e5:=hD f3;clear S b7 ch ad bx f3
      by_cases a7:hh<0
      ·have c1:Hd (kU a4 s (ps.take (e+1))=2):=hD (by rw[rL e1.O cw.O];unfold ig;rw[<-e5.O];simp[a7])
       go_wp2_with fail
       go_quiet (fail)
       go_wp2_with fail;go_roundw
       case measure=>first|exact aB rfl m|exact aB ai m
       case rel=>exact⟨e+1,m,by first|exact cK e|exact cH ai,by rw[c1.O],am.O.drewN _⟩
      ·by_cases b8:s<=hh
       ·have c1:Hd (kU a4 s (ps.take (e+1))=2):=hD (by rw[rL e1.O cw.O];unfold ig;rw[<-e5.O];simp[b8])
        go_wp2_with fail
        go_quiet (fail)
        go_wp2_with fail;go_roundw
        case measure=>first|exact aB rfl m|exact aB ai m
        case rel=>exact⟨e+1,m,by first|exact cK e|exact cH ai,by rw[c1.O],am.O.drewN _⟩
       ·have c1:Hd (kU a4 s (ps.take (e+1))=v):=hD (by rw[rL e1.O cw.O,c5.O,cw.O];unfold ig;rw[<-e5.O];simp[a7,b8])
        go_wp2_with fail
        go_quiet (fail)
        go_wp2_with fail;go_roundw
        case measure=>first|exact aB rfl m|exact aB ai m
        case rel=>exact⟨e+1,m,by first|exact cK e|exact cH ai,by rw[c1.O],am.O.drewN _⟩
     ·have al:(v==0)=false:=bF bx
      have K:Hd (a5=v):=hD (by rw[dz.O,c5.O];exact Ep e (by rw[<-c5.O];exact bx));clear S bx;go_wp2_with fail;go_meet
      case rel=>exact⟨by rw[K.O],am.O⟩
    ·have es:¬(e:Int)<(a0:Int):=λf=>m (yB.1 f)
     have K:Hd (a5=v):=hD (by rw[dz.O,c5.O,List.take_of_length_le (by rw[<-N.O.2.2];exact yA m)]);clear S m;go_wp2_with fail;go_meet
     case rel=>exact⟨by rw[K.O],am.O⟩
  case rest=>
  obtain⟨rfl,T⟩:=hcut;obtain⟨ab,hS⟩:=eX wc;subst hS;have b1:=hD T;have ad:=T.J ff.O nF;have cq:=ad.I 2;simp at cq;obtain⟨c9,gr⟩:=eX ((decide (a5=0)&&decide (G<=l)));have c0:=hD gr;clear T ad gr;go_upto_region 16 with fail
  go_cut [124] (λs124 wx=>s124=.bool c9/\ab=wx)
  case first=>
   as_aux_lemma=>
   by_cases j:a5=0
   case neg=>
    have al:(a5==0)=false:=bF j;have t:Hd (c9=false):=hD (by rw[c0.O];simp[j]);clear j;go_wp2_with fail;go_meet
    case rel=>exact⟨by rw[t.O],rfl⟩
   have al:(a5==0)=true:=beq_iff_eq.2 j
   by_cases a7:G<=l
   ·skip
    have t:Hd (c9=true):=hD (by rw[c0.O];simp[j,a7]);clear j;go_wp2_with fail;go_meet
    case rel=>exact⟨by rw[t.O],rfl⟩
   ·skip
    have t:Hd (c9=false):=hD (by rw[c0.O];simp[j,a7]);clear j;go_wp2_with fail;go_meet
    case rel=>exact⟨by rw[t.O],rfl⟩
  case rest=>
  obtain⟨rfl,T⟩:=hcut;subst T;clear cq
  go_upto_if 124 with fail
  go_cut [18] (λs18 wx=>s18=.int .i64 aw/\ab=wx)
  case first=>
   as_aux_lemma=>
   have h3:aw=tN a5 l G:=by rw[c3.O,dz.O,dw.O,hn.O];exact vp _ _ _ _ _ _ _
   have fx:=hD h3;clear h3
   cases c9
   ·have K:Hd (aw=a5):=hD (by rw[fx.O];exact CA c0.O)
    go_wp2_with fail;go_meet
    case rel=>exact⟨by rw[K.O],rfl⟩
   ·have K:Hd (aw=6):=hD (by rw[fx.O];exact Eq c0.O)
    go_wp2_with fail;go_meet
    case rel=>exact⟨by rw[K.O],rfl⟩
  case rest=>
  obtain⟨rfl,T⟩:=hcut;subst T;have e2:=hD (c2.O.trans (br.O.trans b1.O));have h2:=(br.O.trans b1.O).J fw.O.1 nF;have c4:=hD (aI h2 (fw.O.2.U (br.O.trans b1.O)));clear h2
  by_cases j:aw=0
  case neg=>
   as_aux_lemma=>
   obtain⟨hH,hI,hJ,hL⟩:=c4.O.2.bad (by rw[<-c3.O];exact j);subst hH;subst hI;subst hJ;subst hL;obtain⟨g6,g7,d2,b5⟩:=c4.O.1.gE4;have al:(aw !=0)=true:=bT j;have il:(aw==aw)=true:=beq_self_eq_true _;clear j
   go_wp2_with (first|(go_at_call 31;refine(mM _).mono ?_;rintro f g3 ⟨rfl,av⟩;have c6:=hD av;clear av)|fail)
   go_ret;exact⟨rfl,e2.O.trans c6.O⟩
  as_aux_lemma=>
  subst j;obtain⟨⟨hM,gc⟩,e8,e9,ea,eb⟩:=c4.O.2.good c3.O.symm;have f1:=(qB c3.O.symm).1;obtain⟨gn,d4,gu⟩:=nK f1 L.O.2.2.2.2 R.O.2.2.1 R.O.2.2.2.2.1;obtain⟨bt,c8,g4⟩:=hA.O (dv.O.2.trans f1);obtain⟨cn,cp,dq⟩:=DD gu d4.fl gc;obtain⟨x,Z⟩:=eX (⟨[],0,u,l.toNat⟩ :aj);rw[<-Z] at e8 e9 ea eb d4
  have fk:Hd (Calls Tryz.prog 13 #[.agg #[.slice A n c],.agg #[.string ⟨#[]⟩,.int .i64 0,.slice X aE az,.int .i64 ar]] ab λf w'=>xQ ab w' (λb=>b<ab.heap.size) p x f):=hD (by
   have ee:bX x X az= #[.string ⟨#[]⟩,.int .i64 0,.slice X aE az,.int .i64 ar]:=by rw[bt,c8,Z];rfl
   have ef:aJ ab (λb=>b<ab.heap.size) X x.args:=by rw[Z];exact(g4.kp b1.O nG).mo λb a6=>lL a6 b1.O.size
   have:=Ao (A:=A) (c:=c) (F:=F) gn.ok (x.fuel+1) x (Yf _) X az _ ab (R.O.1.U e2.O) ef d4;unfold aM at this;rw[ee,<-N.O.1] at this;exact this)
  have hB:=hD Z;have an:=hD (aI e8 (aI e9 (aI ea (aI eb cn))));have g1:=hD (aI cp dq);have h6:=(br.O.trans b1.O).J cs.O.1 nF;have h5:=b1.O.J hl.O nF;have V:=h6.I 0;simp[] at V;obtain⟨f9,hg,fa,i3⟩:=h5.gE4;have al:((0:Int) !=0)=false:=rfl;clear hM gc e8 e9 ea eb f1 gn d4 gu bt c8 g4 cn cp dq Z h6 h5;go_wp2_with fail;refine fk.O.mono ?_;rintro f b4 ⟨v,rfl,ek,bz,hW⟩
  obtain⟨fd,ga,hv⟩ :∃fd ga,v=.slice fd (aF p x).length ga:=by
   obtain⟨it,_,e,_⟩:=ek;exact bR e
  subst hv;unfold eV;rw[<-an.O.1,<-an.O.2.1];have el:=ek;rw[<-an.O.2.2.1] at el ⊢;obtain⟨a2,cf⟩:=eX (b4.alloc (.cells #[.int .i64 f8,.int .i64 f7] 35));obtain⟨hN,eq⟩:=eX b4.heap.size;have b9:ac ab a2:=by rw[cf];exact bz.trans (oR.alloc _)
  have hk:Hd (ae a2 hN 35 #[.int .i64 f8,.int .i64 f7]):=hD (by rw[cf,eq];exact bN);have hm:=hD (el.U (w':=a2) (by rw[cf];exact oR.alloc _));have cv:=hD b9;have g0:=hD cf.symm;have ho:=hD eq;clear ek el bz hW cf eq b9 V f9 hg fa i3 fk;go_upto_region 21 with fail;rw[g0.O,<-ho.O];clear g0;obtain⟨hY,hZ⟩:=hk.O.gE2;have cg:=cv.O.J c4.O.1 nF;obtain⟨g6,g7,d2,b5⟩:=cg.gE4;have cn:=an.O.2.2.2.2;have cp:=g1.O.1;have dq:=g1.O.2;have i1:IntKind.i64.wrap (l+4)=l+4:=(aU _).trans cn;have i2:IntKind.i64.wrap (100*(l+4))=100*(l+4):=(aU _).trans cp;clear cg;go_wp2_with fail;clear cn cp dq i1 i2 hY hZ g6 g7 d2 b5
  go_loopw [22] (λi wr=>∃k:Nat,k<=bc/\i=.int .i64 k/\ac a2 wr) (λi _=>bc-(intOf i).toNat)
  case atStart=>exact⟨0,yx _,rfl,oR⟩
  case round=>
   obtain⟨e,gA,rfl,S⟩:=hrel;have am:=hD S
   by_cases m:e<bc
   ·have hV:(0:Int)<=(e:Int):=dK e
    have es:(e:Int)<(bc:Int):=cO m;have ai:wrap64 ((e:Int)+1)=(e:Int)+1:=vJ m (by rw[an.O.2.2.1];exact DL c3.O.symm hB.O);have ch:e<(aF p x).length:=by rw[<-an.O.2.2.1];exact m
    have b7:(aF p x)[e]?=some (aF p x)[e]:=gG ch;generalize (aF p x)[e] =y at*;have gB:((aF p x).map (lV 0))[e]?=some (lV 0 y):=by rw[yJ,b7];rfl
    have eg:=(cv.O.trans S).owns an.O.2.2.2.1 nG;rw[show bc=((aF p x).map (lV 0)).length by rw[zY];exact an.O.2.2.1] at eg;obtain⟨cd,ei,z⟩:=Ax eg gB;obtain⟨d3,hQ,B,ia,d⟩:=(hm.O.U S).at_ b7;subst ei;subst hQ;have hi:wr.cell? ⟨cd,e*5,none⟩=some (.int .u64 0):=z 0 _ rfl;have hj:wr.cell? ⟨cd,e*5+1,none⟩=some (.string (sB y.tk.M)):=z 1 _ rfl;have cq:wr.cell? ⟨cd,e*5+2,none⟩=some (.int .i64 (y.kd:Int)):=z 2 _ rfl;have j1:wr.cell? ⟨cd,e*5+3,none⟩=some (.int .i64 y.res.v):=z 3 _ rfl;have j2:wr.cell? ⟨cd,e*5+4,none⟩=some (.int .i64 y.res.e):=z 4 _ rfl;have ib:wr.cell? ⟨d3,e*7,none⟩=some (.string (sB y.tk.M)):=d 0 _ rfl;have ic:wr.cell? ⟨d3,e*7+4,none⟩=some (.int .i64 y.res.v):=d 4 _ rfl;have ie:wr.cell? ⟨d3,e*7+5,none⟩=some (.int .i64 y.res.e):=d 5 _ rfl;have ih:wr.cell? ⟨d3,e*7+6,none⟩=some (.int .i64 (y.kd:Int)):=d 6 _ rfl;generalize sB y.tk.M=iz at*;generalize (y.kd:Int)=iw at*;generalize y.res.v=j0 at*;generalize y.res.e=iv at*;have cg:=(cv.O.trans S).J c4.O.1 nF;have d2:=cg.I 2;simp[] at d2;clear S b7 ch gB eg z d cg;go_wp2_with fail
    go_quiet (fail)
    go_wp2_with fail;go_roundw
    case measure=>first|exact aB rfl m|exact aB ai m
    case rel=>exact⟨e+1,m,by first|exact cK e|exact cH ai,am.O.drewN _⟩
   ·have es:¬(e:Int)<(bc:Int):=λf=>m (yB.1 f)
    clear S m gA;go_wp2_with fail;refine(mM _).mono ?_;rintro f g3 ⟨rfl,av⟩;have c6:=hD av;clear av;go_wp2_with fail;go_ret;exact⟨rfl,aa.trans (e2.O.trans (cv.O.trans am.O)) c6.O⟩
end
end Go.Proofs.YtmdocplknceilaaGreat
