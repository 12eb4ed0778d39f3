import Derived.Test.YtmdocplknceilaaGreatNWBR
import Derived.Test.YtmdocplknceilaaGreatNWBS
set_option linter.all false
set_option maxRecDepth 100000
set_option maxHeartbeats 4000000
namespace Go.Proofs.YtmdocplknceilaaGreat
section
open Go.RowKit Go.Maps
theorem EC:∃i z,Tryz.prog.info? 124=some i/\i.zero=some z/\i.size=1/\i.bytes=8/\z.cells.size=1:=by
 have a:(Tryz.prog.info? 124).map (λi=>(i.zero.map λz=>z.cells.size,i.size,i.bytes))=some (some 1,1,8):=by kernel_rfl
 cases hi:Tryz.prog.info? 124 with
 |none=>rw[hi] at a;cases a
 |some i=>
  rw[hi] at a;simp only[yU,yC,yP] at a
  cases hz:i.zero with
  |none=>rw[hz] at a;cases a.1
  |some z=>
   rw[hz] at a;exact⟨i,z,rfl,hz,a.2.1,a.2.2,yz a.1⟩
def uc(t:Nat):List Value:=[ptr t]
theorem tw(l:List Nat):l.flatMap uc=l.map ptr:=by
 induction l with
 |nil=>rfl
 |cons a l b=>rw[yZ,b];rfl
theorem DI(w:World)(o:Obj)(T:TypeId)(cs:Array Value):ae ((w.alloc o).alloc (.cells cs T)) (w.heap.size+1) T cs:=by
 have a:=ae.new (w.alloc o) T cs
 rwa [World.size_alloc] at a
def Ds(w w':World)(thr most:Int)(k:Nat)(e:Ending):Prop:=∃tag L s,e=.returned (.tuple #[ptr L.pb,.int .i64 0])/\vy w w' thr most k tag L s
def sQ(w wr:World)(thr most:Int)(pb m:Nat)(k:Nat):Prop:=∃tag L s,vy w wr thr most k tag L s/\L.pb=pb/\L.m=m
theorem AM{al y p N P q z:World}{thr b9:Int}{k lg d V B:Nat}{ba:Value}{S A:Option Addr}{tag:Nat->Nat}{L:cP}{s:PS}{tp:Nat}(b3:lg<=8)(e:vy al y thr b9 k tag L s)(hv:L.hv=.slice S k V)(b2:L.tps.length=k)(a0:aa (λb=>tag b=3) y p)
 (bf:DW p (λb=>tag b=3\/y.heap.size<=b/\b<p.heap.size) L.m L.n ba (s.C++bS s.C.length (2 ^ lg)) (s.ds++ [⟨s.C.length,[((s.C.length:Int)+3,((2 ^ lg:Nat):Int))],[],none,[],4+((2 ^ lg:Nat):Int),0,((2 ^ lg:Nat):Int)⟩]) (L.dp++ [d]) (L.ps++ [[]]))
 (c4:tp=p.heap.size) (R:ac p N) (am:ae N tp 131 (dQ (.pointer none) 0 d gU (.pointer none))) (H:ac N P) (G:aa (λb=>(Value.slice S k V).ownBlock=some b) P q)
 (b8:q.ownsRow 0 124 1 (.slice A (k+1) B) (k+1) ((L.tps++ [tp]).flatMap uc)) (cb:∀b,(Value.slice A (k+1) B).ownBlock=some b->(Value.slice S k V).ownBlock=some b\/P.heap.size<=b)
 (az:z=q.setCell ⟨L.pb,3,none⟩ (.slice A (k+1) B)) (bb:ae q L.pb 123 (bB L)):sQ al z thr b9 L.pb L.m (k+1):=by
 have o:=e.h;obtain⟨F,ch⟩:=o.p1 (by decide);obtain⟨ab,cm⟩:=o.p5 (by decide);have b6:=o.p3 (by decide);obtain⟨ar,aw,bk⟩:=o.p15 (by decide);rw[hv] at ab;have r:∀b,(Value.slice S k V).ownBlock=some b->tag b=5/\b<y.heap.size:=λb a=>⟨ab b a,o.tlt b (by rw[ab b a];decide)⟩
 have ci:L.pb<y.heap.size:=o.tlt _ (by rw[F];decide);obtain⟨K,X⟩ :∃t,t=cS tag y p 3:=⟨_,rfl⟩
 have aE:aY [3] p K L s:=by rw[X];exact o.part (i:=3) a0
 obtain⟨v,Y⟩ :∃t,t=cS K p N 15:=⟨_,rfl⟩
 have bq:aY [15,3] N v L s:=by rw[Y];exact aE.part (i:=15) (R.mono λ_ a=>a.elim)
 have b0:=bq.U H;have a1:∀b,tag b≠0->K b=tag b:=λb c=>by rw[X];exact bJ o.tlt b c
 have a4:∀b,K b≠0->v b=K b:=λb c=>by rw[Y];exact bJ aE.tlt b c
 have a2:∀b,tag b≠0->v b=tag b:=λb c=>by rw[a4 b (by rw[a1 b c];exact c),a1 b c]
 have c1:aa (λb=>v b=5) P q:=G.mono λb a=>by rw[a2 b (by rw[(r b a).1];decide)];exact(r b a).1
 obtain⟨l,Z⟩ :∃t,t=cS v P q 5:=⟨_,rfl⟩
 have br:aY [5,15,3] q l L s:=by rw[Z];exact b0.part (i:=5) c1
 have a5:∀b,v b≠0->l b=v b:=λb c=>by rw[Z];exact bJ b0.tlt b c
 have a3:∀b,tag b≠0->l b=tag b:=λb c=>by rw[a5 b (by rw[a2 b c];exact c),a2 b c]
 have E:aa (λb=>b=L.pb) q z:=by rw[az];exact af _ _ _ _
 have a7:l L.pb=1:=by rw[a3 _ (by rw[F];decide)];exact F
 have bt:aY [1,5,15,3] z l L s:=br.same (i:=1) (E.mono λb a=>by rw[a];exact a7)
 have bv:aY [1,3,5,15] z l L s:=bt.mono λj _ a8=>by
  simp only[yG,zV,or_false] at a8 ⊢;omega
 have cq:=a0.size;have cr:=R.size;have cv:=H.size;have cw:=G.size;have bx:L.dp.length=k:=by rw[b6.dlen,e.fresh.nlen,e.len]
 have ck:L.ps.length=k:=by rw[b6.plen,e.fresh.nlen,e.len]
 have cD:∀b T cs,ae y b T cs->tag b≠3->tag b≠5->b≠L.pb->ae z b T cs:=λb T cs c bm bn c2=>E.J (G.J (H.J (R.J (a0.J c bm) nF) nF) (λa=>bn (r b a).1)) c2
 have c5:l tp=15:=by
  have:v tp=15:=by rw[Y];exact fR ⟨by rw[c4];exact lR,am.lt⟩
  rw[a5 tp (by rw[this];decide),this]
 have bo:DW z (λb=>l b=3) L.m L.n ba (s.C++bS s.C.length (2 ^ lg)) (s.ds++ [⟨s.C.length,[((s.C.length:Int)+3,((2 ^ lg:Nat):Int))],[],none,[],4+((2 ^ lg:Nat):Int),0,((2 ^ lg:Nat):Int)⟩]) (L.dp++ [d]) (L.ps++ [[]]):=by
  have cd:=(bf.kp R nG).kp H nG
  have ce:=cd.kp G (λb c a=>by
   have:=r b a
   rcases c with c|c
   ·rw[this.1] at c;exact absurd c (by decide)
   ·omega)
  have cf:=ce.kp E (λb c a=>by
   rw[a] at c
   rcases c with c|c
   ·rw[F] at c;exact absurd c (by decide)
   ·omega)
  refine cf.mo λb c=>?_
  have W:K b=3:=by
   rcases c with c|c
   ·rw[a1 b (by rw[c];decide)];exact c
   ·rw[X];exact fR c
  rw[a5 b (by rw[a4 b (by rw[W];decide),W];decide),a4 b (by rw[W];decide)];exact W
 have b5:∀b,(Value.slice A (k+1) B).ownBlock=some b->l b=5:=λb c=>by
  rcases cb b c with a|a
  ·rw[a3 b (by rw[(r b a).1];decide)];exact(r b a).1
  ·rw[Z];exact fR ⟨a,ph b8 c⟩
 have bp:=aY.grown (hv':=.slice A (k+1) B) (tps':=L.tps++ [tp]) (n':=L.n) (ths':=s.ths++ [mN]) bv ⟨a7,by
  rw[az];have:=bb.s_ 3 (.slice A (k+1) B)
  simpa[bB] using this⟩ bo ⟨b5,by
  rw[yk,List.length_singleton,b2,<-tw]
  exact E.owns b8 (λb c a=>by
   have:=b5 b c;rw[a,a7] at this;exact absurd this (by decide))⟩ ⟨by rw[yk,yk,ar];rfl,λi th D=>?_,λi j t D a8=>?_⟩
 ·refine⟨l,_,_,⟨bp,?_,e.progs,e.known,e.away,?_,λb c=>?_,?_,λx ai=>?_,?_,e.most_,e.thr_,?_,e.n0,e.fn,e.dn,e.on,e.pn,e.qv⟩,rfl,rfl⟩
  ·have g:=e.fresh
   refine⟨g.rw,g.ks,g.fm,g.hist,g.outs,Cz g.many (2 ^ lg) (Nat.one_le_two_pow),λx ai=>?_,by simp[g.nlen],λth ad=>?_,g.queue,g.nms,g.roots⟩
   ·rcases yH.1 ai with a|a
    ·exact g.ds x a
    ·rw[yw.1 a]
     exact⟨rfl,rfl,rfl,rfl,rfl⟩
   ·rcases yH.1 ad with a|a
    ·exact g.ths th a
    ·exact yw.1 a
  ·have a9:=e.new
   refine(((((e.U.trans' a0 (λb a=>.inr (a9 b (by rw[a];decide)))).trans R).trans H).trans' G (λb a=>.inr (a9 b (by rw[(r b a).1];decide))))).trans' E (λb a=>.inr (by rw[a];exact a9 _ (by rw[F];decide)))
  ·have cn:=e.U.size
   rw[Z] at c
   rcases kH b c with a|a
   ·rw[Y] at a
    rcases kH b a with a|a
    ·rw[X] at a
     rcases kH b a with a|a
     ·exact e.new b a
     ·omega
    ·omega
   ·omega
  ·show(s.ths++ [mN]).length=k+1
   rw[yk,e.len];rfl
  ·have c3:(2:Nat) ^ lg<=2 ^ 8:=Nat.pow_le_pow_right (by decide) b3
   rcases yH.1 ai with a|a
   ·exact e.c0 x a
   ·rw[yw.1 a]
    show((2 ^ lg:Nat):Int)<=256;omega
  ·have c3:(2:Nat) ^ lg<=2 ^ 8:=Nat.pow_le_pow_right (by decide) b3
   show(s.C++bS s.C.length (2 ^ lg)).length<=300*(k+1);rw[yk,mn];have:=e.clen;omega
  ·show L.n<=1000*((k+1:Nat):Int)
   have:=e.nn;omega
 ·rcases gH D with a|⟨a,an⟩
  ·obtain⟨t,a6,av,fv,Q,u,b7,c6,c7,cp,c8,c9⟩:=aw i th a
   have ad:=e.fresh.ths th (yh a);refine⟨t,a6,av,fv,?_,by rw[a3 t (by rw[u];decide)];exact u,?_,cD _ _ _ c6 (by rw[u];decide) (by rw[u];decide) (λa=>by rw[a,F] at u;exact absurd u (by decide)),c7,λj i a=>by(rw[ad] at a;cases a),c8,c9⟩
   ·show(L.tps++ [tp])[i]?=some t
    rw[yi (gS Q).1];exact Q
   ·show(L.dp++ [d])[i]?=some a6
    rw[yi (gS b7).1];exact b7
  ·subst an
   have b1:i=k:=by rw[a,e.len]
   refine⟨tp,d,.pointer none,.pointer none,?_,c5,?_,E.J (G.J (H.J am nF) (λa=>?_)) (λa=>?_),λ_=>rfl,λj i a=>(by cases a),λa=>(by cases a),λ_=>rfl⟩
   ·show(L.tps++ [tp])[i]?=some tp
    rw[b1,<-b2];simp
   ·show(L.dp++ [d])[i]?=some d
    rw[b1,<-bx];simp
   ·have:=(r _ a).2
    omega
   ·omega
 ·have b4:∀(i t:Nat),L.tps[i]?=some t->t<y.heap.size:=λi t D=>by
   have bz:i<s.ths.length:=by rw[<-ar];exact(gS D).1
   obtain⟨t',a6,av,fv,Q,u,_⟩:=aw i s.ths[i] (gG bz);rw[D] at Q
   cases Q
   exact o.tlt _ (by rw[u];decide)
  rcases gH D with a|⟨a,an⟩<;>rcases gH a8 with f|⟨f,cg⟩
  ·exact bk i j t a f
  ·have:=b4 i t a;omega
  ·have:=b4 j t f;omega
  ·omega
attribute [local simp] ew fe fD cL dP Region.binds dD dN Is ao Act.put
theorem CO(j lg:Nat)(f:Int)(dm:1<=j)(d5:j<=8)(bz:lg<=8)(d3:1<=f)(dl:f<=1024)(w:World):
 Calls Tryz.prog 25 #[.agg #[.int .i64 (j:Int),.int .i64 (lg:Int),.int .i64 f]] w λe w'=>Ds w w' j f j e:=by
 obtain⟨thr,b0⟩ :∃t:Int,t=(j:Int):=⟨_,rfl⟩
 obtain⟨Y,aw⟩ :∃t:Int,t=(lg:Int):=⟨_,rfl⟩
 obtain⟨p,V⟩:=eX (w.alloc (.cells #[.int .i64 thr,.int .i64 Y,.int .i64 f] 40));obtain⟨d0,ar⟩ :∃g,g=w.heap.size:=⟨_,rfl⟩
 have c6:ac w p:=by rw[V];exact oR.alloc _
 have ai:ae p d0 40 #[.int .i64 thr,.int .i64 Y,.int .i64 f]:=by rw[V,ar];exact bN
 have cs:=hD V.symm;have ch:=hD ar;have bm:=hD c6;have Z:=hD ai;have bn:=hD b0;have ci:=hD aw;have H:=ai.I 2;simp at H;have a3:=hD (Di f d3 (by omega) p);have dp:¬thr<1:=by omega
 have dq:¬8<thr:=by omega
 have dr:¬1024<f:=by omega
 have d4:=@run_makeMap Tryz.prog;unfold Dv at a3;rw[<-b0,<-aw];clear V ar c6 ai b0 aw;go_enter Tryz.func25,Tryz.ntmps25;go_upto_region 1 with fail;rw[cs.O,<-ch.O]
 go_upto_region 2 with(go_at_call 55;refine a3.O.mono ?_;rintro e m ⟨da,ds,rfl,cb,b1⟩;have cr:=hD cb;have cn:=hD b1;have bq:=b1.J Z.O nF;have cd:=hD bq;clear cb b1 bq)
 clear H a3;obtain⟨F,G,H⟩:=cd.O.gE3;go_upto_region 5 with fail;obtain⟨a4,K⟩:=eX (m.alloc (.map #[] 0));obtain⟨a5,N⟩:=eX (a4.alloc (.map #[] 0));obtain⟨a6,P⟩:=eX (a5.alloc (.map #[] 0));obtain⟨a7,Q⟩:=eX (a6.alloc (.map #[] 0));obtain⟨a8,R⟩:=eX (a7.alloc (.map #[] 0));obtain⟨a9,S⟩:=eX (a8.alloc (.map #[] 0));obtain⟨ab,T⟩:=eX (a9.alloc (.map #[] 0));have b3:a4.heap.size=m.heap.size+1:=by rw[K];simp
 have b4:a5.heap.size=m.heap.size+1+1:=by rw[N];simp[b3]
 have b5:a6.heap.size=m.heap.size+1+1+1:=by rw[P];simp[b4]
 have b6:a7.heap.size=m.heap.size+1+1+1+1:=by rw[Q];simp[b5]
 have b7:a8.heap.size=m.heap.size+1+1+1+1+1:=by rw[R];simp[b6]
 have b8:a9.heap.size=m.heap.size+1+1+1+1+1+1:=by rw[S];simp[b7]
 have c9:ab.heap.size=m.heap.size+1+1+1+1+1+1+1:=by rw[T];simp[b8]
 rw[<-K,<-N,<-P,<-Q,<-R,<-S,<-T,<-c9,<-b8,<-b7,<-b6,<-b5,<-b4,<-b3];obtain⟨bp,al⟩:=eX (ab.alloc (.cells #[.int .i64 thr,.int .i64 Y,.int .i64 f,.slice none 0 0,.pointer (some ⟨da,0,none⟩),.map (some m.heap.size),.slice none 0 0,.map (some a4.heap.size),.map (some a5.heap.size),.map (some a6.heap.size),.map (some a7.heap.size),.map (some a8.heap.size),.map (some a9.heap.size),.slice none 0 0] 123));obtain⟨cv,am⟩:=eX (bp.alloc (.cells #[.int .i64 0,.bool true,.slice none 0 0] 214));obtain⟨hU,c2⟩:=AN (w:=p) (lg:=Y) (thr:=thr) cr.O cn.O K N P Q R S T al am;obtain⟨c8,A⟩:=eX ab.heap.size;obtain⟨c5,z⟩:=eX bp.heap.size;have c0:sQ p cv thr f c8 c5 0:=⟨hU,_,_,c2,by rw[A];rfl,by rw[z];rfl⟩
 have bk:=hD c0;have ba:=hD al.symm;have bb:=hD am.symm;have bf:=hD z.symm;rw[ba.O,<-A];clear K N P Q R S T al am b3 b4 b5 b6 b7 b8 c9 c2 c0 d4 A z F G H
 go_upto_region 6 with(go_at_call 56;refine(Ea _).mono ?_;rintro e dw ⟨rfl,rfl⟩)
 rw[bb.O,bf.O];clear ba bb bf;have F:=((bk.O.choose_spec.choose_spec.choose_spec.1.U).J Z.O nF).I 0;simp at F;go_wp2_with fail;clear F
 go_loopw [47] (λi wr=>∃k:Nat,k<=j/\i=.int .i64 k/\sQ p wr thr f c8 c5 k) (λi _=>j-(intOf i).toNat)
 case atStart=>exact⟨0,yx _,rfl,bk.O⟩
 case round=>
  obtain⟨k,dd,rfl,tag,L,s,c,A,z⟩:=hrel;subst A;subst z;have x:=hD c
  by_cases q:k<j
  ·have dk:(0:Int)<=(k:Int):=dB k
   have d1:(k:Int)<thr:=by rw[bn.O];exact cy q
   have c4:wrap64 ((k:Int)+1)=(k:Int)+1:=cG q (lT d5 (by decide));have G:=(c.U.J Z.O nF).I 1;simp at G;have a1:=hD (xP (c.h.p3 (by decide)) c.fresh.many (by have:=c.clen;omega) lg bz);rw[<-ci.O] at a1;have c3:=(c.h.p1 (by decide)).2;obtain⟨v,y,hv⟩:=jr (c.h.p5 (by decide)).2;have av:L.tps.length=k:=by rw[(c.h.p15 (by decide)).1,c.len]
   rw[av] at hv;have l:=hD (aI hv av);have cq:=hD c3;clear c c3 hv av
   go_upto_region 11 with(go_at_call 57;refine a1.O.mono ?_;rintro e n ⟨d,dv,rfl,c7,bt⟩;have a2:=hD c7;have cg:=hD bt;clear c7 bt)
   have az:=(x.O.h.p1 (by decide)).1;have aE:=(x.O.h.p5 (by decide)).1;have D:=a2.O.J cq.O (λe=>by rw[az] at e;exact absurd e (by decide));have b2:=D.I 3;have cB:=D.fz 3;simp[bB,l.O.1] at b2
   have cp:Hd (n.ownsRow 0 124 1 (.slice v k y) L.tps.length (L.tps.flatMap uc)):=hD (by
    have bv:=(x.O.h.p5 (by decide)).2;rw[l.O.1,<-tw] at bv;refine a2.O.owns bv (λb o e=>?_);rw[<-l.O.1] at o;have e:tag b=3:=e;rw[aE b o] at e;exact absurd e (by decide))
   have ce:=hD D;have ck:Hd (L.tps.length<=1000000):=hD (by rw[l.O.2];omega)
   have c1:∀b,(Value.slice v k y).ownBlock=some b->b≠L.pb:=λb o e=>by
    rw[<-l.O.1] at o;have:=aE b o;rw[e,az] at this;exact absurd this (by decide)
   have cm:=hD c1;clear az aE D G a1 c1
   go_wp2_with (first
    |(at_builtin;go_loud (refine jM (enc:=uc) rfl (.tmp 63) (.tmp 67) 114 124 1 8 0 rfl Tryz.underlying114 EC (by decide) (by decide) (.slice v k y) rfl rfl L.tps n.heap.size (aa.owns (aa.alloc (aa.alloc (aa.refl (λ_=>False) n) _) _) cp.O nG) (DI _ _ _ _) (λu hu=>by simp[uc,ptr] at hu;rw[hu];rfl) rfl ck.O (yx _) ?_);intro v2 bo r B X;rw[yk,List.length_singleton,l.O.2] at r;obtain⟨b9,br,rfl⟩:=jr r;have a0:=hD (aI r (aI B X));have E:=B.J ((ce.O.alloc _).alloc _) (λe=>cm.O _ e rfl);have b2:=E.I 3;have cB:=E.fz 3;simp[bB,l.O.1] at b2;have cf:=hD E;clear r B X E)
    |fail)
   go_roundw
   case measure=>first|exact au rfl q|exact au c4 q
   case rel=>
    refine⟨k+1,q,by first|exact cK k|exact cH c4,?_⟩;obtain⟨C,W⟩:=eX (n.alloc (.cells #[.pointer none,.int .i64 0,.pointer (some ⟨d,0,none⟩),.int .u64 0,.string ⟨#[]⟩,.pointer none] 131));obtain⟨ad,an⟩:=eX (C.alloc (.cells #[.pointer (some ⟨n.heap.size,0,none⟩)] 124));obtain⟨db,bx⟩:=eX (bo.setCell ⟨L.pb,3,none⟩ (.slice b9 (k+1) br));have r:=a0.O.1;have B:aa (λb=>(Value.slice v k y).ownBlock=some b) ad bo:=by rw[an,W];exact a0.O.2.1
    have X:∀b,(Value.slice b9 (k+1) br).ownBlock=some b->(Value.slice v k y).ownBlock=some b\/ad.heap.size<=b:=by rw[an,W];exact a0.O.2.2
    have cw:ae C n.heap.size 131 (dQ (.pointer none) 0 d gU (.pointer none)):=by rw[W];exact bN
    have d8:ac n C:=by rw[W];exact oR.alloc _
    have d9:ac C ad:=by rw[an];exact oR.alloc _
    rw[<-bx];exact AM bz x.O l.O.1 l.O.2 a2.O cg.O rfl d8 cw d9 B r X bx cf.O
  ·have d1:¬(k:Int)<thr:=by rw[bn.O];exact λe=>q (yB.1 e)
   have d2:k=j:=by omega
   clear c;go_wp2_with fail
   go_ret2
   have d7:=bm.O.size;have a:=x.O;rw[d2] at a;exact⟨tag,L,s,rfl,⟨a.h,a.fresh,a.progs,a.known,a.away,bm.O.trans a.U,λb o=>lT d7 (a.new b o),a.len,a.c0,a.clen,a.most_,a.thr_,a.nn,a.n0,a.fn,a.dn,a.on,a.pn,a.qv⟩⟩
def kI(f:Int->Option (List ah))(j:Int)(p:List ah):Int->Option (List ah):=λi=>if i=j then some p else f i
theorem aY.fillJ{w:World}{tag:Nat->Nat}{L:cP}{s:PS}{j:Int}{p:List ah}{A:Option Addr}{c n':Nat}(a:aY [4,8] w tag L s)(cD:∀i q,s.progs i=some q->dg w (λb=>tag b=4) (L.pA i).1 q)(o:dg w (λb=>tag b=4) A p)(t:s.progs j=none)
 (g:tag L.gb=8/\aN Tryz.prog w 54 L.gb (gI .u64 λi=>if i=j then some (aP p A c) else(s.progs i).map λq=>aP q (L.pA i).1 (L.pA i).2) n') (l:∀n,s.T.fm n=none):
 aX w tag {L with pA:=λi=>if i=j then(A,c) else L.pA i,pn:=n'} {s with progs:=kI s.progs j p}:=
 ⟨a.tlt,λ_=>a.p1 (by decide),λ_=>a.p2 (by decide),λ_=>a.p3 (by decide),λ_ i q r=>by
  show dg w _ (if i=j then(A,c) else L.pA i).1 q;have e:(if i=j then some p else s.progs i)=some q:=r
  by_cases d:i=j
  ·rw[yf d] at e ⊢
   cases e
   exact o
  ·rw[yb d] at e ⊢
   exact cD i q e,λ_=>a.p5 (by decide),λ_=>a.p6 (by decide),λ_=>a.p7 (by decide),λ_=>⟨g.1,by
  have d:(λi=>(kI s.progs j p i).map λq=>aP q (if i=j then(A,c) else L.pA i).1 (if i=j then(A,c) else L.pA i).2)=λi=>if i=j then some (aP p A c) else(s.progs i).map λq=>aP q (L.pA i).1 (L.pA i).2:=by
   funext i;unfold kI
   by_cases d:i=j<;>simp[d]
  show aN _ _ _ _ (gI .u64 λi=>(kI s.progs j p i).map λq=>aP q (if i=j then(A,c) else L.pA i).1 (if i=j then(A,c) else L.pA i).2) n';rw[d];exact g.2⟩,λ_=>a.p9 (by decide),λ_=>a.p10 (by decide),λ_=>a.p11 (by decide),λ_=>a.p12 (by decide),λ_=>a.p13 (by decide),λ_=>a.p14 (by decide),λ_=>a.p15 (by decide),λn f m=>(by
  have k:s.T.fm n=some f:=m;rw[l n] at k
  cases k),a.p17⟩
def Dr(w w':World)(tag:Nat->Nat)(L:cP)(s:PS)(j:Int)(p:List ah)(e:Ending):Prop:=∃tag' A c n',e=.returned (.int .i64 0)/\aX w' tag' {L with pA:=λi=>if i=j then(A,c) else L.pA i,pn:=n'} {s with progs:=kI s.progs j p}/\aQ w w' tag tag'/\n'<=L.pn+1
section
variable {w w':World}{tag:Nat->Nat}{L:cP}{s:PS}
theorem CN(D:aX w tag L s)(j:Int)(X:(Lit.int .u64 j).wf=true)(y:s.progs j=none)(V:∀n,s.T.fm n=none)(b5:L.pn<16)(p:List ah)(A:Option Addr)(c:Nat)(F:Nat->Prop)(Q:∀b,F b->b<w.heap.size/\tag b=0)(G:dg w F A p)(a7:lH p)(ab:p.length<=1000)(b3:∀x∈p,x.ops.length<=1000):
 Calls Tryz.prog 26 #[ptr L.pb,.int .u64 j,aP p A c] w λa w'=>Dr w w' tag L s j p a:=by
 obtain⟨n,ad⟩:=eX p.length;obtain⟨f,R⟩:=eX (w.alloc (.cells #[.slice A n c] 24));obtain⟨o,a9⟩ :∃g,g=w.heap.size:=⟨_,rfl⟩
 have m:ac w f:=by rw[R];exact oR.alloc _
 have aE:ae f o 24 #[.slice A n c]:=by rw[R,a9];exact bN
 have ar:=hD (jJ (D.U m));have a1:=hD (λW (d:ac f W)=>vf p A c F W (G.kp (m.trans d) nG) (λb k=>lL (Q b k).1 (m.trans d).size) ab a7.wf);have Z:Hd (∀W,ac f W->Calls Tryz.prog 59 #[aP p A c] W λa w'=>oO W w' p a):=hD λW d=>xL A p c F W (G.kp (m.trans d) nG) ab b3
 obtain⟨b6,b2⟩:=D.p8 (by decide);have Y:keyOf Tryz.prog 54 (.int .u64 j)=some (.int .u64 j):=Maps.keyOf_int_mk Tryz.underlying54 X;have P:Hd (∀W,ac f W->aN Tryz.prog W 54 L.gb (gI .u64 λi=>(s.progs i).map λq=>aP q (L.pA i).1 (L.pA i).2) L.pn):=hD λW d=>b2.only (m.trans d) nF
 have bm:Hd (∀W,ac f W->(Instr.lookup 116 (.map (some L.gb)) (.int .u64 j) true).run Tryz.prog W=.ok (.tuple #[.agg #[.slice none 0 0],.bool false]) W):=hD λW d=>by
  have:=(P.O W d).look2 (t:=116) oi Tryz.underlying116 (z:=.agg #[.slice none 0 0]) (by kernel_rfl) Y;rw[mX,y] at this;exact this
 have an:Hd (∀W,ac f W->∀al,(Builtin.len_ #[116] al #[.map (some L.gb)]).run Tryz.prog W=.ok (.int .i64 (L.pn:Int)) W):=hD λW d al=>(P.O W d).len Tryz.underlying116 al
 have b4:=(D.p1 (by decide)).2
 have a3:Hd (∀W,ac f W->W.cell? ⟨L.pb,5,none⟩=some (.map (some L.gb))/\W.cell? ⟨o,0,none⟩=some (.slice A n c)):=hD λW d=>by
  have K:=(m.trans d).J b4 nF;have c9:=d.J aE nF;exact⟨K.I 5,c9.I 0⟩
 have bb:=hD a7.ck;have az:=hD R.symm;have a0:=hD a9;have av:=hD m;have N:=hD D;have aw:=hD (aI G (aI Q (aI y (aI V Y))));have r:=hD b6;have c8:¬(16:Int)<=(L.pn:Int):=by omega
 obtain⟨ch,ai⟩:=eX ((L.pn:Int):Int);rw[<-ai] at an c8;have bn:=hD (aI ai b5);obtain⟨B,C⟩:=a3.O f oR;unfold aP at a1 Z ⊢;rw[<-ad] at a1 Z ⊢;have cb:=hD ad;unfold ptr at ar ⊢;clear D X y V b5 Q G a7 ab b3 ad R a9 m aE b6 b2 Y b4 ai;go_enter Tryz.func26,Tryz.ntmps26;go_upto_region 1 with fail;rw[az.O,<-a0.O]
 go_upto_region 4 with(first
  |(go_at_call 44;refine ar.O.mono ?_;rintro a ci ⟨rfl,rfl⟩)
  |(go_at_call 58;refine(a1.O _ oR).mono ?_;unfold sP;rw[bb.O];rintro a bo ⟨cd,ce,rfl,b8⟩;have a2:=hD b8;clear b8)
  |fail)
 clear B C;obtain⟨B,C⟩:=a3.O _ a2.O;have c2:=bm.O _ a2.O;go_upto_region 9 with fail;obtain⟨e,a8⟩:=eX (bo.alloc (.cells #[.slice none 0 0] 24));rw[<-a8];have b9:ac f e:=by rw[a8];exact a2.O.alloc _
 have l:=hD b9;clear c2 B C a8 b9;obtain⟨B,C⟩:=a3.O _ l.O;have c1:=an.O _ l.O;go_upto_region 11 with fail;clear c1
 have E:Hd (∀W,aa (λb=>b=L.gb) e W->aa (λb=>b=L.gb) e W/\W.cell? ⟨L.pb,5,none⟩=some (.map (some L.gb))/\W.cell? ⟨o,0,none⟩=some (.slice A n c)):=hD λW d=>by
  have cg:=P.O e l.O;have c6:L.pb<e.heap.size:=lL (N.O.p1 (by decide)).2.lt (av.O.trans l.O).size
  have c3:L.pb≠L.gb:=λa=>by
   have a5:=(N.O.p1 (by decide)).1;rw[a,r.O] at a5;exact absurd a5 (by decide)
  have c0:o<f.heap.size:=by rw[a0.O,<-az.O];simp
  have c4:o≠L.gb:=λa=>by
   have:=N.O.tlt L.gb (by rw[r.O];decide);rw[<-a,a0.O] at this;omega
  exact⟨d,(d.I (p:=⟨L.pb,5,none⟩) c6 c3).trans B,(d.I (p:=⟨o,0,none⟩) (lL c0 l.O.size) c4).trans C⟩
 have cf:=E.O e oR;have bf:Hd (L.pn<maxLen):=hD (by have:=bn.O.2;unfold maxLen;omega);clear B C
 go_region_held3 (λw'=>aa (λb=>b=L.gb) e w'/\w'.cell? ⟨L.pb,5,none⟩=some (.map (some L.gb))/\w'.cell? ⟨o,0,none⟩=some (.slice A n c))
  (first|exact E.O _ (yt ‹_›)|exact E.O _ (aa.drew (yt ‹_›))|exact E.O _ (aa.trans (aa.drew oR) (aa.mono (S:=λ_=>False) u.O λ_ a=>a.elim))|exact E.O _ (aa.trans (aa.trans (aa.drew oR) (aa.mono (S:=λ_=>False) u.O λ_ a=>a.elim)) H)|fail)
  (first
   |(go_at_call 59;refine(Z.O _ (l.O.trans (aa.drew oR))).mono ?_;rintro a a4 ⟨am,c',rfl,b0,ba⟩;unfold aP;have u:=hD ba;have bk:=hD b0;clear ba b0)
   |(refine qq (P.O _ ((l.O.trans (aa.drew oR)).trans u.O)) oi Tryz.underlying116 aw.O.2.2.2.2 bf.O ?_;intro bp b1 H)
   |fail)
 go_wp2_with fail;go_ret;obtain⟨G,Q,y,V,Y⟩:=aw.O;have b7:ac w e.drew:=av.O.trans (l.O.trans (aa.drew oR));have v:aX e.drew tag L s:=N.O.U b7;have bt:=v.part (i:=4) (u.O.mono λ_ a=>a.elim);have c5:aa (λb=>tag b=4) e.drew a4:=u.O.mono λ_ a=>a.elim
 have a6:cS tag e.drew a4 4 L.gb=8:=by rw[bJ v.tlt _ (by rw[r.O];decide)];exact r.O
 have bv:=bt.same (i:=8) (H.mono λb a=>by rw[a];exact a6)
 have bx:aY [4,8] bp (cS tag e.drew a4 4) L s:=bv.mono λj _ X=>by
  simp only[yG,zV,or_false] at X ⊢;omega
 have bz:(gI .u64 (λi=>(s.progs i).map λq=>aP q (L.pA i).1 (L.pA i).2) (.int .u64 j)).isSome=false:=by rw[mX,y];rfl
 rw[yb (by rw[bz];decide),xZ] at b1;have br:=bx.fillJ (j:=j) (p:=p) (A:=am) (c:=c') (n':=L.pn+1) (λi q c7=>?_) ?_ y ⟨a6,b1⟩ V
 ·refine⟨_,am,c',L.pn+1,rfl,br,((aQ.U b7).trans (aQ.part v.tlt (by decide) c5)).trans (aQ.same (i:=8) (by decide) (H.mono λb a=>by rw[a];exact a6)),lR⟩
 ·have K:=((v.p4 (by decide) i q c7).kp u.O nG).kp H (λb k a=>by rw[a,r.O] at k;exact absurd k (by decide))
  exact K.mo λb k=>by rw[bJ v.tlt _ (by rw[k];decide)];exact k
 ·have K:=bk.O.kp H (λb k a=>by
   have a5:=v.tlt L.gb (by rw[r.O];decide);have bq:=k.1;rw[a] at bq;omega)
  exact K.mo λb k=>fR k
end
end
end Go.Proofs.YtmdocplknceilaaGreat
