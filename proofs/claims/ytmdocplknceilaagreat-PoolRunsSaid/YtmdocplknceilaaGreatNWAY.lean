import Derived.Test.YtmdocplknceilaaGreatNWAX
import Derived.Test.YtmdocplknceilaaGreatNWAK
set_option linter.all false
set_option maxRecDepth 100000
set_option maxHeartbeats 1000000
namespace Go.Proofs.YtmdocplknceilaaGreat
section
open Go.RowKit Go.Maps
def uw:Array Value:=#[.int .u8 1,.string ⟨#[]⟩,.int .i64 0,.slice none 0 0,.int .i64 0,.int .i64 0,.int .i64 0]
def iX(s:iR)(A:Option Addr)(c:Nat):Array Value:=
 match s with
 | .more=>uw
 | .fork t=>mg t A c
 | .join=>nI
 | .done r=>nH r
def bC(w w':World)(b:Nat):Prop:=w.heap.size<=b/\b<w'.heap.size
def eZ(w w':World)(F:Nat->Prop)(fb:Nat)(p:List ah)(x:Fr×Option iR)(e:Ending):Prop:=
 (∃L',aZ w' (λb=>F b\/bC w w' b) fb L' p x.1)/\aa F w w'/\
  match x.2 with
  |none=>e=.returned (.pointer none)
  |some s=>∃q A c,e=.returned (.pointer (some ⟨q,0,none⟩))/\w.heap.size<=q/\ae w' q 181 (iX s A c)/\(∀t,s=.fork t->aL w' (bC w w') A t.args)
theorem eZ.ptr{w w':World}{F:Nat->Prop}{fb:Nat}{p:List ah}{x:Fr×Option iR}{b:Ending}(a:eZ w w' F fb p x b):(x.2=none/\b=.returned (.pointer none))\/∃s q A c,x.2=some s/\b=.returned (.pointer (some ⟨q,0,none⟩))/\ae w' q 181 (iX s A c):=by
 obtain⟨_,_,a⟩:=a
 cases hx:x.2 with
 |none=>rw[hx] at a;exact .inl ⟨rfl,a⟩
 |some s=>
  rw[hx] at a;obtain⟨q,A,c,d,g,e,_⟩:=a;exact .inr ⟨s,q,A,c,rfl,d,e⟩
theorem eZ.back{g w w':World}{F F':Nat->Prop}{fb:Nat}{p:List ah}{x:Fr×Option iR}{d:Ending}(n:eZ w w' F' fb p x d)(o:aa F g w)(l:∀b,F' b->F b\/bC g w b):eZ g w' F fb p x d:=by
 obtain⟨⟨m,r⟩,j,e⟩:=n;have i:=o.size;have v:=j.size
 have u:∀b,F' b\/bC w w' b->F b\/bC g w' b:=λb a=>by
  rcases a with a|a
  ·exact(l b a).imp id λk=>⟨k.1,lL k.2 v⟩
  ·exact .inr ⟨lT i a.1,a.2⟩
 refine⟨⟨m,r.mo u⟩,o.trans' j (λb a=>(l b a).imp id λk=>k.1),?_⟩
 ·cases hx:x.2 with
  |none=>rw[hx] at e;exact e
  |some s=>
   rw[hx] at e;obtain⟨q,A,c,y,z,B,C⟩:=e;exact⟨q,A,c,y,lT i z,B,λt d=>(C t d).mo λb a=>⟨lT i a.1,a.2⟩⟩
theorem jF.tell{w w':World}{F F':Nat->Prop}{fb:Nat}{L:ix}{p:List ah}{f:Fr}{x:aD}{a:Ending}(c:jF w w' F' fb L p f x a)(k:∀b,F' b->F b\/bC w w' b)(l:F fb):eZ w w' F fb p (f.ended x) a:=by
 obtain⟨q,v,d,e,g,i,j⟩:=c;exact⟨⟨_,i.mo k⟩,j.mono λb a=>by rw[a];exact l,q,none,0,d,e,g,λt a=>by cases a⟩
theorem au{a k:Nat}{x:Int}(e:x=(k:Int)+1)(d:k<a):a-(intOf (.int .i64 x)).toNat<a-(intOf (.int .i64 (k:Int))).toNat:=by
 have b:(intOf (.int .i64 x))=x:=rfl;have c:(intOf (.int .i64 (k:Int)))=k:=rfl;rw[b,c];omega
theorem tF(c:cZ->Bool):∀(l:List cZ) (k:Nat),l.any c=false->fP c l k= -1
 | [],k,_=>rfl
 |a :: l,k,b=>by
  rw[List.any_cons,Bool.or_eq_false_iff] at b;unfold fP;rw[yb (by rw[b.1];simp)];exact tF c l (k+1) b.2
theorem xR{l:List cZ}(a:cC (ed l)=0):fP (λk=>k.r.e !=0) l 0= -1:=by
 refine tF _ _ _ ?_;rw[ml] at a
 cases hf:l.find? (λk=>k.r.e !=0) with
 |none=>exact zI.2 λx b=>List.find?_eq_none.1 hf x b
 |some y=>
  rw[hf] at a;have:=List.find?_some hf;simp only at a;rw[a] at this;simp at this
theorem oF:∀(l:List (Int×aD)) (c:Int×aD) (regs:List Int),dC (l++ [c]) regs=jh (dC l regs) c.1 c.2.v
 | [],c,regs=>rfl
 |a :: l,c,regs=>by rw[Ye];unfold dC;exact oF l c _
theorem Bl(l:List cZ)(k:Nat)(y:cZ)(a:l[k]?=some y)(regs:List Int):dC (ed (l.take (k+1))) regs=jh (dC (ed (l.take k)) regs) y.into y.r.v:=by
 have c:k<l.length:=(gS a).1
 have b:l.take (k+1)=l.take k++ [y]:=by
  rw[yO,a];rfl
 rw[b];unfold ed;rw[yS];exact oF _ (y.into,y.r) regs
section
variable {w w':World}{F F':Nat->Prop}{fb:Nat}{L:ix}{p:List ah}{f:Fr}
theorem As(o:bI)(dd:∀b,F b->b<w.heap.size)(a7:aZ w F fb L p f)(ci:f.os.any (λc=>!c.given)=false)(C:f.joined<f.kd.length)(cf:f.kd.length<=16)(c5:cC (ed f.os)=0)
 (dp:∀k∈f.kd,0<=k.into/\k.into<f.rg.length) (dr:o.k=14->0<=o.a/\o.a<f.rg.length) (dw:f.rg.length<=16):
 Calls Tryz.prog 139 #[.pointer (some ⟨fb,0,none⟩),cR o] w λe w'=>eZ w w' F fb p (f.joins o) e:=by
 obtain⟨m,c6⟩:=eX ({f with waits:=none,joined:=f.kd.length,rg:=dC (ed f.os) f.rg}:Fr)
 have dl:f.joins o=if o.k=14 then m.ended ⟨ct m.rg o.a,0⟩ else(m,none):=by
  rw[c6];unfold Fr.joins;rw[yb (by rw[ci];simp),yb (by rw[c5];simp)]
 rw[dl]
 rcases a7.kv_form with⟨_,f2⟩|⟨kb,c,ce,fq,⟨b9,X⟩,_⟩
 ·rw[f2] at C
  exact absurd C (zZ _)
 obtain⟨t,aE⟩:=eX (w.alloc (.cells #[.int .u8 o.k,.int .i64 o.d,.int .i64 o.a,.int .i64 o.b,.int .i64 o.n] 106));have cp:ac w t:=by rw[aE];exact(aa.refl _ w).alloc _
 have bv:ae t w.heap.size 106 #[.int .u8 o.k,.int .i64 o.d,.int .i64 o.a,.int .i64 o.b,.int .i64 o.n]:=by rw[aE];exact bN
 have R:=a7.kp cp nG;obtain⟨g,c8⟩:=eX w.heap.size;rw[<-c8] at bv;have am:=R.J.I 10;have bz:=R.J.fz 10;simp[cY] at am;have Z:=R.J.I 8;have a0:=R.J.I 9;simp[cY,ce] at Z a0;have ea:=hD c5
 have ab:f.kd.length<=c:=by
  have:=a7.kd;rw[ce] at this
  rcases dj this with⟨e,_⟩|⟨aw,bx,e,az,_⟩
  ·cases e
  ·injection e with _ _ e3
   rw[e3];exact az
 obtain⟨n,ch⟩:=eX f.kd.length;obtain⟨x,cb⟩:=eX f.joined;rw[<-ch] at Z ab C cf;rw[<-cb] at a0 C;obtain⟨fx,g0,g1,g2⟩:=ng C ab;have fo:¬c=x:=λe=>absurd (lL C ab) (by rw[e];exact yQ _)
 have a3:=hD a7;have a1:=hD R;have a2:=hD bv;have ej:=hD cp;have d3:=hD c8;have eb:=hD dd;have a4:=hD ce;have l:=hD (aI ch (aI cb (aI C (aI ab cf))));have en:=hD ci;have d2:=hD c6;have eg:=hD dp;have el:=hD dr;have fm:=hD dw;have d4:=hD aE.symm;clear a7 R bv cp c8 dd ch cb C cf ab ci aE X c5 dl c6 dp dr dw;obtain⟨br,c2⟩:=eX ((if o.k=14 then m.ended ⟨ct m.rg o.a,0⟩ else(m,none)));rw[<-c2];have d7:=hD c2;clear c2;unfold cR;go_enter Tryz.func139,Tryz.ntmps139;go_upto_region 1 with fail;rw[d4.O,<-d3.O];clear d4;go_wp2_with fail
 go_quiet (fail)
 obtain⟨bp,b0⟩:=eX ((t.setCell ⟨fb,10,none⟩ (.pointer (some ⟨g,0,none⟩))).drewN nq);rw[<-b0];have al:aa (λb=>b=fb) t bp:=by rw[b0];exact(af _ _ _ _).drewN nq
 have f3:w.heap.size<=g/\g<t.heap.size:=⟨zl d3.O.symm,a2.O.lt⟩
 have S:g≠fb:=λe=>ae.ne_ a2.O a1.O.J (by decide) e
 have cB:Hd (aZ bp (λb=>F b\/w.heap.size<=b/\b<t.heap.size) fb {L with wp:=.pointer (some ⟨g,0,none⟩)} p {f with waits:=some o}):=hD ((a1.O.mo λb j=>.inl j).td al (by rw[b0];exact(a1.O.J.s_ 10 _).drewN nq) rfl rfl rfl rfl rfl rfl ⟨g,.inr f3,rfl,al.J a2.O S⟩ a1.O.rp);have dm:=(cB.O.opens_at (kb:=kb) (c:=c) a4.O)
 have cg:f.os.length=n-x:=by rw[eG,l.O.1,l.O.2.1]
 have bf:=hD cg;have H:=kC (some ⟨kb,f.joined*4,none⟩) f.os (c-x) bp dm (by rw[eG];exact lT (Nat.sub_le _ _) (by rw[<-l.O.1];exact lT l.O.2.2.2.2 (by decide)));rw[cg,en.O,<-l.O.2.1] at H;have ek:=hD H;have d8:=hD al;have e7:=hD (al.J a2.O S);clear dm cg H al b0 am bz Z a0 S;go_wp2_with fail;refine ek.O.mono ?_;rintro e bq ⟨rfl,cq⟩;have bm:=hD cq;have u:=cB.O.kp cq nG;have Z:=u.J.I 8;have a0:=u.J.I 9;have am:=u.J.I 10;have f1:=u.J.fz 9;have bz:=u.J.fz 10;simp[cY,a4.O,<-l.O.1] at Z a0 am;have E:=hD u;clear cq u;go_wp2_with fail;obtain⟨P,b1⟩:=eX ((bq.setCell ⟨fb,10,none⟩ (.pointer none)).setCell ⟨fb,9,none⟩ (.int .i64 (n:Int)));rw[<-b1];have Y:aa (λb=>b=fb) bq P:=by rw[b1];exact aJ (af _ _ _ _)
 have e5:Hd (aZ P (λb=>F b\/w.heap.size<=b/\b<t.heap.size) fb {L with wp:=.pointer none} p {f with waits:=none,joined:=f.kd.length}):=hD (E.O.td Y (by
  rw[b1,l.O.1];exact(E.O.J.s_ 10 _).s_ 9 _) rfl rfl rfl rfl rfl rfl rfl E.O.rp)
 have f5:∃b9,ae bq kb 260 b9:=by
  rcases E.O.kv_form with⟨e,_⟩|⟨fa,c',e,_,f7,_⟩
  ·have:=a4.O
   rw[show L.kv=.slice none 0 0 from e] at this
   cases this
  ·have az:=a4.O
   rw[show L.kv=.slice (some ⟨fa,0,none⟩) _ c' from e] at az;injection az with u;injection u with h4;injection h4 with h5;rw[<-h5];exact f7
 obtain⟨b9,X⟩:=f5;have cd:gM P (some ⟨kb,f.joined*4,none⟩) f.os:=(E.O.opens_at (kb:=kb) (c:=c) a4.O).keep_ Y (λe=>ae.ne_ X E.O.J (by decide) e);have e1:ae P kb 260 b9:=Y.J X (λe=>ae.ne_ X E.O.J (by decide) e);have S:g≠fb:=λe=>ae.ne_ a2.O a1.O.J (by decide) e
 have dk:ae P g 106 #[.int .u8 o.k,.int .i64 o.d,.int .i64 o.a,.int .i64 o.b,.int .i64 o.n]:=Y.J (bm.O.J e7.O nF) S;have H:=lU (some ⟨kb,f.joined*4,none⟩) f.os (c-x) P cd (by rw[eG];exact lT (Nat.sub_le _ _) (by rw[<-l.O.1];exact lT l.O.2.2.2.2 (by decide)));rw[bf.O,<-l.O.2.1,xR ea.O] at H;have em:=hD H;have ee:=hD cd;have es:=hD e1;have e8:=hD dk;have d9:=hD Y;clear H cd e1 dk Y X b1 Z a0 am f1 bz S;refine em.O.mono ?_;rintro e ar ⟨rfl,K⟩;have ba:=hD (e5.O.kp K nG);have d0:=hD (K.J e8.O nF);have ex:=hD (K.J es.O nF);have ef:=hD (ee.O.kp K);have bn:Hd (aa F w ar):=hD (((((ej.O.mono λ_ e=>e.elim).trans (d8.O.mono λb e=>by rw[e];exact a3.O.ff)).trans (bm.O.mono λ_ e=>e.elim)).trans (d9.O.mono λb e=>by rw[e];exact a3.O.ff)).trans (K.mono λ_ e=>e.elim));have bo:Hd (t.heap.size<=ar.heap.size):=hD (lT d8.O.size (lT bm.O.size (lT d9.O.size K.size)));clear K;go_wp2_with fail
 go_loopw [50] (λi wr=>∃k:Nat,k<=n-x/\i=.int .i64 k/\aa (λb=>b=L.rb) ar wr/\aZ wr (λb=>F b\/w.heap.size<=b/\b<t.heap.size) fb {L with wp:=.pointer none} p {f with waits:=none,joined:=f.kd.length,rg:=dC (ed (f.os.take k)) f.rg}) (λi _=>(n-x)-(intOf i).toNat)
 case atStart=>exact⟨0,yx _,rfl,oR,ba.O⟩
 case round=>
  obtain⟨k,fp,rfl,V,T⟩:=hrel
  by_cases G:k<n-x
  ·have fs:(0:Int)<=(k:Int):=dB k
   have f4:(k:Int)<((n-x:Nat):Int):=cy G;have dq:k<f.os.length:=by rw[bf.O];exact G
   have b6:f.os[k]?=some f.os[k]:=gG dq;obtain⟨b,fw,c0,ad⟩:=(ef.O.keep_ V (λe=>ae.ne_ ex.O ba.O.rg (by decide) e)) k f.os[k] b6;generalize f.os[k] =y at*;injection c0 with c0;injection c0 with a6 e2;subst a6;subst e2;have cw:=ad 0 _ rfl;have fj:=ad 1 _ rfl;have fk:=ad 2 _ rfl;have fl:=ad 3 _ rfl;rw[yW] at cw;rw[<-l.O.2.1] at cw fj fk fl;have cn:=eg.O y (ov (yh b6));obtain⟨d,b4⟩ :∃d:Nat,y.into=(d:Int):=ym cn.1;have b5:d<f.rg.length:=by have:=cn.2;rw[b4] at this;exact yB.1 this
   obtain⟨rl,D⟩:=eX f.rg.length;have N:=T.J.I 5;simp[cY,fQ,<-D] at N;rw[<-D] at b5;have f8:=dB d;have f9:=cy b5;obtain⟨B,b2⟩:=eX (wr.alloc (.cells #[.int .i64 (d:Int),.bool y.given,.int .i64 y.r.v,.int .i64 y.r.e] 260));have b8:ac wr B:=by rw[b2];exact(aa.refl _ wr).alloc _
   have av:ae B wr.heap.size 260 #[.int .i64 (d:Int),.bool y.given,.int .i64 y.r.v,.int .i64 y.r.e]:=by rw[b2];exact bN
   obtain⟨fn,c9⟩:=eX wr.heap.size;rw[<-c9] at av;have bb:=hD (T.kp b8 nG)
   have fd:B.cell? ⟨fb,5,none⟩=some (.slice (some ⟨L.rb,0,none⟩) rl L.rc):=by
    rw[<-N];exact b8.I (p:=⟨fb,5,none⟩) (block_lt_of_cell N) nF
   have da:=av.I 0;have bx:=av.I 2;simp at da bx;have dz:(dC (ed (f.os.take k)) f.rg).length=rl:=by rw[fQ,D]
   have b7:B.cell? ⟨L.rb,d,none⟩=some (.int .i64 ((dC (ed (f.os.take k)) f.rg).getD d 0)):=eU bb.O.rg (by rw[dz];exact b5);have dv:B.frozen? ⟨L.rb,d,none⟩=false:=bb.O.rg.fz d;have z:=hD V;have ei:=hD b6;have e9:=hD b4;have eL:=hD b8;have d5:=hD b2.symm;have ec:=hD c9;rw[b4] at cw;clear V b6 b4 b8 av T ad dq cn b5 D dz N b2 c9;go_upto_region 12 with fail;rw[d5.O,<-ec.O];clear d5
   go_still_tail 10,(by kernel_rfl)
   change wpList _ _ _ _ _ B.drew;obtain⟨a5,a9⟩:=eX B.drew;rw[<-a9];have ft:a5.cell? ⟨L.rb,d,none⟩=some (.int .i64 ((dC (ed (f.os.take k)) f.rg).getD d 0)):=by rw[a9];exact b7
   have fv:a5.frozen? ⟨L.rb,d,none⟩=false:=by rw[a9];exact dv
   have cr:ac B a5:=by rw[a9];exact oR.drew
   have e6:=hD ((bb.O.kp cr nG).reg_put d y.r.v)
   have ds:dC (ed (f.os.take (k+1))) f.rg=(dC (ed (f.os.take k)) f.rg).set d y.r.v:=by
    rw[Bl _ _ _ ei.O,e9.O];unfold jh;rw[yo]
   have eq:=hD ds;have f0:Hd (aa (λb=>b=L.rb) ar (a5.setCell ⟨L.rb,d,none⟩ (.int .i64 y.r.v))):=hD (aJ (((z.O).trans (eL.O.mono λ_ e=>e.elim)).trans (cr.mono λ_ e=>e.elim)));clear a9 cr b7 dv ds fd da bx;go_wp2_with fail;have cm:wrap64 ((k:Int)+1)=(k:Int)+1:=kJ (lL G (lT (Nat.sub_le _ _) l.O.2.2.2.2));go_roundw
   case rel=>exact⟨k+1,G,by first|exact cH cm|exact yl (Value.int .i64) (((aR _).trans cm).trans (ky k).symm),f0.O,by rw[eq.O];exact e6.O⟩
   case measure=>exact au cm G
  ·have f4:¬(k:Int)<((n-x:Nat):Int):=λe=>G (yB.1 e)
   have dn:f.os.take k=f.os:=by
    rw[List.take_of_length_le];rw[bf.O];exact yA G
   rw[dn,<-d2.O] at T;have an:=hD T;have z:=hD V;have bt:ae wr g 106 #[.int .u8 o.k,.int .i64 o.d,.int .i64 o.a,.int .i64 o.b,.int .i64 o.n]:=V.J d0.O (λe=>ae.ne_ d0.O ba.O.rg (by decide) e);have cs:=bt.I 0;have cv:=bt.I 2;simp at cs cv;clear T V bt dn
   by_cases a8:o.k=14
   ·have ai:br=m.ended ⟨ct m.rg o.a,0⟩:=by rw[d7.O,yf a8]
    obtain⟨db,aw⟩:=el.O a8;obtain⟨Q,b3⟩ :∃Q:Nat,o.a=(Q:Int):=ym db;obtain⟨rl,D⟩:=eX f.rg.length;have c7:m.rg.length=rl:=by rw[d2.O,D];exact fQ _ _
    have c3:Q<rl:=by rw[b3,<-D] at aw;exact yB.1 aw
    have f8:=dB Q;have f9:=cy c3;have N:=an.O.J.I 5;simp[cY,c7] at N
    have b7:wr.cell? ⟨L.rb,Q,none⟩=some (.int .i64 (ct m.rg o.a)):=by
     have:=eU an.O.rg (i:=Q) (by rw[c7];exact c3);unfold ct;rw[b3,yo];exact this
    rw[a8] at cs;rw[b3] at cv;generalize ct m.rg o.a=e4 at*;have e0:w.heap.size<=wr.heap.size:=lT bn.O.size z.O.size
    have d1:Hd (∀W,ac wr W->Calls Tryz.prog 174 #[.pointer (some ⟨fb,0,none⟩),eO ⟨e4,0⟩] W λe w'=>eZ w w' F fb p br e):=hD λW c1=>by
     have ck:=c1.size;refine(mH ⟨e4,0⟩ (λb j=>?_) (an.O.kp c1 nG)).mono ?_
     ·rcases j with j|j
      ·exact lL (eb.O b j) (lT e0 ck)
      ·exact lL j.2 (lT bo.O (lT z.O.size ck))
     ·intro e w' k
      rw[ai];refine(k.tell (F:=λb=>F b\/w.heap.size<=b/\b<t.heap.size) (λb j=>.inl j) (.inl a3.O.ff)).back ((bn.O.trans (z.O.mono λb e=>by rw[e];exact a3.O.fr)).trans (c1.mono λ_ e=>e.elim)) (λb j=>j.imp id λk=>⟨k.1,lL k.2 (lT bo.O (lT z.O.size ck))⟩)
    clear ai db aw b3 D c7 c3 e0 a8;unfold eO at d1;go_wp2_with fail
    go_still_tail 10,(by kernel_rfl)
    change wpList _ _ _ _ _ wr.drew;have c4:=d1.O wr.drew oR.drew;generalize wr.drew=a5 at*;clear N cs cv b7;go_wp2_with fail;refine c4.mono ?_;intro e w' k
    rcases k.ptr with⟨_,a6⟩|⟨s,q,A,c',_,a6,_⟩
    ·subst a6
     have bk:=hD k;clear k c4;go_wp2_with fail;go_ret;exact bk.O
    ·subst a6
     have bk:=hD k;clear k c4;go_wp2_with fail;go_ret;exact bk.O
   ·have ai:br=(m,none):=by rw[d7.O,yb a8]
    have er:=hD ai;clear ai;go_wp2_with fail;go_ret;have f6:=lT bo.O z.O.size;rw[er.O];exact⟨⟨_,an.O.mo λb j=>j.imp id λk=>⟨k.1,lL k.2 f6⟩⟩,bn.O.trans (z.O.mono λb e=>by rw[e];exact a3.O.fr),rfl⟩
end
theorem wj(n:Nat):(0:Int)<=(n:Int)/\(n:Int)<=(n:Int):=by omega
theorem xK{n c:Nat}(a:n<=c):(n:Int)<=(c:Int):=by omega
section
variable {w w':World}{F F':Nat->Prop}{fb:Nat}{L:ix}{p:List ah}{f:Fr}
theorem At(o:bI)(bv:∀b,F b->b<w.heap.size)(G:aZ w F fb L p f)(az:f.joined=f.kd.length)(ck:f.kd.length<=16)
 (bx:o.k=14->0<=o.a/\o.a<f.rg.length) (bz:f.rg.length<=16):
 Calls Tryz.prog 139 #[.pointer (some ⟨fb,0,none⟩),cR o] w λe w'=>eZ w w' F fb p (f.joins o) e:=by
 have bt:f.os= []:=by unfold Fr.os;rw[az];exact zq
 obtain⟨l,bq⟩:=eX ({f with waits:=none,joined:=f.kd.length}:Fr)
 have cq:f.joins o=if o.k=14 then l.ended ⟨ct l.rg o.a,0⟩ else(l,none):=by
  rw[bq];unfold Fr.joins;rw[bt];rfl
 rw[cq];obtain⟨aw,bp⟩:=eX ((if o.k=14 then l.ended ⟨ct l.rg o.a,0⟩ else(l,none)));rw[<-bp];clear cq;obtain⟨m,bb⟩:=eX (w.alloc (.cells #[.int .u8 o.k,.int .i64 o.d,.int .i64 o.a,.int .i64 o.b,.int .i64 o.n] 106));have a0:ac w m:=by rw[bb];exact(aa.refl _ w).alloc _
 have bo:ae m w.heap.size 106 #[.int .u8 o.k,.int .i64 o.d,.int .i64 o.a,.int .i64 o.b,.int .i64 o.n]:=by rw[bb];exact bN
 obtain⟨g,br⟩:=eX w.heap.size;rw[<-br] at bo;obtain⟨n,av⟩:=eX f.kd.length
 rcases G.kv_form with⟨ar,cp⟩|⟨kb,c,ar,cr,⟨d8,cs⟩,_⟩
 ·have d2:n=0:=by rw[av,cp];rfl
  subst d2;have H:=(G.kp a0 nG).J.I 8;have K:=(G.kp a0 nG).J.I 9;simp[cY,ar,az,<-av] at H K;clear cp;have Q:=G.kp a0 nG;have E:=Q.J.I 10;have a7:=Q.J.fz 10;simp[cY] at E;have a3:=hD G;have v:=hD Q;have x:=hD bo;have c7:=hD a0;have b1:=hD br;have c5:=hD bv;have c6:=hD ar;have an:=hD (aI av (aI az bt));have b0:=hD bq;have b3:=hD bp;have c9:=hD bx;have cm:=hD bz;have b2:=hD bb.symm;have c8:Hd (∀A c W,Calls Tryz.prog 169 #[.slice A 0 c,.func (.func 170) #[] #[]] W λe w'=>e=.returned (.bool false)/\ac W w'):=hD λA c W=>kC A [] c W (jP A W) (yx _)
  have cb:Hd (∀A c W,Calls Tryz.prog 171 #[.slice A 0 c,.func (.func 172) #[] #[]] W λe w'=>e=.returned (.int .i64 (-1))/\ac W w'):=hD λA c W=>lU A [] c W (jP A W) (yx _)
  clear G Q bo a0 br bv av az bb bq bx bz bp ck bt ar;unfold cR;go_enter Tryz.func139,Tryz.ntmps139;go_upto_region 1 with fail;rw[b2.O,<-b1.O];clear b2;go_wp2_with fail
  go_quiet (fail)
  obtain⟨b7,R⟩:=eX ((m.setCell ⟨fb,10,none⟩ (.pointer (some ⟨g,0,none⟩))).drewN nq);rw[<-R];have C:aa (λb=>b=fb) m b7:=by rw[R];exact(af _ _ _ _).drewN nq
  have cg:w.heap.size<=g/\g<m.heap.size:=⟨zl b1.O.symm,x.O.lt⟩
  have u:g≠fb:=λe=>ae.ne_ x.O v.O.J (by decide) e
  have c0:Hd (aZ b7 (λb=>F b\/w.heap.size<=b/\b<m.heap.size) fb {L with wp:=.pointer (some ⟨g,0,none⟩)} p {f with waits:=some o}):=hD ((v.O.mo λb j=>.inl j).td C (by rw[R];exact(v.O.J.s_ 10 _).drewN nq) rfl rfl rfl rfl rfl rfl ⟨g,.inr cg,rfl,C.J x.O u⟩ v.O.rp);have b4:=hD C;have c2:=hD (C.J x.O u);clear C R E a7 H K u;go_wp2_with fail;refine(c8.O _ _ _).mono ?_;rintro e b8 ⟨rfl,V⟩;have b5:=hD V;have r:=c0.O.kp V nG;have H:=r.J.I 8;have K:=r.J.I 9;have E:=r.J.I 10;have ce:=r.J.fz 9;have a7:=r.J.fz 10;simp[cY,c6.O] at H K E;have a2:=hD r;have c3:=hD (V.J c2.O nF);clear V r;go_wp2_with fail;obtain⟨b9,S⟩:=eX ((b8.setCell ⟨fb,10,none⟩ (.pointer none)).setCell ⟨fb,9,none⟩ (.int .i64 (0:Int)));rw[<-S];have X:aa (λb=>b=fb) b8 b9:=by rw[S];exact aJ (af _ _ _ _)
  have c1:Hd (aZ b9 (λb=>F b\/w.heap.size<=b/\b<m.heap.size) fb {L with wp:=.pointer none} p l):=hD (by
   rw[b0.O]
   exact a2.O.td X (by
    have cf:(0:Int)=((f.kd.length:Nat):Int):=by first|(rw[<-an.O.1];done)|(rw[<-an.O.1];rfl)
    rw[S,cf];exact(a2.O.J.s_ 10 _).s_ 9 _) rfl rfl rfl rfl rfl rfl rfl a2.O.rp)
  have u:g≠fb:=λe=>ae.ne_ x.O v.O.J (by decide) e
  have c4:=hD (X.J c3.O u);have b6:=hD X;clear X S H K E ce a7 u;refine(cb.O _ _ _).mono ?_;rintro e am ⟨rfl,D⟩;have y:=hD (c1.O.kp D nG);have a5:=D.J c4.O nF;have Y:=a5.I 0;have Z:=a5.I 2;simp at Y Z;have N:Hd (aa F w am):=hD (((((c7.O.mono λ_ e=>e.elim).trans (b4.O.mono λb e=>by rw[e];exact a3.O.ff)).trans (b5.O.mono λ_ e=>e.elim)).trans (b6.O.mono λb e=>by rw[e];exact a3.O.ff)).trans (D.mono λ_ e=>e.elim));have P:Hd (m.heap.size<=am.heap.size):=hD (lT b4.O.size (lT b5.O.size (lT b6.O.size D.size)));clear D a5;go_wp2_with fail;have cB:=aR
  go_loopw [50] (λi wr=>i=.int .i64 0/\wr=am) (λi _=>0)
  case atStart=>exact⟨rfl,rfl⟩
  case round=>
   obtain⟨rfl,bk⟩:=hrel;rw[<-bk] at y N P Y Z;clear bk
   by_cases z:o.k=14
   ·have B:aw=l.ended ⟨ct l.rg o.a,0⟩:=by rw[b3.O,yf z]
    obtain⟨ba,a1⟩:=c9.O z;obtain⟨t,T⟩ :∃t:Nat,o.a=(t:Int):=ym ba;obtain⟨rl,ai⟩:=eX f.rg.length;have ad:l.rg.length=rl:=by rw[b0.O,ai]
    have a9:t<rl:=by rw[T,<-ai] at a1;exact yB.1 a1
    have cv:=dB t;have cw:=cy a9;have bn:=y.O.J.I 5;simp[cY,ad] at bn
    have ch:wr.cell? ⟨L.rb,t,none⟩=some (.int .i64 (ct l.rg o.a)):=by
     have:=eU y.O.rg (i:=t) (by rw[ad];exact a9);unfold ct;rw[T,yo];exact this
    rw[z] at Y;rw[T] at Z;generalize ct l.rg o.a=bm at*;have bf:w.heap.size<=wr.heap.size:=N.O.size
    have aE:Hd (∀W,ac wr W->Calls Tryz.prog 174 #[.pointer (some ⟨fb,0,none⟩),eO ⟨bm,0⟩] W λe w'=>eZ w w' F fb p aw e):=hD λW a8=>by
     have al:=a8.size;refine(mH ⟨bm,0⟩ (λb j=>?_) (y.O.kp a8 nG)).mono ?_
     ·rcases j with j|j
      ·exact lL (c5.O b j) (lT bf al)
      ·exact lL j.2 (lT P.O al)
     ·intro e w' k
      rw[B];refine(k.tell (F:=λb=>F b\/w.heap.size<=b/\b<m.heap.size) (λb j=>.inl j) (.inl a3.O.ff)).back (N.O.trans (a8.mono λ_ e=>e.elim)) (λb j=>j.imp id λk=>⟨k.1,lL k.2 (lT P.O al)⟩)
    clear B ba a1 T ai ad a9 bf z;unfold eO at aE;go_wp2_with fail
    go_still_tail 10,(by kernel_rfl)
    change wpList _ _ _ _ _ wr.drew;have ab:=aE.O wr.drew oR.drew;generalize wr.drew=cn at*;clear bn Y Z ch;go_wp2_with fail;refine ab.mono ?_;intro e w' k
    rcases k.ptr with⟨_,a6⟩|⟨s,q,A,c',_,a6,_⟩
    ·subst a6
     have a4:=hD k;clear k ab;go_wp2_with fail;go_ret;exact a4.O
    ·subst a6
     have a4:=hD k;clear k ab;go_wp2_with fail;go_ret;exact a4.O
   ·have B:aw=(l,none):=by rw[b3.O,yb z]
    have cd:=hD B;clear B;go_wp2_with fail;go_ret;rw[cd.O];exact⟨⟨_,y.O.mo λb j=>j.imp id λk=>⟨k.1,lL k.2 P.O⟩⟩,N.O,rfl⟩
 ·have ci:f.kd.length<=c:=by
   have:=G.kd;rw[ar] at this
   rcases dj this with⟨e,_⟩|⟨a1,d3,e,d0,_⟩
   ·cases e
   ·injection e with _ _ e3
    rw[e3];exact d0
  rw[<-av] at ci;have H:=(G.kp a0 nG).J.I 8;have K:=(G.kp a0 nG).J.I 9;simp[cY,ar,az,<-av] at H K;obtain⟨d4,d5⟩:=wj n;have d7:=xK ci
  by_cases d1:c=n
  ·subst d1
   clear ci cs cr;have Q:=G.kp a0 nG;have E:=Q.J.I 10;have a7:=Q.J.fz 10;simp[cY] at E;have a3:=hD G;have v:=hD Q;have x:=hD bo;have c7:=hD a0;have b1:=hD br;have c5:=hD bv;have c6:=hD ar;have an:=hD (aI av (aI az bt));have b0:=hD bq;have b3:=hD bp;have c9:=hD bx;have cm:=hD bz;have b2:=hD bb.symm;have c8:Hd (∀A c W,Calls Tryz.prog 169 #[.slice A 0 c,.func (.func 170) #[] #[]] W λe w'=>e=.returned (.bool false)/\ac W w'):=hD λA c W=>kC A [] c W (jP A W) (yx _)
   have cb:Hd (∀A c W,Calls Tryz.prog 171 #[.slice A 0 c,.func (.func 172) #[] #[]] W λe w'=>e=.returned (.int .i64 (-1))/\ac W w'):=hD λA c W=>lU A [] c W (jP A W) (yx _)
   clear G Q bo a0 br bv av az bb bq bx bz bp ck bt ar;unfold cR;go_enter Tryz.func139,Tryz.ntmps139;go_upto_region 1 with fail;rw[b2.O,<-b1.O];clear b2;go_wp2_with fail
   go_quiet (fail)
   obtain⟨b7,R⟩:=eX ((m.setCell ⟨fb,10,none⟩ (.pointer (some ⟨g,0,none⟩))).drewN nq);rw[<-R];have C:aa (λb=>b=fb) m b7:=by rw[R];exact(af _ _ _ _).drewN nq
   have cg:w.heap.size<=g/\g<m.heap.size:=⟨zl b1.O.symm,x.O.lt⟩
   have u:g≠fb:=λe=>ae.ne_ x.O v.O.J (by decide) e
   have c0:Hd (aZ b7 (λb=>F b\/w.heap.size<=b/\b<m.heap.size) fb {L with wp:=.pointer (some ⟨g,0,none⟩)} p {f with waits:=some o}):=hD ((v.O.mo λb j=>.inl j).td C (by rw[R];exact(v.O.J.s_ 10 _).drewN nq) rfl rfl rfl rfl rfl rfl ⟨g,.inr cg,rfl,C.J x.O u⟩ v.O.rp);have b4:=hD C;have c2:=hD (C.J x.O u);clear C R E a7 H K u;go_wp2_with fail;refine(c8.O _ _ _).mono ?_;rintro e b8 ⟨rfl,V⟩;have b5:=hD V;have r:=c0.O.kp V nG;have H:=r.J.I 8;have K:=r.J.I 9;have E:=r.J.I 10;have ce:=r.J.fz 9;have a7:=r.J.fz 10;simp[cY,c6.O,<-an.O.1] at H K E;have a2:=hD r;have c3:=hD (V.J c2.O nF);clear V r;go_wp2_with fail;obtain⟨b9,S⟩:=eX ((b8.setCell ⟨fb,10,none⟩ (.pointer none)).setCell ⟨fb,9,none⟩ (.int .i64 (c:Int)));rw[<-S];have X:aa (λb=>b=fb) b8 b9:=by rw[S];exact aJ (af _ _ _ _)
   have c1:Hd (aZ b9 (λb=>F b\/w.heap.size<=b/\b<m.heap.size) fb {L with wp:=.pointer none} p l):=hD (by
    rw[b0.O]
    exact a2.O.td X (by
     have cf:(c:Int)=((f.kd.length:Nat):Int):=by first|(rw[<-an.O.1];done)|(rw[<-an.O.1];rfl)
     rw[S,cf];exact(a2.O.J.s_ 10 _).s_ 9 _) rfl rfl rfl rfl rfl rfl rfl a2.O.rp)
   have u:g≠fb:=λe=>ae.ne_ x.O v.O.J (by decide) e
   have c4:=hD (X.J c3.O u);have b6:=hD X;clear X S H K E ce a7 u;refine(cb.O _ _ _).mono ?_;rintro e am ⟨rfl,D⟩;have y:=hD (c1.O.kp D nG);have a5:=D.J c4.O nF;have Y:=a5.I 0;have Z:=a5.I 2;simp at Y Z;have N:Hd (aa F w am):=hD (((((c7.O.mono λ_ e=>e.elim).trans (b4.O.mono λb e=>by rw[e];exact a3.O.ff)).trans (b5.O.mono λ_ e=>e.elim)).trans (b6.O.mono λb e=>by rw[e];exact a3.O.ff)).trans (D.mono λ_ e=>e.elim));have P:Hd (m.heap.size<=am.heap.size):=hD (lT b4.O.size (lT b5.O.size (lT b6.O.size D.size)));clear D a5;go_wp2_with fail;have cB:=aR
   go_loopw [50] (λi wr=>i=.int .i64 0/\wr=am) (λi _=>0)
   case atStart=>exact⟨rfl,rfl⟩
   case round=>
    obtain⟨rfl,bk⟩:=hrel;rw[<-bk] at y N P Y Z;clear bk
    by_cases z:o.k=14
    ·have B:aw=l.ended ⟨ct l.rg o.a,0⟩:=by rw[b3.O,yf z]
     obtain⟨ba,a1⟩:=c9.O z;obtain⟨t,T⟩ :∃t:Nat,o.a=(t:Int):=ym ba;obtain⟨rl,ai⟩:=eX f.rg.length;have ad:l.rg.length=rl:=by rw[b0.O,ai]
     have a9:t<rl:=by rw[T,<-ai] at a1;exact yB.1 a1
     have cv:=dB t;have cw:=cy a9;have bn:=y.O.J.I 5;simp[cY,ad] at bn
     have ch:wr.cell? ⟨L.rb,t,none⟩=some (.int .i64 (ct l.rg o.a)):=by
      have:=eU y.O.rg (i:=t) (by rw[ad];exact a9);unfold ct;rw[T,yo];exact this
     rw[z] at Y;rw[T] at Z;generalize ct l.rg o.a=bm at*;have bf:w.heap.size<=wr.heap.size:=N.O.size
     have aE:Hd (∀W,ac wr W->Calls Tryz.prog 174 #[.pointer (some ⟨fb,0,none⟩),eO ⟨bm,0⟩] W λe w'=>eZ w w' F fb p aw e):=hD λW a8=>by
      have al:=a8.size;refine(mH ⟨bm,0⟩ (λb j=>?_) (y.O.kp a8 nG)).mono ?_
      ·rcases j with j|j
       ·exact lL (c5.O b j) (lT bf al)
       ·exact lL j.2 (lT P.O al)
      ·intro e w' k
       rw[B];refine(k.tell (F:=λb=>F b\/w.heap.size<=b/\b<m.heap.size) (λb j=>.inl j) (.inl a3.O.ff)).back (N.O.trans (a8.mono λ_ e=>e.elim)) (λb j=>j.imp id λk=>⟨k.1,lL k.2 (lT P.O al)⟩)
     clear B ba a1 T ai ad a9 bf z;unfold eO at aE;go_wp2_with fail
     go_still_tail 10,(by kernel_rfl)
     change wpList _ _ _ _ _ wr.drew;have ab:=aE.O wr.drew oR.drew;generalize wr.drew=cn at*;clear bn Y Z ch;go_wp2_with fail;refine ab.mono ?_;intro e w' k
     rcases k.ptr with⟨_,a6⟩|⟨s,q,A,c',_,a6,_⟩
     ·subst a6
      have a4:=hD k;clear k ab;go_wp2_with fail;go_ret;exact a4.O
     ·subst a6
      have a4:=hD k;clear k ab;go_wp2_with fail;go_ret;exact a4.O
    ·have B:aw=(l,none):=by rw[b3.O,yb z]
     have cd:=hD B;clear B;go_wp2_with fail;go_ret;rw[cd.O];exact⟨⟨_,y.O.mo λb j=>j.imp id λk=>⟨k.1,lL k.2 P.O⟩⟩,N.O,rfl⟩
  ·clear ci cs cr
   have Q:=G.kp a0 nG;have E:=Q.J.I 10;have a7:=Q.J.fz 10;simp[cY] at E;have a3:=hD G;have v:=hD Q;have x:=hD bo;have c7:=hD a0;have b1:=hD br;have c5:=hD bv;have c6:=hD ar;have an:=hD (aI av (aI az bt));have b0:=hD bq;have b3:=hD bp;have c9:=hD bx;have cm:=hD bz;have b2:=hD bb.symm;have c8:Hd (∀A c W,Calls Tryz.prog 169 #[.slice A 0 c,.func (.func 170) #[] #[]] W λe w'=>e=.returned (.bool false)/\ac W w'):=hD λA c W=>kC A [] c W (jP A W) (yx _)
   have cb:Hd (∀A c W,Calls Tryz.prog 171 #[.slice A 0 c,.func (.func 172) #[] #[]] W λe w'=>e=.returned (.int .i64 (-1))/\ac W w'):=hD λA c W=>lU A [] c W (jP A W) (yx _)
   clear G Q bo a0 br bv av az bb bq bx bz bp ck bt ar;unfold cR;go_enter Tryz.func139,Tryz.ntmps139;go_upto_region 1 with fail;rw[b2.O,<-b1.O];clear b2;go_wp2_with fail
   go_quiet (fail)
   obtain⟨b7,R⟩:=eX ((m.setCell ⟨fb,10,none⟩ (.pointer (some ⟨g,0,none⟩))).drewN nq);rw[<-R];have C:aa (λb=>b=fb) m b7:=by rw[R];exact(af _ _ _ _).drewN nq
   have cg:w.heap.size<=g/\g<m.heap.size:=⟨zl b1.O.symm,x.O.lt⟩
   have u:g≠fb:=λe=>ae.ne_ x.O v.O.J (by decide) e
   have c0:Hd (aZ b7 (λb=>F b\/w.heap.size<=b/\b<m.heap.size) fb {L with wp:=.pointer (some ⟨g,0,none⟩)} p {f with waits:=some o}):=hD ((v.O.mo λb j=>.inl j).td C (by rw[R];exact(v.O.J.s_ 10 _).drewN nq) rfl rfl rfl rfl rfl rfl ⟨g,.inr cg,rfl,C.J x.O u⟩ v.O.rp);have b4:=hD C;have c2:=hD (C.J x.O u);clear C R E a7 H K u;go_wp2_with fail;refine(c8.O _ _ _).mono ?_;rintro e b8 ⟨rfl,V⟩;have b5:=hD V;have r:=c0.O.kp V nG;have H:=r.J.I 8;have K:=r.J.I 9;have E:=r.J.I 10;have ce:=r.J.fz 9;have a7:=r.J.fz 10;simp[cY,c6.O,<-an.O.1] at H K E;have a2:=hD r;have c3:=hD (V.J c2.O nF);clear V r;go_wp2_with fail;obtain⟨b9,S⟩:=eX ((b8.setCell ⟨fb,10,none⟩ (.pointer none)).setCell ⟨fb,9,none⟩ (.int .i64 (n:Int)));rw[<-S];have X:aa (λb=>b=fb) b8 b9:=by rw[S];exact aJ (af _ _ _ _)
   have c1:Hd (aZ b9 (λb=>F b\/w.heap.size<=b/\b<m.heap.size) fb {L with wp:=.pointer none} p l):=hD (by
    rw[b0.O]
    exact a2.O.td X (by
     have cf:(n:Int)=((f.kd.length:Nat):Int):=by first|(rw[<-an.O.1];done)|(rw[<-an.O.1];rfl)
     rw[S,cf];exact(a2.O.J.s_ 10 _).s_ 9 _) rfl rfl rfl rfl rfl rfl rfl a2.O.rp)
   have u:g≠fb:=λe=>ae.ne_ x.O v.O.J (by decide) e
   have c4:=hD (X.J c3.O u);have b6:=hD X;clear X S H K E ce a7 u;refine(cb.O _ _ _).mono ?_;rintro e am ⟨rfl,D⟩;have y:=hD (c1.O.kp D nG);have a5:=D.J c4.O nF;have Y:=a5.I 0;have Z:=a5.I 2;simp at Y Z;have N:Hd (aa F w am):=hD (((((c7.O.mono λ_ e=>e.elim).trans (b4.O.mono λb e=>by rw[e];exact a3.O.ff)).trans (b5.O.mono λ_ e=>e.elim)).trans (b6.O.mono λb e=>by rw[e];exact a3.O.ff)).trans (D.mono λ_ e=>e.elim));have P:Hd (m.heap.size<=am.heap.size):=hD (lT b4.O.size (lT b5.O.size (lT b6.O.size D.size)));clear D a5;go_wp2_with fail;have cB:=aR
   go_loopw [50] (λi wr=>i=.int .i64 0/\wr=am) (λi _=>0)
   case atStart=>exact⟨rfl,rfl⟩
   case round=>
    obtain⟨rfl,bk⟩:=hrel;rw[<-bk] at y N P Y Z;clear bk
    by_cases z:o.k=14
    ·have B:aw=l.ended ⟨ct l.rg o.a,0⟩:=by rw[b3.O,yf z]
     obtain⟨ba,a1⟩:=c9.O z;obtain⟨t,T⟩ :∃t:Nat,o.a=(t:Int):=ym ba;obtain⟨rl,ai⟩:=eX f.rg.length;have ad:l.rg.length=rl:=by rw[b0.O,ai]
     have a9:t<rl:=by rw[T,<-ai] at a1;exact yB.1 a1
     have cv:=dB t;have cw:=cy a9;have bn:=y.O.J.I 5;simp[cY,ad] at bn
     have ch:wr.cell? ⟨L.rb,t,none⟩=some (.int .i64 (ct l.rg o.a)):=by
      have:=eU y.O.rg (i:=t) (by rw[ad];exact a9);unfold ct;rw[T,yo];exact this
     rw[z] at Y;rw[T] at Z;generalize ct l.rg o.a=bm at*;have bf:w.heap.size<=wr.heap.size:=N.O.size
     have aE:Hd (∀W,ac wr W->Calls Tryz.prog 174 #[.pointer (some ⟨fb,0,none⟩),eO ⟨bm,0⟩] W λe w'=>eZ w w' F fb p aw e):=hD λW a8=>by
      have al:=a8.size;refine(mH ⟨bm,0⟩ (λb j=>?_) (y.O.kp a8 nG)).mono ?_
      ·rcases j with j|j
       ·exact lL (c5.O b j) (lT bf al)
       ·exact lL j.2 (lT P.O al)
      ·intro e w' k
       rw[B];refine(k.tell (F:=λb=>F b\/w.heap.size<=b/\b<m.heap.size) (λb j=>.inl j) (.inl a3.O.ff)).back (N.O.trans (a8.mono λ_ e=>e.elim)) (λb j=>j.imp id λk=>⟨k.1,lL k.2 (lT P.O al)⟩)
     clear B ba a1 T ai ad a9 bf z;unfold eO at aE;go_wp2_with fail
     go_still_tail 10,(by kernel_rfl)
     change wpList _ _ _ _ _ wr.drew;have ab:=aE.O wr.drew oR.drew;generalize wr.drew=cn at*;clear bn Y Z ch;go_wp2_with fail;refine ab.mono ?_;intro e w' k
     rcases k.ptr with⟨_,a6⟩|⟨s,q,A,c',_,a6,_⟩
     ·subst a6
      have a4:=hD k;clear k ab;go_wp2_with fail;go_ret;exact a4.O
     ·subst a6
      have a4:=hD k;clear k ab;go_wp2_with fail;go_ret;exact a4.O
    ·have B:aw=(l,none):=by rw[b3.O,yb z]
     have cd:=hD B;clear B;go_wp2_with fail;go_ret;rw[cd.O];exact⟨⟨_,y.O.mo λb j=>j.imp id λk=>⟨k.1,lL k.2 P.O⟩⟩,N.O,rfl⟩
end
section
variable {w w':World}{F F':Nat->Prop}{fb:Nat}{L:ix}{p:List ah}{f:Fr}
theorem tH(o:bI)(j:∀b,F b->b<w.heap.size)(g:aZ w F fb L p f)(E:f.joined<=f.kd.length)(l:f.kd.length<=16)
 (C:∀k∈f.kd,0<=k.into/\k.into<f.rg.length) (r:o.k=14->0<=o.a/\o.a<f.rg.length) (u:f.rg.length<=16):
 Calls Tryz.prog 139 #[.pointer (some ⟨fb,0,none⟩),cR o] w λd w'=>eZ w w' F fb p (f.joins o) d:=by
 by_cases e:f.os.any (λc=>!c.given)=true
 ·have m:f.joined<f.kd.length:=by
   have i:f.os≠[]:=λd=>by rw[d] at e;cases e
   have:=zK.2 i;rw[eG] at this;omega
  have d:f.joins o=({f with waits:=some o},some .join):=by unfold Fr.joins;rw[yf e]
  rw[d];refine(Au o j g e m l).mono ?_;rintro d w' ⟨q,v,i,x,y,z,A⟩;exact⟨⟨_,z⟩,A,q,none,0,i,x,y,λt d=>by cases d⟩
 ·have s:f.os.any (λc=>!c.given)=false:=by simpa using e
  by_cases m:f.joined<f.kd.length
  ·by_cases n:cC (ed f.os)=0
   ·exact As o j g s m l n C r u
   ·have d:f.joins o=Fr.ended {f with waits:=none,joined:=f.kd.length} ⟨0,cC (ed f.os)⟩:=by unfold Fr.joins;rw[yb e,yf n]
    rw[d];refine(Cs o j g s m l n).mono ?_;rintro d w' ⟨D,i⟩;exact i.tell (λb B=>B) g.ff
  ·exact At o j g (by omega) l r u
theorem xV(o:bI)(l:∀b,F b->b<w.heap.size)(e:aZ w F fb L p f)(Q:f.kd.length<=16)(i:fT f.M)(H:gC p)(g:0<=o.n/\o.n<p.length)(E:0<=o.a)(K:(bG p o.n).args=0\/o.a+(bG p o.n).args<=f.rg.length)
 (S:f.rg.length<=16) (R:f.left<=65536):
 Calls Tryz.prog 176 #[.pointer (some ⟨fb,0,none⟩),cR o] w λd w'=>eZ w w' F fb p (f.forks p o) d:=by
 unfold Fr.forks
 by_cases s:16<=f.kd.length
 ·rw[yf s]
  exact(xU o l e (by omega) i).mono λd w' k=>k.tell (λb m=>.inl m) e.ff
 ·rw[yb s]
  by_cases r:12<=f.M.length
  ·rw[yf r]
   exact(xT o l e (by omega) i (by have:=i.1;omega)).mono λd w' k=>k.tell (λb m=>.inl m) e.ff
  ·rw[yb r]
   obtain⟨fn,v⟩ :∃fn:Nat,o.n=(fn:Int):=ym g.1;obtain⟨j,u⟩ :∃j:Nat,o.a=(j:Int):=ym E;have N:=(gk g.1 g.2).2;have G:=H.fn g.1 g.2;have P:p[fn]?=some (bG p o.n):=by rw[<-N,v,yo]
   refine(Cd o fn j (bG p o.n) l e (by omega) (by omega) i v P u G.a0 (by rw[<-u];exact K) (by omega) (by omega)).mono ?_;rintro d w' ⟨q,A,c,kv,x,y,z,B,C,D⟩;refine⟨⟨_,C⟩,D,q,A,c,x,y,z,λt d=>?_⟩
   cases d
   exact B
end
end
end Go.Proofs.YtmdocplknceilaaGreat
