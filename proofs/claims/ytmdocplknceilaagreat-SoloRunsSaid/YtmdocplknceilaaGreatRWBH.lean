import Derived.Test.YtmdocplknceilaaGreatRWBG
import Derived.Test.YtmdocplknceilaaGreatRWAV
set_option linter.all false
set_option maxRecDepth 100000
set_option maxHeartbeats 4000000
namespace Go.Proofs.YtmdocplknceilaaGreat
section
open Go.RowKit Go.Maps
abbrev vx:=ah×Option Addr×Nat
def qW(x:vx):List Value:=[.int .i64 x.1.args,.int .i64 x.1.rg,.slice x.2.1 x.1.ops.length x.2.2]
theorem rO(x:vx):(qW x).length=3:=rfl
theorem Er(x:vx):∀u∈qW x,u.oneCell'=true:=by
 intro u a;simp[qW] at a
 rcases a with rfl|rfl|rfl<;>rfl
theorem EC:∃i z,Tryz.prog.info? 99=some i/\i.zero=some z/\i.size=3/\i.bytes=40/\z.cells.size=3:=by
 obtain⟨i,a,b,c,d⟩:=AP;exact⟨i,_,a,b,c,d,rfl⟩
theorem jK.reads{w:World}{F:Nat->Prop}{B:Option Addr}{a:List bK}(e:jK w F B a):bP w w.heap.size 5 B a.length (a.flatMap eR):=by
 refine⟨qw a,λd=>?_⟩
 rcases e with⟨_,c⟩|⟨b,o,f,c⟩
 ·rw[c] at d;simp at d
 ·subst f
  refine⟨_,rfl,?_,λq v g=>?_⟩
  ·exact block_lt_of_cell ((c 0 a[0] (gG d)).2 0 _ rfl)
  ·obtain⟨i,j,x,rfl,l,k,hv⟩:=pC g
   have:=(c i x k).2 j v hv;rw[zx] at this;rw[bg];exact this
theorem Di(e:List bK):∀u∈e.flatMap eR,u.oneCell'=true:=by
 intro u d;obtain⟨q,c⟩:=yF d;obtain⟨i,j,x,rfl,f,g,hv⟩:=pC c;have b:=yh hv;simp only[eR,yG,zV,or_false] at b
 rcases b with a|a|a|a|a<;>rw[a]<;>rfl
theorem EU{w w':World}{base:Nat}{a:List bK}{A:Option Addr}{c:Nat}(l:w'.ownsRow base 106 5 (.slice A a.length c) a.length (a.flatMap eR)){F:Nat->Prop}(m:∀b,base<=b->b<w'.heap.size->F b):dA w' F A a:=by
 rcases l.2 with⟨d,e⟩|⟨g,p,cur,d,e,k,q⟩
 ·have f:A=none:=by injection d
  exact .inl ⟨f,yr e⟩
 ·have f:A=some ⟨g,0,none⟩:=by injection d
  subst f;refine .inr ⟨g,0,rfl,λi x o=>⟨m g e (yu.1 k).1,⟨cur,k⟩,λj v hv=>?_⟩⟩
  have n:j<5:=by
   have:=(gS hv).1
   simpa[eR] using this
  have:=l.cells (g:=g) rfl (i*5+j) v (by rw[nD _ _ j x o n];exact hv);rw[bg,yq] at this;rw[yq];exact this
theorem Es{w w':World}{base:Nat}{l:List vx}{A:Option Addr}{c:Nat}(n:w'.ownsRow base 99 3 (.slice A l.length c) l.length (l.flatMap qW)){F:Nat->Prop}(q:∀b,base<=b->b<w'.heap.size->F b)(r:∀y∈l,dA w' F y.2.1 y.1.ops):cW w' F A (l.map (·.1)):=by
 rcases n.2 with⟨d,e⟩|⟨g,s,cur,d,e,m,t⟩
 ·have f:A=none:=by injection d
  exact .inl ⟨f,by rw[yr e];rfl⟩
 ·have f:A=some ⟨g,0,none⟩:=by injection d
  subst f;refine .inr ⟨g,0,rfl,λi x a=>?_⟩;rw[yJ] at a
  cases hy:l[i]? with
  |none=>rw[hy] at a;cases a
  |some y=>
   rw[hy] at a
   cases a
   have k:∀(j:Nat) (v:Value),(qW y)[j]?=some v->w'.cell? ⟨g,0+i*3+j,none⟩=some v:=λj v hv=>by
    have u:j<3:=by
     have:=(gS hv).1
     rwa [rO] at this
    have B:i<l.length:=(gS hy).1;obtain⟨z,o,p⟩:=iD qW rO l (i*3+j) (by omega);rw[show(i*3+j) / 3=i by omega,hy] at o
    cases o
    rw[show(i*3+j) % 3=j by omega,hv] at p;have:=World.ownsRow.cells n (g:=g) rfl (i*3+j) v p;rw[bg,yq] at this;rw[yq];exact this
   exact⟨q g e (yu.1 m).1,⟨cur,m⟩,k 0 _ rfl,k 1 _ rfl,y.2.1,y.2.2,k 2 _ rfl,r y (yh hy)⟩
theorem pD{w:World}{base e n k:Nat}{b:TypeId}{v:Value}{xs:List Value}(c:w.ownsRow base b e v n xs)(hv:v.ownBlock=some k):base<=k:=by
 rcases c.2 with⟨a,_⟩|⟨g,f,cur,a,d,_⟩
 ·subst a;cases hv
 ·subst a;cases hv;exact d
theorem pE{w:World}{base e n k:Nat}{b:TypeId}{v:Value}{xs:List Value}(c:w.ownsRow base b e v n xs)(hv:v.ownBlock=some k):k<w.heap.size:=by
 rcases c.2 with⟨a,_⟩|⟨g,f,cur,a,i,d,_⟩
 ·subst a;cases hv
 ·subst a;cases hv;exact(yu.1 d).1
theorem dA.keepT{w w':World}{F:Nat->Prop}{A:Option Addr}{i:List bK}{S:Nat->Prop}(c:dA w F A i)(f:aa S w w')(n:∀b a,ae w b 106 a->F b->¬S b):dA w' F A i:=by
 rcases c with c|⟨b,o,l,m⟩
 ·exact .inl c
 ·refine .inr ⟨b,o,l,λk x q=>?_⟩
  obtain⟨g,⟨a,d⟩,r⟩:=m k x q;have e:=n b a d g;exact⟨g,⟨a,f.J d e⟩,λj v hv=>(f.I (p:=⟨b,o+k*5+j,none⟩) d.lt e).trans (r j v hv)⟩
structure D2(w wr:World)(gp go:Nat)(A:Option Addr)(n c:Nat)(p:List ah)(l:List vx)(v:Value):Prop where
 bp:ae wr gp 24 #[.slice A n c]
 bo:ae wr go 24 #[v]
 own:wr.ownsRow (go+1) 99 3 v l.length (l.flatMap qW)
 ops:∀y∈l,dA wr (λb=>go+1<=b/\b<wr.heap.size) y.2.1 y.1.ops
 pre:l.map (·.1)=p.take l.length
 le:l.length<=p.length
 only:ac w wr
attribute [local simp] eM gw gz dj eD Region.binds ed ey Is ap Act.put
open Go.Sort
theorem tK(A:Option Addr)(p:List ah)(c:Nat)(F:Nat->Prop)(w:World)(cd:fP w F A p)(a6:p.length<=1000)(cs:∀x∈p,x.ops.length<=1000)(ce:∀b,F b->b<w.heap.size):
 Calls Tryz.prog 33 #[aM p A c] w λa w'=>ph w w' p a:=by
 obtain⟨n,b2⟩:=eX p.length;obtain⟨Y,a0⟩:=eX (w.alloc (.cells #[.slice A n c] 24));obtain⟨u,a4⟩:=eX w.heap.size;have c9:ae Y u 24 #[.slice A n c]:=by rw[a0,a4];exact bN
 have d1:ac w Y:=by rw[a0];exact oR.alloc _
 have bt:Y.heap.size=u+1:=by rw[a0,a4];simp
 obtain⟨ai,a1⟩:=eX (Y.alloc (.cells #[.slice none 0 0] 24));have bq:ac Y ai:=by rw[a1];exact oR.alloc _
 have bv:ai.heap.size=u+1+1:=by rw[a1];simp[bt]
 obtain⟨s,a2⟩:=eX (ai.alloc (.cells #[.slice none 0 0] 24));have b4:ac ai s:=by rw[a2];exact oR.alloc _
 have d5:s.heap.size=u+1+1+1:=by rw[a2];simp[bv]
 obtain⟨S,C⟩:=eX (u+1);obtain⟨e,b0⟩:=eX (u+1+1);have c7:ae s S 24 #[.slice none 0 0]:=b4.J (by rw[a1,C,<-bt];exact bN) nF;have c8:ae s e 24 #[.slice none 0 0]:=by rw[a2,b0,<-bv];exact bN
 have dm:=hD a0.symm;have dn:=hD a1.symm;have dp:=hD a2.symm;have X:=hD a4;have P:=hD C;have H:=hD b0;have c1:=hD b2;have dk:Hd (D2 w s u e A n c p [] (.slice none 0 0)):=hD ⟨b4.J (bq.J c9 nF) nF,c8,⟨by simp,.inl ⟨rfl,rfl⟩⟩,λy a7=>(by cases a7),rfl,yx _,d1.trans (bq.trans b4)⟩;have b7:Hd (ae s S 24 #[.slice none 0 0]/\s.heap.size=e+1):=hD ⟨c7,by rw[d5,b0]⟩;have b8:=hD (aI cd (aI a6 (aI cs ce)));have e2:n<=1000:=by rw[b2];exact a6
 unfold aM;rw[<-b2];clear cd a6 cs ce b2 a0 a4 c9 d1 bt a1 bq bv a2 b4 d5 C b0 c7 c8;go_enter Tryz.func33,Tryz.ntmps33;go_upto_region 2 with fail;rw[dm.O,dn.O,dp.O,<-X.O,<-P.O];rw[show S+1=e by rw[P.O,H.O]];go_wp2_with fail
 go_loopw [4] (λi wr=>∃(l:List vx) (v:Value),i=.int .i64 (l.length:Int)/\D2 w wr u e A n c p l v/\aa (λb=>b=e) s wr) (λi _=>n-(intOf i).toNat)
 case atStart=>exact⟨[],_,rfl,dk.O,oR⟩
 case round=>
  obtain⟨l,v,rfl,D,bm⟩:=hrel;obtain⟨k,a5⟩:=eX l.length;rw[<-a5];have K:=hD a5;have d:=hD D;have ad:=hD bm;have d3:=D.bp.I 0;have W:=D.bo.I 0;have d4:=D.bo.fz 0;simp at d3 W;obtain⟨m,j,hv⟩:=jx D.own;rw[<-a5] at hv;subst hv
  by_cases V:k<n
  ·have er:(0:Int)<=(k:Int):=dK k
   have e1:(k:Int)<(n:Int):=cO V;have e3:wrap64 ((k:Int)+1)=(k:Int)+1:=cX V (lT e2 (by decide));have cq:k<p.length:=by rw[<-c1.O];exact V
   obtain⟨x,b3⟩ :∃x,p[k]?=some x:=⟨_,gG cq⟩
   have cn:fP wr F A p:=b8.O.1.kp D.only nG;obtain⟨b,o,B,bc,dz,ec,ee,ef,bf⟩:=cn.at_ b3;subst dz;have dv:=hD b3;have ei:=hD bf;obtain⟨t,av⟩:=eX (wr.alloc (.cells #[.int .i64 x.args,.int .i64 x.rg,.slice B x.ops.length bc] 99));obtain⟨r,aE⟩:=eX wr.heap.size;have br:ac wr t:=by rw[av];exact oR.alloc _
   have al:ae t r 99 #[.int .i64 x.args,.int .i64 x.rg,.slice B x.ops.length bc]:=by rw[av,aE];exact bN
   have cr:x.ops.length<=1000:=b8.O.2.2.1 x (yh b3);have dq:Hd (bP t t.heap.size 5 B x.ops.length (x.ops.flatMap eR)):=hD ((bf.kp br nG).reads);have ds:=hD av.symm;have a9:=hD aE;have c2:=hD br;have bz:=hD al;have c3:=hD cr;obtain⟨e5,cm,d0,cw,cg⟩:=AQ;have ab:=hD (aI cm (aI d0 (aI cw cg)));clear D bm a5 b3 cn bf cm d0 cw cg;go_upto_region 6 with fail;rw[ds.O,<-a9.O];have b6:=al.I 2;have d6:=al.fz 2;simp at b6;clear av aE br al cr ec ee ef d3 W d4
   go_upto_region 7 with(first
    |(at_builtin;refine fX _ rfl _ (.tmp 19) 97 rfl t.heap.size 106 e5 _ 5 40 Tryz.underlying97 ab.O.1 ab.O.2.1 ab.O.2.2.1 ab.O.2.2.2 rfl (by decide) (.slice none 0 0) 0 [] rfl ⟨by simp,.inl ⟨rfl,rfl⟩⟩ t.heap.size B x.ops.length bc (x.ops.flatMap eR) rfl dq.O (Di x.ops) (by have:=c3.O;unfold maxLen;omega) (by have:=c3.O;omega) (lR) ?_;intro e8 L q E a8;have bn:ac t L:=oR.grown E (λk a=>by cases a);rw[yq,List.nil_append] at q;obtain⟨G,R,rfl⟩:=jx q;have c0:=hD (aI q bn);have am:=bn.J bz.O nF;have b6:=am.I 2;have d6:=am.fz 2;simp at b6;have d7:=hD am;clear q E a8 bn am)
    |fail)
   obtain⟨g,aw⟩:=eX (L.setCell ⟨r,2,none⟩ (.slice G x.ops.length R));have d2:aa (λb=>b=r) L g:=by rw[aw];exact af _ _ _ _
   have Q:ae g r 99 #[.int .i64 x.args,.int .i64 x.rg,.slice G x.ops.length R]:=by rw[aw];exact d7.O.s_ 2 _
   have ck:e<r:=by rw[a9.O];exact d.O.bo.lt
   have b5:aa (λb=>b=r) wr g:=((c2.O.trans c0.O.2).mono λ_ a=>a.elim).trans d2;have bb:ae g e 24 #[.slice m k j]:=b5.J d.O.bo (λa=>by omega)
   have cv:g.ownsRow (e+1) 99 3 (.slice m k j) l.length (l.flatMap qW):=b5.owns d.O.own (λb f a=>by
    have:=pE d.O.own f;rw[a,a9.O] at this;omega)
   have c5:=hD aw.symm;rw[c5.O];have dl:=hD b5;have eg:=hD Q;have d9:=hD bb;have c4:=hD cv;have da:=hD ck;have e9:=Q.I 0;have ea:=Q.I 1;have eb:=Q.I 2;have W:=bb.I 0;simp at e9 ea eb W;have dd:Hd (l.length<=1000000):=hD (by have:=d.O.le;have:=b8.O.2.1;omega);have dr:Hd (e+1<=g.heap.size):=hD (by have:=Q.lt;omega);clear aw d2 Q bb cv ck b6 d6 b5
   go_wp2_with (first
    |(at_builtin;refine jP (enc:=qW) rfl (.tmp 23) (.tmp 25) 22 99 3 40 (e+1) rfl Tryz.underlying22 EC (by decide) (by decide) (.slice m k j) rfl rfl l (x,G,R) (aa.owns (aa.alloc (aa.refl (λ_=>False) g) _) c4.O nG) (ae.new g _ _) (Er _) (rO _) dd.O (lT dr.O (aa.alloc (aa.refl (λ_=>False) g) _).size) ?_;intro e8 ba q E a8;obtain⟨bx,cb,rfl⟩:=jx q;have b9:=hD (aI q (aI E a8));have an:=E.J (d9.O.alloc _) (λa=>by have:=pD c4.O a;omega);have W:=an.I 0;have d4:=an.fz 0;simp at W;have d8:=hD an;clear q E a8 an)
    |fail)
   go_roundw
   case measure=>first|exact aB rfl V|exact aB e3 V
   case rel=>
    have q:=b9.O.1;have E:=b9.O.2.1;have a8:=b9.O.2.2;obtain⟨c6,cf⟩:=eX (g.alloc (.cells #[.int .i64 x.args,.int .i64 x.rg,.slice G x.ops.length R] 99));have e7:ac g c6:=by rw[cf];exact oR.alloc _
    obtain⟨Z,bk⟩:=eX (ba.setCell ⟨e,0,none⟩ (.slice bx (l.length+1) cb));have N:aa (λb=>b=e) ba Z:=by rw[bk];exact af _ _ _ _
    have e6:aa (λb=>(Value.slice m k j).ownBlock=some b) c6 ba:=by rw[cf];exact E
    have az:∀b,(Value.slice m k j).ownBlock=some b->e+1<=b/\b<wr.heap.size:=λb a=>⟨pD d.O.own a,pE d.O.own a⟩
    have e0:aa (λb=>b=r) L g:=by rw[<-c5.O];exact af _ _ _ _
    have ci:aa (λb=>(Value.slice m k j).ownBlock=some b\/b=e) g Z:=((e7.mono (T:=λb=>(Value.slice m k j).ownBlock=some b\/b=e) λ_ a=>a.elim).trans (e6.mono λb a=>.inl a)).trans (N.mono λb a=>.inr a);have a3:aa (λb=>b=r\/(Value.slice m k j).ownBlock=some b\/b=e) wr Z:=(dl.O.mono λb a=>.inl a).trans (ci.mono λb a=>.inr a);have b1:(l++ [(x,G,R)]).length=l.length+1:=by simp
    have aE:=a9.O;have eq:=da.O;have a4:=H.O;have em:=X.O;have eL:=c2.O.size;rw[<-bk];refine⟨l++ [(x,G,R)],.slice bx (l.length+1) cb,by rw[b1,<-K.O];rfl,⟨a3.J d.O.bp (λa=>?_),?_,?_,λy a7=>?_,?_,?_,?_⟩,?_⟩
    ·rcases a with a|a|a
     ·omega
     ·have:=(az _ a).1;omega
     ·omega
    ·rw[bk]
     exact d8.O.s_ 0 _
    ·rw[b1] at q ⊢
     exact N.owns q (λb f a=>by have:=pD q f;omega)
    ·have cB:wr.heap.size<=Z.heap.size:=a3.size
     rcases yH.1 a7 with a|a
     ·have z:=d.O.ops y a
      refine(z.keepT a3 (λb f0 e4 f a=>?_)).mo (λb f=>⟨f.1,lL f.2 cB⟩)
      rcases a with a|a|a
      ·omega
      ·exact aA d.O.own e4 (by decide) a
      ·omega
     ·rw[yw.1 a]
      have z:dA L (λb=>t.heap.size<=b/\b<L.heap.size) G x.ops:=EU (w:=w) c0.O.1 (λb z ar=>⟨z,ar⟩);have el:=bz.O.lt;have ch:aa (λb=>b=r\/(Value.slice m k j).ownBlock=some b\/b=e) L Z:=(e0.mono λb a=>.inl a).trans (ci.mono λb a=>.inr a);refine(z.kp ch (λb f a=>?_)).mo (λb f=>⟨by omega,lL f.2 ch.size⟩)
      rcases a with a|a|a
      ·omega
      ·have:=(az _ a).2;omega
      ·omega
    ·rw[b1,yS,d.O.pre,yO,<-K.O,dv.O]
     rfl
    ·rw[b1,<-K.O]
     exact cq
    ·refine d.O.only.trans' a3 (λb a=>.inr ?_)
     have:=d.O.only.size
     rcases a with a|a|a
     ·omega
     ·have:=(az _ a).1;omega
     ·omega
    ·refine ad.O.trans' a3 (λb a=>?_)
     have ek:=b7.O.2;have:=ad.O.size
     rcases a with a|a|a
     ·exact .inr (by omega)
     ·exact .inr (by have:=(az _ a).1;omega)
     ·exact .inl a
  ·have e1:¬(k:Int)<(n:Int):=λa=>V (yB.1 a)
   have C:ae wr S 24 #[.slice none 0 0]:=ad.O.J b7.O.1 (λa=>by rw[P.O,H.O] at a;omega);have dw:=C.I 0;have ej:=C.fz 0;simp at dw;have db:=hD C;clear D bm a5 C;go_wp2_with fail;refine bodyPost_ret (cy Tryz.results33 rfl (db.O.s_ 0 (.slice m k j)) Tryz.underlying24 rfl (by kernel_rfl)) rfl ?_
   have cp:k=p.length:=by
    have z:=d.O.le;have ar:=c1.O;rw[<-K.O] at z;omega
   have N:aa (λb=>b=S) wr (wr.setCell ⟨S,0,none⟩ (.slice m k j)):=af _ _ _ _;have bp:=d.O.own;rw[<-K.O] at bp;have cB:=b7.O.2;have ex:=ad.O.size;have es:d.O.pre=d.O.pre:=rfl;refine⟨m,j,by rw[cp];rfl,?_,?_⟩
   ·have a6:l.map (·.1)=p:=by rw[d.O.pre,<-K.O,cp,zr]
    rw[<-a6];refine Es (w:=w) (base:=e+1) (c:=j) ?_ (λb z ar=>⟨by have:=H.O;have:=X.O;omega,ar⟩) (λy a7=>?_)
    ·rw[<-K.O]
     refine N.owns bp (λb f a=>?_);have:=pD bp f;have:=P.O;have:=H.O;omega
    ·refine((d.O.ops y a7).kp N (λb f a=>?_)).mo (λb f=>⟨by have:=H.O;have:=X.O;omega,lL f.2 N.size⟩)
     have:=P.O;have:=H.O;omega
   ·exact d.O.only.trans' N (λb a=>.inr (by rw[a,P.O,X.O];omega))
end
end Go.Proofs.YtmdocplknceilaaGreat
