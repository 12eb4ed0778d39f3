import Derived.Test.YtmdocplknceilaaGreatNWBQ
import Derived.Test.YtmdocplknceilaaGreatNWBE
set_option linter.all false
set_option maxRecDepth 100000
set_option maxHeartbeats 4000000
namespace Go.Proofs.YtmdocplknceilaaGreat
section
open Go.RowKit Go.Maps
abbrev uY:=ah×Option Addr×Nat
def qI(x:uY):List Value:=[.int .i64 x.1.args,.int .i64 x.1.rg,.slice x.2.1 x.1.ops.length x.2.2]
theorem ry(x:uY):(qI x).length=3:=rfl
theorem DO(x:uY):∀u∈qI x,u.oneCell'=true:=by
 intro u a;simp[qI] at a
 rcases a with rfl|rfl|rfl<;>rfl
theorem D0:∃i z,Tryz.prog.info? 99=some i/\i.zero=some z/\i.size=3/\i.bytes=40/\z.cells.size=3:=by
 obtain⟨i,a,b,c,d⟩:=Ae;exact⟨i,_,a,b,c,d,rfl⟩
theorem jG.reads{w:World}{F:Nat->Prop}{B:Option Addr}{a:List bI}(e:jG w F B a):cO w w.heap.size 5 B a.length (a.flatMap eJ):=by
 refine⟨qi a,λd=>?_⟩
 rcases e with⟨_,c⟩|⟨b,o,f,c⟩
 ·rw[c] at d;simp at d
 ·subst f
  refine⟨_,rfl,?_,λq v g=>?_⟩
  ·exact block_lt_of_cell ((c 0 a[0] (gG d)).2 0 _ rfl)
  ·obtain⟨i,j,x,rfl,l,k,hv⟩:=pf g
   have:=(c i x k).2 j v hv;rw[zx] at this;rw[bw];exact this
theorem CI(e:List bI):∀u∈e.flatMap eJ,u.oneCell'=true:=by
 intro u d;obtain⟨q,c⟩:=yF d;obtain⟨i,j,x,rfl,f,g,hv⟩:=pf c;have b:=yh hv;simp only[eJ,yG,zV,or_false] at b
 rcases b with a|a|a|a|a<;>rw[a]<;>rfl
theorem Eh{w w':World}{base:Nat}{a:List bI}{A:Option Addr}{c:Nat}(l:w'.ownsRow base 106 5 (.slice A a.length c) a.length (a.flatMap eJ)){F:Nat->Prop}(m:∀b,base<=b->b<w'.heap.size->F b):dy w' F A a:=by
 rcases l.2 with⟨d,e⟩|⟨g,p,cur,d,e,k,q⟩
 ·have f:A=none:=by injection d
  exact .inl ⟨f,yr e⟩
 ·have f:A=some ⟨g,0,none⟩:=by injection d
  subst f;refine .inr ⟨g,0,rfl,λi x o=>⟨m g e (yu.1 k).1,⟨cur,k⟩,λj v hv=>?_⟩⟩
  have n:j<5:=by
   have:=(gS hv).1
   simpa[eJ] using this
  have:=l.cells (g:=g) rfl (i*5+j) v (by rw[nx _ _ j x o n];exact hv);rw[bw,yq] at this;rw[yq];exact this
theorem DP{w w':World}{base:Nat}{l:List uY}{A:Option Addr}{c:Nat}(n:w'.ownsRow base 99 3 (.slice A l.length c) l.length (l.flatMap qI)){F:Nat->Prop}(q:∀b,base<=b->b<w'.heap.size->F b)(r:∀y∈l,dy w' F y.2.1 y.1.ops):dg w' F A (l.map (·.1)):=by
 rcases n.2 with⟨d,e⟩|⟨g,s,cur,d,e,m,t⟩
 ·have f:A=none:=by injection d
  exact .inl ⟨f,by rw[yr e];rfl⟩
 ·have f:A=some ⟨g,0,none⟩:=by injection d
  subst f;refine .inr ⟨g,0,rfl,λi x a=>?_⟩;rw[yJ] at a
  cases hy:l[i]? with
  |none=>rw[hy] at a;cases a
  |some y=>
   rw[hy] at a
   cases a
   have k:∀(j:Nat) (v:Value),(qI y)[j]?=some v->w'.cell? ⟨g,0+i*3+j,none⟩=some v:=λj v hv=>by
    have u:j<3:=by
     have:=(gS hv).1
     rwa [ry] at this
    have B:i<l.length:=(gS hy).1;obtain⟨z,o,p⟩:=iy qI ry l (i*3+j) (by omega);rw[show(i*3+j) / 3=i by omega,hy] at o
    cases o
    rw[show(i*3+j) % 3=j by omega,hv] at p;have:=World.ownsRow.cells n (g:=g) rfl (i*3+j) v p;rw[bw,yq] at this;rw[yq];exact this
   exact⟨q g e (yu.1 m).1,⟨cur,m⟩,k 0 _ rfl,k 1 _ rfl,y.2.1,y.2.2,k 2 _ rfl,r y (yh hy)⟩
theorem pg{w:World}{base e n k:Nat}{b:TypeId}{v:Value}{xs:List Value}(c:w.ownsRow base b e v n xs)(hv:v.ownBlock=some k):base<=k:=by
 rcases c.2 with⟨a,_⟩|⟨g,f,cur,a,d,_⟩
 ·subst a;cases hv
 ·subst a;cases hv;exact d
theorem ph{w:World}{base e n k:Nat}{b:TypeId}{v:Value}{xs:List Value}(c:w.ownsRow base b e v n xs)(hv:v.ownBlock=some k):k<w.heap.size:=by
 rcases c.2 with⟨a,_⟩|⟨g,f,cur,a,i,d,_⟩
 ·subst a;cases hv
 ·subst a;cases hv;exact(yu.1 d).1
theorem dy.keepT{w w':World}{F:Nat->Prop}{A:Option Addr}{i:List bI}{S:Nat->Prop}(c:dy w F A i)(f:aa S w w')(n:∀b a,ae w b 106 a->F b->¬S b):dy w' F A i:=by
 rcases c with c|⟨b,o,l,m⟩
 ·exact .inl c
 ·refine .inr ⟨b,o,l,λk x q=>?_⟩
  obtain⟨g,⟨a,d⟩,r⟩:=m k x q;have e:=n b a d g;exact⟨g,⟨a,f.J d e⟩,λj v hv=>(f.I (p:=⟨b,o+k*5+j,none⟩) d.lt e).trans (r j v hv)⟩
structure Dn(w wr:World)(gp go:Nat)(A:Option Addr)(n c:Nat)(p:List ah)(l:List uY)(v:Value):Prop where
 bp:ae wr gp 24 #[.slice A n c]
 bo:ae wr go 24 #[v]
 own:wr.ownsRow (go+1) 99 3 v l.length (l.flatMap qI)
 ops:∀y∈l,dy wr (λb=>go+1<=b/\b<wr.heap.size) y.2.1 y.1.ops
 pre:l.map (·.1)=p.take l.length
 le:l.length<=p.length
 only:ac w wr
attribute [local simp] ew fe fD cL dP Region.binds dD dN Is ao Act.put
theorem tm(A:Option Addr)(p:List ah)(c:Nat)(F:Nat->Prop)(w:World)(ce:fN w F A p)(a6:p.length<=1000)(cv:∀x∈p,x.ops.length<=1000)(cf:∀b,F b->b<w.heap.size):
 Calls Tryz.prog 16 #[aP p A c] w λa w'=>oO w w' p a:=by
 obtain⟨n,b2⟩:=eX p.length;obtain⟨Y,a0⟩:=eX (w.alloc (.cells #[.slice A n c] 24));obtain⟨u,a4⟩:=eX w.heap.size;have cb:ae Y u 24 #[.slice A n c]:=by rw[a0,a4];exact bN
 have d2:ac w Y:=by rw[a0];exact oR.alloc _
 have bv:Y.heap.size=u+1:=by rw[a0,a4];simp
 obtain⟨ai,a1⟩:=eX (Y.alloc (.cells #[.slice none 0 0] 24));have br:ac Y ai:=by rw[a1];exact oR.alloc _
 have bx:ai.heap.size=u+1+1:=by rw[a1];simp[bv]
 obtain⟨s,a2⟩:=eX (ai.alloc (.cells #[.slice none 0 0] 24));have b4:ac ai s:=by rw[a2];exact oR.alloc _
 have d7:s.heap.size=u+1+1+1:=by rw[a2];simp[bx]
 obtain⟨S,C⟩:=eX (u+1);obtain⟨e,b0⟩:=eX (u+1+1);have c8:ae s S 24 #[.slice none 0 0]:=b4.J (by rw[a1,C,<-bv];exact bN) nF;have c9:ae s e 24 #[.slice none 0 0]:=by rw[a2,b0,<-bx];exact bN
 have dp:=hD a0.symm;have dq:=hD a1.symm;have dr:=hD a2.symm;have X:=hD a4;have P:=hD C;have H:=hD b0;have c2:=hD b2;have dm:Hd (Dn w s u e A n c p [] (.slice none 0 0)):=hD ⟨b4.J (br.J cb nF) nF,c9,⟨by simp,.inl ⟨rfl,rfl⟩⟩,λy a7=>(by cases a7),rfl,yx _,d2.trans (br.trans b4)⟩;have b7:Hd (ae s S 24 #[.slice none 0 0]/\s.heap.size=e+1):=hD ⟨c8,by rw[d7,b0]⟩;have b8:=hD (aI ce (aI a6 (aI cv cf)));have e4:n<=1000:=by rw[b2];exact a6
 unfold aP;rw[<-b2];clear ce a6 cv cf b2 a0 a4 cb d2 bv a1 br bx a2 b4 d7 C b0 c8 c9;go_enter Tryz.func16,Tryz.ntmps16;go_upto_region 2 with fail;rw[dp.O,dq.O,dr.O,<-X.O,<-P.O];rw[show S+1=e by rw[P.O,H.O]];go_wp2_with fail
 go_loopw [4] (λi wr=>∃(l:List uY) (v:Value),i=.int .i64 (l.length:Int)/\Dn w wr u e A n c p l v/\aa (λb=>b=e) s wr) (λi _=>n-(intOf i).toNat)
 case atStart=>exact⟨[],_,rfl,dm.O,oR⟩
 case round=>
  obtain⟨l,v,rfl,D,bn⟩:=hrel;obtain⟨k,a5⟩:=eX l.length;rw[<-a5];have K:=hD a5;have d:=hD D;have ad:=hD bn;have d4:=D.bp.I 0;have W:=D.bo.I 0;have d5:=D.bo.fz 0;simp at d4 W;obtain⟨m,j,hv⟩:=jr D.own;rw[<-a5] at hv;subst hv
  by_cases V:k<n
  ·have es:(0:Int)<=(k:Int):=dB k
   have e3:(k:Int)<(n:Int):=cy V;have e5:wrap64 ((k:Int)+1)=(k:Int)+1:=cG V (lT e4 (by decide));have cr:k<p.length:=by rw[<-c2.O];exact V
   obtain⟨x,b3⟩ :∃x,p[k]?=some x:=⟨_,gG cr⟩
   have cp:fN wr F A p:=b8.O.1.kp D.only nG;obtain⟨b,o,B,bf,e1,ef,eg,ei,bk⟩:=cp.at_ b3;subst e1;have dz:=hD b3;have ek:=hD bk;obtain⟨t,av⟩:=eX (wr.alloc (.cells #[.int .i64 x.args,.int .i64 x.rg,.slice B x.ops.length bf] 99));obtain⟨r,aE⟩:=eX wr.heap.size;have bt:ac wr t:=by rw[av];exact oR.alloc _
   have al:ae t r 99 #[.int .i64 x.args,.int .i64 x.rg,.slice B x.ops.length bf]:=by rw[av,aE];exact bN
   have cs:x.ops.length<=1000:=b8.O.2.2.1 x (yh b3);have ds:Hd (cO t t.heap.size 5 B x.ops.length (x.ops.flatMap eJ)):=hD ((bk.kp bt nG).reads);have dw:=hD av.symm;have a9:=hD aE;have c3:=hD bt;have c0:=hD al;have c4:=hD cs;obtain⟨e7,cn,d1,cB,ch⟩:=Af;have ab:=hD (aI cn (aI d1 (aI cB ch)));clear D bn a5 b3 cp bk cn d1 cB ch;go_upto_region 6 with fail;rw[dw.O,<-a9.O];have b6:=al.I 2;have d8:=al.fz 2;simp at b6;clear av aE bt al cs ef eg ei d4 W d5
   go_upto_region 7 with(first
    |(at_builtin;refine fV _ rfl _ (.tmp 19) 97 rfl t.heap.size 106 e7 _ 5 40 Tryz.underlying97 ab.O.1 ab.O.2.1 ab.O.2.2.1 ab.O.2.2.2 rfl (by decide) (.slice none 0 0) 0 [] rfl ⟨by simp,.inl ⟨rfl,rfl⟩⟩ t.heap.size B x.ops.length bf (x.ops.flatMap eJ) rfl ds.O (CI x.ops) (by have:=c4.O;unfold maxLen;omega) (by have:=c4.O;omega) (lR) ?_;intro ea L q E a8;have bp:ac t L:=oR.grown E (λk a=>by cases a);rw[yq,List.nil_append] at q;obtain⟨G,R,rfl⟩:=jr q;have c1:=hD (aI q bp);have am:=bp.J c0.O nF;have b6:=am.I 2;have d8:=am.fz 2;simp at b6;have d9:=hD am;clear q E a8 bp am)
    |fail)
   obtain⟨g,aw⟩:=eX (L.setCell ⟨r,2,none⟩ (.slice G x.ops.length R));have d3:aa (λb=>b=r) L g:=by rw[aw];exact af _ _ _ _
   have Q:ae g r 99 #[.int .i64 x.args,.int .i64 x.rg,.slice G x.ops.length R]:=by rw[aw];exact d9.O.s_ 2 _
   have cm:e<r:=by rw[a9.O];exact d.O.bo.lt
   have b5:aa (λb=>b=r) wr g:=((c3.O.trans c1.O.2).mono λ_ a=>a.elim).trans d3;have bb:ae g e 24 #[.slice m k j]:=b5.J d.O.bo (λa=>by omega)
   have cw:g.ownsRow (e+1) 99 3 (.slice m k j) l.length (l.flatMap qI):=b5.owns d.O.own (λb f a=>by
    have:=ph d.O.own f;rw[a,a9.O] at this;omega)
   have c6:=hD aw.symm;rw[c6.O];have dn:=hD b5;have ej:=hD Q;have db:=hD bb;have c5:=hD cw;have dd:=hD cm;have eb:=Q.I 0;have ec:=Q.I 1;have ee:=Q.I 2;have W:=bb.I 0;simp at eb ec ee W;have dl:Hd (l.length<=1000000):=hD (by have:=d.O.le;have:=b8.O.2.1;omega);have dv:Hd (e+1<=g.heap.size):=hD (by have:=Q.lt;omega);clear aw d3 Q bb cw cm b6 d8 b5
   go_wp2_with (first
    |(at_builtin;refine jM (enc:=qI) rfl (.tmp 23) (.tmp 25) 22 99 3 40 (e+1) rfl Tryz.underlying22 D0 (by decide) (by decide) (.slice m k j) rfl rfl l (x,G,R) (aa.owns (aa.alloc (aa.refl (λ_=>False) g) _) c5.O nG) (ae.new g _ _) (DO _) (ry _) dl.O (lT dv.O (aa.alloc (aa.refl (λ_=>False) g) _).size) ?_;intro ea ba q E a8;obtain⟨bz,cd,rfl⟩:=jr q;have b9:=hD (aI q (aI E a8));have an:=E.J (db.O.alloc _) (λa=>by have:=pg c5.O a;omega);have W:=an.I 0;have d5:=an.fz 0;simp at W;have da:=hD an;clear q E a8 an)
    |fail)
   go_roundw
   case measure=>first|exact au rfl V|exact au e5 V
   case rel=>
    have q:=b9.O.1;have E:=b9.O.2.1;have a8:=b9.O.2.2;obtain⟨c7,cg⟩:=eX (g.alloc (.cells #[.int .i64 x.args,.int .i64 x.rg,.slice G x.ops.length R] 99));have e9:ac g c7:=by rw[cg];exact oR.alloc _
    obtain⟨Z,bm⟩:=eX (ba.setCell ⟨e,0,none⟩ (.slice bz (l.length+1) cd));have N:aa (λb=>b=e) ba Z:=by rw[bm];exact af _ _ _ _
    have e8:aa (λb=>(Value.slice m k j).ownBlock=some b) c7 ba:=by rw[cg];exact E
    have az:∀b,(Value.slice m k j).ownBlock=some b->e+1<=b/\b<wr.heap.size:=λb a=>⟨pg d.O.own a,ph d.O.own a⟩
    have e2:aa (λb=>b=r) L g:=by rw[<-c6.O];exact af _ _ _ _
    have ck:aa (λb=>(Value.slice m k j).ownBlock=some b\/b=e) g Z:=((e9.mono (T:=λb=>(Value.slice m k j).ownBlock=some b\/b=e) λ_ a=>a.elim).trans (e8.mono λb a=>.inl a)).trans (N.mono λb a=>.inr a);have a3:aa (λb=>b=r\/(Value.slice m k j).ownBlock=some b\/b=e) wr Z:=(dn.O.mono λb a=>.inl a).trans (ck.mono λb a=>.inr a);have b1:(l++ [(x,G,R)]).length=l.length+1:=by simp
    have aE:=a9.O;have er:=dd.O;have a4:=H.O;have eq:=X.O;have f0:=c3.O.size;rw[<-bm];refine⟨l++ [(x,G,R)],.slice bz (l.length+1) cd,by rw[b1,<-K.O];rfl,⟨a3.J d.O.bp (λa=>?_),?_,?_,λy a7=>?_,?_,?_,?_⟩,?_⟩
    ·rcases a with a|a|a
     ·omega
     ·have:=(az _ a).1;omega
     ·omega
    ·rw[bm]
     exact da.O.s_ 0 _
    ·rw[b1] at q ⊢
     exact N.owns q (λb f a=>by have:=pg q f;omega)
    ·have d0:wr.heap.size<=Z.heap.size:=a3.size
     rcases yH.1 a7 with a|a
     ·have z:=d.O.ops y a
      refine(z.keepT a3 (λb f1 e6 f a=>?_)).mo (λb f=>⟨f.1,lL f.2 d0⟩)
      rcases a with a|a|a
      ·omega
      ·exact aB d.O.own e6 (by decide) a
      ·omega
     ·rw[yw.1 a]
      have z:dy L (λb=>t.heap.size<=b/\b<L.heap.size) G x.ops:=Eh (w:=w) c1.O.1 (λb z ar=>⟨z,ar⟩);have en:=c0.O.lt;have ci:aa (λb=>b=r\/(Value.slice m k j).ownBlock=some b\/b=e) L Z:=(e2.mono λb a=>.inl a).trans (ck.mono λb a=>.inr a);refine(z.kp ci (λb f a=>?_)).mo (λb f=>⟨by omega,lL f.2 ci.size⟩)
      rcases a with a|a|a
      ·omega
      ·have:=(az _ a).2;omega
      ·omega
    ·rw[b1,yS,d.O.pre,yO,<-K.O,dz.O]
     rfl
    ·rw[b1,<-K.O]
     exact cr
    ·refine d.O.only.trans' a3 (λb a=>.inr ?_)
     have:=d.O.only.size
     rcases a with a|a|a
     ·omega
     ·have:=(az _ a).1;omega
     ·omega
    ·refine ad.O.trans' a3 (λb a=>?_)
     have em:=b7.O.2;have:=ad.O.size
     rcases a with a|a|a
     ·exact .inr (by omega)
     ·exact .inr (by have:=(az _ a).1;omega)
     ·exact .inl a
  ·have e3:¬(k:Int)<(n:Int):=λa=>V (yB.1 a)
   have C:ae wr S 24 #[.slice none 0 0]:=ad.O.J b7.O.1 (λa=>by rw[P.O,H.O] at a;omega);have e0:=C.I 0;have el:=C.fz 0;simp at e0;have dk:=hD C;clear D bn a5 C;go_wp2_with fail;refine bodyPost_ret (bX Tryz.results16 rfl (dk.O.s_ 0 (.slice m k j)) Tryz.underlying24 rfl (by kernel_rfl)) rfl ?_
   have cq:k=p.length:=by
    have z:=d.O.le;have ar:=c2.O;rw[<-K.O] at z;omega
   have N:aa (λb=>b=S) wr (wr.setCell ⟨S,0,none⟩ (.slice m k j)):=af _ _ _ _;have bq:=d.O.own;rw[<-K.O] at bq;have d0:=b7.O.2;have eL:=ad.O.size;have ex:d.O.pre=d.O.pre:=rfl;refine⟨m,j,by rw[cq];rfl,?_,?_⟩
   ·have a6:l.map (·.1)=p:=by rw[d.O.pre,<-K.O,cq,zr]
    rw[<-a6];refine DP (w:=w) (base:=e+1) (c:=j) ?_ (λb z ar=>⟨by have:=H.O;have:=X.O;omega,ar⟩) (λy a7=>?_)
    ·rw[<-K.O]
     refine N.owns bq (λb f a=>?_);have:=pg bq f;have:=P.O;have:=H.O;omega
    ·refine((d.O.ops y a7).kp N (λb f a=>?_)).mo (λb f=>⟨by have:=H.O;have:=X.O;omega,lL f.2 N.size⟩)
     have:=P.O;have:=H.O;omega
   ·exact d.O.only.trans' N (λb a=>.inr (by rw[a,P.O,X.O];omega))
end
end Go.Proofs.YtmdocplknceilaaGreat
