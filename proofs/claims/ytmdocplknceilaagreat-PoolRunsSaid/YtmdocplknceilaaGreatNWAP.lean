import Derived.Test.YtmdocplknceilaaGreatNWAO
set_option linter.all false
set_option maxRecDepth 100000
set_option maxHeartbeats 1000000
namespace Go.Proofs.YtmdocplknceilaaGreat
section
set_option maxRecDepth 100000
open Go.RowKit
attribute [local simp] ew fe fD cL dP Region.binds dD dN Is ao Act.put
theorem AG(B b:Nat)(n k:Int)(v:Value)(xs:List Int)(w:World)(a:cx w B b n v xs)(H:n+1<=4611686018427387904):
 Calls Tryz.prog 179 #[.pointer (some ⟨b,0,none⟩),.int .i64 k] w λd w'=>d=.returned (.tuple #[.int .i64 (mT xs k),.int .i64 (fJ xs k)])/\cx w' B b (n+aM xs k) v xs/\aa (bL b v) w w'/\w'.heap.size=w.heap.size:=by
 have t:=a.len;have K:=a.n0
 by_cases c:0<=k/\k<xs.length
 ·have e:mT xs k=xs.getD k.toNat 0:=yf c
  have f:fJ xs k=0:=yf c;have i:aM xs k=1:=yf c;rw[e,f,i];clear e f i;obtain⟨j,rfl⟩:=ym c.1;have s:j<xs.length:=by omega
  clear c;obtain⟨g,o,rfl,_,L,G,p,F⟩:=a.at_ s;have u:=a.setN (n+1) (by omega) H;have E:(w.setCell ⟨b,0,none⟩ (.int .i64 (n+1))).cell? ⟨g,j,none⟩=some (.int .i64 (xs.getD j 0)):=by rw[World.cell?_setCell_other _ _ _ _ (by intro d;injection d with d;exact G d.symm)];exact p
  have r:cx (w.setCell ⟨b,0,none⟩ (.int .i64 (n+1))) B b (n+1) (.slice (some ⟨g,0,none⟩) xs.length o) xs/\aa (bL b (.slice (some ⟨g,0,none⟩) xs.length o)) w (w.setCell ⟨b,0,none⟩ (.int .i64 (n+1)))/\(w.setCell ⟨b,0,none⟩ (.int .i64 (n+1))).heap.size=w.heap.size:=⟨u,oR.setCell (.inl (.inl rfl)) _,by simp[World.setCell]⟩
  have l:=hD r;have D:=hD a.J;clear u r a p F;simp only[yo];generalize xs.getD j 0=x at E ⊢;go_enter Tryz.func179,Tryz.ntmps179
  go_wp2_with (go_at_call 211;refine(mf _ _ _ _ _ _ _ K (by omega) t s D.O).mono ?_;rintro d w' ⟨rfl,rfl⟩)
  go_ret2
  exact⟨rfl,l.O⟩
 ·have e:mT xs k=0:=yb c
  have f:fJ xs k=5:=yb c;have i:aM xs k=0:=yb c;rw[e,f,i,Int.add_zero];clear e f i;obtain⟨A,o,rfl⟩:=a.slice;have l:=hD a;clear a;go_enter Tryz.func179,Tryz.ntmps179
  go_wp2_with (go_at_call 211;refine(pu _ _ _ _ _ _ _ t (by omega) l.O.J).mono ?_;rintro d w' ⟨rfl,rfl⟩)
  go_ret2
  exact⟨rfl,l.O,oR,rfl⟩
theorem vD(B m d z p:Nat)(n k:Int)(v on:Value)(C:List Int)(cs:Array Value)(w:World)(b:bZ w B m d z n v C on)(g:ae w p 194 cs)(a:cs[3]?=some (.pointer (some ⟨d,0,none⟩)))(r:n+1<=4611686018427387904):
 Calls Tryz.prog 143 #[.pointer (some ⟨p,0,none⟩),.int .i64 k] w λc w'=>c=.returned (.int .i64 (ld C k))/\cx w' B m (n+aM C k) v C/\aa (bL m v) w w'/\w'.heap.size=w.heap.size:=by
 have t:w.cell? ⟨p,3,none⟩=some (.pointer (some ⟨d,0,none⟩)):=(g.I 3).trans a;have s:w.cell? ⟨d,0,none⟩=some (.pointer (some ⟨m,0,none⟩)):=b.J.I 0;have i:=hD b;clear b g a;go_enter Tryz.func143,Tryz.ntmps143;go_wp2_with fail;refine(AG B m n k v C w i.O.mem r).mono ?_;rintro c w' ⟨rfl,e,f,a⟩;have o:=hD a;have j:=hD e;have l:=hD f;rw[sY];clear e f a;go_wp2_with fail;go_ret;exact⟨rfl,j.O,l.O,o.O⟩
theorem E2:(Tryz.prog.info? 125).map (λi=>(i.zero,i.size))=some (some (.pointer none),1):=by kernel_rfl
theorem Eu:(Tryz.prog.info? 2).map (λi=>(i.zero,i.size))=some (some (.int .i64 0),1):=by kernel_rfl
structure pz(B m:Nat)(n N:Int)(v:Value)(C:List Int)(V:Int)(W:World)(b1 b2 b3:Bool)(y:World):Prop where
 only:aa (bL m v) W y
 mem:cx y B m (if b1=true then n+N else n) v C
 new:if b2=true then y.heap.size=W.heap.size+1/\ae y W.heap.size 2 #[.int .i64 (if b3=true then V else 0)] else y.heap.size=W.heap.size
 ord:b3=true->b2=true
section
variable {B m:Nat}{n N:Int}{v:Value}{C:List Int}{V:Int}{W y w2:World}{b1 b2 b3:Bool}
theorem pz.load(a:pz B m n N v C V W b1 b2 b3 y)(d:¬bL m v W.heap.size)(e:cx w2 B m (n+N) v C)(b:aa (bL m v) y w2)(c:w2.heap.size=y.heap.size):pz B m n N v C V W true b2 b3 w2:=by
 refine⟨a.only.trans b,by simpa using e,?_,a.ord⟩;have:=a.new
 cases b2 with
 |true=>
  simp only[yR] at this ⊢;exact⟨by rw[c];exact this.1,b.J this.2 d⟩
 |false=>simpa[c] using this
theorem pz.make(a:pz B m n N v C V W b1 b2 b3 y)(c:b2=false):y.heap.size=W.heap.size/\pz B m n N v C V W b1 true b3 (y.alloc (.cells #[.int .i64 0] 2)):=by
 subst c;have b:y.heap.size=W.heap.size:=by simpa using a.new
 have d:b3=false:=by
  cases b3 with
  |false=>rfl
  |true=>have:=a.ord rfl;cases this
 refine⟨b,a.only.alloc _,a.mem.only ((aa.refl (λ_=>False) y).alloc _) nF nG,?_,λ_=>rfl⟩;simp only[yR];refine⟨by simp[b],?_⟩;rw[d,<-b];exact ae.new y _ _
theorem pz.store(c:pz B m n N v C V W b1 b2 b3 y)(d:¬bL m v W.heap.size)(e:b2=true)(f:b3=false):y.cell? ⟨W.heap.size,0,none⟩=some (.int .i64 0)/\y.frozen? ⟨W.heap.size,0,none⟩=false/\pz B m n N v C V W b1 b2 true (y.setCell ⟨W.heap.size,0,none⟩ (.int .i64 V)):=by
 subst e f;have a:=c.new;simp only[yR,zB,Yi] at a;refine⟨a.2.I 0,a.2.fz 0,⟨c.only.setCell (p:=⟨W.heap.size,0,none⟩) (.inr (lR)) _,c.mem.only ((aa.refl (λx=>x=W.heap.size) y).setCell (p:=⟨W.heap.size,0,none⟩) (.inl rfl) _) (λb=>d (.inl b.symm)) (λk g b=>d (.inr (b ▸ g))),?_,λ_=>rfl⟩⟩;simp only[yR];exact⟨by simpa[World.setCell] using a.1,a.2.s_ 0 _⟩
end
theorem tB(B m d z p:Nat)(n:Int)(v on:Value)(C:List Int)(c:AC)(w:World)(a8:bZ w B m d z n v C on)(a:ae w p 194 (c.arr d))(bz:n+2<=4611686018427387904)(aE:0<=c.i)(b0:1<=c.n)(b6:c.n<=1000000)(b7:0<=c.w)(b8:c.w<=1000000):
 Calls Tryz.prog 247 #[.pointer (some ⟨p,0,none⟩)] w λj w'=>j=.returned (.int .i64 0)/\∃f l,ae w' f 125 #[.pointer (some ⟨p,0,none⟩)]/\ae w' l 2 #[.int .i64 (ld C (ak c.w c.n c.i))]/\(w.heap.size<=f/\w.heap.size<=l)/\v.ownBlock≠some l/\ax w w' B m d z p (n+aM C (ak c.w c.n c.i)) v v on C {c with dv:=(.func (.func 248) #[] #[.pointer (some ⟨f,0,none⟩),.pointer (some ⟨l,0,none⟩)])}:=by
 have ar:=hD (ax.refl a8 a);clear a8 a;obtain⟨c2,c0⟩:=zero_of_info E2;obtain⟨c3,c1⟩:=zero_of_info Eu;obtain⟨f,R⟩:=eX w.heap.size;obtain⟨t,H⟩:=eX (w.alloc (.cells #[.pointer (some ⟨p,0,none⟩)] 125));have S:ae t f 125 #[.pointer (some ⟨p,0,none⟩)]:=by rw[H,R];exact ae.new w _ _
 have D:Hd (ax w t B m d z p n v v on C c):=hD (ar.O.quiet (by rw[H];exact(aa.refl _ w).alloc _))
 have al:∀k,v.ownBlock=some k->k<t.heap.size:=λk a9=>by
  rcases dj D.O.dq.mem.own with⟨rfl,_⟩|⟨g,bq,rfl,_,_,_,b9⟩
  ·cases a9
  ·cases a9;exact b9
 have ab:¬bL m v f:=by
  rintro (j|j)
  ·exact ae.ne_ S D.O.dq.mem.J (by decide) j
  ·exact aB D.O.dq.mem.own S (by decide) j
 have ai:t.heap.size=f+1:=by rw[H,R];simp
 have a3:¬bL m v t.heap.size:=by
  rintro (j|j)
  ·have:=D.O.dq.mem.J.lt;omega
  ·have:=al _ j;omega
 obtain⟨F,G⟩:=eX t.drew;have E:Hd (ax w F B m d z p n v v on C c):=hD (by rw[G];exact D.O.drew);have av:=hD G;obtain⟨l,a0⟩:=eX F.heap.size;have a1:l=t.heap.size:=by rw[a0,G];rfl
 have a5:Hd (∀y,aa (bL m v) F y->ae y f 125 #[.pointer (some ⟨p,0,none⟩)]):=hD (λy X=>X.J (by rw[G];exact S) ab)
 have an:Hd (∀y,aa (bL m v) F y->y.cell? ⟨f,0,none⟩=some (.pointer (some ⟨p,0,none⟩))/\y.cell? ⟨p,7,none⟩=some (.int .i64 c.w)/\y.cell? ⟨p,8,none⟩=some (.int .i64 c.n)/\y.cell? ⟨p,10,none⟩=some (.int .i64 c.i)):=hD (λy X=>by
  obtain⟨K,am⟩:=E.O.cells X;exact⟨(a5.O y X).I 0,K.I 7,K.I 8,K.I 10⟩)
 have a6:Hd (¬bL m v l):=hD (by rw[a1];exact a3);have a7:Hd ((w.heap.size<=f/\w.heap.size<=l)/\v.ownBlock≠some l):=hD ⟨by omega,λj=>a3 (by rw[<-a1];exact .inr j)⟩;have A:=hD a0;clear al ab a3 ai G a0 a1 S;go_enter Tryz.func247,Tryz.ntmps247;go_wp2_with fail;rw[<-H,<-R];clear H R
 refine bc (by kernel_rfl) (λdn y=>pz B m n (aM C (ak c.w c.n c.i)) v C (ld C (ak c.w c.n c.i)) F (dn 14) (dn 15) (dn 16) y) [ao p 0,ao p 0,ao p 0,ao p 7,Is (.int .i64 c.w),ao p 0,ao p 0,ao p 8,Is (.int .i64 c.n),ao p 0,ao p 0,ao p 10,Is (.int .i64 c.i),Is (.int .i64 (ak c.w c.n c.i)),Is (.int .i64 (ld C (ak c.w c.n c.i))),ao l 0,λ_ _=>True] (by kernel_rfl)
  ⟨sT,sT,sT,sT,sT,sT,sT,sT,sT,sT,sT,sT,sT,sT,sT,sT,(λ_ _ _ _ _=>trivial),trivial⟩ (by rw[<-av.O];exact⟨oR,by simpa using E.O.dq.mem,by simp,by simp⟩) ⟨?_,?_,?_,?_,?_,?_,?_,?_,?_,?_,?_,?_,?_,?_,?_,?_,?_,trivial⟩ ?_
 iterate 13
  ·intro dn u o r x b a Q e
   refine ap rfl ?_;simp at a e ⊢
   try simp only[a] at e
   obtain⟨br,bt,bv,bx⟩:=an.O o b.only;go_simp;exact e _ _ (by simpa[bY] using b) rfl
 ·intro dn u o r x b a Q e
  refine ap rfl ?_;simp at a e ⊢;simp only[a] at e;go_simp;refine(jQ c.w c.n c.i o aE b0 b6 b7 b8).mono ?_;rintro j w2 ⟨rfl,rfl⟩;exact e _ _ (by simpa[bY] using b) rfl
 ·intro dn u o r x b a Q e
  refine ap rfl ?_;simp at a e ⊢;simp only[a] at e;have s:=b.mem;rw[r] at s;simp only[zB,Yi] at s;obtain⟨K,am⟩:=E.O.cells b.only;go_simp;refine(vD B m d z p n (ak c.w c.n c.i) v on C _ _ ⟨s,am,E.O.dq.base⟩ K rfl (by omega)).mono ?_;rintro j w2 ⟨rfl,bk,bm,bn⟩;exact e _ _ (by simpa[bY] using b.load (by rw[<-A.O];exact a6.O) bk bm bn) rfl
 ·intro dn u o r x b a Q e
  refine ap rfl ?_;simp at a e ⊢;obtain⟨ai,ba⟩:=b.make r;go_simp;exact e _ _ (by simpa[bY] using ba) (by rw[A.O])
 ·intro dn u o r x b a Q e
  refine ap rfl ?_;simp at a e ⊢;simp only[a] at e;have Z:dn 15=true:=by simp[bj,Region.binds] at x;simp[x]
  obtain⟨aw,az,ad⟩:=b.store (by rw[<-A.O];exact a6.O) Z r;rw[<-A.O] at aw az ad;go_simp;exact e _ (by simpa[bY] using ad)
 ·intro u o dn a2 b a
  simp at a ⊢;have b4:=a2 14 (by decide);have Z:=a2 15 (by decide);have b5:=a2 16 (by decide);rw[b4,Z,b5] at b;have s:=b.mem;have T:=b.new;simp only[yR] at s T;rw[<-A.O] at T;have Y:=hD (a5.O _ b.only);have a4:=hD T.2;have L:=hD (E.O.mem s b.only);obtain⟨bo,rfl⟩:=eX o;have bp:bo.cell? ⟨f,0,none⟩=some (.pointer (some ⟨p,0,none⟩)):=Y.O.I 0;clear b s T;simp only[a];clear a;go_wp2_with fail;refine(cl p _ _ _ _ _ L.O.act (by simp[AC.arr])).mono ?_;rintro j c4 ⟨rfl,rfl⟩;go_wp2_with fail;go_ret;have bb:f≠p:=ae.ne_ Y.O L.O.act (by decide);have bf:l≠p:=ae.ne_ a4.O L.O.act (by decide);exact⟨rfl,f,l,Y.O.far (p:=⟨p,0,none⟩) bb _,a4.O.far (p:=⟨p,0,none⟩) bf _,a7.O.1,a7.O.2,L.O.set 0 _ rfl⟩
set_option maxRecDepth 100000
theorem ax.mo{w w' j:World}{B m d z p:Nat}{n n':Int}{v f g on:Value}{C C':List Int}{c:AC}(b:ax w w' B m d z p n v f on C c)(t:cx j B m n' g C')(r:Dp w' f g)(e:aa (bL m f) w' j)(l:ld C' z=ld C z)(o:ld C' ((z:Int)+1)=ld C ((z:Int)+1)):ax w j B m d z p n' v g on C' c:=by
 refine⟨⟨t,?_,b.dq.base⟩,e.J b.act b.pm,b.only.trans' e (λi a=>?_),λk s=>?_⟩
 ·rw[l,o]
  exact e.J b.dq.J b.dq.away
 ·rcases a with a|a
  ·exact .inl (.inl (.inl a))
  ·rcases b.row i a with a|a
   ·exact .inl (.inl (.inr a))
   ·exact .inr a
 ·rcases r k s with a|a
  ·exact b.row k a
  ·exact .inr (by have:=b.only.size;omega)
theorem xY{x:Int}(a:0<=x):((fresh x).length:Int)=1+2*x:=by simp[fresh];omega
theorem vO{x:Int}{L:Nat}(b:0<=x)(c:(L:Int)=1+2*x):(madeCells (Value.int .i64 0).cells (L*1)).setIfInBounds 0 (.int .i64 (2*x))=((fresh x).map (Value.int .i64)).toArray:=by
 have:(Value.int .i64 0).cells= #[.int .i64 0]:=rfl;apply Yd.1;rw[this,Nat.mul_one,zW,toList_madeCells_one];obtain⟨k,rfl⟩ :∃k,L=k+1:=⟨L-1,by omega⟩
 have a:(2*x).toNat=k:=by omega
 simp[fresh,a,List.replicate_succ]
theorem tC(B m d z p:Nat)(n:Int)(v on:Value)(C:List Int)(c:AC)(w:World)(H:bZ w B m d z n v C on)(a9:ae w p 194 (c.arr d))(bf:n+2<=4611686018427387904)(c6:1<=c.n)(c7:c.n<=20000)(cb:(C.length:Int)+1+2*c.n<=65536)(cf:(z:Int)+1<C.length):
 Calls Tryz.prog 239 #[.pointer (some ⟨p,0,none⟩)] w λe w'=>e=.returned (.int .i64 0)/\∃A,ax w w' B m d z p n v A on (C++fresh c.n) {c with nw:=C.length,i:=c.t,dv:=if c.t=c.b then de 246 p else de 247 p}:=by
 have f:=hD (ax.refl H a9);have c0:w.cell? ⟨p,8,none⟩=some (.int .i64 c.n):=f.O.act.I 8;have bz:w.cell? ⟨p,6,none⟩=some (.int .i64 c.t):=f.O.act.I 6;have c2:w.cell? ⟨d,0,none⟩=some (.pointer (some ⟨m,0,none⟩)):=f.O.dq.J.I 0;have bx:w.cell? ⟨p,3,none⟩=some (.pointer (some ⟨d,0,none⟩)):=f.O.act.I 3;clear H a9;obtain⟨bp,b9,bm,bn,bo⟩:=info_parts (show(Tryz.prog.info? 2).map (λi=>(i.zero,i.size,i.bytes))=some (some (.int .i64 0),1,8) by kernel_rfl);obtain⟨c3,a0⟩:=eX (if c.t=c.b then de 246 p else de 247 p);rw[<-a0];have aw:=hD a0;obtain⟨L,Z⟩ :∃L:Nat,(L:Int)=1+2*c.n:=⟨(1+2*c.n).toNat,by omega⟩
 have c8:L<=65536:=by omega
 have b7:0<L:=by omega
 have cd:IntKind.i64.wrap (2*c.n)=2*c.n:=IntWalk.i64_in _ (by omega);have ce:IntKind.i64.wrap (1+2*c.n)=1+2*c.n:=IntWalk.i64_in _ (by omega);obtain⟨a,E⟩:=eX w.heap.size;obtain⟨wp,R⟩:=eX (w.alloc (.cells (madeCells (Value.int .i64 0).cells (L*1)) 2));have a8:=kY 25 2 bp (.int .i64 0) (by kernel_rfl) b9 bm .i64 .i64 L L (lR) (by rw[bo];omega) (by omega) w;rw[bn,<-E,<-R,Z] at a8;have K:ae wp a 2 (madeCells (Value.int .i64 0).cells (L*1)):=by rw[R,E];exact ae.new w _ _
 have b4:wp.cell? ⟨a,0,none⟩=some (.int .i64 0):=by
  rw[K.I,<-zj,show(Value.int .i64 0).cells= #[.int .i64 0] from rfl,Nat.mul_one,toList_madeCells_one];simp[b7]
 have b6:wp.frozen? ⟨a,0,none⟩=false:=K.fz 0;have l:Hd (ax w wp B m d z p n v v on C c):=hD (f.O.quiet (by rw[R];exact(aa.refl _ w).alloc _));obtain⟨F,S⟩:=eX (wp.setCell ⟨a,0,none⟩ (.int .i64 (2*c.n)))
 have a7:ae F a 2 ((fresh c.n).map (Value.int .i64)).toArray:=by
  rw[<-vO (by omega) Z,S];exact K.s_ 0 _
 have ad:v.ownBlock≠some a:=λe=>by
  rcases dj f.O.dq.mem.own with⟨rfl,_⟩|⟨g,c1,rfl,_,_,_,bb⟩
  ·cases e
  ·have a3:=bb
   rw[<-E] at a3;have b5:some g=some a:=e
   cases b5
   exact absurd a3 (yQ _)
 have Q:a≠d/\a≠p/\a≠m:=by
  have:=f.O.dq.J.lt;have:=f.O.act.lt;have:=f.O.dq.mem.J.lt;omega
 have G:Hd (ax w F B m d z p n v v on C c):=hD (by
  have o:aa (λx=>x=a) wp F:=by rw[S];exact(aa.refl (λx=>x=a) wp).setCell (p:=⟨a,0,none⟩) (.inl rfl) _
  refine⟨⟨l.O.dq.mem.only o (λe=>Q.2.2 e.symm) (λk ba e=>ad (e ▸ ba)),o.J l.O.dq.J (λe=>Q.1 e.symm),l.O.dq.base⟩,o.J l.O.act (λe=>Q.2.1 e.symm),l.O.only.trans' (o.mono (T:=λx=>x=a) λ_ e=>e) (λi b8=>.inr (by rw[b8,E];exact lR)),l.O.row⟩)
 have D:(fresh c.n).length=L:=by have:=xY (x:=c.n) (by omega);omega
 have ab:cO F (a+1) 1 (some ⟨a,0,none⟩) (fresh c.n).length ((fresh c.n).map (.int .i64)):=
  ⟨by simp,λ_=>⟨_,rfl,by simp,λj u bk=>by rw[show(⟨a,0,none⟩ :Addr).add j=⟨a,j,none⟩ by simp[Addr.add];exact λH=>H.symm];rw[a7.I,zi];exact bk⟩⟩
 have bq:wp.cell? ⟨p,3,none⟩=some (.pointer (some ⟨d,0,none⟩)):=l.O.act.I 3;have br:wp.cell? ⟨d,0,none⟩=some (.pointer (some ⟨m,0,none⟩)):=l.O.dq.J.I 0;obtain⟨cg,ch,ci⟩:=Q;have bt:wp.cell? ⟨p,8,none⟩=some (.int .i64 c.n):=l.O.act.I 8;have aE:=hD ab;have az:=hD S;have bv:=hD Z;have c9:(0:Int)<(L:Int):=by omega
 have a4:oX C (fresh c.n)=C.length:=yb (by rw[D];omega);have a5:oY C (fresh c.n)=0:=yb (by rw[D];omega);have a6:oZ C (fresh c.n)=C++fresh c.n:=yb (by rw[D];omega);have X:=hD (aI a4 (aI a5 a6));have a2:=hD D;clear a0 E R K S a7 ad ab a4 a5 a6 D;go_enter Tryz.func239,Tryz.ntmps239;go_wp2_with fail;rw[<-az.O];have a1:=tQ B m n v C (fresh c.n) (a+1) (some ⟨a,0,none⟩) L F G.O.dq.mem aE.O (by omega) (by rw[a2.O];unfold maxLen;omega) (by have:=G.O.dq.mem.base;have:=G.O.dq.mem.J.lt;omega);rw[a2.O,X.O.1,X.O.2.1,X.O.2.2] at a1;refine a1.mono ?_;clear a1;rintro e r ⟨rfl,⟨A,al,am⟩,an⟩;have s:Hd (ax w r B m d z p n v A on (C++fresh c.n) c):=hD (G.O.mo al am an (lW (by omega)) (lW (by omega)));clear al am an bq br bt b4 b6 a8;have cn:r.cell? ⟨p,6,none⟩=some (.int .i64 c.t):=s.O.act.I 6;have cp:r.cell? ⟨p,9,none⟩=some (.int .i64 c.nw):=s.O.act.I 9;have cm:r.cell? ⟨p,10,none⟩=some (.int .i64 c.i):=s.O.act.I 10;have c5:r.frozen? ⟨p,9,none⟩=false:=s.O.act.fz 9;have c4:r.frozen? ⟨p,10,none⟩=false:=s.O.act.fz 10;go_wp2_with fail;obtain⟨av,ai⟩:=eX ((r.setCell ⟨p,9,none⟩ (.int .i64 (C.length:Int))).setCell ⟨p,10,none⟩ (.int .i64 c.t));have Y:Hd (ax w av B m d z p n v A on (C++fresh c.n) {c with nw:=C.length,i:=c.t}):=hD (by rw[ai];exact(s.O.set 9 _ (c':={c with nw:=C.length}) rfl).set 10 _ rfl);rw[<-ai];refine(r7 B m d z p n A on _ _ av Y.O.dq Y.O.act bf).mono ?_;rintro e ck ⟨rfl,ar⟩;have b0:=hD ar;clear ar;go_wp2_with fail;go_ret;exact⟨rfl,A,by rw[aw.O];exact Y.O.trans b0.O⟩
set_option maxRecDepth 100000
theorem uv(p d f:Nat)(g e:Array Value)(c:AC)(w:World)(R:World->AC->Prop)(b:ae w p 194 (c.arr d))(A:c.dv=.func (.func f) g e)(S:∀w,(callFunc f (g++e)).run Tryz.prog w=.ok (.enter f (g++e)) w)
 (t:Calls Tryz.prog f (g++e) w λj w'=>j=.returned (.int .i64 0)/\∃c',ae w' p 194 (c'.arr d)/\R w' c'):
 Calls Tryz.prog 83 #[.pointer (some ⟨p,0,none⟩)] w λj w'=>∃c' a,j=.returned (.tuple #[.int .u8 c'.wh,.int .i64 c'.x,.int .i64 0])/\R a c'/\aa (λ_=>False) a w':=by
 have L:w.cell? ⟨p,0,none⟩=some (.func (.func f) g e):=by rw[<-A];exact b.I 0
 have Q:w.cell? ⟨p,3,none⟩=some (.pointer (some ⟨d,0,none⟩)):=b.I 3;have a1:∀w,(binOp .eql 190 (.func (.func f) g e) .nilFunc).run Tryz.prog w=.ok (.bool false) w:=λ_=>rfl
 have F:=hD t;clear b t A;go_enter Tryz.func83,Tryz.ntmps83;go_wp2_with fail;refine F.O.mono ?_;rintro j a ⟨rfl,c',D,E⟩;obtain⟨s,l⟩:=eX a.drew;have o:Hd (∀y,aa (λ_=>False) s y->ae y p 194 (c'.arr d)):=hD (λy H=>H.J (by rw[l];exact D) nF);have G:=hD E;have r:=hD l;clear D E l;go_wp2_with fail
 refine bc (by kernel_rfl) (λ_ y=>aa (λ_=>False) s y) [ao p 0,ao p 0,ao p 0,ao p 1,Is (.int .u8 c'.wh),ao p 0,ao p 0,ao p 0,ao p 2,Is (.int .i64 c'.x),Is (.int .u8 c'.wh),Is (.int .i64 c'.x),Is (.int .i64 0)] (by kernel_rfl)
  (by(repeat refine⟨sT,?_⟩);trivial) (by rw[<-r.O];exact oR) ⟨?_,?_,?_,?_,?_,?_,?_,?_,?_,?_,?_,?_,?_,trivial⟩ ?_
 iterate 13
  ·intro dn u a Z T i b K k
   refine ap rfl ?_;simp at b k ⊢
   try simp only[b] at k
   have X:a.cell? ⟨p,1,none⟩=some (.int .u8 c'.wh):=(o.O a i).I 1;have Y:a.cell? ⟨p,2,none⟩=some (.int .i64 c'.x):=(o.O a i).I 2;go_simp;exact k _ _ i rfl
 ·intro u a dn a0 i b
  simp at b ⊢;simp only[b];go_wp2_with fail
  go_ret3
  refine⟨c',_,rfl,G.O,?_⟩;rw[r.O] at i;exact((aa.refl (λ_=>False) _).drew).trans i
set_option maxRecDepth 100000
def qO(kind at':Nat):Nat:=
 match kind with
 |0=>match at' with
  |0=>178
  |1=>210
  |2=>226
  |3=>235
  |10=>239
  |11=>247
  |13=>246
  |20=>240
  |_=>244
 |1=>match at' with
  |0=>96
  |1=>144
  |2=>180
  |3=>213
  |4=>229
  |5=>230
  |6=>236
  |7=>241
  |_=>229
 |_=>match at' with
  |0=>137
  |1=>168
  |2=>208
  |3=>225
  |4=>234
  |_=>238
def aO(a:aC)(dv:Value):AC:=
 ⟨dv,a.td,a.got,if a.kn=0 then a.v else a.read,if a.kn=2 then 0 else a.b,a.t,a.w,a.n,a.nw,if a.kn=0 then a.i else 0,decide (a.kn=1/\a.i=1)⟩
def jE(w:World)(p:Nat)(v:Value)(a:aC)(dv:Value):Prop:=
 if a.td=0 then
  if a.kn=0/\a.at_=12 then ∃ba bv,dv=.func (.func 248) #[] #[.pointer (some ⟨ba,0,none⟩),.pointer (some ⟨bv,0,none⟩)]/\ae w ba 125 #[.pointer (some ⟨p,0,none⟩)]/\ae w bv 2 #[.int .i64 a.read]/\v.ownBlock≠some bv
  else dv=de (qO a.kn a.at_) p
 else dv=.nilFunc
def vx(w:World)(dv:Value):Prop:=∀(f:Fn) (ba bv:Nat),dv=.func f #[] #[.pointer (some ⟨ba,0,none⟩),.pointer (some ⟨bv,0,none⟩)]->w.heap.size<=ba/\w.heap.size<=bv
theorem cj{w:World}{g p:Nat}:vx w (de g p):=by
 intro f b c a;simp[de] at a
theorem df{w:World}:vx w .nilFunc:=by
 intro f b c a
 cases a
structure lC(w:World)(p d:Nat)(v:Value)(a:aC):Prop where
 ex:∃dv,ae w p 194 ((aO a dv).arr d)/\jE w p v a dv
 i0:a.kn=1->a.at_<=7->a.i=0
 g0:a.td=0->a.got=0
 k2:a.kn<=2
def bd(x:Int):Prop:=-1000000<=x/\x<=1000000
def ma(z:Nat)(C:List Int)(w n i:Int):Prop:=0<=i/\i<=1000000/\1<=n/\n<=400000/\(z:Int)+2<w/\w<=1000000/\w+n<C.length
def eV(z:Nat)(C:List Int)(a:aC):Prop:=
 ((z:Int)+2<C.length/\C.length<=65536/\bd (ld C ((z:Int)+1)))/\
 match a.kn with
 |0=>match a.at_ with
  |3=>bd a.b/\bd a.t/\0<=a.w/\a.w<C.length
  |10=>1<=a.n/\a.n<=20000/\(C.length:Int)+1+2*a.n<=65536
  |11=>ma z C a.w a.n a.i
  |12=>ma z C a.nw (2*a.n) a.i
  |13=>1<=a.n/\a.n<=400000
  |20=>ma z C a.w a.n a.b
  |21=>bd a.b
  |_=>True
 |1=>match a.at_ with
  |3=>bd a.b
  |4=>bd a.b
  |5=>0<=a.w/\a.w<C.length
  |6=>ma z C a.w a.n a.b/\bd a.t
  |7=>bd a.t
  |8=>bd a.b
  |_=>True
 |_=>match a.at_ with
  |3=>0<=a.w/\a.w<C.length
  |4=>ma z C a.w a.n a.t
  |5=>bd a.t
  |_=>True
def cnt(a:aC):Int:=if a.kn=0/\a.at_=10 then 0 else 1
theorem dR{C:List Int}{k:Int}(a:0<=k)(b:k<C.length):aM C k=1:=yf ⟨a,b⟩
theorem ax.steps{w w':World}{B m d z p:Nat}{n n':Int}{v a on:Value}{C:List Int}{c:AC}(e:ax w w' B m d z p n v a on C c)(b:n=n'):ax w w' B m d z p n' v a on C c:=b ▸ e
def dK(w:World)(B m d z p:Nat)(n:Int)(v on:Value)(r:jX)(w1:World)(c:AC):Prop:=
 ∃v',ax w w1 B m d z p n v v' on r.C c/\∃dv,c=aO r.a dv/\vx w dv/\jE w1 p v' r.a dv
theorem Fp(B m d z p:Nat)(n:Int)(v on:Value)(C:List Int)(a:aC)(dv:Value)(w:World)(k:bZ w B m d z n v C on)(r:ae w p 194 ((aO a dv).arr d))(G:n+3<=4611686018427387904)(o:eV z C a)(f:a.td=0)(F:a.kn=1->a.at_<=7->a.i=0)(j:a.kn=0)(g:a.at_=0):
 Calls Tryz.prog 178 #[.pointer (some ⟨p,0,none⟩)] w λe w'=>e=.returned (.int .i64 0)/\∃c',ae w' p 194 (c'.arr d)/\dK w B m d z p (n+cnt a) v on (pstep z C a) w' c':=by
 obtain⟨kind,av,D,b,t,E,A,nw,i,H,told,got⟩:=a;simp only at j g f;subst j g f;obtain⟨⟨K,L,s⟩,u⟩:=o;simp only[bd] at s u;refine(rH B m d z p n v on C _ w k r (by omega)).mono ?_;rintro e w' ⟨rfl,c⟩;refine⟨rfl,_,c.act,?_⟩;have l:aM C ((z:Int)+1)=1:=dR (by first|omega|(simp only[aO];omega)) (by first|omega|(simp only[aO];omega));replace c:=c.steps (n':=n+1) (yl (λx=>n+x) l);exact⟨v,c,_,rfl,by first|exact cj|exact df,rfl⟩
theorem Fq(B m d z p:Nat)(n:Int)(v on:Value)(C:List Int)(a:aC)(dv:Value)(w:World)(k:bZ w B m d z n v C on)(r:ae w p 194 ((aO a dv).arr d))(G:n+3<=4611686018427387904)(o:eV z C a)(f:a.td=0)(F:a.kn=1->a.at_<=7->a.i=0)(j:a.kn=0)(g:a.at_=1):
 Calls Tryz.prog 210 #[.pointer (some ⟨p,0,none⟩)] w λe w'=>e=.returned (.int .i64 0)/\∃c',ae w' p 194 (c'.arr d)/\dK w B m d z p (n+cnt a) v on (pstep z C a) w' c':=by
 obtain⟨kind,av,D,b,t,E,A,nw,i,H,told,got⟩:=a;simp only at j g f;subst j g f;obtain⟨⟨K,L,s⟩,u⟩:=o;simp only[bd] at s u;refine(uQ B m d z p n v on C _ w k r (by omega)).mono ?_;rintro e w' ⟨rfl,c⟩;refine⟨rfl,_,c.act,?_⟩;have l:aM C (z:Int)=1:=dR (by first|omega|(simp only[aO];omega)) (by first|omega|(simp only[aO];omega));replace c:=c.steps (n':=n+1) (yl (λx=>n+x) l);exact⟨v,c,_,rfl,by first|exact cj|exact df,rfl⟩
theorem Fs(B m d z p:Nat)(n:Int)(v on:Value)(C:List Int)(a:aC)(dv:Value)(w:World)(k:bZ w B m d z n v C on)(r:ae w p 194 ((aO a dv).arr d))(G:n+3<=4611686018427387904)(o:eV z C a)(f:a.td=0)(F:a.kn=1->a.at_<=7->a.i=0)(j:a.kn=0)(g:a.at_=2):
 Calls Tryz.prog 226 #[.pointer (some ⟨p,0,none⟩)] w λe w'=>e=.returned (.int .i64 0)/\∃c',ae w' p 194 (c'.arr d)/\dK w B m d z p (n+cnt a) v on (pstep z C a) w' c':=by
 obtain⟨kind,av,D,b,t,E,A,nw,i,H,told,got⟩:=a;simp only at j g f;subst j g f;obtain⟨⟨K,L,s⟩,u⟩:=o;simp only[bd] at s u;refine(sC B m d z p n v on C _ w k r (by omega)).mono ?_;rintro e w' ⟨rfl,c⟩;refine⟨rfl,_,c.act,?_⟩;have l:aM C ((z:Int)+2)=1:=dR (by first|omega|(simp only[aO];omega)) (by first|omega|(simp only[aO];omega));replace c:=c.steps (n':=n+1) (yl (λx=>n+x) l);exact⟨v,c,_,rfl,by first|exact cj|exact df,rfl⟩
theorem Ft(B m d z p:Nat)(n:Int)(v on:Value)(C:List Int)(a:aC)(dv:Value)(w:World)(o:bZ w B m d z n v C on)(u:ae w p 194 ((aO a dv).arr d))(H:n+3<=4611686018427387904)(s:eV z C a)(j:a.td=0)(G:a.kn=1->a.at_<=7->a.i=0)(l:a.kn=0)(k:a.at_=3):
 Calls Tryz.prog 235 #[.pointer (some ⟨p,0,none⟩)] w λg w'=>g=.returned (.int .i64 0)/\∃c',ae w' p 194 (c'.arr d)/\dK w B m d z p (n+cnt a) v on (pstep z C a) w' c':=by
 obtain⟨kind,av,F,b,t,f,E,nw,i,K,told,got⟩:=a;simp only at l k j;subst l k j;obtain⟨⟨L,Q,D⟩,e⟩:=s;simp only[bd] at D e;refine(ue B m d z p n v on C _ w o u (by omega) e.1 e.2.1).mono ?_;rintro g w' ⟨rfl,c⟩;refine⟨rfl,_,c.act,?_⟩;have r:aM C f=1:=dR (by first|omega|(simp only[aO];omega)) (by first|omega|(simp only[aO];omega));replace c:=c.steps (n':=n+1) (yl (λx=>n+x) r);refine⟨v,c,_,rfl,by split<;>exact cj,?_⟩
 by_cases A:b-t≥ld C f<;>simp[jE,pstep,fB,goes,A,qO,aO]
theorem E7(B m d z p:Nat)(n:Int)(v on:Value)(C:List Int)(a:aC)(dv:Value)(w:World)(l:bZ w B m d z n v C on)(r:ae w p 194 ((aO a dv).arr d))(G:n+3<=4611686018427387904)(o:eV z C a)(f:a.td=0)(F:a.kn=1->a.at_<=7->a.i=0)(j:a.kn=0)(g:a.at_=10):
 Calls Tryz.prog 239 #[.pointer (some ⟨p,0,none⟩)] w λe w'=>e=.returned (.int .i64 0)/\∃c',ae w' p 194 (c'.arr d)/\dK w B m d z p (n+cnt a) v on (pstep z C a) w' c':=by
 obtain⟨kind,av,D,b,t,E,A,nw,i,H,told,got⟩:=a;simp only at j g f;subst j g f;obtain⟨⟨K,L,u⟩,c⟩:=o;simp only[bd] at u c;refine(tC B m d z p n v on C _ w l r (by omega) c.1 c.2.1 c.2.2 (by omega)).mono ?_;rintro e w' ⟨rfl,x,k⟩;refine⟨rfl,_,k.act,?_⟩;simp only[cnt,and_self,yR,Int.add_zero];refine⟨x,k,_,rfl,by split<;>exact cj,?_⟩
 by_cases s:t=b<;>simp[jE,pstep,fB,goes,s,qO,aO]
theorem Fa(B m d z p:Nat)(n:Int)(v on:Value)(C:List Int)(a:aC)(dv:Value)(w:World)(A:bZ w B m d z n v C on)(F:ae w p 194 ((aO a dv).arr d))(T:n+3<=4611686018427387904)(E:eV z C a)(l:a.td=0)(S:a.kn=1->a.at_<=7->a.i=0)(r:a.kn=0)(o:a.at_=11):
 Calls Tryz.prog 247 #[.pointer (some ⟨p,0,none⟩)] w λc w'=>c=.returned (.int .i64 0)/\∃c',ae w' p 194 (c'.arr d)/\dK w B m d z p (n+cnt a) v on (pstep z C a) w' c':=by
 obtain⟨kind,av,R,b,t,k,j,nw,i,Y,told,got⟩:=a;simp only at r o l;subst r o l;obtain⟨⟨Z,a0,Q⟩,g⟩:=E;simp only[ma,bd] at Q g;refine(tB B m d z p n v on C _ w A F (by omega) g.1 g.2.2.1 (by simp only[aO];omega) (by simp only[aO];omega) (by simp only[aO];omega)).mono ?_;rintro c w' ⟨rfl,s,u,G,H,K,L,e⟩;refine⟨rfl,_,e.act,?_⟩;have X:=fy (w:=k) (n:=j) (i:=i) (by omega);have D:aM C (ak k j i)=1:=dR (by omega) (by omega);replace e:=e.steps (n':=n+1) (yl (λx=>n+x) D);exact⟨v,e,_,rfl,(λf b1 b2 c=>by simp at c;obtain⟨_,rfl,rfl⟩:=c;exact K),s,u,rfl,G,H,L⟩
theorem Fc(B m d z p:Nat)(n:Int)(v on:Value)(C:List Int)(a:aC)(dv:Value)(w:World)(l:bZ w B m d z n v C on)(s:ae w p 194 ((aO a dv).arr d))(G:n+3<=4611686018427387904)(r:eV z C a)(f:a.td=0)(F:a.kn=1->a.at_<=7->a.i=0)(j:a.kn=0)(g:a.at_=13):
 Calls Tryz.prog 246 #[.pointer (some ⟨p,0,none⟩)] w λe w'=>e=.returned (.int .i64 0)/\∃c',ae w' p 194 (c'.arr d)/\dK w B m d z p (n+cnt a) v on (pstep z C a) w' c':=by
 obtain⟨kind,av,D,b,t,E,A,nw,i,H,told,got⟩:=a;simp only at j g f;subst j g f;obtain⟨⟨K,L,u⟩,k⟩:=r;simp only[bd] at u k;refine(sx B m d z p n v on C _ w l s (by omega) k.1 (by simp only[aO];omega)).mono ?_;rintro e w' ⟨rfl,c⟩;refine⟨rfl,_,c.act,?_⟩;have o:aM C ((z:Int)+2)=1:=dR (by first|omega|(simp only[aO];omega)) (by first|omega|(simp only[aO];omega));replace c:=c.steps (n':=n+1) (yl (λx=>n+x) o);exact⟨v,c,_,rfl,by first|exact cj|exact df,rfl⟩
theorem Fd(B m d z p:Nat)(n:Int)(v on:Value)(C:List Int)(a:aC)(dv:Value)(w:World)(r:bZ w B m d z n v C on)(A:ae w p 194 ((aO a dv).arr d))(G:n+3<=4611686018427387904)(u:eV z C a)(k:a.td=0)(F:a.kn=1->a.at_<=7->a.i=0)(o:a.kn=0)(l:a.at_=20):
 Calls Tryz.prog 240 #[.pointer (some ⟨p,0,none⟩)] w λj w'=>j=.returned (.int .i64 0)/\∃c',ae w' p 194 (c'.arr d)/\dK w B m d z p (n+cnt a) v on (pstep z C a) w' c':=by
 obtain⟨kind,av,E,b,t,g,f,nw,i,K,told,got⟩:=a;simp only at o l k;subst o l k;obtain⟨⟨L,Q,D⟩,e⟩:=u;simp only[ma,bd] at D e;refine(sA B m d z p n v on C _ w r A (by omega) e.1 e.2.2.1 (by simp only[aO];omega) (by simp only[aO];omega) (by simp only[aO];omega) e.2.2.2.2.1).mono ?_;rintro j w' ⟨rfl,c⟩;refine⟨rfl,_,c.act,?_⟩;have H:=fy (w:=g) (n:=f) (i:=b) (by omega);have s:aM C (ak g f b)=1:=dR (by omega) (by omega);replace c:=c.steps (n':=n+1) (yl (λx=>n+x) s);exact⟨v,c,_,rfl,by first|exact cj|exact df,rfl⟩
theorem Fe(B m d z p:Nat)(n:Int)(v on:Value)(C:List Int)(a:aC)(dv:Value)(w:World)(l:bZ w B m d z n v C on)(r:ae w p 194 ((aO a dv).arr d))(E:n+3<=4611686018427387904)(o:eV z C a)(e:a.td=0)(D:a.kn=1->a.at_<=7->a.i=0)(g:a.kn=0)(f:a.at_=21):
 Calls Tryz.prog 244 #[.pointer (some ⟨p,0,none⟩)] w λc w'=>c=.returned (.int .i64 0)/\∃c',ae w' p 194 (c'.arr d)/\dK w B m d z p (n+cnt a) v on (pstep z C a) w' c':=by
 obtain⟨kind,av,x,b,t,A,u,nw,i,F,told,got⟩:=a;simp only at g f e;subst g f e;obtain⟨⟨G,H,s⟩,k⟩:=o;simp only[bd] at s k;refine(ud B m d z p n v on C _ w l r (by omega) (by omega) k).mono ?_;rintro c w' ⟨rfl,j⟩;refine⟨rfl,_,j.act,?_⟩;exact⟨v,j,_,rfl,by first|exact cj|exact df,rfl⟩
theorem Fu(B m d z p:Nat)(n:Int)(v on:Value)(C:List Int)(a:aC)(dv:Value)(w:World)(l:bZ w B m d z n v C on)(s:ae w p 194 ((aO a dv).arr d))(G:n+3<=4611686018427387904)(r:eV z C a)(f:a.td=0)(F:a.kn=1->a.at_<=7->a.i=0)(j:a.kn=1)(g:a.at_=0):
 Calls Tryz.prog 96 #[.pointer (some ⟨p,0,none⟩)] w λe w'=>e=.returned (.int .i64 0)/\∃c',ae w' p 194 (c'.arr d)/\dK w B m d z p (n+cnt a) v on (pstep z C a) w' c':=by
 obtain⟨kind,av,D,b,t,E,A,nw,i,H,told,got⟩:=a;simp only at j g f;subst j g f;obtain⟨⟨K,L,k⟩,u⟩:=r;simp only[bd] at k u;refine(sy B m d z p n v on C _ w l s (by omega) k).mono ?_;rintro e w' ⟨rfl,c⟩;refine⟨rfl,_,c.act,?_⟩;have o:aM C ((z:Int)+1)=1:=dR (by first|omega|(simp only[aO];omega)) (by first|omega|(simp only[aO];omega));replace c:=c.steps (n':=n+1) (yl (λx=>n+x) o);exact⟨v,c,_,rfl,by first|exact cj|exact df,rfl⟩
theorem Fv(B m d z p:Nat)(n:Int)(v on:Value)(C:List Int)(a:aC)(dv:Value)(w:World)(k:bZ w B m d z n v C on)(r:ae w p 194 ((aO a dv).arr d))(G:n+3<=4611686018427387904)(o:eV z C a)(f:a.td=0)(F:a.kn=1->a.at_<=7->a.i=0)(j:a.kn=1)(g:a.at_=1):
 Calls Tryz.prog 144 #[.pointer (some ⟨p,0,none⟩)] w λe w'=>e=.returned (.int .i64 0)/\∃c',ae w' p 194 (c'.arr d)/\dK w B m d z p (n+cnt a) v on (pstep z C a) w' c':=by
 obtain⟨kind,av,D,b,t,E,A,nw,i,H,told,got⟩:=a;simp only at j g f;subst j g f;obtain⟨⟨K,L,s⟩,u⟩:=o;simp only[bd] at s u;refine(tZ B m d z p n v on C _ w k r (by omega)).mono ?_;rintro e w' ⟨rfl,c⟩;refine⟨rfl,_,c.act,?_⟩;have l:aM C ((z:Int)+2)=1:=dR (by first|omega|(simp only[aO];omega)) (by first|omega|(simp only[aO];omega));replace c:=c.steps (n':=n+1) (yl (λx=>n+x) l);exact⟨v,c,_,rfl,by first|exact cj|exact df,rfl⟩
theorem Fw(B m d z p:Nat)(n:Int)(v on:Value)(C:List Int)(a:aC)(dv:Value)(w:World)(k:bZ w B m d z n v C on)(o:ae w p 194 ((aO a dv).arr d))(E:n+3<=4611686018427387904)(l:eV z C a)(e:a.td=0)(D:a.kn=1->a.at_<=7->a.i=0)(g:a.kn=1)(f:a.at_=2):
 Calls Tryz.prog 180 #[.pointer (some ⟨p,0,none⟩)] w λc w'=>c=.returned (.int .i64 0)/\∃c',ae w' p 194 (c'.arr d)/\dK w B m d z p (n+cnt a) v on (pstep z C a) w' c':=by
 obtain⟨kind,av,x,b,t,A,u,nw,i,F,told,got⟩:=a;simp only at g f e;subst g f e;obtain⟨⟨G,H,r⟩,s⟩:=l;simp only[bd] at r s;refine(tX B m d z p n v on C _ w k o (by omega) (by omega)).mono ?_;rintro c w' ⟨rfl,j⟩;refine⟨rfl,_,j.act,?_⟩;exact⟨v,j,_,rfl,by first|exact cj|exact df,rfl⟩
theorem Fx(B m d z p:Nat)(n:Int)(v on:Value)(C:List Int)(a:aC)(dv:Value)(w:World)(k:bZ w B m d z n v C on)(r:ae w p 194 ((aO a dv).arr d))(H:n+3<=4611686018427387904)(o:eV z C a)(f:a.td=0)(G:a.kn=1->a.at_<=7->a.i=0)(j:a.kn=1)(g:a.at_=3):
 Calls Tryz.prog 213 #[.pointer (some ⟨p,0,none⟩)] w λe w'=>e=.returned (.int .i64 0)/\∃c',ae w' p 194 (c'.arr d)/\dK w B m d z p (n+cnt a) v on (pstep z C a) w' c':=by
 obtain⟨kind,av,E,b,t,F,D,nw,i,K,told,got⟩:=a;simp only at j g f;subst j g f;obtain⟨⟨L,Q,u⟩,A⟩:=o;simp only[bd] at u A;refine(wC B m d z p n v on C _ w k r (by omega)).mono ?_;rintro e w' ⟨rfl,c⟩;refine⟨rfl,_,c.act,?_⟩;have l:aM C (z:Int)=1:=dR (by first|omega|(simp only[aO];omega)) (by first|omega|(simp only[aO];omega));replace c:=c.steps (n':=n+1) (yl (λx=>n+x) l);refine⟨v,c,_,rfl,by split<;>exact cj,?_⟩
 by_cases s:ld C (z:Int) > b<;>simp[jE,pstep,cM,goes,s,qO,aO]
theorem Fy(B m d z p:Nat)(n:Int)(v on:Value)(C:List Int)(a:aC)(dv:Value)(w:World)(l:bZ w B m d z n v C on)(s:ae w p 194 ((aO a dv).arr d))(F:n+3<=4611686018427387904)(o:eV z C a)(e:a.td=0)(r:a.kn=1->a.at_<=7->a.i=0)(g:a.kn=1)(f:a.at_=4):
 Calls Tryz.prog 229 #[.pointer (some ⟨p,0,none⟩)] w λc w'=>c=.returned (.int .i64 0)/\∃c',ae w' p 194 (c'.arr d)/\dK w B m d z p (n+cnt a) v on (pstep z C a) w' c':=by
 obtain⟨kind,av,D,b,t,E,A,nw,i,G,told,got⟩:=a;simp only at g f e;subst g f e;obtain⟨⟨H,K,x⟩,k⟩:=o;simp only[bd] at x k;refine(pP B m d z p n v on C _ w l s (by omega) (by omega) k).mono ?_;rintro c w' ⟨rfl,j⟩;refine⟨rfl,_,j.act,?_⟩;have u:i=0:=r rfl (show(4:Nat)<=7 by decide);subst u;exact⟨v,j,_,rfl,by first|exact cj|exact df,rfl⟩
theorem Fz(B m d z p:Nat)(n:Int)(v on:Value)(C:List Int)(a:aC)(dv:Value)(w:World)(l:bZ w B m d z n v C on)(s:ae w p 194 ((aO a dv).arr d))(G:n+3<=4611686018427387904)(r:eV z C a)(f:a.td=0)(F:a.kn=1->a.at_<=7->a.i=0)(j:a.kn=1)(g:a.at_=5):
 Calls Tryz.prog 230 #[.pointer (some ⟨p,0,none⟩)] w λe w'=>e=.returned (.int .i64 0)/\∃c',ae w' p 194 (c'.arr d)/\dK w B m d z p (n+cnt a) v on (pstep z C a) w' c':=by
 obtain⟨kind,av,E,b,t,k,D,nw,i,H,told,got⟩:=a;simp only at j g f;subst j g f;obtain⟨⟨K,L,u⟩,A⟩:=r;simp only[bd] at u A;refine(uO B m d z p n v on C _ w l s (by omega)).mono ?_;rintro e w' ⟨rfl,c⟩;refine⟨rfl,_,c.act,?_⟩;have o:aM C k=1:=dR (by first|omega|(simp only[aO];omega)) (by first|omega|(simp only[aO];omega));replace c:=c.steps (n':=n+1) (yl (λx=>n+x) o);exact⟨v,c,_,rfl,by first|exact cj|exact df,rfl⟩
theorem FA(B m d z p:Nat)(n:Int)(v on:Value)(C:List Int)(a:aC)(dv:Value)(w:World)(u:bZ w B m d z n v C on)(E:ae w p 194 ((aO a dv).arr d))(K:n+3<=4611686018427387904)(D:eV z C a)(o:a.td=0)(H:a.kn=1->a.at_<=7->a.i=0)(s:a.kn=1)(r:a.at_=6):
 Calls Tryz.prog 236 #[.pointer (some ⟨p,0,none⟩)] w λl w'=>l=.returned (.int .i64 0)/\∃c',ae w' p 194 (c'.arr d)/\dK w B m d z p (n+cnt a) v on (pstep z C a) w' c':=by
 obtain⟨kind,av,G,b,t,k,j,nw,i,Q,told,got⟩:=a;simp only at s r o;subst s r o;obtain⟨⟨R,S,F⟩,f⟩:=D;simp only[ma,bd] at F f;refine(tY B m d z p n v on C _ w u E (by omega) f.1.1 f.1.2.2.1 (by simp only[aO];omega) (by simp only[aO];omega) (by simp only[aO];omega) (by simp only[aO];omega) f.2).mono ?_;rintro l w' ⟨rfl,c⟩;refine⟨rfl,_,c.act,?_⟩;have L:=fy (w:=k) (n:=j) (i:=b) (by omega);have A:aM C (ak k j b)=1:=dR (by omega) (by omega);replace c:=c.steps (n':=n+1) (yl (λx=>n+x) A)
 by_cases e:t<b
 ·have g:t<(if (1:Nat)=2 then 0 else b):=by first|exact e|simp[e]
  simp only[aO,yf g] at c ⊢;simp only[dK,pstep,cM,yf e];exact⟨v,c,.nilFunc,by simp[aO,over],df,rfl⟩
 ·have g:¬t<(if (1:Nat)=2 then 0 else b):=by first|exact e|simp[e]
  simp only[aO,yb g] at c ⊢;simp only[dK,pstep,cM,yb e];exact⟨v,c,de 241 p,by simp[aO,goes],cj,rfl⟩
theorem FB(B m d z p:Nat)(n:Int)(v on:Value)(C:List Int)(a:aC)(dv:Value)(w:World)(o:bZ w B m d z n v C on)(s:ae w p 194 ((aO a dv).arr d))(F:n+3<=4611686018427387904)(r:eV z C a)(g:a.td=0)(E:a.kn=1->a.at_<=7->a.i=0)(k:a.kn=1)(j:a.at_=7):
 Calls Tryz.prog 241 #[.pointer (some ⟨p,0,none⟩)] w λf w'=>f=.returned (.int .i64 0)/\∃c',ae w' p 194 (c'.arr d)/\dK w B m d z p (n+cnt a) v on (pstep z C a) w' c':=by
 obtain⟨kind,av,A,b,t,D,x,nw,i,G,told,got⟩:=a;simp only at k j g;subst k j g;obtain⟨⟨H,K,u⟩,l⟩:=r;simp only[bd] at u l;refine(uP B m d z p n v on C _ w o s (by omega) (by omega) l).mono ?_;rintro f w' ⟨rfl,e⟩;refine⟨rfl,_,e.act,?_⟩
 by_cases c:ld C (z:Int)=t
 ·simp only[aO,yf c,yg c] at e ⊢
  simp only[dK,pstep,cM,yf c];exact⟨v,e,_,rfl,by first|exact cj|exact df,rfl⟩
 ·simp only[aO,yb c,yd c] at e ⊢
  simp only[dK,pstep,cM,yb c];exact⟨v,e,_,rfl,by first|exact cj|exact df,rfl⟩
theorem FC(B m d z p:Nat)(n:Int)(v on:Value)(C:List Int)(a:aC)(dv:Value)(w:World)(r:bZ w B m d z n v C on)(u:ae w p 194 ((aO a dv).arr d))(G:n+3<=4611686018427387904)(s:eV z C a)(j:a.td=0)(F:a.kn=1->a.at_<=7->a.i=0)(l:a.kn=1)(k:a.at_=8):
 Calls Tryz.prog 229 #[.pointer (some ⟨p,0,none⟩)] w λg w'=>g=.returned (.int .i64 0)/\∃c',ae w' p 194 (c'.arr d)/\dK w B m d z p (n+cnt a) v on (pstep z C a) w' c':=by
 obtain⟨kind,av,D,b,t,E,A,nw,i,H,told,got⟩:=a;simp only at l k j;subst l k j;obtain⟨⟨K,L,x⟩,o⟩:=s;simp only[bd] at x o;refine(pP B m d z p n v on C _ w r u (by omega) (by omega) o).mono ?_;rintro g w' ⟨rfl,e⟩;refine⟨rfl,_,e.act,?_⟩
 by_cases c:i=1
 ·have f:decide (True/\i=1)=true:=by first|exact c|simp[c]
  simp only[aO,yf f] at e ⊢;simp only[dK,pstep,cM,yf c];exact⟨v,e,.nilFunc,by simp[aO,over],df,rfl⟩
 ·have f:¬decide (True/\i=1)=true:=by first|exact c|simp[c]
  simp only[aO,yb f] at e ⊢;simp only[dK,pstep,cM,yb c];exact⟨v,e,.nilFunc,by simp[aO,over],df,rfl⟩
theorem FD(B m d z p:Nat)(n:Int)(v on:Value)(C:List Int)(a:aC)(dv:Value)(w:World)(k:bZ w B m d z n v C on)(r:ae w p 194 ((aO a dv).arr d))(G:n+3<=4611686018427387904)(o:eV z C a)(f:a.td=0)(F:a.kn=1->a.at_<=7->a.i=0)(j:a.kn=2)(g:a.at_=0):
 Calls Tryz.prog 137 #[.pointer (some ⟨p,0,none⟩)] w λe w'=>e=.returned (.int .i64 0)/\∃c',ae w' p 194 (c'.arr d)/\dK w B m d z p (n+cnt a) v on (pstep z C a) w' c':=by
 obtain⟨kind,av,D,b,t,E,A,nw,i,H,told,got⟩:=a;simp only at j g f;subst j g f;obtain⟨⟨K,L,s⟩,u⟩:=o;simp only[bd] at s u;refine(ut B m d z p n v on C _ w k r (by omega)).mono ?_;rintro e w' ⟨rfl,c⟩;refine⟨rfl,_,c.act,?_⟩;have l:aM C (z:Int)=1:=dR (by first|omega|(simp only[aO];omega)) (by first|omega|(simp only[aO];omega));replace c:=c.steps (n':=n+1) (yl (λx=>n+x) l);exact⟨v,c,_,rfl,by first|exact cj|exact df,rfl⟩
theorem FE(B m d z p:Nat)(n:Int)(v on:Value)(C:List Int)(a:aC)(dv:Value)(w:World)(l:bZ w B m d z n v C on)(s:ae w p 194 ((aO a dv).arr d))(H:n+3<=4611686018427387904)(r:eV z C a)(g:a.td=0)(G:a.kn=1->a.at_<=7->a.i=0)(k:a.kn=2)(j:a.at_=1):
 Calls Tryz.prog 168 #[.pointer (some ⟨p,0,none⟩)] w λf w'=>f=.returned (.int .i64 0)/\∃c',ae w' p 194 (c'.arr d)/\dK w B m d z p (n+cnt a) v on (pstep z C a) w' c':=by
 obtain⟨kind,av,E,b,t,F,D,nw,i,K,told,got⟩:=a;simp only at k j g;subst k j g;obtain⟨⟨L,Q,u⟩,A⟩:=r;simp only[bd] at u A;refine(qZ B m d z p n v on C _ w l s (by omega)).mono ?_;rintro f w' ⟨rfl,c⟩;refine⟨rfl,_,c.act,?_⟩;have o:aM C ((z:Int)+1)=1:=dR (by first|omega|(simp only[aO];omega)) (by first|omega|(simp only[aO];omega));replace c:=c.steps (n':=n+1) (yl (λx=>n+x) o)
 by_cases e:t≥ld C ((z:Int)+1)
 ·simp only[aO,yf e] at c ⊢
  simp only[dK,pstep,bl,yf e];exact⟨v,c,_,rfl,by first|exact cj|exact df,rfl⟩
 ·simp only[aO,yb e] at c ⊢
  simp only[dK,pstep,bl,yb e];exact⟨v,c,_,rfl,by first|exact cj|exact df,rfl⟩
theorem FF(B m d z p:Nat)(n:Int)(v on:Value)(C:List Int)(a:aC)(dv:Value)(w:World)(k:bZ w B m d z n v C on)(r:ae w p 194 ((aO a dv).arr d))(G:n+3<=4611686018427387904)(o:eV z C a)(f:a.td=0)(F:a.kn=1->a.at_<=7->a.i=0)(j:a.kn=2)(g:a.at_=2):
 Calls Tryz.prog 208 #[.pointer (some ⟨p,0,none⟩)] w λe w'=>e=.returned (.int .i64 0)/\∃c',ae w' p 194 (c'.arr d)/\dK w B m d z p (n+cnt a) v on (pstep z C a) w' c':=by
 obtain⟨kind,av,D,b,t,E,A,nw,i,H,told,got⟩:=a;simp only at j g f;subst j g f;obtain⟨⟨K,L,s⟩,u⟩:=o;simp only[bd] at s u;refine(rL B m d z p n v on C _ w k r (by omega)).mono ?_;rintro e w' ⟨rfl,c⟩;refine⟨rfl,_,c.act,?_⟩;have l:aM C ((z:Int)+2)=1:=dR (by first|omega|(simp only[aO];omega)) (by first|omega|(simp only[aO];omega));replace c:=c.steps (n':=n+1) (yl (λx=>n+x) l);exact⟨v,c,_,rfl,by first|exact cj|exact df,rfl⟩
theorem FG(B m d z p:Nat)(n:Int)(v on:Value)(C:List Int)(a:aC)(dv:Value)(w:World)(l:bZ w B m d z n v C on)(s:ae w p 194 ((aO a dv).arr d))(G:n+3<=4611686018427387904)(r:eV z C a)(f:a.td=0)(F:a.kn=1->a.at_<=7->a.i=0)(j:a.kn=2)(g:a.at_=3):
 Calls Tryz.prog 225 #[.pointer (some ⟨p,0,none⟩)] w λe w'=>e=.returned (.int .i64 0)/\∃c',ae w' p 194 (c'.arr d)/\dK w B m d z p (n+cnt a) v on (pstep z C a) w' c':=by
 obtain⟨kind,av,E,b,t,k,D,nw,i,H,told,got⟩:=a;simp only at j g f;subst j g f;obtain⟨⟨K,L,u⟩,A⟩:=r;simp only[bd] at u A;refine(sD B m d z p n v on C _ w l s (by omega)).mono ?_;rintro e w' ⟨rfl,c⟩;refine⟨rfl,_,c.act,?_⟩;have o:aM C k=1:=dR (by first|omega|(simp only[aO];omega)) (by first|omega|(simp only[aO];omega));replace c:=c.steps (n':=n+1) (yl (λx=>n+x) o);exact⟨v,c,_,rfl,by first|exact cj|exact df,rfl⟩
theorem FH(B m d z p:Nat)(n:Int)(v on:Value)(C:List Int)(a:aC)(dv:Value)(w:World)(r:bZ w B m d z n v C on)(A:ae w p 194 ((aO a dv).arr d))(G:n+3<=4611686018427387904)(u:eV z C a)(k:a.td=0)(F:a.kn=1->a.at_<=7->a.i=0)(o:a.kn=2)(l:a.at_=4):
 Calls Tryz.prog 234 #[.pointer (some ⟨p,0,none⟩)] w λj w'=>j=.returned (.int .i64 0)/\∃c',ae w' p 194 (c'.arr d)/\dK w B m d z p (n+cnt a) v on (pstep z C a) w' c':=by
 obtain⟨kind,av,E,b,t,g,f,nw,i,K,told,got⟩:=a;simp only at o l k;subst o l k;obtain⟨⟨L,Q,D⟩,e⟩:=u;simp only[ma,bd] at D e;refine(rK B m d z p n v on C _ w r A (by omega) e.1 e.2.2.1 (by simp only[aO];omega) (by simp only[aO];omega) (by simp only[aO];omega)).mono ?_;rintro j w' ⟨rfl,c⟩;refine⟨rfl,_,c.act,?_⟩;have H:=fy (w:=g) (n:=f) (i:=t) (by omega);have s:aM C (ak g f t)=1:=dR (by omega) (by omega);replace c:=c.steps (n':=n+1) (yl (λx=>n+x) s);exact⟨v,c,_,rfl,by first|exact cj|exact df,rfl⟩
theorem FI(B m d z p:Nat)(n:Int)(v on:Value)(C:List Int)(a:aC)(dv:Value)(w:World)(o:bZ w B m d z n v C on)(s:ae w p 194 ((aO a dv).arr d))(F:n+3<=4611686018427387904)(r:eV z C a)(g:a.td=0)(E:a.kn=1->a.at_<=7->a.i=0)(k:a.kn=2)(j:a.at_=5):
 Calls Tryz.prog 238 #[.pointer (some ⟨p,0,none⟩)] w λf w'=>f=.returned (.int .i64 0)/\∃c',ae w' p 194 (c'.arr d)/\dK w B m d z p (n+cnt a) v on (pstep z C a) w' c':=by
 obtain⟨kind,av,A,b,t,D,x,nw,i,G,told,got⟩:=a;simp only at k j g;subst k j g;obtain⟨⟨H,K,u⟩,l⟩:=r;simp only[bd] at u l;refine(sE B m d z p n v on C _ w o s (by omega) (by omega) l).mono ?_;rintro f w' ⟨rfl,c⟩;refine⟨rfl,_,c.act,?_⟩
 by_cases e:ld C (z:Int)=t
 ·simp only[aO,yf e] at c ⊢
  simp only[dK,pstep,bl,yf e];exact⟨v,c,_,rfl,by first|exact cj|exact df,rfl⟩
 ·simp only[aO,yb e] at c ⊢
  simp only[dK,pstep,bl,yb e];exact⟨v,c,_,rfl,by first|exact cj|exact df,rfl⟩
set_option maxRecDepth 100000
theorem jE.kp{w w':World}{p:Nat}{v r:Value}{a:aC}{dv:Value}{S:Nat->Prop}(b:jE w p v a dv)(j:aa S w w')(x:∀d (cs:Array Value),ae w d 125 cs->¬S d)(hv:∀c (cs:Array Value),ae w c 2 cs->v.ownBlock≠some c->¬S c)
 (u:∀k,r.ownBlock=some k->v.ownBlock=some k\/w.heap.size<=k):jE w' p r a dv:=by
 unfold jE at b ⊢;split at b
 ·rename_i e
  rw[yf e];split at b
  ·rename_i f
   rw[yf f];obtain⟨d,c,s,l,g,o⟩:=b;refine⟨d,c,s,j.J l (x _ _ l),j.J g (hv _ _ g o),λt=>?_⟩
   rcases u _ t with i|i
   ·exact o i
   ·have:=g.lt;omega
  ·rename_i f
   rw[yb f];exact b
 ·rename_i e
  rw[yb e];exact b
structure qt(w:World)(B m d z p:Nat)(n:Int)(v on:Value)(r:jX)(w':World)(v':Value):Prop where
 dq:bZ w' B m d z n v' r.C on
 act:lC w' p d v' r.a
 only:aa (λx=>bL m v x\/x=d\/x=p) w w'
 row:∀k,v'.ownBlock=some k->v.ownBlock=some k\/w.heap.size<=k
 new:∃dv,ae w' p 194 ((aO r.a dv).arr d)/\vx w dv
theorem wJ{d:Int}{C:List Int}{a:aC}(e:a.td=0)(c:a.got=0):(pstep d C a).what=(pstep d C a).a.td/\(pstep d C a).val=(pstep d C a).a.got/\(pstep d C a).a.kn=a.kn/\((pstep d C a).a.td=0->(pstep d C a).a.got=0):=by
 have g:∀(b:aC) (k:Nat) (C':List Int),b.td=0->b.got=0->b.kn=a.kn->(goes b k C').what=(goes b k C').a.td/\(goes b k C').val=(goes b k C').a.got/\(goes b k C').a.kn=a.kn/\((goes b k C').a.td=0->(goes b k C').a.got=0):=by
  intro b k C' l i f;exact⟨l.symm,i.symm,f,λ_=>i⟩
 have hv:∀(b:aC) (k:Nat) (x:Int) (C':List Int),b.kn=a.kn->k≠0->(over b k x C').what=(over b k x C').a.td/\(over b k x C').val=(over b k x C').a.got/\(over b k x C').a.kn=a.kn/\((over b k x C').a.td=0->(over b k x C').a.got=0):=by
  intro b k x C' f o;exact⟨rfl,rfl,f,λj=>absurd j o⟩
 unfold pstep;split
 ·unfold fB
  split<;>first|exact g _ _ _ e c rfl|exact hv _ _ _ _ rfl (by decide)
 ·unfold cM
  split<;>(try split)<;>first|exact g _ _ _ e c rfl|exact hv _ _ _ _ rfl (by decide)
 ·unfold bl
  split<;>(try split)<;>first|exact g _ _ _ e c rfl|exact hv _ _ _ _ rfl (by decide)
theorem CT{d:Int}{C:List Int}{a:aC}(g:a.kn=1->a.at_<=7->a.i=0):(pstep d C a).a.kn=1->(pstep d C a).a.at_<=7->(pstep d C a).a.i=0:=by
 obtain⟨kind,av,k,b,t,l,j,nw,i,p,told,got⟩:=a;simp only at g;unfold pstep;split
 ·rename_i c
  intro e;exfalso;simp only at c;subst c;revert e;unfold fB;split<;>simp[goes,over]
 ·rename_i c
  simp only at c;subst c;unfold cM;split<;>(try split)<;>simp_all [goes,over]
 ·rename_i o e
  intro c;exfalso;simp only at e;revert c;unfold bl;split<;>(try split)<;>simp[goes,over]<;>exact λf=>e f
theorem AF{w g w':World}{B m d z p:Nat}{n:Int}{v on:Value}{C:List Int}{a:aC}{c:AC}(u:a.td=0)(s:a.got=0)(A:a.kn=1->a.at_<=7->a.i=0)(E:a.kn<=2)(t:dK w B m d z p n v on (pstep z C a) g c)(f:aa (λ_=>False) g w'):
 (.tuple #[.int .u8 c.wh,.int .i64 c.x,.int .i64 0]:Value)=.tuple #[.int .u8 ((pstep z C a).what:Int),.int .i64 (pstep z C a).val,.int .i64 0]/\∃e,qt w B m d z p n v on (pstep z C a) w' e:=by
 obtain⟨e,F,dv,rfl,H,G⟩:=t;obtain⟨j,k,l,o⟩:=wJ (d:=z) (C:=C) u s;have D:=CT (d:=z) (C:=C) A;generalize pstep z C a=r at*;have q:=F.quiet f;refine⟨by simp only[aO];rw[j,k],e,q.dq,⟨⟨dv,q.act,G.kp f (λ_ _ _ b=>b) (λ_ _ _ _ b=>b) (λ_ b=>.inl b)⟩,D,o,by rw[l];exact E⟩,q.only,q.row,dv,q.act,H⟩
def Dw(a:aC):Prop:=
 a.kn=0/\(a.at_=0\/a.at_=1\/a.at_=2\/a.at_=3\/a.at_=10\/a.at_=11\/a.at_=12\/a.at_=13\/a.at_=20\/a.at_=21)\/
 a.kn=1/\(a.at_=0\/a.at_=1\/a.at_=2\/a.at_=3\/a.at_=4\/a.at_=5\/a.at_=6\/a.at_=7\/a.at_=8)\/
 a.kn=2/\(a.at_=0\/a.at_=1\/a.at_=2\/a.at_=3\/a.at_=4\/a.at_=5)
theorem Fb(B m d z p:Nat)(n:Int)(v on:Value)(C:List Int)(a:aC)(dv:Value)(w:World)(s:bZ w B m d z n v C on)(G:ae w p 194 ((aO a dv).arr d))(F:n+3<=4611686018427387904)(A:eV z C a)(k:a.td=0)(T:a.kn=1->a.at_<=7->a.i=0)(o:a.kn=0)(l:a.at_=12)(f c:Nat)(D:ae w f 125 #[.pointer (some ⟨p,0,none⟩)])(E:ae w c 2 #[.int .i64 a.read])(K:v.ownBlock≠some c):
 Calls Tryz.prog 248 #[.pointer (some ⟨f,0,none⟩),.pointer (some ⟨c,0,none⟩)] w λj w'=>j=.returned (.int .i64 0)/\∃c',ae w' p 194 (c'.arr d)/\dK w B m d z p (n+cnt a) v on (pstep z C a) w' c':=by
 obtain⟨kind,av,R,b,t,S,g,nw,i,L,told,got⟩:=a;simp only at o l k;subst o l k;obtain⟨⟨Y,Z,Q⟩,r⟩:=A;simp only[ma,bd] at Q r;refine(sw f c L B m d z p n v on C _ w s G (by omega) D E K r.1 (by simp only[aO];omega) (by simp only[aO];omega) (by simp only[aO];omega) (by simp only[aO];omega) (by simp only[aO,yR];omega) (by simp only[aO];omega) F).mono ?_;rintro j w' ⟨rfl,e⟩;refine⟨rfl,_,e.act,?_⟩;have X:=fy (w:=nw) (n:=2*g) (i:=i) (by omega);have u:aM C (ak nw (2*g) i)=1:=dR (by omega) (by omega);replace e:=e.steps (n':=n+1) (yl (λx=>n+x) u);refine⟨v,e,_,rfl,by split<;>exact cj,?_⟩
 by_cases H:i+1=b<;>simp[jE,pstep,fB,goes,H,qO,aO]
theorem xF(B m d z p:Nat)(n:Int)(v on:Value)(C:List Int)(a:aC)(w:World)(j:bZ w B m d z n v C on)(b:lC w p d v a)(o:n+3<=4611686018427387904)(l:eV z C a)(f:a.td=0)(G:Dw a):
 Calls Tryz.prog 83 #[.pointer (some ⟨p,0,none⟩)] w λs w'=>s=.returned (.tuple #[.int .u8 ((pstep z C a).what:Int),.int .i64 (pstep z C a).val,.int .i64 0])/\∃u,qt w B m d z p (n+cnt a) v on (pstep z C a) w' u:=by
 obtain⟨⟨dv,g,c⟩,i,K,L⟩:=b
 have gE:∀(s:Ending) (w':World),(∃c' D,s=.returned (.tuple #[.int .u8 c'.wh,.int .i64 c'.x,.int .i64 0])/\dK w B m d z p (n+cnt a) v on (pstep z C a) D c'/\aa (λ_=>False) D w')->s=.returned (.tuple #[.int .u8 ((pstep z C a).what:Int),.int .i64 (pstep z C a).val,.int .i64 0])/\∃u,qt w B m d z p (n+cnt a) v on (pstep z C a) w' u:=by
  rintro s w' ⟨c',D,rfl,X,Y⟩;obtain⟨Z,a0⟩:=AF f (K f) i L X Y;exact⟨by rw[Z],a0⟩
 have r:∀(t:Nat),(∀w,(callFunc t #[.pointer (some ⟨p,0,none⟩)]).run Tryz.prog w=.ok (.enter t #[.pointer (some ⟨p,0,none⟩)]) w)->dv=de t p->
  (Calls Tryz.prog t #[.pointer (some ⟨p,0,none⟩)] w λs w'=>s=.returned (.int .i64 0)/\∃c',ae w' p 194 (c'.arr d)/\dK w B m d z p (n+cnt a) v on (pstep z C a) w' c')->
  Calls Tryz.prog 83 #[.pointer (some ⟨p,0,none⟩)] w λs w'=>s=.returned (.tuple #[.int .u8 ((pstep z C a).what:Int),.int .i64 (pstep z C a).val,.int .i64 0])/\∃u,qt w B m d z p (n+cnt a) v on (pstep z C a) w' u:=by
  intro t H A Q;refine(uv p d t #[.pointer (some ⟨p,0,none⟩)] #[] _ w _ g A H Q).mono ?_;exact λs w' k=>gE s w' k
 unfold jE at c;rw[yf f] at c
 rcases G with⟨e,b⟩|⟨e,b⟩|⟨e,b⟩
 ·rcases b with b|b|b|b|b|b|b|b|b|b
  ·rw[yb (by omega),e,b] at c
   exact r 178 (λ_=>by kernel_rfl) c (Fp B m d z p n v on C a dv w j g o l f i e b)
  ·rw[yb (by omega),e,b] at c
   exact r 210 (λ_=>by kernel_rfl) c (Fq B m d z p n v on C a dv w j g o l f i e b)
  ·rw[yb (by omega),e,b] at c
   exact r 226 (λ_=>by kernel_rfl) c (Fs B m d z p n v on C a dv w j g o l f i e b)
  ·rw[yb (by omega),e,b] at c
   exact r 235 (λ_=>by kernel_rfl) c (Ft B m d z p n v on C a dv w j g o l f i e b)
  ·rw[yb (by omega),e,b] at c
   exact r 239 (λ_=>by kernel_rfl) c (E7 B m d z p n v on C a dv w j g o l f i e b)
  ·rw[yb (by omega),e,b] at c
   exact r 247 (λ_=>by kernel_rfl) c (Fa B m d z p n v on C a dv w j g o l f i e b)
  ·rw[yf ⟨e,b⟩] at c
   obtain⟨E,F,A,R,S,T⟩:=c;refine(uv p d 248 #[] #[.pointer (some ⟨E,0,none⟩),.pointer (some ⟨F,0,none⟩)] _ w _ g A (λ_=>by kernel_rfl) (Fb B m d z p n v on C a dv w j g o l f i e b E F R S T)).mono ?_;exact λs w' k=>gE s w' k
  ·rw[yb (by omega),e,b] at c
   exact r 246 (λ_=>by kernel_rfl) c (Fc B m d z p n v on C a dv w j g o l f i e b)
  ·rw[yb (by omega),e,b] at c
   exact r 240 (λ_=>by kernel_rfl) c (Fd B m d z p n v on C a dv w j g o l f i e b)
  ·rw[yb (by omega),e,b] at c
   exact r 244 (λ_=>by kernel_rfl) c (Fe B m d z p n v on C a dv w j g o l f i e b)
 ·rcases b with b|b|b|b|b|b|b|b|b
  ·rw[yb (by omega),e,b] at c
   exact r 96 (λ_=>by kernel_rfl) c (Fu B m d z p n v on C a dv w j g o l f i e b)
  ·rw[yb (by omega),e,b] at c
   exact r 144 (λ_=>by kernel_rfl) c (Fv B m d z p n v on C a dv w j g o l f i e b)
  ·rw[yb (by omega),e,b] at c
   exact r 180 (λ_=>by kernel_rfl) c (Fw B m d z p n v on C a dv w j g o l f i e b)
  ·rw[yb (by omega),e,b] at c
   exact r 213 (λ_=>by kernel_rfl) c (Fx B m d z p n v on C a dv w j g o l f i e b)
  ·rw[yb (by omega),e,b] at c
   exact r 229 (λ_=>by kernel_rfl) c (Fy B m d z p n v on C a dv w j g o l f i e b)
  ·rw[yb (by omega),e,b] at c
   exact r 230 (λ_=>by kernel_rfl) c (Fz B m d z p n v on C a dv w j g o l f i e b)
  ·rw[yb (by omega),e,b] at c
   exact r 236 (λ_=>by kernel_rfl) c (FA B m d z p n v on C a dv w j g o l f i e b)
  ·rw[yb (by omega),e,b] at c
   exact r 241 (λ_=>by kernel_rfl) c (FB B m d z p n v on C a dv w j g o l f i e b)
  ·rw[yb (by omega),e,b] at c
   exact r 229 (λ_=>by kernel_rfl) c (FC B m d z p n v on C a dv w j g o l f i e b)
 ·rcases b with b|b|b|b|b|b
  ·rw[yb (by omega),e,b] at c
   exact r 137 (λ_=>by kernel_rfl) c (FD B m d z p n v on C a dv w j g o l f i e b)
  ·rw[yb (by omega),e,b] at c
   exact r 168 (λ_=>by kernel_rfl) c (FE B m d z p n v on C a dv w j g o l f i e b)
  ·rw[yb (by omega),e,b] at c
   exact r 208 (λ_=>by kernel_rfl) c (FF B m d z p n v on C a dv w j g o l f i e b)
  ·rw[yb (by omega),e,b] at c
   exact r 225 (λ_=>by kernel_rfl) c (FG B m d z p n v on C a dv w j g o l f i e b)
  ·rw[yb (by omega),e,b] at c
   exact r 234 (λ_=>by kernel_rfl) c (FH B m d z p n v on C a dv w j g o l f i e b)
  ·rw[yb (by omega),e,b] at c
   exact r 238 (λ_=>by kernel_rfl) c (FI B m d z p n v on C a dv w j g o l f i e b)
end
section
section
variable {z:Nat}{C:List Int}{ws:List (Int×Int)}{cur:Int×Int}{q:List Int}{P:Int}
theorem Ez(k:dH z C ws cur q P){o:Option aC}(e:lG (ld C z) (ld C ((z:Int)+1)) cur C ws q P o): -1<=ld C ((z:Int)+1)/\ld C ((z:Int)+1)<=P:=by
 have s:=k.top0;have j:=k.topP
 cases o with
 |none=>
  have r:ld C ((z:Int)+1)=ld C z+q.length:=e;omega
 |some a=>
  obtain⟨_,e⟩:=e
  rcases e with⟨_,g,_,_⟩|⟨_,p⟩
  ·omega
  ·cases p with
   |s0 b g=>omega
   |s1 b g c=>omega
   |s2 b g c i=>omega
   |s3 b c d i=>omega
   |s4 b c d f=>subst d;simp at j;omega
   |s5 b c d i f l=>omega
   |s6 b c d i f l u=>omega
   |s7 b c d f x w=>omega
   |s8 b c d f t=>subst d;simp at j;omega
theorem AH{H:Int}{acts:List aC}{on:Option Nat}{L:List Int}{N:Int}(D:fX H z C acts on L P N ws)(ad:P<=10000)(ab:N<=20000)(ar:C.length<=45000){i:Nat}{a:aC}(x:acts[i]?=some a)(E:a.td=0)(Z:a.kn<=2):eV z C a/\Dw a:=by
 obtain⟨cur,q,l,r,a4,a9,S⟩:=D.ex;have al:=Ez l r;have aw:=l.top0;have az:=l.topP;have T:=l.dl;have am:=a4.2;have u:∀p∈ws,1<=p.2/\(z:Int)+2<p.1/\p.1+p.2<C.length:=λp s=>by have:=l.lay p s;omega
 have base:(z:Int)+2<C.length/\C.length<=65536/\bd (ld C ((z:Int)+1)):=⟨T,by omega,by unfold bd;omega⟩
 have an:=u cur l.curm;unfold eV;obtain⟨kind,av,Q,b,t,R,K,nw,a7,a8,told,got⟩:=a;simp only at E Z;subst E
 by_cases F:kind=2
 ·subst F
  have d:=S i _ x rfl rfl
  cases d with
  |s0 c=>simp only at c;subst c;exact⟨⟨base,trivial⟩,.inr (.inr ⟨rfl,by simp⟩)⟩
  |s1 c d=>simp only at c;subst c;exact⟨⟨base,trivial⟩,.inr (.inr ⟨rfl,by simp⟩)⟩
  |s2 c d k=>simp only at c;subst c;exact⟨⟨base,trivial⟩,.inr (.inr ⟨rfl,by simp⟩)⟩
  |s3 c d k f a6=>
   simp only at c d f;subst c;have:=u _ f.1;simp only at this;exact⟨⟨base,by simp only;omega⟩,.inr (.inr ⟨rfl,by simp⟩)⟩
  |s4 c d k f a6 j=>
   simp only at c d f j;subst c;have:=u _ f.1;simp only at this;exact⟨⟨base,by simp only[ma];omega⟩,.inr (.inr ⟨rfl,by simp⟩)⟩
  |s5 c d k G=>
   simp only at c d;subst c;exact⟨⟨base,by simp only[bd];omega⟩,.inr (.inr ⟨rfl,by simp⟩)⟩
 ·have a2:=D.kinds i _ x rfl F
  subst a2;have a3:own acts (some i)=some ⟨kind,av,Q,b,t,R,K,nw,a7,a8,0,got⟩:=by simp only[own,x,yR]
  rw[a3] at r;obtain⟨_,r⟩:=r;simp only at r
  rcases r with⟨a0,w,ai,s⟩|⟨a1,s⟩
  ·subst a0
   cases s with
   |s0 c=>simp only at c;subst c;exact⟨⟨base,trivial⟩,.inl ⟨rfl,by simp⟩⟩
   |s1 c e=>simp only at c;subst c;exact⟨⟨base,trivial⟩,.inl ⟨rfl,by simp⟩⟩
   |s2 c e d=>simp only at c;subst c;exact⟨⟨base,trivial⟩,.inl ⟨rfl,by simp⟩⟩
   |s3 c e d f=>simp only[PT] at c e d f;subst c;exact⟨⟨base,by simp only[bd];omega⟩,.inl ⟨rfl,by simp⟩⟩
   |s10 c e d f j X=>simp only[PT] at c e d f j X;subst c;exact⟨⟨base,by simp only;omega⟩,.inl ⟨rfl,by simp⟩⟩
   |s11 c e d f j g o=>simp only[PT,Grow] at c e d f j o g;subst c;exact⟨⟨base,by simp only[ma];omega⟩,.inl ⟨rfl,by simp⟩⟩
   |s12 c e d f j g o G=>
    simp only[PT,Grow] at c e d f j o g;subst c;have:=u _ g.1;simp only at this;exact⟨⟨base,by simp only[ma];omega⟩,.inl ⟨rfl,by simp⟩⟩
   |s13 c e d f j g o=>simp only[PT,Grow] at c e d f j o g;subst c;exact⟨⟨base,by simp only;omega⟩,.inl ⟨rfl,by simp⟩⟩
   |s20 c e d f j A=>simp only[PT] at c e d f j A;subst c;exact⟨⟨base,by simp only[ma];omega⟩,.inl ⟨rfl,by simp⟩⟩
   |s21 c e d f j A hv=>simp only[PT] at c e d f j A;subst c;exact⟨⟨base,by simp only[bd];omega⟩,.inl ⟨rfl,by simp⟩⟩
  ·subst a1
   cases s with
   |s0 c w=>simp only at c;subst c;exact⟨⟨base,trivial⟩,.inr (.inl ⟨rfl,by simp⟩)⟩
   |s1 c w e=>simp only at c;subst c;exact⟨⟨base,trivial⟩,.inr (.inl ⟨rfl,by simp⟩)⟩
   |s2 c w e f=>simp only at c;subst c;exact⟨⟨base,trivial⟩,.inr (.inl ⟨rfl,by simp⟩)⟩
   |s3 c e k f=>simp only at c e k f;subst c;exact⟨⟨base,by simp only[bd];omega⟩,.inr (.inl ⟨rfl,by simp⟩)⟩
   |s4 c e k d=>simp only at c e k d;subst c;exact⟨⟨base,by simp only[bd];omega⟩,.inr (.inl ⟨rfl,by simp⟩)⟩
   |s5 c e k f d Y=>simp only at c e k f d;subst c;exact⟨⟨base,by simp only;omega⟩,.inr (.inl ⟨rfl,by simp⟩)⟩
   |s6 c e k f d Y j=>simp only at c e k f d j;subst c;exact⟨⟨base,by simp only[ma,bd];omega⟩,.inr (.inl ⟨rfl,by simp⟩)⟩
   |s7 c e k d a5 G=>simp only at c e k d a5;subst c;exact⟨⟨base,by simp only[bd];omega⟩,.inr (.inl ⟨rfl,by simp⟩)⟩
   |s8 c e k d o=>simp only at c e k d;subst c;exact⟨⟨base,by simp only[bd];omega⟩,.inr (.inl ⟨rfl,by simp⟩)⟩
end
set_option maxRecDepth 100000
open Go.RowKit
def iM:AC:=⟨.nilFunc,0,0,0,0,0,0,0,0,0,false⟩
def Dq(B m d z p:Nat)(n:Int)(v:Value)(C:List Int)(w w':World):Prop:=
 bZ w' B m d z n v C (.pointer (some ⟨p,0,none⟩))/\ae w' p 194 (iM.arr d)/\aa (λx=>x=d) w w'
theorem qV(B m d z:Nat)(n:Int)(v on:Value)(C:List Int)(w:World)(a:bZ w B m d z n v C on)(l:on=.pointer none\/∃p c,on=.pointer (some ⟨p,0,none⟩)/\ae w p 194 (AC.arr c d)/\c.dv=.nilFunc):
 Calls Tryz.prog 94 #[.pointer (some ⟨d,0,none⟩)] w λb w'=>b=.returned (.tuple #[.pointer (some ⟨w.heap.size,0,none⟩),.int .i64 0])/\Dq B m d z w.heap.size n v C w w':=by
 have t:w.cell? ⟨d,0,none⟩=some (.pointer (some ⟨m,0,none⟩)):=a.J.I 0;have D:=a.J.lt;have s:=hD a
 have i:∀N,N=w.heap.size->Dq B m d z N n v C w ((w.setCell ⟨d,6,none⟩ (.pointer (some ⟨N,0,none⟩))).alloc (.cells (iM.arr d) 194)):=by
  rintro N rfl;have o:aa (λx=>x=d) w ((w.setCell ⟨d,6,none⟩ (.pointer (some ⟨w.heap.size,0,none⟩))).alloc (.cells (iM.arr d) 194)):=((aa.refl (λx=>x=d) w).setCell (p:=⟨d,6,none⟩) (.inl rfl) _).alloc _;refine⟨⟨a.mem.only o (λb=>a.away (.inl b.symm)) (λk j b=>a.away (.inr (b ▸ j))),?_,a.base⟩,?_,o⟩
  ·exact(a.J.s_ 6 _).alloc _
  ·have r:(w.setCell ⟨d,6,none⟩ (.pointer (some ⟨w.heap.size,0,none⟩))).heap.size=w.heap.size:=by simp[World.setCell]
   have e:=ae.new (w.setCell ⟨d,6,none⟩ (.pointer (some ⟨w.heap.size,0,none⟩))) 194 (iM.arr d)
   rwa [r] at e
 have f:=hD (i _ rfl);have u:w.cell? ⟨d,6,none⟩=some on:=a.J.I 6;have A:w.frozen? ⟨d,6,none⟩=false:=a.J.fz 6;clear a i
 rcases l with rfl|⟨p,c,rfl,e,g⟩
 ·go_enter Tryz.func94,Tryz.ntmps94
  go_wp2_with fail
  go_ret2
  exact⟨rfl,f.O⟩
 ·have E:w.cell? ⟨p,0,none⟩=some .nilFunc:=by rw[<-g];exact e.I 0
  have F:∀w,(binOp .neq 190 .nilFunc .nilFunc).run Tryz.prog w=.ok (.bool false) w:=λ_=>rfl
  clear e g;go_enter Tryz.func94,Tryz.ntmps94;go_wp2_with fail
  go_ret2
  exact⟨rfl,f.O⟩
def sH(B m d z p:Nat)(n:Int)(v on':Value)(C:List Int)(a:aC)(w w':World):Prop:=
 bZ w' B m d z n v C on'/\lC w' p d v a/\aa (λx=>x=d) w w'
theorem Bj(B m d z:Nat)(n:Int)(v on:Value)(C:List Int)(x:Int)(w:World)(k:bZ w B m d z n v C on)(o:on=.pointer none\/∃p c,on=.pointer (some ⟨p,0,none⟩)/\ae w p 194 (AC.arr c d)/\c.dv=.nilFunc):
 Calls Tryz.prog 142 #[.pointer (some ⟨d,0,none⟩),.int .i64 x] w λa w'=>a=.returned (.tuple #[.pointer (some ⟨w.heap.size,0,none⟩),.int .i64 0])/\sH B m d z w.heap.size n v (.pointer (some ⟨w.heap.size,0,none⟩)) C (cQ 0 x) w w':=by
 obtain⟨p,g⟩:=eX w.heap.size;have f:=qV B m d z n v on C w k o;rw[<-g] at f ⊢;have u:=hD g;have t:=hD f;clear k o f g;go_enter Tryz.func142,Tryz.ntmps142;go_wp2_with fail;refine t.O.mono ?_;rintro a e ⟨rfl,r,b,s⟩;have A:=hD r;have D:=hD b;have E:=hD s;have G:e.cell? ⟨p,4,none⟩=some (.int .i64 0):=b.I 4;have H:e.frozen? ⟨p,4,none⟩=false:=b.fz 4;clear r b s;go_wp2_with fail;have j:Hd (ax e (e.setCell ⟨p,4,none⟩ (.int .i64 x)) B m d z p n v v _ C {iM with v:=x}):=hD ((ax.refl A.O D.O).set 4 _ rfl);refine(cl p _ _ _ _ _ j.O.act (by simp[AC.arr])).mono ?_;rintro a w2 ⟨rfl,rfl⟩;go_wp2_with fail
 go_ret2
 have l:=j.O.set 0 (de 178 p) (c':=aO (cQ 0 x) (de 178 p)) rfl;refine⟨rfl,l.dq,⟨⟨_,l.act,rfl⟩,(λa=>by cases a),λ_=>rfl,by simp[cQ]⟩,?_⟩;exact E.O.trans' (((aa.refl (λx=>x=p) _).setCell (p:=⟨p,4,none⟩) (.inl rfl) _).setCell (p:=⟨p,0,none⟩) (.inl rfl) _) (λi F=>.inr (by rw[F,u.O];exact lR))
theorem CR(B m d z:Nat)(n:Int)(v on:Value)(C:List Int)(w:World)(g:bZ w B m d z n v C on)(k:on=.pointer none\/∃p c,on=.pointer (some ⟨p,0,none⟩)/\ae w p 194 (AC.arr c d)/\c.dv=.nilFunc):
 Calls Tryz.prog 47 #[.pointer (some ⟨d,0,none⟩)] w λa w'=>a=.returned (.tuple #[.pointer (some ⟨w.heap.size,0,none⟩),.int .i64 0])/\sH B m d z w.heap.size n v (.pointer (some ⟨w.heap.size,0,none⟩)) C (cQ 1 0) w w':=by
 obtain⟨p,e⟩:=eX w.heap.size;have b:=qV B m d z n v on C w g k;rw[<-e] at b ⊢;have u:=hD e;have t:=hD b;clear g k b e;go_enter Tryz.func47,Tryz.ntmps47;go_wp2_with fail;refine t.O.mono ?_;rintro a s ⟨rfl,l,o,r⟩;have A:=hD l;have D:=hD o;have E:=hD r;clear l o r;go_wp2_with fail;have f:Hd (ax s s B m d z p n v v _ C iM):=hD (ax.refl A.O D.O);refine(cl p _ _ _ _ _ f.O.act (by simp[AC.arr])).mono ?_;rintro a w2 ⟨rfl,rfl⟩;go_wp2_with fail
 go_ret2
 have j:=f.O.set 0 (de 96 p) (c':=aO (cQ 1 0) (de 96 p)) rfl;refine⟨rfl,j.dq,⟨⟨_,j.act,rfl⟩,λ_ _=>rfl,λ_=>rfl,by decide⟩,?_⟩;exact E.O.trans' ((aa.refl (λx=>x=p) _).setCell (p:=⟨p,0,none⟩) (.inl rfl) _) (λi F=>.inr (by rw[F,u.O];exact lR))
theorem xd(B m d z:Nat)(n:Int)(v on:Value)(C:List Int)(w:World)(c:bZ w B m d z n v C on):
 Calls Tryz.prog 85 #[.pointer (some ⟨d,0,none⟩)] w λa w'=>a=.returned (.tuple #[.pointer (some ⟨w.heap.size,0,none⟩),.int .i64 0])/\sH B m d z w.heap.size n v on C (cQ 2 0) w w':=by
 obtain⟨p,e⟩:=eX w.heap.size;obtain⟨b,f⟩:=eX (w.alloc (.cells (iM.arr d) 194));have o:aa (λ_=>False) w b:=by rw[f];exact(aa.refl _ w).alloc _
 have l:bZ b B m d z n v C on:=⟨c.mem.only o nF nG,o.J c.J nF,c.base⟩
 have k:ae b p 194 (iM.arr d):=by rw[f,e];exact ae.new w _ _
 have g:Hd (ax b b B m d z p n v v on C iM):=hD (ax.refl l k);have s:=hD e;have r:=hD o;have A:w.cell? ⟨d,0,none⟩=some (.pointer (some ⟨m,0,none⟩)):=c.J.I 0;have t:Hd (w.alloc (.cells #[.nilFunc,.int .u8 0,.int .i64 0,.pointer (some ⟨d,0,none⟩),.int .i64 0,.int .i64 0,.int .i64 0,.int .i64 0,.int .i64 0,.int .i64 0,.int .i64 0,.bool false] 194)=b):=hD (by rw[f];rfl);rw[<-e];clear c l k o f;go_enter Tryz.func85,Tryz.ntmps85;go_wp2_with fail;rw[t.O,<-e];clear e;refine(cl p _ _ _ _ _ g.O.act (by simp[AC.arr,iM])).mono ?_;rintro a w2 ⟨rfl,rfl⟩;go_wp2_with fail
 go_ret2
 have j:=g.O.set 0 (de 137 p) (c':=aO (cQ 2 0) (de 137 p)) rfl;refine⟨rfl,j.dq,⟨⟨_,j.act,rfl⟩,(λa=>by cases a),λ_=>rfl,by simp[cQ]⟩,?_⟩;exact(r.O.mono (T:=λx=>x=d) λ_ a=>a.elim).trans' ((aa.refl (λx=>x=p) _).setCell (p:=⟨p,0,none⟩) (.inl rfl) _) (λi u=>.inr (by rw[u,s.O];exact lR))
end
end Go.Proofs.YtmdocplknceilaaGreat
