import Derived.Test.YtmdocplknceilaaGreatRWAK
import Derived.Deep.WholeRow
set_option linter.all false
set_option maxRecDepth 100000
set_option maxHeartbeats 1000000
namespace Go.Proofs.YtmdocplknceilaaGreat
section
set_option maxRecDepth 100000
open Go.RowKit
attribute [local simp] eM gw gz dj eD Region.binds ed ey Is ap Act.put
theorem Bd(B b:Nat)(n k:Int)(v:Value)(xs:List Int)(w:World)(c:cx w B b n v xs)(S:n+1<=4611686018427387904):
 Calls Tryz.prog 179 #[.pointer (some ⟨b,0,none⟩),.int .i64 k] w λf w'=>f=.returned (.tuple #[.int .i64 (nc xs k),.int .i64 (fM xs k)])/\cx w' B b (n+aN xs k) v xs/\aa (bO b v) w w'/\w'.heap.size=w.heap.size:=by
 have G:=c.len;have T:=c.n0
 by_cases e:0<=k/\k<xs.length
 ·have l:nc xs k=xs.getD k.toNat 0:=yf e
  have o:fM xs k=0:=yf e;have r:aN xs k=1:=yf e;rw[l,o,r];clear l o r;obtain⟨j,rfl⟩:=ym e.1;have E:j<xs.length:=by omega
  clear e;obtain⟨g,t,rfl,_,X,R,u,Q⟩:=c.at_ E;have H:=c.setN (n+1) (by omega) S;have L:(w.setCell ⟨b,0,none⟩ (.int .i64 (n+1))).cell? ⟨g,j,none⟩=some (.int .i64 (xs.getD j 0)):=by rw[World.cell?_setCell_other _ _ _ _ (by intro f;injection f with f;exact R f.symm)];exact u
  have D:cx (w.setCell ⟨b,0,none⟩ (.int .i64 (n+1))) B b (n+1) (.slice (some ⟨g,0,none⟩) xs.length t) xs/\aa (bO b (.slice (some ⟨g,0,none⟩) xs.length t)) w (w.setCell ⟨b,0,none⟩ (.int .i64 (n+1)))/\(w.setCell ⟨b,0,none⟩ (.int .i64 (n+1))).heap.size=w.heap.size:=⟨H,oR.setCell (.inl (.inl rfl)) _,by simp[World.setCell]⟩
  have s:=hD D;have K:=hD c.J;clear H D c u Q;simp only[yo];generalize xs.getD j 0=x at L ⊢;go_enter Tryz.func179,Tryz.ntmps179
  go_wp2_with (go_at_call 211;refine(mr _ _ _ _ _ _ _ T (by omega) G E K.O).mono ?_;rintro f w' ⟨rfl,rfl⟩)
  go_ret2
  exact⟨rfl,s.O⟩
 ·have l:nc xs k=0:=yb e
  have o:fM xs k=5:=yb e;have r:aN xs k=0:=yb e;rw[l,o,r,Int.add_zero];clear l o r;obtain⟨A,t,rfl⟩:=c.slice;have s:=hD c;clear c;go_enter Tryz.func179,Tryz.ntmps179
  go_wp2_with (go_at_call 211;refine(pI _ _ _ _ _ _ _ G (by omega) s.O.J).mono ?_;rintro f w' ⟨rfl,rfl⟩)
  go_ret2
  exact⟨rfl,s.O,oR,rfl⟩
theorem wn(B m d z p:Nat)(n k:Int)(v on:Value)(C:List Int)(cs:Array Value)(w:World)(c:bZ w B m d z n v C on)(l:ae w p 194 cs)(b:cs[3]?=some (.pointer (some ⟨d,0,none⟩)))(u:n+1<=4611686018427387904):
 Calls Tryz.prog 143 #[.pointer (some ⟨p,0,none⟩),.int .i64 k] w λe w'=>e=.returned (.int .i64 (ld C k))/\cx w' B m (n+aN C k) v C/\aa (bO m v) w w'/\w'.heap.size=w.heap.size:=by
 have D:w.cell? ⟨p,3,none⟩=some (.pointer (some ⟨d,0,none⟩)):=(l.I 3).trans b;have A:w.cell? ⟨d,0,none⟩=some (.pointer (some ⟨m,0,none⟩)):=c.J.I 0;have o:=hD c;clear c l b;go_enter Tryz.func143,Tryz.ntmps143;go_wp2_with fail;refine(Bd B m n k v C w o.O.mem u).mono ?_;rintro e w' ⟨rfl,f,g,b⟩;have t:=hD b;have r:=hD f;have s:=hD g;rw[tD];clear f g b;go_wp2_with fail;go_ret;exact⟨rfl,r.O,s.O,t.O⟩
theorem FQ:(Tryz.prog.info? 125).map (λi=>(i.zero,i.size))=some (some (.pointer none),1):=by kernel_rfl
theorem E7:(Tryz.prog.info? 2).map (λi=>(i.zero,i.size))=some (some (.int .i64 0),1):=by kernel_rfl
structure pM(B m:Nat)(n N:Int)(v:Value)(C:List Int)(V:Int)(W:World)(b1 b2 b3:Bool)(y:World):Prop where
 only:aa (bO m v) W y
 mem:cx y B m (if b1=true then n+N else n) v C
 new:if b2=true then y.heap.size=W.heap.size+1/\ae y W.heap.size 2 #[.int .i64 (if b3=true then V else 0)] else y.heap.size=W.heap.size
 ord:b3=true->b2=true
section
variable {B m:Nat}{n N:Int}{v:Value}{C:List Int}{V:Int}{W y w2:World}{b1 b2 b3:Bool}
theorem pM.load(b:pM B m n N v C V W b1 b2 b3 y)(f:¬bO m v W.heap.size)(g:cx w2 B m (n+N) v C)(c:aa (bO m v) y w2)(e:w2.heap.size=y.heap.size):pM B m n N v C V W true b2 b3 w2:=by
 refine⟨b.only.trans c,by simpa using g,?_,b.ord⟩;have:=b.new
 cases b2 with
 |true=>
  simp only[yR] at this ⊢;exact⟨by rw[e];exact this.1,c.J this.2 f⟩
 |false=>simpa[e] using this
theorem pM.make(b:pM B m n N v C V W b1 b2 b3 y)(e:b2=false):y.heap.size=W.heap.size/\pM B m n N v C V W b1 true b3 (y.alloc (.cells #[.int .i64 0] 2)):=by
 subst e;have c:y.heap.size=W.heap.size:=by simpa using b.new
 have f:b3=false:=by
  cases b3 with
  |false=>rfl
  |true=>have:=b.ord rfl;cases this
 refine⟨c,b.only.alloc _,b.mem.only ((aa.refl (λ_=>False) y).alloc _) nF nG,?_,λ_=>rfl⟩;simp only[yR];refine⟨by simp[c],?_⟩;rw[f,<-c];exact ae.new y _ _
theorem pM.store(e:pM B m n N v C V W b1 b2 b3 y)(f:¬bO m v W.heap.size)(g:b2=true)(l:b3=false):y.cell? ⟨W.heap.size,0,none⟩=some (.int .i64 0)/\y.frozen? ⟨W.heap.size,0,none⟩=false/\pM B m n N v C V W b1 b2 true (y.setCell ⟨W.heap.size,0,none⟩ (.int .i64 V)):=by
 subst g l;have b:=e.new;simp only[yR,zB,Yi] at b;refine⟨b.2.I 0,b.2.fz 0,⟨e.only.setCell (p:=⟨W.heap.size,0,none⟩) (.inr (lR)) _,e.mem.only ((aa.refl (λx=>x=W.heap.size) y).setCell (p:=⟨W.heap.size,0,none⟩) (.inl rfl) _) (λc=>f (.inl c.symm)) (λk o c=>f (.inr (c ▸ o))),?_,λ_=>rfl⟩⟩;simp only[yR];exact⟨by simpa[World.setCell] using b.1,b.2.s_ 0 _⟩
end
theorem tT(B m d z p:Nat)(n:Int)(v on:Value)(C:List Int)(c:AC)(w:World)(ai:bZ w B m d z n v C on)(b:ae w p 194 (c.arr d))(c2:n+2<=4611686018427387904)(b6:0<=c.i)(b7:1<=c.n)(ba:c.n<=1000000)(bb:0<=c.w)(bc:c.w<=1000000):
 Calls Tryz.prog 247 #[.pointer (some ⟨p,0,none⟩)] w λo w'=>o=.returned (.int .i64 0)/\∃l r,ae w' l 125 #[.pointer (some ⟨p,0,none⟩)]/\ae w' r 2 #[.int .i64 (ld C (ak c.w c.n c.i))]/\(w.heap.size<=l/\w.heap.size<=r)/\v.ownBlock≠some r/\au w w' B m d z p (n+aN C (ak c.w c.n c.i)) v v on C {c with dv:=(.func (.func 248) #[] #[.pointer (some ⟨l,0,none⟩),.pointer (some ⟨r,0,none⟩)])}:=by
 have aE:=hD (au.refl ai b);clear ai b;obtain⟨c5,c3⟩:=zero_of_info FQ;obtain⟨c6,c4⟩:=zero_of_info E7;obtain⟨l,Y⟩:=eX w.heap.size;obtain⟨D,R⟩:=eX (w.alloc (.cells #[.pointer (some ⟨p,0,none⟩)] 125));have Z:ae D l 125 #[.pointer (some ⟨p,0,none⟩)]:=by rw[R,Y];exact ae.new w _ _
 have H:Hd (au w D B m d z p n v v on C c):=hD (aE.O.quiet (by rw[R];exact(aa.refl _ w).alloc _))
 have av:∀k,v.ownBlock=some k->k<D.heap.size:=λk al=>by
  rcases di H.O.dq.mem.own with⟨rfl,_⟩|⟨g,bv,rfl,_,_,_,bf⟩
  ·cases al
  ·cases al;exact bf
 have am:¬bO m v l:=by
  rintro (o|o)
  ·exact ae.ne_ Z H.O.dq.mem.J (by decide) o
  ·exact aA H.O.dq.mem.own Z (by decide) o
 have ar:D.heap.size=l+1:=by rw[R,Y];simp
 have a7:¬bO m v D.heap.size:=by
  rintro (o|o)
  ·have:=H.O.dq.mem.J.lt;omega
  ·have:=av _ o;omega
 obtain⟨L,Q⟩:=eX D.drew;have K:Hd (au w L B m d z p n v v on C c):=hD (by rw[Q];exact H.O.drew);have b0:=hD Q;obtain⟨r,a4⟩:=eX L.heap.size;have a5:r=D.heap.size:=by rw[a4,Q];rfl
 have a9:Hd (∀y,aa (bO m v) L y->ae y l 125 #[.pointer (some ⟨p,0,none⟩)]):=hD (λy a1=>a1.J (by rw[Q];exact Z) am)
 have az:Hd (∀y,aa (bO m v) L y->y.cell? ⟨l,0,none⟩=some (.pointer (some ⟨p,0,none⟩))/\y.cell? ⟨p,7,none⟩=some (.int .i64 c.w)/\y.cell? ⟨p,8,none⟩=some (.int .i64 c.n)/\y.cell? ⟨p,10,none⟩=some (.int .i64 c.i)):=hD (λy a1=>by
  obtain⟨S,aw⟩:=K.O.cells a1;exact⟨(a9.O y a1).I 0,S.I 7,S.I 8,S.I 10⟩)
 have ab:Hd (¬bO m v r):=hD (by rw[a5];exact a7);have ad:Hd ((w.heap.size<=l/\w.heap.size<=r)/\v.ownBlock≠some r):=hD ⟨by omega,λo=>a7 (by rw[<-a5];exact .inr o)⟩;have G:=hD a4;clear av am a7 ar Q a4 a5 Z;go_enter Tryz.func247,Tryz.ntmps247;go_wp2_with fail;rw[<-R,<-Y];clear R Y
 refine be (by kernel_rfl) (λdn y=>pM B m n (aN C (ak c.w c.n c.i)) v C (ld C (ak c.w c.n c.i)) L (dn 14) (dn 15) (dn 16) y) [ap p 0,ap p 0,ap p 0,ap p 7,Is (.int .i64 c.w),ap p 0,ap p 0,ap p 8,Is (.int .i64 c.n),ap p 0,ap p 0,ap p 10,Is (.int .i64 c.i),Is (.int .i64 (ak c.w c.n c.i)),Is (.int .i64 (ld C (ak c.w c.n c.i))),ap r 0,λ_ _=>True] (by kernel_rfl)
  ⟨sT,sT,sT,sT,sT,sT,sT,sT,sT,sT,sT,sT,sT,sT,sT,sT,(λ_ _ _ _ _=>trivial),trivial⟩ (by rw[<-b0.O];exact⟨oR,by simpa using K.O.dq.mem,by simp,by simp⟩) ⟨?_,?_,?_,?_,?_,?_,?_,?_,?_,?_,?_,?_,?_,?_,?_,?_,?_,trivial⟩ ?_
 iterate 13
  ·intro dn u s t E e b X f
   refine ao rfl ?_;simp at b f ⊢
   try simp only[b] at f
   obtain⟨bx,bz,c0,c1⟩:=az.O s e.only;go_simp;exact f _ _ (by simpa[bY] using e) rfl
 ·intro dn u s t E e b X f
  refine ao rfl ?_;simp at b f ⊢;simp only[b] at f;go_simp;refine(jV c.w c.n c.i s b6 b7 ba bb bc).mono ?_;rintro o w2 ⟨rfl,rfl⟩;exact f _ _ (by simpa[bY] using e) rfl
 ·intro dn u s t E e b X f
  refine ao rfl ?_;simp at b f ⊢;simp only[b] at f;have A:=e.mem;rw[t] at A;simp only[zB,Yi] at A;obtain⟨S,aw⟩:=K.O.cells e.only;go_simp;refine(wn B m d z p n (ak c.w c.n c.i) v on C _ _ ⟨A,aw,K.O.dq.base⟩ S rfl (by omega)).mono ?_;rintro o w2 ⟨rfl,bo,bp,bq⟩;exact f _ _ (by simpa[bY] using e.load (by rw[<-G.O];exact ab.O) bo bp bq) rfl
 ·intro dn u s t E e b X f
  refine ao rfl ?_;simp at b f ⊢;obtain⟨ar,bk⟩:=e.make t;go_simp;exact f _ _ (by simpa[bY] using bk) (by rw[G.O])
 ·intro dn u s t E e b X f
  refine ao rfl ?_;simp at b f ⊢;simp only[b] at f;have a3:dn 15=true:=by simp[bu,Region.binds] at E;simp[E]
  obtain⟨b4,b5,an⟩:=e.store (by rw[<-G.O];exact ab.O) a3 t;rw[<-G.O] at b4 b5 an;go_simp;exact f _ (by simpa[bY] using an)
 ·intro u s dn a6 e b
  simp at b ⊢;have b8:=a6 14 (by decide);have a3:=a6 15 (by decide);have b9:=a6 16 (by decide);rw[b8,a3,b9] at e;have A:=e.mem;have a0:=e.new;simp only[yR] at A a0;rw[<-G.O] at a0;have a2:=hD (a9.O _ e.only);have a8:=hD a0.2;have T:=hD (K.O.mem A e.only);obtain⟨br,rfl⟩:=eX s;have bt:br.cell? ⟨l,0,none⟩=some (.pointer (some ⟨p,0,none⟩)):=a2.O.I 0;clear e A a0;simp only[b];clear b;go_wp2_with fail;refine(cl p _ _ _ _ _ T.O.act (by simp[AC.arr])).mono ?_;rintro o c7 ⟨rfl,rfl⟩;go_wp2_with fail;go_ret;have bm:l≠p:=ae.ne_ a2.O T.O.act (by decide);have bn:r≠p:=ae.ne_ a8.O T.O.act (by decide);exact⟨rfl,l,r,a2.O.far (p:=⟨p,0,none⟩) bm _,a8.O.far (p:=⟨p,0,none⟩) bn _,ad.O.1,ad.O.2,T.O.set 0 _ rfl⟩
set_option maxRecDepth 100000
theorem au.mo{w w' l:World}{B m d z p:Nat}{n n':Int}{v v' g on:Value}{C C':List Int}{c:AC}(e:au w w' B m d z p n v v' on C c)(u:cx l B m n' g C')(s:D5 w' v' g)(f:aa (bO m v') w' l)(o:ld C' z=ld C z)(r:ld C' ((z:Int)+1)=ld C ((z:Int)+1)):au w l B m d z p n' v g on C' c:=by
 refine⟨⟨u,?_,e.dq.base⟩,f.J e.act e.pm,e.only.trans' f (λi b=>?_),λk t=>?_⟩
 ·rw[o,r]
  exact f.J e.dq.J e.dq.away
 ·rcases b with b|b
  ·exact .inl (.inl (.inl b))
  ·rcases e.row i b with b|b
   ·exact .inl (.inl (.inr b))
   ·exact .inr b
 ·rcases s k t with b|b
  ·exact e.row k b
  ·exact .inr (by have:=e.only.size;omega)
theorem AI{x:Int}(b:0<=x):((fresh x).length:Int)=1+2*x:=by simp[fresh];omega
theorem wK{x:Int}{L:Nat}(c:0<=x)(e:(L:Int)=1+2*x):(madeCells (Value.int .i64 0).cells (L*1)).setIfInBounds 0 (.int .i64 (2*x))=((fresh x).map (Value.int .i64)).toArray:=by
 have:(Value.int .i64 0).cells= #[.int .i64 0]:=rfl;apply Yd.1;rw[this,Nat.mul_one,zW,toList_madeCells_one];obtain⟨k,rfl⟩ :∃k,L=k+1:=⟨L-1,by omega⟩
 have b:(2*x).toNat=k:=by omega
 simp[fresh,b,List.replicate_succ]
theorem tU(B m d z p:Nat)(n:Int)(v on:Value)(C:List Int)(c:AC)(w:World)(K:bZ w B m d z n v C on)(ab:ae w p 194 (c.arr d))(bf:n+2<=4611686018427387904)(c6:1<=c.n)(c7:c.n<=20000)(cb:(C.length:Int)+1+2*c.n<=65536)(cf:(z:Int)+1<C.length):
 Calls Tryz.prog 239 #[.pointer (some ⟨p,0,none⟩)] w λf w'=>f=.returned (.int .i64 0)/\∃v',au w w' B m d z p n v v' on (C++fresh c.n) {c with nw:=C.length,i:=c.t,dv:=if c.t=c.b then de 246 p else de 247 p}:=by
 have l:=hD (au.refl K ab);have c0:w.cell? ⟨p,8,none⟩=some (.int .i64 c.n):=l.O.act.I 8;have bz:w.cell? ⟨p,6,none⟩=some (.int .i64 c.t):=l.O.act.I 6;have c2:w.cell? ⟨d,0,none⟩=some (.pointer (some ⟨m,0,none⟩)):=l.O.dq.J.I 0;have bx:w.cell? ⟨p,3,none⟩=some (.pointer (some ⟨d,0,none⟩)):=l.O.act.I 3;clear K ab;obtain⟨bp,ba,bm,bn,bo⟩:=info_parts (show(Tryz.prog.info? 2).map (λi=>(i.zero,i.size,i.bytes))=some (some (.int .i64 0),1,8) by kernel_rfl);obtain⟨c3,a1⟩:=eX (if c.t=c.b then de 246 p else de 247 p);rw[<-a1];have az:=hD a1;obtain⟨L,a0⟩ :∃L:Nat,(L:Int)=1+2*c.n:=⟨(1+2*c.n).toNat,by omega⟩
 have c8:L<=65536:=by omega
 have b8:0<L:=by omega
 have cd:IntKind.i64.wrap (2*c.n)=2*c.n:=IntWalk.i64_in _ (by omega);have ce:IntKind.i64.wrap (1+2*c.n)=1+2*c.n:=IntWalk.i64_in _ (by omega);obtain⟨e,E⟩:=eX w.heap.size;obtain⟨wp,S⟩:=eX (w.alloc (.cells (madeCells (Value.int .i64 0).cells (L*1)) 2));have a9:=li 25 2 bp (.int .i64 0) (by kernel_rfl) ba bm .i64 .i64 L L (lR) (by rw[bo];omega) (by omega) w;rw[bn,<-E,<-S,a0] at a9;have Q:ae wp e 2 (madeCells (Value.int .i64 0).cells (L*1)):=by rw[S,E];exact ae.new w _ _
 have b5:wp.cell? ⟨e,0,none⟩=some (.int .i64 0):=by
  rw[Q.I,<-zj,show(Value.int .i64 0).cells= #[.int .i64 0] from rfl,Nat.mul_one,toList_madeCells_one];simp[b8]
 have b7:wp.frozen? ⟨e,0,none⟩=false:=Q.fz 0;have r:Hd (au w wp B m d z p n v v on C c):=hD (l.O.quiet (by rw[S];exact(aa.refl _ w).alloc _));obtain⟨G,X⟩:=eX (wp.setCell ⟨e,0,none⟩ (.int .i64 (2*c.n)))
 have a8:ae G e 2 ((fresh c.n).map (Value.int .i64)).toArray:=by
  rw[<-wK (by omega) a0,X];exact Q.s_ 0 _
 have ai:v.ownBlock≠some e:=λf=>by
  rcases di l.O.dq.mem.own with⟨rfl,_⟩|⟨g,c1,rfl,_,_,_,bc⟩
  ·cases f
  ·have a4:=bc
   rw[<-E] at a4;have b6:some g=some e:=f
   cases b6
   exact absurd a4 (yQ _)
 have R:e≠d/\e≠p/\e≠m:=by
  have:=l.O.dq.J.lt;have:=l.O.act.lt;have:=l.O.dq.mem.J.lt;omega
 have H:Hd (au w G B m d z p n v v on C c):=hD (by
  have o:aa (λx=>x=e) wp G:=by rw[X];exact(aa.refl (λx=>x=e) wp).setCell (p:=⟨e,0,none⟩) (.inl rfl) _
  refine⟨⟨r.O.dq.mem.only o (λf=>R.2.2 f.symm) (λk bb f=>ai (f ▸ bb)),o.J r.O.dq.J (λf=>R.1 f.symm),r.O.dq.base⟩,o.J r.O.act (λf=>R.2.1 f.symm),r.O.only.trans' (o.mono (T:=λx=>x=e) λ_ f=>f) (λi b9=>.inr (by rw[b9,E];exact lR)),r.O.row⟩)
 have D:(fresh c.n).length=L:=by have:=AI (x:=c.n) (by omega);omega
 have ad:bP G (e+1) 1 (some ⟨e,0,none⟩) (fresh c.n).length ((fresh c.n).map (.int .i64)):=
  ⟨by simp,λ_=>⟨_,rfl,by simp,λj u bk=>by rw[show(⟨e,0,none⟩ :Addr).add j=⟨e,j,none⟩ by simp[Addr.add];exact λK=>K.symm];rw[a8.I,zi];exact bk⟩⟩
 have bq:wp.cell? ⟨p,3,none⟩=some (.pointer (some ⟨d,0,none⟩)):=r.O.act.I 3;have br:wp.cell? ⟨d,0,none⟩=some (.pointer (some ⟨m,0,none⟩)):=r.O.dq.J.I 0;obtain⟨cg,ch,ci⟩:=R;have bt:wp.cell? ⟨p,8,none⟩=some (.int .i64 c.n):=r.O.act.I 8;have b0:=hD ad;have aE:=hD X;have bv:=hD a0;have c9:(0:Int)<(L:Int):=by omega
 have a5:py C (fresh c.n)=C.length:=yb (by rw[D];omega);have a6:pz C (fresh c.n)=0:=yb (by rw[D];omega);have a7:pB C (fresh c.n)=C++fresh c.n:=yb (by rw[D];omega);have Y:=hD (aI a5 (aI a6 a7));have a3:=hD D;clear a1 E S Q X a8 ai ad a5 a6 a7 D;go_enter Tryz.func239,Tryz.ntmps239;go_wp2_with fail;rw[<-aE.O];have a2:=uk B m n v C (fresh c.n) (e+1) (some ⟨e,0,none⟩) L G H.O.dq.mem b0.O (by omega) (by rw[a3.O];unfold maxLen;omega) (by have:=H.O.dq.mem.base;have:=H.O.dq.mem.J.lt;omega);rw[a3.O,Y.O.1,Y.O.2.1,Y.O.2.2] at a2;refine a2.mono ?_;clear a2;rintro f s ⟨rfl,⟨v',am,an⟩,ar⟩;have A:Hd (au w s B m d z p n v v' on (C++fresh c.n) c):=hD (H.O.mo am an ar (md (by omega)) (md (by omega)));clear am an ar bq br bt b5 b7 a9;have cn:s.cell? ⟨p,6,none⟩=some (.int .i64 c.t):=A.O.act.I 6;have cp:s.cell? ⟨p,9,none⟩=some (.int .i64 c.nw):=A.O.act.I 9;have cm:s.cell? ⟨p,10,none⟩=some (.int .i64 c.i):=A.O.act.I 10;have c5:s.frozen? ⟨p,9,none⟩=false:=A.O.act.fz 9;have c4:s.frozen? ⟨p,10,none⟩=false:=A.O.act.fz 10;go_wp2_with fail;obtain⟨aw,al⟩:=eX ((s.setCell ⟨p,9,none⟩ (.int .i64 (C.length:Int))).setCell ⟨p,10,none⟩ (.int .i64 c.t));have Z:Hd (au w aw B m d z p n v v' on (C++fresh c.n) {c with nw:=C.length,i:=c.t}):=hD (by rw[al];exact(A.O.set 9 _ (c':={c with nw:=C.length}) rfl).set 10 _ rfl);rw[<-al];refine(sw B m d z p n v' on _ _ aw Z.O.dq Z.O.act bf).mono ?_;rintro f ck ⟨rfl,av⟩;have b4:=hD av;clear av;go_wp2_with fail;go_ret;exact⟨rfl,v',by rw[az.O];exact Z.O.trans b4.O⟩
set_option maxRecDepth 100000
theorem uQ(p d g:Nat)(k f:Array Value)(c:AC)(w:World)(R:World->AC->Prop)(e:ae w p 194 (c.arr d))(G:c.dv=.func (.func g) k f)(Z:∀w,(callFunc g (k++f)).run Tryz.prog w=.ok (.enter g (k++f)) w)
 (E:Calls Tryz.prog g (k++f) w λo w'=>o=.returned (.int .i64 0)/\∃c',ae w' p 194 (c'.arr d)/\R w' c'):
 Calls Tryz.prog 83 #[.pointer (some ⟨p,0,none⟩)] w λo w'=>∃c' b,o=.returned (.tuple #[.int .u8 c'.wh,.int .i64 c'.x,.int .i64 0])/\R b c'/\aa (λ_=>False) b w':=by
 have X:w.cell? ⟨p,0,none⟩=some (.func (.func g) k f):=by rw[<-G];exact e.I 0
 have Y:w.cell? ⟨p,3,none⟩=some (.pointer (some ⟨d,0,none⟩)):=e.I 3;have a5:∀w,(binOp .eql 190 (.func (.func g) k f) .nilFunc).run Tryz.prog w=.ok (.bool false) w:=λ_=>rfl
 have L:=hD E;clear e E G;go_enter Tryz.func83,Tryz.ntmps83;go_wp2_with fail;refine L.O.mono ?_;rintro o b ⟨rfl,c',H,K⟩;obtain⟨D,s⟩:=eX b.drew;have t:Hd (∀y,aa (λ_=>False) D y->ae y p 194 (c'.arr d)):=hD (λy S=>S.J (by rw[s];exact H) nF);have Q:=hD K;have A:=hD s;clear H K s;go_wp2_with fail
 refine be (by kernel_rfl) (λ_ y=>aa (λ_=>False) D y) [ap p 0,ap p 0,ap p 0,ap p 1,Is (.int .u8 c'.wh),ap p 0,ap p 0,ap p 0,ap p 2,Is (.int .i64 c'.x),Is (.int .u8 c'.wh),Is (.int .i64 c'.x),Is (.int .i64 0)] (by kernel_rfl)
  (by(repeat refine⟨sT,?_⟩);trivial) (by rw[<-A.O];exact oR) ⟨?_,?_,?_,?_,?_,?_,?_,?_,?_,?_,?_,?_,?_,trivial⟩ ?_
 iterate 13
  ·intro dn u b a3 a0 l e T r
   refine ao rfl ?_;simp at e r ⊢
   try simp only[e] at r
   have a1:b.cell? ⟨p,1,none⟩=some (.int .u8 c'.wh):=(t.O b l).I 1;have a2:b.cell? ⟨p,2,none⟩=some (.int .i64 c'.x):=(t.O b l).I 2;go_simp;exact r _ _ l rfl
 ·intro u b dn a4 l e
  simp at e ⊢;simp only[e];go_wp2_with fail
  go_ret3
  refine⟨c',_,rfl,Q.O,?_⟩;rw[A.O] at l;exact((aa.refl (λ_=>False) _).drew).trans l
set_option maxRecDepth 100000
def rj(kind at':Nat):Nat:=
 match kind with
 |0=>match at' with
  |0=>178
  |1=>210
  |2=>226
  |3=>235
  |10=>239
  |11=>247
  |13=>246
  |20=>240
  |_=>244
 |1=>match at' with
  |0=>96
  |1=>144
  |2=>180
  |3=>213
  |4=>229
  |5=>230
  |6=>236
  |7=>241
  |_=>229
 |_=>match at' with
  |0=>137
  |1=>168
  |2=>208
  |3=>225
  |4=>234
  |_=>238
def aP(a:aC)(dv:Value):AC:=
 ⟨dv,a.td,a.got,if a.kn=0 then a.v else a.read,if a.kn=2 then 0 else a.b,a.t,a.w,a.n,a.nw,if a.kn=0 then a.i else 0,decide (a.kn=1/\a.i=1)⟩
def jI(w:World)(p:Nat)(v:Value)(a:aC)(dv:Value):Prop:=
 if a.td=0 then
  if a.kn=0/\a.at_=12 then ∃ba bv,dv=.func (.func 248) #[] #[.pointer (some ⟨ba,0,none⟩),.pointer (some ⟨bv,0,none⟩)]/\ae w ba 125 #[.pointer (some ⟨p,0,none⟩)]/\ae w bv 2 #[.int .i64 a.read]/\v.ownBlock≠some bv
  else dv=de (rj a.kn a.at_) p
 else dv=.nilFunc
def vW(w:World)(dv:Value):Prop:=∀(f:Fn) (ba bv:Nat),dv=.func f #[] #[.pointer (some ⟨ba,0,none⟩),.pointer (some ⟨bv,0,none⟩)]->w.heap.size<=ba/\w.heap.size<=bv
theorem cj{w:World}{g p:Nat}:vW w (de g p):=by
 intro f c e b;simp[de] at b
theorem df{w:World}:vW w .nilFunc:=by
 intro f c e b
 cases b
structure lH(w:World)(p d:Nat)(v:Value)(a:aC):Prop where
 ex:∃dv,ae w p 194 ((aP a dv).arr d)/\jI w p v a dv
 i0:a.kn=1->a.at_<=7->a.i=0
 g0:a.td=0->a.got=0
 k2:a.kn<=2
def bd(x:Int):Prop:=-1000000<=x/\x<=1000000
def ml(z:Nat)(C:List Int)(w n i:Int):Prop:=0<=i/\i<=1000000/\1<=n/\n<=400000/\(z:Int)+2<w/\w<=1000000/\w+n<C.length
def fh(z:Nat)(C:List Int)(a:aC):Prop:=
 ((z:Int)+2<C.length/\C.length<=65536/\bd (ld C ((z:Int)+1)))/\
 match a.kn with
 |0=>match a.at_ with
  |3=>bd a.b/\bd a.t/\0<=a.w/\a.w<C.length
  |10=>1<=a.n/\a.n<=20000/\(C.length:Int)+1+2*a.n<=65536
  |11=>ml z C a.w a.n a.i
  |12=>ml z C a.nw (2*a.n) a.i
  |13=>1<=a.n/\a.n<=400000
  |20=>ml z C a.w a.n a.b
  |21=>bd a.b
  |_=>True
 |1=>match a.at_ with
  |3=>bd a.b
  |4=>bd a.b
  |5=>0<=a.w/\a.w<C.length
  |6=>ml z C a.w a.n a.b/\bd a.t
  |7=>bd a.t
  |8=>bd a.b
  |_=>True
 |_=>match a.at_ with
  |3=>0<=a.w/\a.w<C.length
  |4=>ml z C a.w a.n a.t
  |5=>bd a.t
  |_=>True
def cnt(a:aC):Int:=if a.kn=0/\a.at_=10 then 0 else 1
theorem dR{C:List Int}{k:Int}(b:0<=k)(c:k<C.length):aN C k=1:=yf ⟨b,c⟩
theorem au.steps{w w':World}{B m d z p:Nat}{n n':Int}{v v' on:Value}{C:List Int}{c:AC}(e:au w w' B m d z p n v v' on C c)(b:n=n'):au w w' B m d z p n' v v' on C c:=b ▸ e
def dM(w:World)(B m d z p:Nat)(n:Int)(v on:Value)(r:ke)(w1:World)(c:AC):Prop:=
 ∃v',au w w1 B m d z p n v v' on r.C c/\∃dv,c=aP r.a dv/\vW w dv/\jI w1 p v' r.a dv
theorem Gb(B m d z p:Nat)(n:Int)(v on:Value)(C:List Int)(a:aC)(dv:Value)(w:World)(l:bZ w B m d z n v C on)(s:ae w p 194 ((aP a dv).arr d))(K:n+3<=4611686018427387904)(r:fh z C a)(f:a.td=0)(H:a.kn=1->a.at_<=7->a.i=0)(k:a.kn=0)(g:a.at_=0):
 Calls Tryz.prog 178 #[.pointer (some ⟨p,0,none⟩)] w λe w'=>e=.returned (.int .i64 0)/\∃c',ae w' p 194 (c'.arr d)/\dM w B m d z p (n+cnt a) v on (pstep z C a) w' c':=by
 obtain⟨kind,av,E,b,t,G,D,nw,i,L,told,got⟩:=a;simp only at k g f;subst k g f;obtain⟨⟨Q,R,u⟩,A⟩:=r;simp only[bd] at u A;refine(rY B m d z p n v on C _ w l s (by omega)).mono ?_;rintro e w' ⟨rfl,c⟩;refine⟨rfl,_,c.act,?_⟩;have o:aN C ((z:Int)+1)=1:=dR (by first|omega|(simp only[aP];omega)) (by first|omega|(simp only[aP];omega));replace c:=c.steps (n':=n+1) (yl (λx=>n+x) o);exact⟨v,c,_,rfl,by first|exact cj|exact df,rfl⟩
theorem Gc(B m d z p:Nat)(n:Int)(v on:Value)(C:List Int)(a:aC)(dv:Value)(w:World)(l:bZ w B m d z n v C on)(s:ae w p 194 ((aP a dv).arr d))(K:n+3<=4611686018427387904)(r:fh z C a)(f:a.td=0)(H:a.kn=1->a.at_<=7->a.i=0)(k:a.kn=0)(g:a.at_=1):
 Calls Tryz.prog 210 #[.pointer (some ⟨p,0,none⟩)] w λe w'=>e=.returned (.int .i64 0)/\∃c',ae w' p 194 (c'.arr d)/\dM w B m d z p (n+cnt a) v on (pstep z C a) w' c':=by
 obtain⟨kind,av,E,b,t,G,D,nw,i,L,told,got⟩:=a;simp only at k g f;subst k g f;obtain⟨⟨Q,R,u⟩,A⟩:=r;simp only[bd] at u A;refine(vo B m d z p n v on C _ w l s (by omega)).mono ?_;rintro e w' ⟨rfl,c⟩;refine⟨rfl,_,c.act,?_⟩;have o:aN C (z:Int)=1:=dR (by first|omega|(simp only[aP];omega)) (by first|omega|(simp only[aP];omega));replace c:=c.steps (n':=n+1) (yl (λx=>n+x) o);exact⟨v,c,_,rfl,by first|exact cj|exact df,rfl⟩
theorem Gd(B m d z p:Nat)(n:Int)(v on:Value)(C:List Int)(a:aC)(dv:Value)(w:World)(l:bZ w B m d z n v C on)(s:ae w p 194 ((aP a dv).arr d))(K:n+3<=4611686018427387904)(r:fh z C a)(f:a.td=0)(H:a.kn=1->a.at_<=7->a.i=0)(k:a.kn=0)(g:a.at_=2):
 Calls Tryz.prog 226 #[.pointer (some ⟨p,0,none⟩)] w λe w'=>e=.returned (.int .i64 0)/\∃c',ae w' p 194 (c'.arr d)/\dM w B m d z p (n+cnt a) v on (pstep z C a) w' c':=by
 obtain⟨kind,av,E,b,t,G,D,nw,i,L,told,got⟩:=a;simp only at k g f;subst k g f;obtain⟨⟨Q,R,u⟩,A⟩:=r;simp only[bd] at u A;refine(sW B m d z p n v on C _ w l s (by omega)).mono ?_;rintro e w' ⟨rfl,c⟩;refine⟨rfl,_,c.act,?_⟩;have o:aN C ((z:Int)+2)=1:=dR (by first|omega|(simp only[aP];omega)) (by first|omega|(simp only[aP];omega));replace c:=c.steps (n':=n+1) (yl (λx=>n+x) o);exact⟨v,c,_,rfl,by first|exact cj|exact df,rfl⟩
theorem Ge(B m d z p:Nat)(n:Int)(v on:Value)(C:List Int)(a:aC)(dv:Value)(w:World)(r:bZ w B m d z n v C on)(A:ae w p 194 ((aP a dv).arr d))(L:n+3<=4611686018427387904)(u:fh z C a)(k:a.td=0)(K:a.kn=1->a.at_<=7->a.i=0)(o:a.kn=0)(l:a.at_=3):
 Calls Tryz.prog 235 #[.pointer (some ⟨p,0,none⟩)] w λg w'=>g=.returned (.int .i64 0)/\∃c',ae w' p 194 (c'.arr d)/\dM w B m d z p (n+cnt a) v on (pstep z C a) w' c':=by
 obtain⟨kind,av,H,b,t,f,G,nw,i,Q,told,got⟩:=a;simp only at o l k;subst o l k;obtain⟨⟨R,S,E⟩,e⟩:=u;simp only[bd] at E e;refine(uC B m d z p n v on C _ w r A (by omega) e.1 e.2.1).mono ?_;rintro g w' ⟨rfl,c⟩;refine⟨rfl,_,c.act,?_⟩;have s:aN C f=1:=dR (by first|omega|(simp only[aP];omega)) (by first|omega|(simp only[aP];omega));replace c:=c.steps (n':=n+1) (yl (λx=>n+x) s);refine⟨v,c,_,rfl,by split<;>exact cj,?_⟩
 by_cases D:b-t≥ld C f<;>simp[jI,pstep,fH,goes,D,rj,aP]
theorem FV(B m d z p:Nat)(n:Int)(v on:Value)(C:List Int)(a:aC)(dv:Value)(w:World)(o:bZ w B m d z n v C on)(s:ae w p 194 ((aP a dv).arr d))(K:n+3<=4611686018427387904)(r:fh z C a)(f:a.td=0)(H:a.kn=1->a.at_<=7->a.i=0)(k:a.kn=0)(g:a.at_=10):
 Calls Tryz.prog 239 #[.pointer (some ⟨p,0,none⟩)] w λe w'=>e=.returned (.int .i64 0)/\∃c',ae w' p 194 (c'.arr d)/\dM w B m d z p (n+cnt a) v on (pstep z C a) w' c':=by
 obtain⟨kind,av,E,b,t,G,D,nw,i,L,told,got⟩:=a;simp only at k g f;subst k g f;obtain⟨⟨Q,R,A⟩,c⟩:=r;simp only[bd] at A c;refine(tU B m d z p n v on C _ w o s (by omega) c.1 c.2.1 c.2.2 (by omega)).mono ?_;rintro e w' ⟨rfl,v',l⟩;refine⟨rfl,_,l.act,?_⟩;simp only[cnt,and_self,yR,Int.add_zero];refine⟨v',l,_,rfl,by split<;>exact cj,?_⟩
 by_cases u:t=b<;>simp[jI,pstep,fH,goes,u,rj,aP]
theorem FW(B m d z p:Nat)(n:Int)(v on:Value)(C:List Int)(a:aC)(dv:Value)(w:World)(D:bZ w B m d z n v C on)(H:ae w p 194 ((aP a dv).arr d))(Y:n+3<=4611686018427387904)(G:fh z C a)(o:a.td=0)(X:a.kn=1->a.at_<=7->a.i=0)(s:a.kn=0)(r:a.at_=11):
 Calls Tryz.prog 247 #[.pointer (some ⟨p,0,none⟩)] w λc w'=>c=.returned (.int .i64 0)/\∃c',ae w' p 194 (c'.arr d)/\dM w B m d z p (n+cnt a) v on (pstep z C a) w' c':=by
 obtain⟨kind,av,T,b,t,l,k,nw,i,a0,told,got⟩:=a;simp only at s r o;subst s r o;obtain⟨⟨a1,a2,S⟩,g⟩:=G;simp only[ml,bd] at S g;refine(tT B m d z p n v on C _ w D H (by omega) g.1 g.2.2.1 (by simp only[aP];omega) (by simp only[aP];omega) (by simp only[aP];omega)).mono ?_;rintro c w' ⟨rfl,u,A,K,L,Q,R,e⟩;refine⟨rfl,_,e.act,?_⟩;have Z:=fD (w:=l) (n:=k) (i:=i) (by omega);have E:aN C (ak l k i)=1:=dR (by omega) (by omega);replace e:=e.steps (n':=n+1) (yl (λx=>n+x) E);exact⟨v,e,_,rfl,(λf b1 b2 c=>by simp at c;obtain⟨_,rfl,rfl⟩:=c;exact Q),u,A,rfl,K,L,R⟩
theorem FY(B m d z p:Nat)(n:Int)(v on:Value)(C:List Int)(a:aC)(dv:Value)(w:World)(o:bZ w B m d z n v C on)(u:ae w p 194 ((aP a dv).arr d))(K:n+3<=4611686018427387904)(s:fh z C a)(f:a.td=0)(H:a.kn=1->a.at_<=7->a.i=0)(k:a.kn=0)(g:a.at_=13):
 Calls Tryz.prog 246 #[.pointer (some ⟨p,0,none⟩)] w λe w'=>e=.returned (.int .i64 0)/\∃c',ae w' p 194 (c'.arr d)/\dM w B m d z p (n+cnt a) v on (pstep z C a) w' c':=by
 obtain⟨kind,av,E,b,t,G,D,nw,i,L,told,got⟩:=a;simp only at k g f;subst k g f;obtain⟨⟨Q,R,A⟩,l⟩:=s;simp only[bd] at A l;refine(sS B m d z p n v on C _ w o u (by omega) l.1 (by simp only[aP];omega)).mono ?_;rintro e w' ⟨rfl,c⟩;refine⟨rfl,_,c.act,?_⟩;have r:aN C ((z:Int)+2)=1:=dR (by first|omega|(simp only[aP];omega)) (by first|omega|(simp only[aP];omega));replace c:=c.steps (n':=n+1) (yl (λx=>n+x) r);exact⟨v,c,_,rfl,by first|exact cj|exact df,rfl⟩
theorem FZ(B m d z p:Nat)(n:Int)(v on:Value)(C:List Int)(a:aC)(dv:Value)(w:World)(s:bZ w B m d z n v C on)(D:ae w p 194 ((aP a dv).arr d))(K:n+3<=4611686018427387904)(A:fh z C a)(l:a.td=0)(H:a.kn=1->a.at_<=7->a.i=0)(r:a.kn=0)(o:a.at_=20):
 Calls Tryz.prog 240 #[.pointer (some ⟨p,0,none⟩)] w λk w'=>k=.returned (.int .i64 0)/\∃c',ae w' p 194 (c'.arr d)/\dM w B m d z p (n+cnt a) v on (pstep z C a) w' c':=by
 obtain⟨kind,av,G,b,t,g,f,nw,i,Q,told,got⟩:=a;simp only at r o l;subst r o l;obtain⟨⟨R,S,E⟩,e⟩:=A;simp only[ml,bd] at E e;refine(sV B m d z p n v on C _ w s D (by omega) e.1 e.2.2.1 (by simp only[aP];omega) (by simp only[aP];omega) (by simp only[aP];omega) e.2.2.2.2.1).mono ?_;rintro k w' ⟨rfl,c⟩;refine⟨rfl,_,c.act,?_⟩;have L:=fD (w:=g) (n:=f) (i:=b) (by omega);have u:aN C (ak g f b)=1:=dR (by omega) (by omega);replace c:=c.steps (n':=n+1) (yl (λx=>n+x) u);exact⟨v,c,_,rfl,by first|exact cj|exact df,rfl⟩
theorem F1(B m d z p:Nat)(n:Int)(v on:Value)(C:List Int)(a:aC)(dv:Value)(w:World)(o:bZ w B m d z n v C on)(s:ae w p 194 ((aP a dv).arr d))(H:n+3<=4611686018427387904)(r:fh z C a)(e:a.td=0)(G:a.kn=1->a.at_<=7->a.i=0)(g:a.kn=0)(f:a.at_=21):
 Calls Tryz.prog 244 #[.pointer (some ⟨p,0,none⟩)] w λc w'=>c=.returned (.int .i64 0)/\∃c',ae w' p 194 (c'.arr d)/\dM w B m d z p (n+cnt a) v on (pstep z C a) w' c':=by
 obtain⟨kind,av,D,b,t,E,A,nw,i,K,told,got⟩:=a;simp only at g f e;subst g f e;obtain⟨⟨L,Q,u⟩,l⟩:=r;simp only[bd] at u l;refine(uB B m d z p n v on C _ w o s (by omega) (by omega) l).mono ?_;rintro c w' ⟨rfl,k⟩;refine⟨rfl,_,k.act,?_⟩;exact⟨v,k,_,rfl,by first|exact cj|exact df,rfl⟩
theorem Gf(B m d z p:Nat)(n:Int)(v on:Value)(C:List Int)(a:aC)(dv:Value)(w:World)(o:bZ w B m d z n v C on)(u:ae w p 194 ((aP a dv).arr d))(K:n+3<=4611686018427387904)(s:fh z C a)(f:a.td=0)(H:a.kn=1->a.at_<=7->a.i=0)(k:a.kn=1)(g:a.at_=0):
 Calls Tryz.prog 96 #[.pointer (some ⟨p,0,none⟩)] w λe w'=>e=.returned (.int .i64 0)/\∃c',ae w' p 194 (c'.arr d)/\dM w B m d z p (n+cnt a) v on (pstep z C a) w' c':=by
 obtain⟨kind,av,E,b,t,G,D,nw,i,L,told,got⟩:=a;simp only at k g f;subst k g f;obtain⟨⟨Q,R,l⟩,A⟩:=s;simp only[bd] at l A;refine(sU B m d z p n v on C _ w o u (by omega) l).mono ?_;rintro e w' ⟨rfl,c⟩;refine⟨rfl,_,c.act,?_⟩;have r:aN C ((z:Int)+1)=1:=dR (by first|omega|(simp only[aP];omega)) (by first|omega|(simp only[aP];omega));replace c:=c.steps (n':=n+1) (yl (λx=>n+x) r);exact⟨v,c,_,rfl,by first|exact cj|exact df,rfl⟩
theorem Gg(B m d z p:Nat)(n:Int)(v on:Value)(C:List Int)(a:aC)(dv:Value)(w:World)(l:bZ w B m d z n v C on)(s:ae w p 194 ((aP a dv).arr d))(K:n+3<=4611686018427387904)(r:fh z C a)(f:a.td=0)(H:a.kn=1->a.at_<=7->a.i=0)(k:a.kn=1)(g:a.at_=1):
 Calls Tryz.prog 144 #[.pointer (some ⟨p,0,none⟩)] w λe w'=>e=.returned (.int .i64 0)/\∃c',ae w' p 194 (c'.arr d)/\dM w B m d z p (n+cnt a) v on (pstep z C a) w' c':=by
 obtain⟨kind,av,E,b,t,G,D,nw,i,L,told,got⟩:=a;simp only at k g f;subst k g f;obtain⟨⟨Q,R,u⟩,A⟩:=r;simp only[bd] at u A;refine(uy B m d z p n v on C _ w l s (by omega)).mono ?_;rintro e w' ⟨rfl,c⟩;refine⟨rfl,_,c.act,?_⟩;have o:aN C ((z:Int)+2)=1:=dR (by first|omega|(simp only[aP];omega)) (by first|omega|(simp only[aP];omega));replace c:=c.steps (n':=n+1) (yl (λx=>n+x) o);exact⟨v,c,_,rfl,by first|exact cj|exact df,rfl⟩
theorem Gh(B m d z p:Nat)(n:Int)(v on:Value)(C:List Int)(a:aC)(dv:Value)(w:World)(l:bZ w B m d z n v C on)(r:ae w p 194 ((aP a dv).arr d))(H:n+3<=4611686018427387904)(o:fh z C a)(e:a.td=0)(G:a.kn=1->a.at_<=7->a.i=0)(g:a.kn=1)(f:a.at_=2):
 Calls Tryz.prog 180 #[.pointer (some ⟨p,0,none⟩)] w λc w'=>c=.returned (.int .i64 0)/\∃c',ae w' p 194 (c'.arr d)/\dM w B m d z p (n+cnt a) v on (pstep z C a) w' c':=by
 obtain⟨kind,av,D,b,t,E,A,nw,i,K,told,got⟩:=a;simp only at g f e;subst g f e;obtain⟨⟨L,Q,s⟩,u⟩:=o;simp only[bd] at s u;refine(uw B m d z p n v on C _ w l r (by omega) (by omega)).mono ?_;rintro c w' ⟨rfl,k⟩;refine⟨rfl,_,k.act,?_⟩;exact⟨v,k,_,rfl,by first|exact cj|exact df,rfl⟩
theorem Gi(B m d z p:Nat)(n:Int)(v on:Value)(C:List Int)(a:aC)(dv:Value)(w:World)(l:bZ w B m d z n v C on)(s:ae w p 194 ((aP a dv).arr d))(L:n+3<=4611686018427387904)(r:fh z C a)(f:a.td=0)(K:a.kn=1->a.at_<=7->a.i=0)(k:a.kn=1)(g:a.at_=3):
 Calls Tryz.prog 213 #[.pointer (some ⟨p,0,none⟩)] w λe w'=>e=.returned (.int .i64 0)/\∃c',ae w' p 194 (c'.arr d)/\dM w B m d z p (n+cnt a) v on (pstep z C a) w' c':=by
 obtain⟨kind,av,G,b,t,H,E,nw,i,Q,told,got⟩:=a;simp only at k g f;subst k g f;obtain⟨⟨R,S,A⟩,D⟩:=r;simp only[bd] at A D;refine(xe B m d z p n v on C _ w l s (by omega)).mono ?_;rintro e w' ⟨rfl,c⟩;refine⟨rfl,_,c.act,?_⟩;have o:aN C (z:Int)=1:=dR (by first|omega|(simp only[aP];omega)) (by first|omega|(simp only[aP];omega));replace c:=c.steps (n':=n+1) (yl (λx=>n+x) o);refine⟨v,c,_,rfl,by split<;>exact cj,?_⟩
 by_cases u:ld C (z:Int) > b<;>simp[jI,pstep,cL,goes,u,rj,aP]
theorem Gj(B m d z p:Nat)(n:Int)(v on:Value)(C:List Int)(a:aC)(dv:Value)(w:World)(o:bZ w B m d z n v C on)(u:ae w p 194 ((aP a dv).arr d))(K:n+3<=4611686018427387904)(r:fh z C a)(e:a.td=0)(s:a.kn=1->a.at_<=7->a.i=0)(g:a.kn=1)(f:a.at_=4):
 Calls Tryz.prog 229 #[.pointer (some ⟨p,0,none⟩)] w λc w'=>c=.returned (.int .i64 0)/\∃c',ae w' p 194 (c'.arr d)/\dM w B m d z p (n+cnt a) v on (pstep z C a) w' c':=by
 obtain⟨kind,av,G,b,t,H,E,nw,i,L,told,got⟩:=a;simp only at g f e;subst g f e;obtain⟨⟨Q,R,D⟩,l⟩:=r;simp only[bd] at D l;refine(qc B m d z p n v on C _ w o u (by omega) (by omega) l).mono ?_;rintro c w' ⟨rfl,k⟩;refine⟨rfl,_,k.act,?_⟩;have A:i=0:=s rfl (show(4:Nat)<=7 by decide);subst A;exact⟨v,k,_,rfl,by first|exact cj|exact df,rfl⟩
theorem Gk(B m d z p:Nat)(n:Int)(v on:Value)(C:List Int)(a:aC)(dv:Value)(w:World)(o:bZ w B m d z n v C on)(u:ae w p 194 ((aP a dv).arr d))(K:n+3<=4611686018427387904)(s:fh z C a)(f:a.td=0)(H:a.kn=1->a.at_<=7->a.i=0)(k:a.kn=1)(g:a.at_=5):
 Calls Tryz.prog 230 #[.pointer (some ⟨p,0,none⟩)] w λe w'=>e=.returned (.int .i64 0)/\∃c',ae w' p 194 (c'.arr d)/\dM w B m d z p (n+cnt a) v on (pstep z C a) w' c':=by
 obtain⟨kind,av,G,b,t,l,E,nw,i,L,told,got⟩:=a;simp only at k g f;subst k g f;obtain⟨⟨Q,R,A⟩,D⟩:=s;simp only[bd] at A D;refine(vl B m d z p n v on C _ w o u (by omega)).mono ?_;rintro e w' ⟨rfl,c⟩;refine⟨rfl,_,c.act,?_⟩;have r:aN C l=1:=dR (by first|omega|(simp only[aP];omega)) (by first|omega|(simp only[aP];omega));replace c:=c.steps (n':=n+1) (yl (λx=>n+x) r);exact⟨v,c,_,rfl,by first|exact cj|exact df,rfl⟩
theorem Gl(B m d z p:Nat)(n:Int)(v on:Value)(C:List Int)(a:aC)(dv:Value)(w:World)(A:bZ w B m d z n v C on)(G:ae w p 194 ((aP a dv).arr d))(Q:n+3<=4611686018427387904)(E:fh z C a)(r:a.td=0)(L:a.kn=1->a.at_<=7->a.i=0)(u:a.kn=1)(s:a.at_=6):
 Calls Tryz.prog 236 #[.pointer (some ⟨p,0,none⟩)] w λo w'=>o=.returned (.int .i64 0)/\∃c',ae w' p 194 (c'.arr d)/\dM w B m d z p (n+cnt a) v on (pstep z C a) w' c':=by
 obtain⟨kind,av,K,b,t,l,k,nw,i,S,told,got⟩:=a;simp only at u s r;subst u s r;obtain⟨⟨T,X,H⟩,f⟩:=E;simp only[ml,bd] at H f;refine(ux B m d z p n v on C _ w A G (by omega) f.1.1 f.1.2.2.1 (by simp only[aP];omega) (by simp only[aP];omega) (by simp only[aP];omega) (by simp only[aP];omega) f.2).mono ?_;rintro o w' ⟨rfl,c⟩;refine⟨rfl,_,c.act,?_⟩;have R:=fD (w:=l) (n:=k) (i:=b) (by omega);have D:aN C (ak l k b)=1:=dR (by omega) (by omega);replace c:=c.steps (n':=n+1) (yl (λx=>n+x) D)
 by_cases e:t<b
 ·have g:t<(if (1:Nat)=2 then 0 else b):=by first|exact e|simp[e]
  simp only[aP,yf g] at c ⊢;simp only[dM,pstep,cL,yf e];exact⟨v,c,.nilFunc,by simp[aP,over],df,rfl⟩
 ·have g:¬t<(if (1:Nat)=2 then 0 else b):=by first|exact e|simp[e]
  simp only[aP,yb g] at c ⊢;simp only[dM,pstep,cL,yb e];exact⟨v,c,de 241 p,by simp[aP,goes],cj,rfl⟩
theorem Gm(B m d z p:Nat)(n:Int)(v on:Value)(C:List Int)(a:aC)(dv:Value)(w:World)(r:bZ w B m d z n v C on)(u:ae w p 194 ((aP a dv).arr d))(K:n+3<=4611686018427387904)(s:fh z C a)(g:a.td=0)(H:a.kn=1->a.at_<=7->a.i=0)(l:a.kn=1)(k:a.at_=7):
 Calls Tryz.prog 241 #[.pointer (some ⟨p,0,none⟩)] w λf w'=>f=.returned (.int .i64 0)/\∃c',ae w' p 194 (c'.arr d)/\dM w B m d z p (n+cnt a) v on (pstep z C a) w' c':=by
 obtain⟨kind,av,E,b,t,G,D,nw,i,L,told,got⟩:=a;simp only at l k g;subst l k g;obtain⟨⟨Q,R,A⟩,o⟩:=s;simp only[bd] at A o;refine(vm B m d z p n v on C _ w r u (by omega) (by omega) o).mono ?_;rintro f w' ⟨rfl,e⟩;refine⟨rfl,_,e.act,?_⟩
 by_cases c:ld C (z:Int)=t
 ·simp only[aP,yf c,yg c] at e ⊢
  simp only[dM,pstep,cL,yf c];exact⟨v,e,_,rfl,by first|exact cj|exact df,rfl⟩
 ·simp only[aP,yb c,yd c] at e ⊢
  simp only[dM,pstep,cL,yb c];exact⟨v,e,_,rfl,by first|exact cj|exact df,rfl⟩
theorem Gn(B m d z p:Nat)(n:Int)(v on:Value)(C:List Int)(a:aC)(dv:Value)(w:World)(s:bZ w B m d z n v C on)(A:ae w p 194 ((aP a dv).arr d))(L:n+3<=4611686018427387904)(u:fh z C a)(k:a.td=0)(K:a.kn=1->a.at_<=7->a.i=0)(o:a.kn=1)(l:a.at_=8):
 Calls Tryz.prog 229 #[.pointer (some ⟨p,0,none⟩)] w λg w'=>g=.returned (.int .i64 0)/\∃c',ae w' p 194 (c'.arr d)/\dM w B m d z p (n+cnt a) v on (pstep z C a) w' c':=by
 obtain⟨kind,av,G,b,t,H,E,nw,i,Q,told,got⟩:=a;simp only at o l k;subst o l k;obtain⟨⟨R,S,D⟩,r⟩:=u;simp only[bd] at D r;refine(qc B m d z p n v on C _ w s A (by omega) (by omega) r).mono ?_;rintro g w' ⟨rfl,e⟩;refine⟨rfl,_,e.act,?_⟩
 by_cases c:i=1
 ·have f:decide (True/\i=1)=true:=by first|exact c|simp[c]
  simp only[aP,yf f] at e ⊢;simp only[dM,pstep,cL,yf c];exact⟨v,e,.nilFunc,by simp[aP,over],df,rfl⟩
 ·have f:¬decide (True/\i=1)=true:=by first|exact c|simp[c]
  simp only[aP,yb f] at e ⊢;simp only[dM,pstep,cL,yb c];exact⟨v,e,.nilFunc,by simp[aP,over],df,rfl⟩
theorem Gp(B m d z p:Nat)(n:Int)(v on:Value)(C:List Int)(a:aC)(dv:Value)(w:World)(l:bZ w B m d z n v C on)(s:ae w p 194 ((aP a dv).arr d))(K:n+3<=4611686018427387904)(r:fh z C a)(f:a.td=0)(H:a.kn=1->a.at_<=7->a.i=0)(k:a.kn=2)(g:a.at_=0):
 Calls Tryz.prog 137 #[.pointer (some ⟨p,0,none⟩)] w λe w'=>e=.returned (.int .i64 0)/\∃c',ae w' p 194 (c'.arr d)/\dM w B m d z p (n+cnt a) v on (pstep z C a) w' c':=by
 obtain⟨kind,av,E,b,t,G,D,nw,i,L,told,got⟩:=a;simp only at k g f;subst k g f;obtain⟨⟨Q,R,u⟩,A⟩:=r;simp only[bd] at u A;refine(uN B m d z p n v on C _ w l s (by omega)).mono ?_;rintro e w' ⟨rfl,c⟩;refine⟨rfl,_,c.act,?_⟩;have o:aN C (z:Int)=1:=dR (by first|omega|(simp only[aP];omega)) (by first|omega|(simp only[aP];omega));replace c:=c.steps (n':=n+1) (yl (λx=>n+x) o);exact⟨v,c,_,rfl,by first|exact cj|exact df,rfl⟩
theorem Gq(B m d z p:Nat)(n:Int)(v on:Value)(C:List Int)(a:aC)(dv:Value)(w:World)(o:bZ w B m d z n v C on)(u:ae w p 194 ((aP a dv).arr d))(L:n+3<=4611686018427387904)(s:fh z C a)(g:a.td=0)(K:a.kn=1->a.at_<=7->a.i=0)(l:a.kn=2)(k:a.at_=1):
 Calls Tryz.prog 168 #[.pointer (some ⟨p,0,none⟩)] w λf w'=>f=.returned (.int .i64 0)/\∃c',ae w' p 194 (c'.arr d)/\dM w B m d z p (n+cnt a) v on (pstep z C a) w' c':=by
 obtain⟨kind,av,G,b,t,H,E,nw,i,Q,told,got⟩:=a;simp only at l k g;subst l k g;obtain⟨⟨R,S,A⟩,D⟩:=s;simp only[bd] at A D;refine(rB B m d z p n v on C _ w o u (by omega)).mono ?_;rintro f w' ⟨rfl,c⟩;refine⟨rfl,_,c.act,?_⟩;have r:aN C ((z:Int)+1)=1:=dR (by first|omega|(simp only[aP];omega)) (by first|omega|(simp only[aP];omega));replace c:=c.steps (n':=n+1) (yl (λx=>n+x) r)
 by_cases e:t≥ld C ((z:Int)+1)
 ·simp only[aP,yf e] at c ⊢
  simp only[dM,pstep,bA,yf e];exact⟨v,c,_,rfl,by first|exact cj|exact df,rfl⟩
 ·simp only[aP,yb e] at c ⊢
  simp only[dM,pstep,bA,yb e];exact⟨v,c,_,rfl,by first|exact cj|exact df,rfl⟩
theorem Gr(B m d z p:Nat)(n:Int)(v on:Value)(C:List Int)(a:aC)(dv:Value)(w:World)(l:bZ w B m d z n v C on)(s:ae w p 194 ((aP a dv).arr d))(K:n+3<=4611686018427387904)(r:fh z C a)(f:a.td=0)(H:a.kn=1->a.at_<=7->a.i=0)(k:a.kn=2)(g:a.at_=2):
 Calls Tryz.prog 208 #[.pointer (some ⟨p,0,none⟩)] w λe w'=>e=.returned (.int .i64 0)/\∃c',ae w' p 194 (c'.arr d)/\dM w B m d z p (n+cnt a) v on (pstep z C a) w' c':=by
 obtain⟨kind,av,E,b,t,G,D,nw,i,L,told,got⟩:=a;simp only at k g f;subst k g f;obtain⟨⟨Q,R,u⟩,A⟩:=r;simp only[bd] at u A;refine(r9 B m d z p n v on C _ w l s (by omega)).mono ?_;rintro e w' ⟨rfl,c⟩;refine⟨rfl,_,c.act,?_⟩;have o:aN C ((z:Int)+2)=1:=dR (by first|omega|(simp only[aP];omega)) (by first|omega|(simp only[aP];omega));replace c:=c.steps (n':=n+1) (yl (λx=>n+x) o);exact⟨v,c,_,rfl,by first|exact cj|exact df,rfl⟩
theorem Gs(B m d z p:Nat)(n:Int)(v on:Value)(C:List Int)(a:aC)(dv:Value)(w:World)(o:bZ w B m d z n v C on)(u:ae w p 194 ((aP a dv).arr d))(K:n+3<=4611686018427387904)(s:fh z C a)(f:a.td=0)(H:a.kn=1->a.at_<=7->a.i=0)(k:a.kn=2)(g:a.at_=3):
 Calls Tryz.prog 225 #[.pointer (some ⟨p,0,none⟩)] w λe w'=>e=.returned (.int .i64 0)/\∃c',ae w' p 194 (c'.arr d)/\dM w B m d z p (n+cnt a) v on (pstep z C a) w' c':=by
 obtain⟨kind,av,G,b,t,l,E,nw,i,L,told,got⟩:=a;simp only at k g f;subst k g f;obtain⟨⟨Q,R,A⟩,D⟩:=s;simp only[bd] at A D;refine(sX B m d z p n v on C _ w o u (by omega)).mono ?_;rintro e w' ⟨rfl,c⟩;refine⟨rfl,_,c.act,?_⟩;have r:aN C l=1:=dR (by first|omega|(simp only[aP];omega)) (by first|omega|(simp only[aP];omega));replace c:=c.steps (n':=n+1) (yl (λx=>n+x) r);exact⟨v,c,_,rfl,by first|exact cj|exact df,rfl⟩
theorem Gt(B m d z p:Nat)(n:Int)(v on:Value)(C:List Int)(a:aC)(dv:Value)(w:World)(s:bZ w B m d z n v C on)(D:ae w p 194 ((aP a dv).arr d))(K:n+3<=4611686018427387904)(A:fh z C a)(l:a.td=0)(H:a.kn=1->a.at_<=7->a.i=0)(r:a.kn=2)(o:a.at_=4):
 Calls Tryz.prog 234 #[.pointer (some ⟨p,0,none⟩)] w λk w'=>k=.returned (.int .i64 0)/\∃c',ae w' p 194 (c'.arr d)/\dM w B m d z p (n+cnt a) v on (pstep z C a) w' c':=by
 obtain⟨kind,av,G,b,t,g,f,nw,i,Q,told,got⟩:=a;simp only at r o l;subst r o l;obtain⟨⟨R,S,E⟩,e⟩:=A;simp only[ml,bd] at E e;refine(r8 B m d z p n v on C _ w s D (by omega) e.1 e.2.2.1 (by simp only[aP];omega) (by simp only[aP];omega) (by simp only[aP];omega)).mono ?_;rintro k w' ⟨rfl,c⟩;refine⟨rfl,_,c.act,?_⟩;have L:=fD (w:=g) (n:=f) (i:=t) (by omega);have u:aN C (ak g f t)=1:=dR (by omega) (by omega);replace c:=c.steps (n':=n+1) (yl (λx=>n+x) u);exact⟨v,c,_,rfl,by first|exact cj|exact df,rfl⟩
theorem Gu(B m d z p:Nat)(n:Int)(v on:Value)(C:List Int)(a:aC)(dv:Value)(w:World)(r:bZ w B m d z n v C on)(u:ae w p 194 ((aP a dv).arr d))(K:n+3<=4611686018427387904)(s:fh z C a)(g:a.td=0)(H:a.kn=1->a.at_<=7->a.i=0)(l:a.kn=2)(k:a.at_=5):
 Calls Tryz.prog 238 #[.pointer (some ⟨p,0,none⟩)] w λf w'=>f=.returned (.int .i64 0)/\∃c',ae w' p 194 (c'.arr d)/\dM w B m d z p (n+cnt a) v on (pstep z C a) w' c':=by
 obtain⟨kind,av,E,b,t,G,D,nw,i,L,told,got⟩:=a;simp only at l k g;subst l k g;obtain⟨⟨Q,R,A⟩,o⟩:=s;simp only[bd] at A o;refine(sY B m d z p n v on C _ w r u (by omega) (by omega) o).mono ?_;rintro f w' ⟨rfl,c⟩;refine⟨rfl,_,c.act,?_⟩
 by_cases e:ld C (z:Int)=t
 ·simp only[aP,yf e] at c ⊢
  simp only[dM,pstep,bA,yf e];exact⟨v,c,_,rfl,by first|exact cj|exact df,rfl⟩
 ·simp only[aP,yb e] at c ⊢
  simp only[dM,pstep,bA,yb e];exact⟨v,c,_,rfl,by first|exact cj|exact df,rfl⟩
set_option maxRecDepth 100000
theorem jI.kp{w w':World}{p:Nat}{v v':Value}{a:aC}{dv:Value}{S:Nat->Prop}(b:jI w p v a dv)(r:aa S w w')(E:∀e (cs:Array Value),ae w e 125 cs->¬S e)(hv:∀c (cs:Array Value),ae w c 2 cs->v.ownBlock≠some c->¬S c)
 (D:∀k,v'.ownBlock=some k->v.ownBlock=some k\/w.heap.size<=k):jI w' p v' a dv:=by
 unfold jI at b ⊢;split at b
 ·rename_i f
  rw[yf f];split at b
  ·rename_i g
   rw[yf g];obtain⟨e,c,u,s,l,t⟩:=b;refine⟨e,c,u,r.J s (E _ _ s),r.J l (hv _ _ l t),λA=>?_⟩
   rcases D _ A with o|o
   ·exact t o
   ·have:=l.lt;omega
  ·rename_i g
   rw[yb g];exact b
 ·rename_i f
  rw[yb f];exact b
structure qG(w:World)(B m d z p:Nat)(n:Int)(v on:Value)(r:ke)(w':World)(v':Value):Prop where
 dq:bZ w' B m d z n v' r.C on
 act:lH w' p d v' r.a
 only:aa (λx=>bO m v x\/x=d\/x=p) w w'
 row:∀k,v'.ownBlock=some k->v.ownBlock=some k\/w.heap.size<=k
 new:∃dv,ae w' p 194 ((aP r.a dv).arr d)/\vW w dv
theorem xm{d:Int}{C:List Int}{a:aC}(e:a.td=0)(c:a.got=0):(pstep d C a).what=(pstep d C a).a.td/\(pstep d C a).val=(pstep d C a).a.got/\(pstep d C a).a.kn=a.kn/\((pstep d C a).a.td=0->(pstep d C a).a.got=0):=by
 have g:∀(b:aC) (k:Nat) (C':List Int),b.td=0->b.got=0->b.kn=a.kn->(goes b k C').what=(goes b k C').a.td/\(goes b k C').val=(goes b k C').a.got/\(goes b k C').a.kn=a.kn/\((goes b k C').a.td=0->(goes b k C').a.got=0):=by
  intro b k C' r l f;exact⟨r.symm,l.symm,f,λ_=>l⟩
 have hv:∀(b:aC) (k:Nat) (x:Int) (C':List Int),b.kn=a.kn->k≠0->(over b k x C').what=(over b k x C').a.td/\(over b k x C').val=(over b k x C').a.got/\(over b k x C').a.kn=a.kn/\((over b k x C').a.td=0->(over b k x C').a.got=0):=by
  intro b k x C' f s;exact⟨rfl,rfl,f,λo=>absurd o s⟩
 unfold pstep;split
 ·unfold fH
  split<;>first|exact g _ _ _ e c rfl|exact hv _ _ _ _ rfl (by decide)
 ·unfold cL
  split<;>(try split)<;>first|exact g _ _ _ e c rfl|exact hv _ _ _ _ rfl (by decide)
 ·unfold bA
  split<;>(try split)<;>first|exact g _ _ _ e c rfl|exact hv _ _ _ _ rfl (by decide)
theorem Dt{d:Int}{C:List Int}{a:aC}(g:a.kn=1->a.at_<=7->a.i=0):(pstep d C a).a.kn=1->(pstep d C a).a.at_<=7->(pstep d C a).a.i=0:=by
 obtain⟨kind,av,l,b,t,o,k,nw,i,s,told,got⟩:=a;simp only at g;unfold pstep;split
 ·rename_i c
  intro e;exfalso;simp only at c;subst c;revert e;unfold fH;split<;>simp[goes,over]
 ·rename_i c
  simp only at c;subst c;unfold cL;split<;>(try split)<;>simp_all [goes,over]
 ·rename_i r e
  intro c;exfalso;simp only at e;revert c;unfold bA;split<;>(try split)<;>simp[goes,over]<;>exact λf=>e f
theorem Bb{w f w':World}{B m d z p:Nat}{n:Int}{v on:Value}{C:List Int}{a:aC}{c:AC}(u:a.td=0)(s:a.got=0)(A:a.kn=1->a.at_<=7->a.i=0)(E:a.kn<=2)(t:dM w B m d z p n v on (pstep z C a) f c)(e:aa (λ_=>False) f w'):
 (.tuple #[.int .u8 c.wh,.int .i64 c.x,.int .i64 0]:Value)=.tuple #[.int .u8 ((pstep z C a).what:Int),.int .i64 (pstep z C a).val,.int .i64 0]/\∃v',qG w B m d z p n v on (pstep z C a) w' v':=by
 obtain⟨v',G,dv,rfl,K,H⟩:=t;obtain⟨g,k,l,o⟩:=xm (d:=z) (C:=C) u s;have D:=Dt (d:=z) (C:=C) A;generalize pstep z C a=r at*;have q:=G.quiet e;refine⟨by simp only[aP];rw[g,k],v',q.dq,⟨⟨dv,q.act,H.kp e (λ_ _ _ b=>b) (λ_ _ _ _ b=>b) (λ_ b=>.inl b)⟩,D,o,by rw[l];exact E⟩,q.only,q.row,dv,q.act,K⟩
def D9(a:aC):Prop:=
 a.kn=0/\(a.at_=0\/a.at_=1\/a.at_=2\/a.at_=3\/a.at_=10\/a.at_=11\/a.at_=12\/a.at_=13\/a.at_=20\/a.at_=21)\/
 a.kn=1/\(a.at_=0\/a.at_=1\/a.at_=2\/a.at_=3\/a.at_=4\/a.at_=5\/a.at_=6\/a.at_=7\/a.at_=8)\/
 a.kn=2/\(a.at_=0\/a.at_=1\/a.at_=2\/a.at_=3\/a.at_=4\/a.at_=5)
theorem FX(B m d z p:Nat)(n:Int)(v on:Value)(C:List Int)(a:aC)(dv:Value)(w:World)(u:bZ w B m d z n v C on)(K:ae w p 194 ((aP a dv).arr d))(H:n+3<=4611686018427387904)(D:fh z C a)(l:a.td=0)(Y:a.kn=1->a.at_<=7->a.i=0)(r:a.kn=0)(o:a.at_=12)(f c:Nat)(E:ae w f 125 #[.pointer (some ⟨p,0,none⟩)])(G:ae w c 2 #[.int .i64 a.read])(Q:v.ownBlock≠some c):
 Calls Tryz.prog 248 #[.pointer (some ⟨f,0,none⟩),.pointer (some ⟨c,0,none⟩)] w λk w'=>k=.returned (.int .i64 0)/\∃c',ae w' p 194 (c'.arr d)/\dM w B m d z p (n+cnt a) v on (pstep z C a) w' c':=by
 obtain⟨kind,av,T,b,t,X,g,nw,i,R,told,got⟩:=a;simp only at r o l;subst r o l;obtain⟨⟨a0,a1,S⟩,s⟩:=D;simp only[ml,bd] at S s;refine(sR f c R B m d z p n v on C _ w u K (by omega) E G Q s.1 (by simp only[aP];omega) (by simp only[aP];omega) (by simp only[aP];omega) (by simp only[aP];omega) (by simp only[aP,yR];omega) (by simp only[aP];omega) H).mono ?_;rintro k w' ⟨rfl,e⟩;refine⟨rfl,_,e.act,?_⟩;have Z:=fD (w:=nw) (n:=2*g) (i:=i) (by omega);have A:aN C (ak nw (2*g) i)=1:=dR (by omega) (by omega);replace e:=e.steps (n':=n+1) (yl (λx=>n+x) A);refine⟨v,e,_,rfl,by split<;>exact cj,?_⟩
 by_cases L:i+1=b<;>simp[jI,pstep,fH,goes,L,rj,aP]
theorem Aa(B m d z p:Nat)(n:Int)(v on:Value)(C:List Int)(a:aC)(w:World)(o:bZ w B m d z n v C on)(b:lH w p d v a)(s:n+3<=4611686018427387904)(r:fh z C a)(f:a.td=0)(K:D9 a):
 Calls Tryz.prog 83 #[.pointer (some ⟨p,0,none⟩)] w λu w'=>u=.returned (.tuple #[.int .u8 ((pstep z C a).what:Int),.int .i64 (pstep z C a).val,.int .i64 0])/\∃v',qG w B m d z p (n+cnt a) v on (pstep z C a) w' v':=by
 obtain⟨⟨dv,g,c⟩,l,Q,R⟩:=b
 have gJ:∀(u:Ending) (w':World),(∃c' E,u=.returned (.tuple #[.int .u8 c'.wh,.int .i64 c'.x,.int .i64 0])/\dM w B m d z p (n+cnt a) v on (pstep z C a) E c'/\aa (λ_=>False) E w')->u=.returned (.tuple #[.int .u8 ((pstep z C a).what:Int),.int .i64 (pstep z C a).val,.int .i64 0])/\∃v',qG w B m d z p (n+cnt a) v on (pstep z C a) w' v':=by
  rintro u w' ⟨c',E,rfl,Z,a0⟩;obtain⟨a1,a2⟩:=Bb f (Q f) l R Z a0;exact⟨by rw[a1],a2⟩
 have t:∀(A:Nat),(∀w,(callFunc A #[.pointer (some ⟨p,0,none⟩)]).run Tryz.prog w=.ok (.enter A #[.pointer (some ⟨p,0,none⟩)]) w)->dv=de A p->
  (Calls Tryz.prog A #[.pointer (some ⟨p,0,none⟩)] w λu w'=>u=.returned (.int .i64 0)/\∃c',ae w' p 194 (c'.arr d)/\dM w B m d z p (n+cnt a) v on (pstep z C a) w' c')->
  Calls Tryz.prog 83 #[.pointer (some ⟨p,0,none⟩)] w λu w'=>u=.returned (.tuple #[.int .u8 ((pstep z C a).what:Int),.int .i64 (pstep z C a).val,.int .i64 0])/\∃v',qG w B m d z p (n+cnt a) v on (pstep z C a) w' v':=by
  intro A L D S;refine(uQ p d A #[.pointer (some ⟨p,0,none⟩)] #[] _ w _ g D L S).mono ?_;exact λu w' k=>gJ u w' k
 unfold jI at c;rw[yf f] at c
 rcases K with⟨e,b⟩|⟨e,b⟩|⟨e,b⟩
 ·rcases b with b|b|b|b|b|b|b|b|b|b
  ·rw[yb (by omega),e,b] at c
   exact t 178 (λ_=>by kernel_rfl) c (Gb B m d z p n v on C a dv w o g s r f l e b)
  ·rw[yb (by omega),e,b] at c
   exact t 210 (λ_=>by kernel_rfl) c (Gc B m d z p n v on C a dv w o g s r f l e b)
  ·rw[yb (by omega),e,b] at c
   exact t 226 (λ_=>by kernel_rfl) c (Gd B m d z p n v on C a dv w o g s r f l e b)
  ·rw[yb (by omega),e,b] at c
   exact t 235 (λ_=>by kernel_rfl) c (Ge B m d z p n v on C a dv w o g s r f l e b)
  ·rw[yb (by omega),e,b] at c
   exact t 239 (λ_=>by kernel_rfl) c (FV B m d z p n v on C a dv w o g s r f l e b)
  ·rw[yb (by omega),e,b] at c
   exact t 247 (λ_=>by kernel_rfl) c (FW B m d z p n v on C a dv w o g s r f l e b)
  ·rw[yf ⟨e,b⟩] at c
   obtain⟨G,H,D,T,X,Y⟩:=c;refine(uQ p d 248 #[] #[.pointer (some ⟨G,0,none⟩),.pointer (some ⟨H,0,none⟩)] _ w _ g D (λ_=>by kernel_rfl) (FX B m d z p n v on C a dv w o g s r f l e b G H T X Y)).mono ?_;exact λu w' k=>gJ u w' k
  ·rw[yb (by omega),e,b] at c
   exact t 246 (λ_=>by kernel_rfl) c (FY B m d z p n v on C a dv w o g s r f l e b)
  ·rw[yb (by omega),e,b] at c
   exact t 240 (λ_=>by kernel_rfl) c (FZ B m d z p n v on C a dv w o g s r f l e b)
  ·rw[yb (by omega),e,b] at c
   exact t 244 (λ_=>by kernel_rfl) c (F1 B m d z p n v on C a dv w o g s r f l e b)
 ·rcases b with b|b|b|b|b|b|b|b|b
  ·rw[yb (by omega),e,b] at c
   exact t 96 (λ_=>by kernel_rfl) c (Gf B m d z p n v on C a dv w o g s r f l e b)
  ·rw[yb (by omega),e,b] at c
   exact t 144 (λ_=>by kernel_rfl) c (Gg B m d z p n v on C a dv w o g s r f l e b)
  ·rw[yb (by omega),e,b] at c
   exact t 180 (λ_=>by kernel_rfl) c (Gh B m d z p n v on C a dv w o g s r f l e b)
  ·rw[yb (by omega),e,b] at c
   exact t 213 (λ_=>by kernel_rfl) c (Gi B m d z p n v on C a dv w o g s r f l e b)
  ·rw[yb (by omega),e,b] at c
   exact t 229 (λ_=>by kernel_rfl) c (Gj B m d z p n v on C a dv w o g s r f l e b)
  ·rw[yb (by omega),e,b] at c
   exact t 230 (λ_=>by kernel_rfl) c (Gk B m d z p n v on C a dv w o g s r f l e b)
  ·rw[yb (by omega),e,b] at c
   exact t 236 (λ_=>by kernel_rfl) c (Gl B m d z p n v on C a dv w o g s r f l e b)
  ·rw[yb (by omega),e,b] at c
   exact t 241 (λ_=>by kernel_rfl) c (Gm B m d z p n v on C a dv w o g s r f l e b)
  ·rw[yb (by omega),e,b] at c
   exact t 229 (λ_=>by kernel_rfl) c (Gn B m d z p n v on C a dv w o g s r f l e b)
 ·rcases b with b|b|b|b|b|b
  ·rw[yb (by omega),e,b] at c
   exact t 137 (λ_=>by kernel_rfl) c (Gp B m d z p n v on C a dv w o g s r f l e b)
  ·rw[yb (by omega),e,b] at c
   exact t 168 (λ_=>by kernel_rfl) c (Gq B m d z p n v on C a dv w o g s r f l e b)
  ·rw[yb (by omega),e,b] at c
   exact t 208 (λ_=>by kernel_rfl) c (Gr B m d z p n v on C a dv w o g s r f l e b)
  ·rw[yb (by omega),e,b] at c
   exact t 225 (λ_=>by kernel_rfl) c (Gs B m d z p n v on C a dv w o g s r f l e b)
  ·rw[yb (by omega),e,b] at c
   exact t 234 (λ_=>by kernel_rfl) c (Gt B m d z p n v on C a dv w o g s r f l e b)
  ·rw[yb (by omega),e,b] at c
   exact t 238 (λ_=>by kernel_rfl) c (Gu B m d z p n v on C a dv w o g s r f l e b)
end
section
section
variable {z:Nat}{C:List Int}{ws:List (Int×Int)}{cur:Int×Int}{q:List Int}{P:Int}
theorem Fg(s:dI z C ws cur q P){o:Option aC}(f:lN (ld C z) (ld C ((z:Int)+1)) cur C ws q P o): -1<=ld C ((z:Int)+1)/\ld C ((z:Int)+1)<=P:=by
 have D:=s.top0;have r:=s.topP
 cases o with
 |none=>
  have A:ld C ((z:Int)+1)=ld C z+q.length:=f;omega
 |some a=>
  obtain⟨_,f⟩:=f
  rcases f with⟨_,k,_,_⟩|⟨_,u⟩
  ·omega
  ·cases u with
   |s0 b k=>omega
   |s1 b k c=>omega
   |s2 b k c l=>omega
   |s3 b c e l=>omega
   |s4 b c e g=>subst e;simp at r;omega
   |s5 b c e l g t=>omega
   |s6 b c e l g t G=>omega
   |s7 b c e g K H=>omega
   |s8 b c e g E=>subst e;simp at r;omega
theorem Bg{T:Int}{acts:List aC}{on:Option Nat}{L:List Int}{N:Int}(K:fZ T z C acts on L P N ws)(ar:P<=10000)(an:N<=20000)(b4:C.length<=45000){i:Nat}{a:aC}(G:acts[i]?=some a)(Q:a.td=0)(a4:a.kn<=2):fh z C a/\D9 a:=by
 obtain⟨cur,q,r,u,a9,am,a0⟩:=K.ex;have az:=Fg r u;have b5:=r.top0;have b6:=r.topP;have a1:=r.dl;have aE:=a9.2;have D:∀p∈ws,1<=p.2/\(z:Int)+2<p.1/\p.1+p.2<C.length:=λp A=>by have:=r.lay p A;omega
 have base:(z:Int)+2<C.length/\C.length<=65536/\bd (ld C ((z:Int)+1)):=⟨a1,by omega,by unfold bd;omega⟩
 have b0:=D cur r.curm;unfold fh;obtain⟨kind,av,Y,b,t,Z,X,nw,ai,al,told,got⟩:=a;simp only at Q a4;subst Q
 by_cases R:kind=2
 ·subst R
  have e:=a0 i _ G rfl rfl
  cases e with
  |s0 c=>simp only at c;subst c;exact⟨⟨base,trivial⟩,.inr (.inr ⟨rfl,by simp⟩)⟩
  |s1 c e=>simp only at c;subst c;exact⟨⟨base,trivial⟩,.inr (.inr ⟨rfl,by simp⟩)⟩
  |s2 c e o=>simp only at c;subst c;exact⟨⟨base,trivial⟩,.inr (.inr ⟨rfl,by simp⟩)⟩
  |s3 c e o k ad=>
   simp only at c e k;subst c;have:=D _ k.1;simp only at this;exact⟨⟨base,by simp only;omega⟩,.inr (.inr ⟨rfl,by simp⟩)⟩
  |s4 c e o k ad l=>
   simp only at c e k l;subst c;have:=D _ k.1;simp only at this;exact⟨⟨base,by simp only[ml];omega⟩,.inr (.inr ⟨rfl,by simp⟩)⟩
  |s5 c e o S=>
   simp only at c e;subst c;exact⟨⟨base,by simp only[bd];omega⟩,.inr (.inr ⟨rfl,by simp⟩)⟩
 ·have a7:=K.kinds i _ G rfl R
  subst a7;have a8:own acts (some i)=some ⟨kind,av,Y,b,t,Z,X,nw,ai,al,0,got⟩:=by simp only[own,G,yR]
  rw[a8] at u;obtain⟨_,u⟩:=u;simp only at u
  rcases u with⟨a5,E,aw,A⟩|⟨a6,A⟩
  ·subst a5
   cases A with
   |s0 c=>simp only at c;subst c;exact⟨⟨base,trivial⟩,.inl ⟨rfl,by simp⟩⟩
   |s1 c f=>simp only at c;subst c;exact⟨⟨base,trivial⟩,.inl ⟨rfl,by simp⟩⟩
   |s2 c f e=>simp only at c;subst c;exact⟨⟨base,trivial⟩,.inl ⟨rfl,by simp⟩⟩
   |s3 c f e k=>simp only[PT] at c f e k;subst c;exact⟨⟨base,by simp only[bd];omega⟩,.inl ⟨rfl,by simp⟩⟩
   |s10 c f e k l a2=>simp only[PT] at c f e k l a2;subst c;exact⟨⟨base,by simp only;omega⟩,.inl ⟨rfl,by simp⟩⟩
   |s11 c f e k l g s=>simp only[PT,Grow] at c f e k l s g;subst c;exact⟨⟨base,by simp only[ml];omega⟩,.inl ⟨rfl,by simp⟩⟩
   |s12 c f e k l g s S=>
    simp only[PT,Grow] at c f e k l s g;subst c;have:=D _ g.1;simp only at this;exact⟨⟨base,by simp only[ml];omega⟩,.inl ⟨rfl,by simp⟩⟩
   |s13 c f e k l g s=>simp only[PT,Grow] at c f e k l s g;subst c;exact⟨⟨base,by simp only;omega⟩,.inl ⟨rfl,by simp⟩⟩
   |s20 c f e k l H=>simp only[PT] at c f e k l H;subst c;exact⟨⟨base,by simp only[ml];omega⟩,.inl ⟨rfl,by simp⟩⟩
   |s21 c f e k l H hv=>simp only[PT] at c f e k l H;subst c;exact⟨⟨base,by simp only[bd];omega⟩,.inl ⟨rfl,by simp⟩⟩
  ·subst a6
   cases A with
   |s0 c E=>simp only at c;subst c;exact⟨⟨base,trivial⟩,.inr (.inl ⟨rfl,by simp⟩)⟩
   |s1 c E f=>simp only at c;subst c;exact⟨⟨base,trivial⟩,.inr (.inl ⟨rfl,by simp⟩)⟩
   |s2 c E f k=>simp only at c;subst c;exact⟨⟨base,trivial⟩,.inr (.inl ⟨rfl,by simp⟩)⟩
   |s3 c f o k=>simp only at c f o k;subst c;exact⟨⟨base,by simp only[bd];omega⟩,.inr (.inl ⟨rfl,by simp⟩)⟩
   |s4 c f o e=>simp only at c f o e;subst c;exact⟨⟨base,by simp only[bd];omega⟩,.inr (.inl ⟨rfl,by simp⟩)⟩
   |s5 c f o k e a3=>simp only at c f o k e;subst c;exact⟨⟨base,by simp only;omega⟩,.inr (.inl ⟨rfl,by simp⟩)⟩
   |s6 c f o k e a3 l=>simp only at c f o k e l;subst c;exact⟨⟨base,by simp only[ml,bd];omega⟩,.inr (.inl ⟨rfl,by simp⟩)⟩
   |s7 c f o e ab S=>simp only at c f o e ab;subst c;exact⟨⟨base,by simp only[bd];omega⟩,.inr (.inl ⟨rfl,by simp⟩)⟩
   |s8 c f o e s=>simp only at c f o e;subst c;exact⟨⟨base,by simp only[bd];omega⟩,.inr (.inl ⟨rfl,by simp⟩)⟩
end
set_option maxRecDepth 100000
open Go.RowKit
def iT:AC:=⟨.nilFunc,0,0,0,0,0,0,0,0,0,false⟩
def D6(B m d z p:Nat)(n:Int)(v:Value)(C:List Int)(w w':World):Prop:=
 bZ w' B m d z n v C (.pointer (some ⟨p,0,none⟩))/\ae w' p 194 (iT.arr d)/\aa (λx=>x=d) w w'
theorem ru(B m d z:Nat)(n:Int)(v on:Value)(C:List Int)(w:World)(b:bZ w B m d z n v C on)(t:on=.pointer none\/∃p c,on=.pointer (some ⟨p,0,none⟩)/\ae w p 194 (AC.arr c d)/\c.dv=.nilFunc):
 Calls Tryz.prog 94 #[.pointer (some ⟨d,0,none⟩)] w λe w'=>e=.returned (.tuple #[.pointer (some ⟨w.heap.size,0,none⟩),.int .i64 0])/\D6 B m d z w.heap.size n v C w w':=by
 have D:w.cell? ⟨d,0,none⟩=some (.pointer (some ⟨m,0,none⟩)):=b.J.I 0;have H:=b.J.lt;have A:=hD b
 have r:∀N,N=w.heap.size->D6 B m d z N n v C w ((w.setCell ⟨d,6,none⟩ (.pointer (some ⟨N,0,none⟩))).alloc (.cells (iT.arr d) 194)):=by
  rintro N rfl;have o:aa (λx=>x=d) w ((w.setCell ⟨d,6,none⟩ (.pointer (some ⟨w.heap.size,0,none⟩))).alloc (.cells (iT.arr d) 194)):=((aa.refl (λx=>x=d) w).setCell (p:=⟨d,6,none⟩) (.inl rfl) _).alloc _;refine⟨⟨b.mem.only o (λe=>b.away (.inl e.symm)) (λk s e=>b.away (.inr (e ▸ s))),?_,b.base⟩,?_,o⟩
  ·exact(b.J.s_ 6 _).alloc _
  ·have u:(w.setCell ⟨d,6,none⟩ (.pointer (some ⟨w.heap.size,0,none⟩))).heap.size=w.heap.size:=by simp[World.setCell]
   have f:=ae.new (w.setCell ⟨d,6,none⟩ (.pointer (some ⟨w.heap.size,0,none⟩))) 194 (iT.arr d)
   rwa [u] at f
 have g:=hD (r _ rfl);have E:w.cell? ⟨d,6,none⟩=some on:=b.J.I 6;have G:w.frozen? ⟨d,6,none⟩=false:=b.J.fz 6;clear b r
 rcases t with rfl|⟨p,c,rfl,f,l⟩
 ·go_enter Tryz.func94,Tryz.ntmps94
  go_wp2_with fail
  go_ret2
  exact⟨rfl,g.O⟩
 ·have K:w.cell? ⟨p,0,none⟩=some .nilFunc:=by rw[<-l];exact f.I 0
  have L:∀w,(binOp .neq 190 .nilFunc .nilFunc).run Tryz.prog w=.ok (.bool false) w:=λ_=>rfl
  clear f l;go_enter Tryz.func94,Tryz.ntmps94;go_wp2_with fail
  go_ret2
  exact⟨rfl,g.O⟩
def td(B m d z p:Nat)(n:Int)(v on':Value)(C:List Int)(a:aC)(w w':World):Prop:=
 bZ w' B m d z n v C on'/\lH w' p d v a/\aa (λx=>x=d) w w'
theorem BN(B m d z:Nat)(n:Int)(v on:Value)(C:List Int)(x:Int)(w:World)(o:bZ w B m d z n v C on)(s:on=.pointer none\/∃p c,on=.pointer (some ⟨p,0,none⟩)/\ae w p 194 (AC.arr c d)/\c.dv=.nilFunc):
 Calls Tryz.prog 142 #[.pointer (some ⟨d,0,none⟩),.int .i64 x] w λb w'=>b=.returned (.tuple #[.pointer (some ⟨w.heap.size,0,none⟩),.int .i64 0])/\td B m d z w.heap.size n v (.pointer (some ⟨w.heap.size,0,none⟩)) C (cQ 0 x) w w':=by
 obtain⟨p,k⟩:=eX w.heap.size;have g:=ru B m d z n v on C w o s;rw[<-k] at g ⊢;have D:=hD k;have A:=hD g;clear o s g k;go_enter Tryz.func142,Tryz.ntmps142;go_wp2_with fail;refine A.O.mono ?_;rintro b f ⟨rfl,t,e,u⟩;have E:=hD t;have G:=hD e;have H:=hD u;have L:f.cell? ⟨p,4,none⟩=some (.int .i64 0):=e.I 4;have Q:f.frozen? ⟨p,4,none⟩=false:=e.fz 4;clear t e u;go_wp2_with fail;have l:Hd (au f (f.setCell ⟨p,4,none⟩ (.int .i64 x)) B m d z p n v v _ C {iT with v:=x}):=hD ((au.refl E.O G.O).set 4 _ rfl);refine(cl p _ _ _ _ _ l.O.act (by simp[AC.arr])).mono ?_;rintro b w2 ⟨rfl,rfl⟩;go_wp2_with fail
 go_ret2
 have r:=l.O.set 0 (de 178 p) (c':=aP (cQ 0 x) (de 178 p)) rfl;refine⟨rfl,r.dq,⟨⟨_,r.act,rfl⟩,(λb=>by cases b),λ_=>rfl,by simp[cQ]⟩,?_⟩;exact H.O.trans' (((aa.refl (λx=>x=p) _).setCell (p:=⟨p,4,none⟩) (.inl rfl) _).setCell (p:=⟨p,0,none⟩) (.inl rfl) _) (λi K=>.inr (by rw[K,D.O];exact lR))
theorem Dr(B m d z:Nat)(n:Int)(v on:Value)(C:List Int)(w:World)(k:bZ w B m d z n v C on)(o:on=.pointer none\/∃p c,on=.pointer (some ⟨p,0,none⟩)/\ae w p 194 (AC.arr c d)/\c.dv=.nilFunc):
 Calls Tryz.prog 47 #[.pointer (some ⟨d,0,none⟩)] w λb w'=>b=.returned (.tuple #[.pointer (some ⟨w.heap.size,0,none⟩),.int .i64 0])/\td B m d z w.heap.size n v (.pointer (some ⟨w.heap.size,0,none⟩)) C (cQ 1 0) w w':=by
 obtain⟨p,f⟩:=eX w.heap.size;have e:=ru B m d z n v on C w k o;rw[<-f] at e ⊢;have D:=hD f;have A:=hD e;clear k o e f;go_enter Tryz.func47,Tryz.ntmps47;go_wp2_with fail;refine A.O.mono ?_;rintro b u ⟨rfl,r,s,t⟩;have E:=hD r;have G:=hD s;have H:=hD t;clear r s t;go_wp2_with fail;have g:Hd (au u u B m d z p n v v _ C iT):=hD (au.refl E.O G.O);refine(cl p _ _ _ _ _ g.O.act (by simp[AC.arr])).mono ?_;rintro b w2 ⟨rfl,rfl⟩;go_wp2_with fail
 go_ret2
 have l:=g.O.set 0 (de 96 p) (c':=aP (cQ 1 0) (de 96 p)) rfl;refine⟨rfl,l.dq,⟨⟨_,l.act,rfl⟩,λ_ _=>rfl,λ_=>rfl,by decide⟩,?_⟩;exact H.O.trans' ((aa.refl (λx=>x=p) _).setCell (p:=⟨p,0,none⟩) (.inl rfl) _) (λi K=>.inr (by rw[K,D.O];exact lR))
theorem xG(B m d z:Nat)(n:Int)(v on:Value)(C:List Int)(w:World)(e:bZ w B m d z n v C on):
 Calls Tryz.prog 85 #[.pointer (some ⟨d,0,none⟩)] w λb w'=>b=.returned (.tuple #[.pointer (some ⟨w.heap.size,0,none⟩),.int .i64 0])/\td B m d z w.heap.size n v on C (cQ 2 0) w w':=by
 obtain⟨p,f⟩:=eX w.heap.size;obtain⟨c,g⟩:=eX (w.alloc (.cells (iT.arr d) 194));have o:aa (λ_=>False) w c:=by rw[g];exact(aa.refl _ w).alloc _
 have s:bZ c B m d z n v C on:=⟨e.mem.only o nF nG,o.J e.J nF,e.base⟩
 have r:ae c p 194 (iT.arr d):=by rw[g,f];exact ae.new w _ _
 have k:Hd (au c c B m d z p n v v on C iT):=hD (au.refl s r);have u:=hD f;have t:=hD o;have E:w.cell? ⟨d,0,none⟩=some (.pointer (some ⟨m,0,none⟩)):=e.J.I 0;have A:Hd (w.alloc (.cells #[.nilFunc,.int .u8 0,.int .i64 0,.pointer (some ⟨d,0,none⟩),.int .i64 0,.int .i64 0,.int .i64 0,.int .i64 0,.int .i64 0,.int .i64 0,.int .i64 0,.bool false] 194)=c):=hD (by rw[g];rfl);rw[<-f];clear e s r o g;go_enter Tryz.func85,Tryz.ntmps85;go_wp2_with fail;rw[A.O,<-f];clear f;refine(cl p _ _ _ _ _ k.O.act (by simp[AC.arr,iT])).mono ?_;rintro b w2 ⟨rfl,rfl⟩;go_wp2_with fail
 go_ret2
 have l:=k.O.set 0 (de 137 p) (c':=aP (cQ 2 0) (de 137 p)) rfl;refine⟨rfl,l.dq,⟨⟨_,l.act,rfl⟩,(λb=>by cases b),λ_=>rfl,by simp[cQ]⟩,?_⟩;exact(t.O.mono (T:=λx=>x=d) λ_ b=>b.elim).trans' ((aa.refl (λx=>x=p) _).setCell (p:=⟨p,0,none⟩) (.inl rfl) _) (λi D=>.inr (by rw[D,u.O];exact lR))
def jE(ps:List Nat):Option Nat->Value
 |none=>.pointer none
 |some i=>.pointer (some ⟨ps.getD i 0,0,none⟩)
def tr(w:World)(F:Nat->Prop)(p:Nat):Prop:=∀(f:Fn) (ba bv:Nat),w.cell? ⟨p,0,none⟩=some (.func f #[] #[.pointer (some ⟨ba,0,none⟩),.pointer (some ⟨bv,0,none⟩)])->F ba/\F bv
def mF(m z:Nat)(C:List Int)(on:Value):Array Value:=
 #[.pointer (some ⟨m,0,none⟩),.int .i64 (z:Int),.int .i64 ((z:Int)+1),.int .i64 ((z:Int)+2),.int .i64 (ld C z),.int .i64 (ld C ((z:Int)+1)),on]
structure DW(w:World)(F:Nat->Prop)(m:Nat)(n:Int)(v:Value)(C:List Int)(ds:List aT)(dp:List Nat)(ps:List (List Nat)):Prop where
 fm:F m
 fv:∀k,v.ownBlock=some k->F k
 mem:cx w 0 m n v C
 dlen:dp.length=ds.length
 plen:ps.length=ds.length
 dq:∀(j:Nat) (x:aT),ds[j]?=some x->∃d pl,dp[j]?=some d/\ps[j]?=some pl/\F d/\0<=x.d/\ae w d 218 (mF m x.d.toNat C (jE pl x.on))/\pl.length=x.acts.length
 act:∀(j i:Nat) (x:aT) (a:aC),ds[j]?=some x->x.acts[i]?=some a->∃d pl p,dp[j]?=some d/\ps[j]?=some pl/\pl[i]?=some p/\F p/\lH w p d v a/\tr w F p
 dne:∀(i j:Nat) d d',i≠j->dp[i]?=some d->dp[j]?=some d'->d≠d'
 pne:∀(j i j' i':Nat) (pl pl':List Nat) p p',ps[j]?=some pl->pl[i]?=some p->ps[j']?=some pl'->pl'[i']?=some p'->(j≠j'\/i≠i')->p≠p'
section
variable {w w':World}{F F':Nat->Prop}{m j i:Nat}{n n':Int}{v v':Value}{C C':List Int}{ds:List aT}{dp:List Nat}{ps:List (List Nat)}{x:aT}{a:aC}
theorem DW.mo(c:DW w F m n v C ds dp ps)(e:∀b,F b->F' b):DW w F' m n v C ds dp ps:=
 ⟨e _ c.fm,λk H=>e _ (c.fv k H),c.mem,c.dlen,c.plen,λj x s=>by
  obtain⟨d,pl,g,l,o,r⟩:=c.dq j x s;exact⟨d,pl,g,l,e _ o,r⟩,λj i x a s G=>by
  obtain⟨d,pl,p,g,l,o,r,E,D⟩:=c.act j i x a s G;exact⟨d,pl,p,g,l,o,e _ r,E,λf t u A=>⟨e _ (D f t u A).1,e _ (D f t u A).2⟩⟩,c.dne,c.pne⟩
theorem lH.J(b:lH w i j v a):∃cs,ae w i 194 cs:=by
 obtain⟨dv,c,_⟩:=b.ex;exact⟨_,c⟩
theorem lH.keepF{S:Nat->Prop}{p d:Nat}(D:lH w p d v a)(A:tr w F p)(t:aa S w w')(s:∀b,F b->¬S b)(Q:F p):lH w' p d v a/\tr w' F p:=by
 obtain⟨⟨dv,r,c⟩,E,G,H⟩:=D;have u:=t.J r (s _ Q);have K:w'.cell? ⟨p,0,none⟩=w.cell? ⟨p,0,none⟩:=by rw[u.I,r.I]
 refine⟨⟨⟨dv,u,?_⟩,E,G,H⟩,λf e g k=>A f e g (by rw[<-K];exact k)⟩;unfold jI at c ⊢;split at c
 ·rename_i l
  rw[yf l];split at c
  ·rename_i o
   rw[yf o];obtain⟨e,g,k,R,T,X⟩:=c;have L:w.cell? ⟨p,0,none⟩=some dv:=by rw[r.I];rfl
   have:=A _ e g (by rw[L,k]);exact⟨e,g,k,t.J R (s _ this.1),t.J T (s _ this.2),X⟩
  ·rename_i o
   rw[yb o];exact c
 ·rename_i l
  rw[yb l];exact c
theorem DW.kp{S:Nat->Prop}(c:DW w F m n v C ds dp ps)(t:aa S w w')(g:∀b,F b->¬S b):DW w' F m n v C ds dp ps:=
 ⟨c.fm,c.fv,c.mem.only t (g _ c.fm) (λk D=>g _ (c.fv k D)),c.dlen,c.plen,λj x u=>by
  obtain⟨d,pl,l,o,e,f,r,s⟩:=c.dq j x u;exact⟨d,pl,l,o,e,f,t.J r (g _ e),s⟩,λj i x a u A=>by
  obtain⟨d,pl,p,l,o,e,f,r,s⟩:=c.act j i x a u A;obtain⟨E,G⟩:=r.keepF s t g f;exact⟨d,pl,p,l,o,e,f,E,G⟩,c.dne,c.pne⟩
theorem DW.one(b:DW w F m n v C ds dp ps)(l:ds[j]?=some x){d:Nat}{pl:List Nat}(g:dp[j]?=some d)(k:ps[j]?=some pl):bZ w 0 m d x.d.toNat n v C (jE pl x.on):=by
 obtain⟨o,u,c,e,r,s,f,t⟩:=b.dq j x l;rw[g] at c;rw[k] at e
 cases c
 cases e
 exact⟨b.mem,f,yx _⟩
theorem DW.lt_d(b:DW w F m n v C ds dp ps){d:Nat}(e:dp[j]?=some d):d<w.heap.size:=by
 have g:j<ds.length:=by rw[<-b.dlen];exact(gS e).1
 obtain⟨k,t,c,l,o,r,f,s⟩:=b.dq j ds[j] (gG g);rw[e] at c
 cases c
 exact f.lt
theorem DW.lt_p(b:DW w F m n v C ds dp ps){pl:List Nat}{p:Nat}(c:ps[j]?=some pl)(k:pl[i]?=some p):p<w.heap.size:=by
 have l:j<ds.length:=by rw[<-b.plen];exact(gS c).1
 obtain⟨o,A,H,g,K,L,Q,s⟩:=b.dq j ds[j] (gG l);rw[c] at g
 cases g
 have u:i<ds[j].acts.length:=by rw[<-s];exact(gS k).1
 obtain⟨o,A,R,D,e,f,E,r,G⟩:=b.act j i ds[j] ds[j].acts[i] (gG l) (gG u);rw[c] at e
 cases e
 rw[k] at f
 cases f
 obtain⟨cs,t⟩:=r.J;exact t.lt
theorem kI{α:Type}{l:List α}{i j:Nat}{x y:α}(b:(l.set i x)[j]?=some y):(j=i/\y=x)\/(j≠i/\l[j]?=some y):=by
 rw[zg] at b;split at b
 ·rename_i c
  split at b
  ·cases b;exact .inl ⟨c.symm,rfl⟩
  ·cases b
 ·rename_i c
  exact .inr ⟨λe=>c e.symm,b⟩
theorem gO{α:Type}{l:List α}{i:Nat}{x y:α}(b:(l++ [x])[i]?=some y):l[i]?=some y\/(i=l.length/\y=x):=by
 by_cases c:i<l.length
 ·rw[yi c] at b;exact .inl b
 ·rw[yK (by omega)] at b
  rcases hn:i-l.length with _|k
  ·rw[hn] at b;simp at b;exact .inr ⟨by omega,b.symm⟩
  ·rw[hn] at b;simp at b
theorem DW.stepped(u:DW w F m n v C ds dp ps)(Y:ds[j]?=some x)(b9:x.acts[i]?=some a){d p:Nat}{pl:List Nat}(Q:dp[j]?=some d)(R:ps[j]?=some pl)(a8:pl[i]?=some p){r:ke}
 (s:qG w 0 m d x.d.toNat p n' v (jE pl x.on) r w' v') (bf:∀(l:Nat) (y:aT),l≠j->ds[l]?=some y->ld r.C y.d=ld C y.d/\ld r.C (y.d+1)=ld C (y.d+1)) (y:aT) (Z:y.d=x.d) (X:y.acts=x.acts.set i r.a) (b7:y.on=x.on):
 aa F w w'/\DW w' (λb=>F b\/w.heap.size<=b/\b<w'.heap.size) m n' v' r.C (ds.set j y) dp ps:=by
 have c9:j<ds.length:=(gS Y).1;obtain⟨b6,c0,cb,ai,al,am,an,b8,c7⟩:=u.act j i x a Y b9;rw[Q] at ai;cases ai;rw[R] at al;cases al;rw[a8] at am;cases am;obtain⟨b6,c0,b0,b4,b5,c1,cd,c2⟩:=u.dq j x Y;rw[Q] at b0;cases b0;rw[R] at b4;cases b4
 have bm:aa F w w':=s.only.mono λk o=>by
  rcases o with(o|o)|o|o
  ·rw[o];exact u.fm
  ·exact u.fv k o
  ·rw[o];exact b5
  ·rw[o];exact an
 have bn:∀k,v'.ownBlock=some k->k<w'.heap.size:=λk o=>by
  rcases di s.dq.mem.own with⟨c,_⟩|⟨g,c5,c,_,_,_,a1⟩
  ·rw[c] at o;cases o
  ·rw[c] at o;cases o;exact a1
 have D:=u.one Y Q R;obtain⟨c6,a7⟩:=b8.J;have c8:∀t,ae w t 218 (mF m x.d.toNat C (jE pl x.on))->t≠d->True:=λ_ _ _=>trivial
 have bv:∀(t:Nat) cs,ae w t 218 cs->t≠d->¬(bO m v t\/t=d\/t=p):=by
  rintro t cs e K ((c|c)|c|c)
  ·exact ae.ne_ e D.mem.J (by decide) c
  ·exact aA D.mem.own e (by decide) c
  ·exact K c
  ·exact ae.ne_ e a7 (by decide) c
 have bx:∀(A:Nat) cs,ae w A 194 cs->A≠p->¬(bO m v A\/A=d\/A=p):=by
  rintro A cs e K ((c|c)|c|c)
  ·exact ae.ne_ e D.mem.J (by decide) c
  ·exact aA D.mem.own e (by decide) c
  ·exact ae.ne_ e D.J (by decide) c
  ·exact K c
 have bt:∀(b:Nat) cs,ae w b 125 cs->¬(bO m v b\/b=d\/b=p):=by
  rintro b cs e ((c|c)|c|c)
  ·exact ae.ne_ e D.mem.J (by decide) c
  ·exact aA D.mem.own e (by decide) c
  ·exact ae.ne_ e D.J (by decide) c
  ·exact ae.ne_ e a7 (by decide) c
 have bz:∀(b:Nat) cs,ae w b 2 cs->v.ownBlock≠some b->¬(bO m v b\/b=d\/b=p):=by
  rintro b cs e hv ((c|c)|c|c)
  ·exact ae.ne_ e D.mem.J (by decide) c
  ·exact hv c
  ·exact ae.ne_ e D.J (by decide) c
  ·exact ae.ne_ e a7 (by decide) c
 refine⟨bm,.inl u.fm,λk o=>?_,s.dq.mem,by rw[yI];exact u.dlen,by rw[yI];exact u.plen,λl z E=>?_,λl k z b E e=>?_,u.dne,u.pne⟩
 ·rcases s.row k o with c|c
  ·exact .inl (u.fv k c)
  ·exact .inr ⟨c,bn k o⟩
 ·rcases kI E with⟨rfl,rfl⟩|⟨a0,E⟩
  ·refine⟨d,pl,Q,R,.inl b5,by rw[Z];exact c1,?_,by rw[X,yI];exact c2⟩
   rw[Z,b7];exact s.dq.J
  ·obtain⟨t,T,a2,a3,a4,a5,a6,ab⟩:=u.dq l z E
   refine⟨t,T,a2,a3,.inl a4,a5,?_,ab⟩;have K:t≠d:=u.dne l j t d a0 a2 Q;have e:=s.only.J a6 (bv t _ a6 K);have o:=bf l z a0 E
   have c:mF m z.d.toNat C (jE T z.on)=mF m z.d.toNat r.C (jE T z.on):=by
    unfold mF;rw[Yc a5,o.1,o.2]
   rw[<-c];exact e
 ·have ar:∀(l k:Nat) (z:aT) (b:aC),(l≠j\/k≠i)->ds[l]?=some z->z.acts[k]?=some b->∃d pl p,dp[l]?=some d/\ps[l]?=some pl/\pl[k]?=some p/\(F p\/w.heap.size<=p/\p<w'.heap.size)/\lH w' p d v' b/\tr w' (λb=>F b\/w.heap.size<=b/\b<w'.heap.size) p:=by
   intro l k z b bk E e;obtain⟨t,T,A,a2,a3,a4,a5,a6,ab⟩:=u.act l k z b E e;have K:A≠p:=u.pne l k j i T pl A p a3 a4 R a8 bk;obtain⟨⟨dv,S,a9⟩,bp,bq,br⟩:=a6;have av:=s.only.J S (bx A _ S K);refine⟨t,T,A,a2,a3,a4,.inl a5,⟨⟨dv,av,a9.kp s.only (λG cs ba=>bt G cs ba) (λH cs bb hv=>bz H cs bb hv) s.row⟩,bp,bq,br⟩,λf G H c=>?_⟩;have:=ab f G H (by rw[S.I,<-av.I];exact c);exact⟨.inl this.1,.inl this.2⟩
  rcases kI E with⟨rfl,rfl⟩|⟨a0,E⟩
  ·rw[X] at e
   rcases kI e with⟨rfl,rfl⟩|⟨o,e⟩
   ·refine⟨d,pl,p,Q,R,a8,.inl an,s.act,λf G H c=>?_⟩
    obtain⟨dv,S,a9⟩:=s.new;have aw:=S.I 0;rw[c] at aw
    have az:dv=.func f #[] #[.pointer (some ⟨G,0,none⟩),.pointer (some ⟨H,0,none⟩)]:=by
     have:some dv=some (Value.func f #[] #[.pointer (some ⟨G,0,none⟩),.pointer (some ⟨H,0,none⟩)]):=by rw[aw];rfl
     exact yz this
    have aE:=a9 f G H az;obtain⟨⟨dv',bo,L⟩,_⟩:=s.act
    have bc:dv'=dv:=by
     have Z:=bo.I 0;have X:=S.I 0;rw[Z] at X;exact yz X
    rw[bc,az] at L
    have a1:G<w'.heap.size/\H<w'.heap.size:=by
     unfold jI at L;split at L
     ·split at L
      ·obtain⟨b1,b2,ad,c3,c4,_⟩:=L
       simp at ad;obtain⟨_,rfl,rfl⟩:=ad;exact⟨c3.lt,c4.lt⟩
      ·simp[de] at L
     ·cases L
    exact⟨.inr ⟨aE.1,a1.1⟩,.inr ⟨aE.2,a1.2⟩⟩
   ·exact ar l k x b (.inr o) Y e
  ·exact ar l k z b (.inl a0) E e
theorem wD(e:DW w F m n v C ds dp ps)(H:fI C ds)(c:ds[j]?=some x)(f:x.acts[i]?=some a)(r:a.td=0){pl:List Nat}{p:Nat}(t:ps[j]?=some pl)(K:pl[i]?=some p)(a2:x.P<=10000)(a1:x.N<=20000)(T:C.length<=45000)(a7:n+3<=4611686018427387904):
 Calls Tryz.prog 83 #[.pointer (some ⟨p,0,none⟩)] w λu w'=>u=.returned (.tuple #[.int .u8 ((pstep x.d C a).what:Int),.int .i64 (pstep x.d C a).val,.int .i64 0])/\aa F w w'/\
  ∃v',∀y:aT,y.d=x.d->y.acts=x.acts.set i (pstep x.d C a).a->y.on=x.on->DW w' (λb=>F b\/w.heap.size<=b/\b<w'.heap.size) m (n+cnt a) v' (pstep x.d C a).C (ds.set j y) dp ps:=by
 obtain⟨d,a9,am,A,D,E,ai,G,al⟩:=e.act j i x a c f;rw[t] at D;cases D;rw[K] at E;cases E;have X:=e.one c A t;obtain⟨ad,a9,an,ar,av,ab,aw,az⟩:=e.dq j x c;have S:((x.d.toNat:Nat):Int)=x.d:=Yc ab;have Y:=H.each j x c;have a0:fZ (x.Z C) ((x.d.toNat:Nat):Int) C x.acts x.on x.L x.P x.N x.ws:=by rw[S];exact Y
 obtain⟨a3,a4⟩:=Bg a0 a2 a1 T f r G.k2;have R:=Aa 0 m d x.d.toNat p n v _ C a w X G a7 a3 r a4;rw[S] at R;refine R.mono ?_;rintro u w' ⟨rfl,v',s⟩
 have a5:∀(l:Nat) (y:aT),l≠j->ds[l]?=some y->ld (pstep x.d C a).C y.d=ld C y.d/\ld (pstep x.d C a).C (y.d+1)=ld C (y.d+1):=by
  intro l y a6 a8;have:=Bh H c a8 a6 f r;exact⟨this _ (.inl ⟨by omega,by omega⟩),this _ (.inl ⟨by omega,by omega⟩)⟩
 have Q:=λ(y:aT) g k o=>e.stepped c f A t K s a5 y g k o
 exact⟨rfl,(Q ⟨x.d,x.ws,x.acts.set i (pstep x.d C a).a,x.on,x.L,x.own,x.P,x.c0⟩ rfl rfl rfl).1,v',λy g k o=>(Q y g k o).2⟩
end
section
variable {w w':World}{F F':Nat->Prop}{m j i d p:Nat}{n n':Int}{v v':Value}{C C':List Int}{ds:List aT}{dp:List Nat}{ps:List (List Nat)}{x:aT}{a:aC}{pl:List Nat}
theorem vi{ps:List Nat}{on:Option Nat}{q:Nat}(b:∀i,on=some i->i<ps.length):jE (ps++ [q]) on=jE ps on:=by
 cases on with
 |none=>rfl
 |some i=>
  have:=b i rfl;simp only[jE,yc,yi this]
theorem Fu{acts:List aC}{on:Option Nat}(b:∀i,on=some i->∃a,acts[i]?=some a/\a.kn≠2):∀i,on=some i->i<acts.length:=by
 intro i e;obtain⟨a,c,_⟩:=b i e;exact(gS c).1
theorem DW.free(r:DW w F m n v C ds dp ps)(u:fI C ds)(k:ds[j]?=some x)(A:dp[j]?=some d)(D:ps[j]?=some pl)(e:own x.acts x.on=none):jE pl x.on=.pointer none\/∃p c,jE pl x.on=.pointer (some ⟨p,0,none⟩)/\ae w p 194 (AC.arr c d)/\c.dv=.nilFunc:=by
 cases hon:x.on with
 |none=>exact .inl rfl
 |some i=>
  obtain⟨b,g,_⟩:=(u.each j x k).onk i hon;obtain⟨K,L,p,l,o,G,Q,H,R⟩:=r.act j i x b k g;rw[A] at l;cases l;rw[D] at o;cases o
  have t:b.td≠0:=λs=>by
   rw[hon] at e;simp only[own,g,s,yR] at e
   cases e
  obtain⟨⟨dv,E,f⟩,_⟩:=H;unfold jI at f;rw[yb t] at f;subst f;exact .inr ⟨p,aP b .nilFunc,by simp[jE,yc,G],E,rfl⟩
theorem DW.begun(c:DW w F m n v C ds dp ps)(a9:ds[j]?=some x)(a1:dp[j]?=some d)(a2:ps[j]?=some pl)(g:td 0 m d x.d.toNat w.heap.size n v v' C a w w')(b8:a.td=0)(b9:¬(a.kn=0/\a.at_=12))
 (y:aT) (Z:y.d=x.d) (a0:y.acts=x.acts++ [a]) (b6:v'=jE (pl++ [w.heap.size]) y.on):
 aa F w w'/\DW w' (λb=>F b\/w.heap.size<=b/\b<w'.heap.size) m n v C (ds.set j y) dp (ps.set j (pl++ [w.heap.size])):=by
 obtain⟨aw,ab,a4⟩:=g;have bk:j<ds.length:=(gS a9).1;have a7:j<ps.length:=by rw[c.plen];exact bk
 obtain⟨c0,ai,az,aE,b0,br,bt,b4⟩:=c.dq j x a9;rw[a1] at az;cases az;rw[a2] at aE;cases aE;have bo:aa F w w':=a4.mono λk a8=>by rw[a8];exact b0
 obtain⟨bz,bb⟩:=ab.J;have bn:=bb.lt
 have ad:∀(b:Nat) t cs,ae w b t cs->t≠218->b≠d:=λb t cs g bp e=>by
  subst e;exact ae.ne_ g bt bp rfl
 refine⟨bo,.inl c.fm,λk a8=>.inl (c.fv k a8),aw.mem,by rw[yI];exact c.dlen,by rw[yI,yI];exact c.plen,λl z s=>?_,λl k z b s g=>?_,c.dne,λc3 c1 c4 c2 Y c6 S c5 o r a5 a6 bm=>?_⟩
 ·rcases kI s with⟨rfl,rfl⟩|⟨X,s⟩
  ·refine⟨d,pl++ [w.heap.size],a1,by simp[a7],.inl b0,by rw[Z];exact br,?_,by rw[a0];simp[b4]⟩
   rw[Z,<-b6];exact aw.J
  ·obtain⟨u,T,A,D,E,G,H,K⟩:=c.dq l z s
   exact⟨u,T,A,by rw[zg,yb (λe=>X e.symm)];exact D,.inl E,G,a4.J H (c.dne l j u d X A a1),K⟩
 ·have cE:∀(l k:Nat) (z:aT) (b:aC),ds[l]?=some z->z.acts[k]?=some b->∃d pl p,dp[l]?=some d/\ps[l]?=some pl/\pl[k]?=some p/\(F p\/w.heap.size<=p/\p<w'.heap.size)/\lH w' p d v b/\tr w' (λb=>F b\/w.heap.size<=b/\b<w'.heap.size) p:=by
   intro l k z b s g;obtain⟨u,T,R,A,D,E,G,H,K⟩:=c.act l k z b s g;obtain⟨⟨dv,o,r⟩,a5,a6,b7⟩:=H;have an:=a4.J o (ad R _ _ o (by decide));refine⟨u,T,R,A,D,E,.inl G,⟨⟨dv,an,r.kp a4 (λL cs ba=>ad L _ cs ba (by decide)) (λQ cs bc _=>ad Q _ cs bc (by decide)) (λ_ e=>.inl e)⟩,a5,a6,b7⟩,λf L Q e=>?_⟩;have:=K f L Q (by rw[o.I,<-an.I];exact e);exact⟨.inl this.1,.inl this.2⟩
  rcases kI s with⟨rfl,rfl⟩|⟨X,s⟩
  ·rw[a0] at g
   rcases gO g with g|⟨rfl,rfl⟩
   ·obtain⟨u,T,R,A,D,E,G,H,K⟩:=cE l k x b a9 g
    rw[a2] at D;cases D;exact⟨u,pl++ [w.heap.size],R,A,by simp[a7],by rw[yi (gS E).1];exact E,G,H,K⟩
   ·refine⟨d,pl++ [w.heap.size],w.heap.size,a1,by simp[a7],by rw[<-b4];simp,.inr ⟨lR,bn⟩,ab,λf L Q e=>?_⟩
    obtain⟨⟨dv,bq,a3⟩,_⟩:=ab;have ar:=bq.I 0;rw[e] at ar
    have bf:dv=.func f #[] #[.pointer (some ⟨L,0,none⟩),.pointer (some ⟨Q,0,none⟩)]:=by
     have:some dv=some (Value.func f #[] #[.pointer (some ⟨L,0,none⟩),.pointer (some ⟨Q,0,none⟩)]):=by rw[ar];rfl
     exact yz this
    rw[bf] at a3;unfold jI at a3;rw[yf b8,yb b9] at a3;simp[de] at a3
  ·obtain⟨u,T,R,A,D,E,G,H,K⟩:=cE l k z b s g
   exact⟨u,T,R,A,by rw[zg,yb (λe=>X e.symm)];exact D,E,G,H,K⟩
 ·
  have av:∀(l k:Nat) (Y:List Nat) (S:Nat),(ps.set j (pl++ [w.heap.size]))[l]?=some Y->Y[k]?=some S->(∃ai,ps[l]?=some ai/\ai[k]?=some S/\S<w.heap.size)\/(l=j/\k=pl.length/\S=w.heap.size):=by
   intro l k Y S o r
   rcases kI o with⟨rfl,rfl⟩|⟨X,o⟩
   ·rcases gO r with r|⟨Z,a0⟩
    ·exact .inl ⟨pl,a2,r,c.lt_p a2 r⟩
    ·exact .inr ⟨rfl,Z,a0⟩
   ·exact .inl ⟨Y,o,r,c.lt_p o r⟩
  rcases av _ _ _ _ o r with⟨b5,al,am,bv⟩|⟨b5,al,am⟩<;>rcases av _ _ _ _ a5 a6 with⟨b1,b2,b3,bx⟩|⟨b1,b2,b3⟩
  ·exact c.pne _ _ _ _ _ _ _ _ al am b2 b3 bm
  ·omega
  ·omega
  ·omega
theorem qV(c:DW w F m n v C ds dp ps)(G:fI C ds)(f:ds[j]?=some x)(r:dp[j]?=some d)(e:ps[j]?=some pl)(K:own x.acts x.on=none)(u:Int):
 Calls Tryz.prog 142 #[.pointer (some ⟨d,0,none⟩),.int .i64 u] w λs w'=>s=.returned (.tuple #[.pointer (some ⟨w.heap.size,0,none⟩),.int .i64 0])/\aa F w w'/\w.heap.size<w'.heap.size/\
  ∀y:aT,y.d=x.d->y.acts=x.acts++ [cQ 0 u]->y.on=some x.acts.length->DW w' (λb=>F b\/w.heap.size<=b/\b<w'.heap.size) m n v C (ds.set j y) dp (ps.set j (pl++ [w.heap.size])):=by
 have E:=c.one f r e;obtain⟨R,S,T,A,X,Y,Z,Q⟩:=c.dq j x f;rw[e] at A;cases A;refine(BN 0 m d x.d.toNat n v _ C u w E (c.free G f r e K)).mono ?_;rintro s w' ⟨rfl,k⟩
 have D:(.pointer (some ⟨w.heap.size,0,none⟩):Value)=jE (pl++ [w.heap.size]) (some x.acts.length):=by
  rw[<-Q];simp[jE,yc]
 have t:=λ(y:aT) (g:y.d=x.d) (l:y.acts=x.acts++ [cQ 0 u]) (o:y.on=some x.acts.length)=>c.begun f r e k rfl (by simp[cQ]) y g l (by rw[o];exact D)
 obtain⟨cs,H⟩:=k.2.1.J;exact⟨rfl,(t ⟨x.d,x.ws,x.acts++ [cQ 0 u],some x.acts.length,x.L,x.own,x.P,x.c0⟩ rfl rfl rfl).1,H.lt,λy g l o=>(t y g l o).2⟩
theorem Au(c:DW w F m n v C ds dp ps)(E:fI C ds)(f:ds[j]?=some x)(r:dp[j]?=some d)(e:ps[j]?=some pl)(H:own x.acts x.on=none):
 Calls Tryz.prog 47 #[.pointer (some ⟨d,0,none⟩)] w λs w'=>s=.returned (.tuple #[.pointer (some ⟨w.heap.size,0,none⟩),.int .i64 0])/\aa F w w'/\w.heap.size<w'.heap.size/\
  ∀y:aT,y.d=x.d->y.acts=x.acts++ [cQ 1 0]->y.on=some x.acts.length->DW w' (λb=>F b\/w.heap.size<=b/\b<w'.heap.size) m n v C (ds.set j y) dp (ps.set j (pl++ [w.heap.size])):=by
 have D:=c.one f r e;obtain⟨Q,R,S,u,T,X,Y,K⟩:=c.dq j x f;rw[e] at u;cases u;refine(Dr 0 m d x.d.toNat n v _ C w D (c.free E f r e H)).mono ?_;rintro s w' ⟨rfl,k⟩
 have A:(.pointer (some ⟨w.heap.size,0,none⟩):Value)=jE (pl++ [w.heap.size]) (some x.acts.length):=by
  rw[<-K];simp[jE,yc]
 have t:=λ(y:aT) (g:y.d=x.d) (l:y.acts=x.acts++ [cQ 1 0]) (o:y.on=some x.acts.length)=>c.begun f r e k rfl (by simp[cQ]) y g l (by rw[o];exact A)
 obtain⟨cs,G⟩:=k.2.1.J;exact⟨rfl,(t ⟨x.d,x.ws,x.acts++ [cQ 1 0],some x.acts.length,x.L,x.own,x.P,x.c0⟩ rfl rfl rfl).1,G.lt,λy g l o=>(t y g l o).2⟩
theorem zu9(l:DW w F m n v C ds dp ps)(E:fI C ds)(c:ds[j]?=some x)(s:dp[j]?=some d)(o:ps[j]?=some pl):
 Calls Tryz.prog 85 #[.pointer (some ⟨d,0,none⟩)] w λr w'=>r=.returned (.tuple #[.pointer (some ⟨w.heap.size,0,none⟩),.int .i64 0])/\aa F w w'/\w.heap.size<w'.heap.size/\
  ∀y:aT,y.d=x.d->y.acts=x.acts++ [cQ 2 0]->y.on=x.on->DW w' (λb=>F b\/w.heap.size<=b/\b<w'.heap.size) m n v C (ds.set j y) dp (ps.set j (pl++ [w.heap.size])):=by
 have D:=l.one c s o;obtain⟨K,Q,R,u,S,T,X,H⟩:=l.dq j x c;rw[o] at u;cases u;refine(xG 0 m d x.d.toNat n v _ C w D).mono ?_;rintro r w' ⟨rfl,k⟩;have A:jE pl x.on=jE (pl++ [w.heap.size]) x.on:=(vi (by rw[H];exact Fu (E.each j x c).onk)).symm;have t:=λ(y:aT) (e:y.d=x.d) (f:y.acts=x.acts++ [cQ 2 0]) (g:y.on=x.on)=>l.begun c s o k rfl (by simp[cQ]) y e f (by rw[g];exact A)
 obtain⟨cs,G⟩:=k.2.1.J;exact⟨rfl,(t ⟨x.d,x.ws,x.acts++ [cQ 2 0],x.on,x.L,x.own,x.P,x.c0⟩ rfl rfl rfl).1,G.lt,λy e f g=>(t y e f g).2⟩
end
open Go.WideShapes Go.ChangeShapes Go.ChangeAt
theorem uW(n:Nat):(Builtin.zeroCells #[Value.int .i64 0] n).toList=List.replicate n (.int .i64 0):=by
 apply zt;intro j;simp only[Builtin.zeroCells,Array.toList_map,Array.toList_range,yJ,List.getElem?_replicate]
 by_cases b:j<n
 ·simp[b,Nat.mod_one]
 ·simp[b]
theorem An(B m:Nat)(n:Int)(v:Value)(C:List Int)(av:C.length<=10000)(lg:Nat)(am:lg<=8)(w:World)(o:cx w B m n v C):
 Calls Tryz.prog 57 #[.pointer (some ⟨m,0,none⟩),.int .i64 (lg:Int)] w λb w'=>∃d v',b=.returned (.tuple #[.pointer (some ⟨d,0,none⟩),.int .i64 0])/\cx w' B m n v' (C++bV C.length (2 ^ lg))/\ae w' d 218 (mF m C.length (C++bV C.length (2 ^ lg)) (.pointer none))/\w.heap.size<=d/\(∀k,v'.ownBlock=some k->v.ownBlock=some k\/w.heap.size<=k)/\aa (bO m v) w w':=by
 obtain⟨bo,b7,bk,bm,bn⟩:=info_parts (show(Tryz.prog.info? 2).map (λi=>(i.zero,i.size,i.bytes))=some (some (.int .i64 0),1,8) by kernel_rfl);obtain⟨N,r⟩:=eX (2 ^ lg:Nat);have aw:1<=N:=by rw[r];exact Nat.one_le_two_pow
 have az:N<=256:=by rw[r];exact lT (Nat.pow_le_pow_right (by decide) am) (by decide)
 rw[<-r]
 have ba:wrap64 ((2:Int) ^ lg)=(N:Int):=by
  have b:((2:Int) ^ lg)=(N:Int):=by rw[r];push_cast;rfl
  rw[b];exact IntWalk.wrap64_in (N:Int) (by omega)
 have b0:¬(281474976710656<Builtin.nextslicecap (4+N) 4*8):=by
  unfold Builtin.nextslicecap;split<;>(try split)<;>omega
 have b4:Tryz.t2.bytes=8:=rfl;have aE:¬(281474976710656<(N:Int)*8):=by omega
 have G:=hD o;have b8:¬(lg:Int)<0:=by omega
 have b9:¬(8:Int)<(lg:Int):=by omega
 obtain⟨c,e⟩:=eX ((C.length:Int):Int);have b5:0<=c:=by omega
 have b6:c<=10000:=by omega
 have Q:=hD (EK B m n v C w o);rw[<-e] at Q;have bf:wrap64 (c+3)=c+3:=IntWalk.wrap64_in (c+3) (by omega);have E:=hD e;clear e;clear o r;go_enter Tryz.func57,Tryz.ntmps57;go_wp2_with fail;refine Q.O.mono ?_;rintro b bp ⟨rfl,rfl⟩;go_wp2_with fail;obtain⟨s,a3⟩:=eX ((Question.appendCap (4+N) 4 2).cut (w.tape w.drawn (Question.appendCap (4+N) 4 2)));rw[<-a3];obtain⟨g,H⟩:=eX (w.heap.size+1);rw[<-H];obtain⟨f,t⟩:=eX (((w.alloc (.cells #[.int .i64 0,.int .i64 0,.int .i64 (c+3),.int .i64 (N:Int)] 2)).alloc (.cells (#[.int .i64 0,.int .i64 0,.int .i64 (c+3),.int .i64 (N:Int)] ++(Builtin.zeroCells #[.int .i64 0] N++Builtin.zeroCells #[.int .i64 0] (s-(4+N)))) 2)).drew);rw[<-t];have A:aa (λ_=>False) w f:=by rw[t];exact(((aa.refl _ w).alloc _).alloc _).drew
 have a2:ae f g 2 (#[.int .i64 0,.int .i64 0,.int .i64 (c+3),.int .i64 (N:Int)] ++(Builtin.zeroCells #[.int .i64 0] N++Builtin.zeroCells #[.int .i64 0] (s-(4+N)))):=by
  rw[t,H];have:=ae.new (w.alloc (.cells #[.int .i64 0,.int .i64 0,.int .i64 (c+3),.int .i64 (N:Int)] 2)) 2 (#[.int .i64 0,.int .i64 0,.int .i64 (c+3),.int .i64 (N:Int)] ++(Builtin.zeroCells #[.int .i64 0] N++Builtin.zeroCells #[.int .i64 0] (s-(4+N))));have ar:(w.alloc (.cells #[.int .i64 0,.int .i64 0,.int .i64 (c+3),.int .i64 (N:Int)] 2)).heap.size=w.heap.size+1:=by simp
  rw[ar] at this;exact this
 have e:=E.O;have l:(bV C.length N).length=4+N:=mw _ _
 have a4:bP f (g+1) 1 (some ⟨g,0,none⟩) (bV C.length N).length ((bV C.length N).map (.int .i64)):=
  ⟨by simp,λ_=>⟨_,rfl,by simp,λj u L=>by
   rw[show(⟨g,0,none⟩ :Addr).add j=⟨g,j,none⟩ by simp[Addr.add];exact λo=>o.symm];rw[a2.I,<-zj];simp only[Array.toList_append,uW];have an:(bV C.length N).map (Value.int .i64)= [.int .i64 0,.int .i64 0,.int .i64 (c+3),.int .i64 (N:Int)] ++List.replicate N (.int .i64 0):=by rw[e];simp[bV]
   rw[an] at L;rw[<-yY,yi (gS L).1];exact L⟩⟩
 have Y:B<=w.heap.size:=by have:=G.O.base;have:=G.O.J.lt;omega
 have K:=uk B m n v C (bV C.length N) (g+1) (some ⟨g,0,none⟩) s f (G.O.only A nF nG) a4 (by omega) (by rw[l];unfold maxLen;omega) (lT Y A.size);have Z:py C (bV C.length N)=C.length:=by unfold py;rw[l];rw[yb (by omega)]
 have a0:pz C (bV C.length N)=0:=by unfold pz;rw[l];rw[yb (by omega)]
 have a1:pB C (bV C.length N)=C++bV C.length N:=by unfold pB;rw[l];rw[yb (by omega)]
 rw[l,Z,a0,a1,<-e] at K;have a8:=hD K;have R:=hD A;clear K a4 a2 A l Z a0 a1 Y a3 H t e;refine a8.O.mono ?_;rintro b D ⟨rfl,⟨v',a5,a6⟩,a7⟩;have a9:=hD a5;have ab:=hD a6;have X:=hD a7;clear a5 a6 a7;go_wp2_with fail
 go_ret2
 have ad:ld (C++bV C.length N) (C.length:Int)=0:=by
  have:=px C (bV C.length N) 0 (by simp[bV])
  simpa[bV] using this
 have ai:ld (C++bV C.length N) ((C.length:Int)+1)=0:=by
  have:=px C (bV C.length N) 1 (by simp[bV])
  simpa[bV] using this
 have bc:w.heap.size<=f.heap.size:=R.O.size;have bb:f.heap.size<=D.heap.size:=X.O.size;have S:=a9.O;rw[E.O] at S;refine⟨D.heap.size,v',rfl,S.only ((aa.refl (λ_=>False) D).alloc _) nF nG,?_,by omega,λk al=>?_,?_⟩
 ·unfold mF
  rw[ad,ai,<-E.O];exact ae.new D _ _
 ·rcases ab.O k al with b|b
  ·exact .inl b
  ·exact .inr (by omega)
 ·exact((R.O.mono (T:=bO m v) λ_ b=>b.elim).trans X.O).alloc _
theorem At{w:World}{F:Nat->Prop}{m:Nat}{n:Int}{v:Value}{C:List Int}{ds:List aT}{dp:List Nat}{ps:List (List Nat)}(e:DW w F m n v C ds dp ps)(ar:fI C ds)(an:C.length<=10000)(lg:Nat)(aE:lg<=8):
 Calls Tryz.prog 57 #[.pointer (some ⟨m,0,none⟩),.int .i64 (lg:Int)] w λc w'=>∃d v',c=.returned (.tuple #[.pointer (some ⟨d,0,none⟩),.int .i64 0])/\aa F w w'/\
  DW w' (λb=>F b\/w.heap.size<=b/\b<w'.heap.size) m n v' (C++bV C.length (2 ^ lg)) (ds++ [⟨C.length,[((C.length:Int)+3,((2 ^ lg:Nat):Int))],[],none,[],4+((2 ^ lg:Nat):Int),0,((2 ^ lg:Nat):Int)⟩]) (dp++ [d]) (ps++ [[]]):=by
 refine(An 0 m n v C an lg aE w e.mem).mono ?_;rintro c w' ⟨d,v',rfl,a6,a7,bf,a8,H⟩
 have b4:aa F w w':=H.mono λk l=>by
  rcases l with l|l
  ·rw[l];exact e.fm
  ·exact e.fv k l
 have b5:∀k,v'.ownBlock=some k->k<w'.heap.size:=λk l=>by
  rcases di a6.own with⟨c,_⟩|⟨g,bo,c,_,_,_,b0⟩
  ·rw[c] at l;cases l
  ·rw[c] at l;cases l;exact b0
 have a0:∀(b:Nat) t cs,ae w b t cs->t≠214->t≠2->¬bO m v b:=by
  rintro b t cs o al am (c|c)
  ·exact ae.ne_ o e.mem.J al c
  ·exact aA e.mem.own o (λG=>am G.symm) c
 have bk:∀(b:Nat) cs,ae w b 2 cs->v.ownBlock≠some b->¬bO m v b:=by
  rintro b cs o hv (c|c)
  ·exact ae.ne_ o e.mem.J (by decide) c
  ·exact hv c
 have az:=a7.lt;refine⟨d,v',rfl,b4,.inl e.fm,λk l=>?_,a6,by simp[e.dlen],by simp[e.plen],λj x u=>?_,λj i x a u a4=>?_,λi j a9 ab Y r s=>?_,λj i b8 b7 pl bn p bm r s T X Y=>?_⟩
 ·rcases a8 k l with c|c
  ·exact .inl (e.fv k c)
  ·exact .inr ⟨c,b5 k l⟩
 ·rcases gO u with u|⟨rfl,rfl⟩
  ·obtain⟨E,pl,A,D,a1,K,L,a2⟩:=e.dq j x u
   refine⟨E,pl,by rw[yi (gS A).1];exact A,by rw[yi (gS D).1];exact D,.inl a1,K,?_,a2⟩;have o:=H.J L (a0 E _ _ L (by decide) (by decide));have a5:=λq b6=>(ar.each j x u).foot_in q b6
   have ad:ld (C++bV C.length (2 ^ lg)) x.d=ld C x.d:=md (a5 _ (.inl ⟨by omega,by omega⟩));have S:ld (C++bV C.length (2 ^ lg)) (x.d+1)=ld C (x.d+1):=md (a5 _ (.inl ⟨by omega,by omega⟩))
   have c:mF m x.d.toNat C (jE pl x.on)=mF m x.d.toNat (C++bV C.length (2 ^ lg)) (jE pl x.on):=by
    unfold mF;rw[Yc K,ad,S]
   rw[<-c];exact o
  ·refine⟨d,[],by simp[<-e.dlen],by simp[<-e.plen],.inr ⟨bf,az⟩,by simp only;omega,?_,rfl⟩
   simp only[yo];exact a7
 ·rcases gO u with u|⟨rfl,rfl⟩
  ·obtain⟨E,pl,p,A,D,a1,K,L,a2⟩:=e.act j i x a u a4
   obtain⟨⟨dv,Z,b9⟩,ba,bb,bc⟩:=L;have o:=H.J Z (a0 p _ _ Z (by decide) (by decide));refine⟨E,pl,p,by rw[yi (gS A).1];exact A,by rw[yi (gS D).1];exact D,a1,.inl K,⟨⟨dv,o,b9.kp H (λQ cs av=>a0 Q _ cs av (by decide) (by decide)) (λR cs aw hv=>bk R cs aw hv) a8⟩,ba,bb,bc⟩,λf Q R c=>?_⟩;have:=a2 f Q R (by rw[Z.I,<-o.I];exact c);exact⟨.inl this.1,.inl this.2⟩
  ·simp at a4
 ·rcases gO r with r|⟨S,G⟩<;>rcases gO s with s|⟨ai,a3⟩
  ·exact e.dne i j a9 ab Y r s
  ·have:=e.lt_d r;omega
  ·have:=e.lt_d s;omega
  ·omega
 ·rcases gO r with r|⟨S,G⟩
  ·rcases gO T with T|⟨ai,a3⟩
   ·exact e.pne j i b8 b7 pl bn p bm r s T X Y
   ·rw[a3] at X;simp at X
  ·rw[G] at s;simp at s
end
end Go.Proofs.YtmdocplknceilaaGreat
