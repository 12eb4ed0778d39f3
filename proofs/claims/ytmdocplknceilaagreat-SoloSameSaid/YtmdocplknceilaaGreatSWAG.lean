import Derived.Test.YtmdocplknceilaaGreatSWAF
import Derived.Test.YtmdocplknceilaaGreatRows
set_option linter.all false
set_option maxHeartbeats 400000
namespace Go.Proofs.YtmdocplknceilaaGreat
section
set_option maxRecDepth 100000
open Go.RowKit
structure bR(w:World)(B b:Nat)(n:Int)(v:Value)(xs:List Int):Prop where
 J:ae w b 214 #[.int .i64 n,.bool true,v]
 own:w.ownsRow B 2 1 v xs.length (xs.map (.int .i64))
 base:B<=b
 n0:0<=n
 n1:n<=4611686018427387904
 len:xs.length<=4611686018427387904
def lK(xs:List Int)(k:Int):Int:=if 0<=k/\k<xs.length then xs.getD k.toNat 0 else 0
def eV(xs:List Int)(k:Int):Int:=if 0<=k/\k<xs.length then 0 else 5
def aH(xs:List Int)(k:Int):Int:=if 0<=k/\k<xs.length then 1 else 0
def rf(xs:List Int)(k v:Int):List Int:=if 0<=k/\k<xs.length then xs.set k.toNat v else xs
def iK(xs:List Int)(k old:Int):Bool:=decide (0<=k)&&decide (k<xs.length)&&(xs.getD k.toNat 0==old)
def jZ(xs:List Int)(k old v:Int):List Int:=if iK xs k old=true then xs.set k.toNat v else xs
theorem CH(b:Nat)(n:Int)(w:World)(c:0<=n)(d:n<=4611686018427387904)(e:w.cell? ⟨b,0,none⟩=some (.int .i64 n))(f:w.frozen? ⟨b,0,none⟩=false):
 Calls Tryz.prog 227 #[.pointer (some ⟨b,0,none⟩)] w λa w'=>a=.returned (.tuple #[])/\w'=w.setCell ⟨b,0,none⟩ (.int .i64 (n+1)):=by
 go_enter Tryz.func227,Tryz.ntmps227
 go_wp2
 go_end0
 exact⟨rfl,rfl⟩
theorem kP(b g k c d:Nat)(n:Int)(w:World)(l:0<=n)(m:n<=4611686018427387904)(_hlen:c<=4611686018427387904)(q:k<c)
 (a:ae w b 214 #[.int .i64 n,.bool true,.slice (some ⟨g,0,none⟩) c d]):
 Calls Tryz.prog 211 #[.pointer (some ⟨b,0,none⟩),.int .i64 k] w λe w'=>e=.returned (.tuple #[.pointer (some ⟨g,k,none⟩),.int .i64 0])/\w'=w.setCell ⟨b,0,none⟩ (.int .i64 (n+1)):=by
 have f:w.cell? ⟨b,0,none⟩=some (.int .i64 n):=a.I 0;have o:w.cell? ⟨b,1,none⟩=some (.bool true):=a.I 1;have i:w.cell? ⟨b,2,none⟩=some (.slice (some ⟨g,0,none⟩) c d):=a.I 2;have j:w.frozen? ⟨b,0,none⟩=false:=a.fz 0;have p:(w.setCell ⟨b,0,none⟩ (.int .i64 (n+1))).cell? ⟨b,2,none⟩=some (.slice (some ⟨g,0,none⟩) c d):=by rw[World.cell?_setCell_other _ _ _ _ (by simp)];exact i
 clear a;go_enter Tryz.func211,Tryz.ntmps211
 go_wp2_with (go_at_call 227;refine(CH _ _ _ l m f j).mono ?_;rintro e w' ⟨rfl,rfl⟩)
 go_ret2
 exact⟨rfl,rfl⟩
theorem nA(b a d:Nat)(A:Option Addr)(n k:Int)(w:World)(_hlen:a<=4611686018427387904)(e:k<0\/(a:Int)<=k)
 (c:ae w b 214 #[.int .i64 n,.bool true,.slice A a d]):
 Calls Tryz.prog 211 #[.pointer (some ⟨b,0,none⟩),.int .i64 k] w λf w'=>f=.returned (.tuple #[.pointer none,.int .i64 5])/\w=w':=by
 have g:w.cell? ⟨b,1,none⟩=some (.bool true):=c.I 1;have i:w.cell? ⟨b,2,none⟩=some (.slice A a d):=c.I 2;clear c
 by_cases l:k<0
 ·clear e
  go_enter Tryz.func211,Tryz.ntmps211;go_wp2_with fail
  go_ret2
  exact⟨rfl,rfl⟩
 ·have j:(a:Int)<=k:=by omega
  clear e;go_enter Tryz.func211,Tryz.ntmps211;go_wp2_with fail
  go_ret2
  exact⟨rfl,rfl⟩
theorem bR.slice{w:World}{B b:Nat}{n:Int}{v:Value}{c:List Int}(d:bR w B b n v c):∃A a,v=.slice A c.length a:=by
 rcases cT d.own with⟨rfl,e⟩|⟨g,a,rfl,_⟩
 ·exact⟨none,0,by rw[e]⟩
 ·exact⟨_,a,rfl⟩
theorem bR.at_{w:World}{B b:Nat}{n:Int}{v:Value}{c:List Int}(a:bR w B b n v c){k:Nat}(e:k<c.length):∃g d,v=.slice (some ⟨g,0,none⟩) c.length d/\B<=g/\g<w.heap.size/\g≠b/\w.cell? ⟨g,k,none⟩=some (.int .i64 (c.getD k 0))/\w.frozen? ⟨g,k,none⟩=false:=by
 rcases cT a.own with⟨rfl,j⟩|⟨g,d,rfl,_,_,f,i⟩
 ·omega
 ·refine⟨g,d,rfl,f,i,?_,?_,a.own.frozenAt k⟩
  ·rintro rfl
   exact bl a.own a.J (by decide) rfl
  ·rw[a.own.cellAt k (by omega),yJ,gG e];simp[List.getD,e]
theorem bR.setN{w:World}{B b:Nat}{n:Int}{v:Value}{d:List Int}(a:bR w B b n v d)(c:Int)(f:0<=c)(g:c<=4611686018427387904):bR (w.setCell ⟨b,0,none⟩ (.int .i64 c)) B b c v d:=
 ⟨a.J.s_ 0 _,aa.owns (S:=(·=b)) ((aa.refl (·=b) w).setCell (p:=⟨b,0,none⟩) (.inl rfl) _) a.own (λk e=>by rintro rfl;exact bl a.own a.J (by decide) e),a.base,f,g,a.len⟩
theorem bR.store{w:World}{B b g d:Nat}{n:Int}{c:List Int}(a:bR w B b n (.slice (some ⟨g,0,none⟩) c.length d) c)(i:g≠b)(k:Nat)(x:Int):
 bR (w.setCell ⟨g,k,none⟩ (.int .i64 x)) B b n (.slice (some ⟨g,0,none⟩) c.length d) (c.set k x):=by
 refine⟨a.J.far (by simpa using λe=>i e.symm) _,?_,a.base,a.n0,a.n1,by simpa using a.len⟩;have f:=(a.own.stored k (.int .i64 x)).1;rw[yI,<-List.map_set] at*;exact f
theorem bR.only{S:Nat->Prop}{w w':World}{B b:Nat}{n:Int}{v:Value}{d:List Int}(a:bR w B b n v d)(c:aa S w w')(e:¬S b)(hv:∀k,v.ownBlock=some k->¬S k):bR w' B b n v d:=
 ⟨c.J a.J e,c.owns a.own hv,a.base,a.n0,a.n1,a.len⟩
theorem bR.drewN{w:World}{B b:Nat}{n:Int}{v:Value}{c:List Int}(a:bR w B b n v c)(k:Nat):bR (w.drewN k) B b n v c:=⟨a.J,a.own,a.base,a.n0,a.n1,a.len⟩
def bA(b:Nat)(v:Value)(i:Nat):Prop:=i=b\/v.ownBlock=some i
theorem AR(B b:Nat)(n k:Int)(v:Value)(a:List Int)(w:World)(c:bR w B b n v a)(D:n+1<=4611686018427387904):
 Calls Tryz.prog 179 #[.pointer (some ⟨b,0,none⟩),.int .i64 k] w λe w'=>e=.returned (.tuple #[.int .i64 (lK a k),.int .i64 (eV a k)])/\bR w' B b (n+aH a k) v a/\aa (bA b v) w w':=by
 have s:=c.len;have E:=c.n0
 by_cases d:0<=k/\k<a.length
 ·have f:lK a k=a.getD k.toNat 0:=yf d
  have i:eV a k=0:=yf d;have l:aH a k=1:=yf d;rw[f,i,l];clear f i l;obtain⟨j,rfl⟩:=ym d.1;have r:j<a.length:=by omega
  clear d;obtain⟨g,o,rfl,_,F,C,p,z⟩:=c.at_ r;have t:=c.setN (n+1) (by omega) D;have y:(w.setCell ⟨b,0,none⟩ (.int .i64 (n+1))).cell? ⟨g,j,none⟩=some (.int .i64 (a.getD j 0)):=by rw[World.cell?_setCell_other _ _ _ _ (by intro e;injection e with e;exact C e.symm)];exact p
  have q:bR (w.setCell ⟨b,0,none⟩ (.int .i64 (n+1))) B b (n+1) (.slice (some ⟨g,0,none⟩) a.length o) a/\aa (bA b (.slice (some ⟨g,0,none⟩) a.length o)) w (w.setCell ⟨b,0,none⟩ (.int .i64 (n+1))):=⟨t,oR.setCell (.inl (.inl rfl)) _⟩
  have m:=hD q;have u:=hD c.J;clear t q c p z;simp only[yo];generalize a.getD j 0=x at y ⊢;go_enter Tryz.func179,Tryz.ntmps179
  go_wp2_with (go_at_call 211;refine(kP _ _ _ _ _ _ _ E (by omega) s r u.O).mono ?_;rintro e w' ⟨rfl,rfl⟩)
  go_ret2
  exact⟨rfl,m.O⟩
 ·have f:lK a k=0:=yb d
  have i:eV a k=5:=yb d;have l:aH a k=0:=yb d;rw[f,i,l,Int.add_zero];clear f i l;obtain⟨A,o,rfl⟩:=c.slice;have m:=hD c;clear c;go_enter Tryz.func179,Tryz.ntmps179
  go_wp2_with (go_at_call 211;refine(nA _ _ _ _ _ _ _ s (by omega) m.O.J).mono ?_;rintro e w' ⟨rfl,rfl⟩)
  go_ret2
  exact⟨rfl,m.O,oR⟩
theorem kW(B b:Nat)(n k x:Int)(v:Value)(a:List Int)(w:World)(c:bR w B b n v a)(E:n+1<=4611686018427387904):
 Calls Tryz.prog 228 #[.pointer (some ⟨b,0,none⟩),.int .i64 k,.int .i64 x] w λe w'=>e=.returned (.int .i64 (eV a k))/\bR w' B b (n+aH a k) v (rf a k x)/\aa (bA b v) w w':=by
 have u:=c.len;have F:=c.n0
 by_cases d:0<=k/\k<a.length
 ·have f:rf a k x=a.set k.toNat x:=yf d
  have i:eV a k=0:=yf d;have l:aH a k=1:=yf d;rw[f,i,l];clear f i l;obtain⟨j,rfl⟩:=ym d.1;have t:j<a.length:=by omega
  clear d;obtain⟨g,o,rfl,_,H,s,p,q⟩:=c.at_ t;have z:=c.setN (n+1) (by omega) E;have D:(w.setCell ⟨b,0,none⟩ (.int .i64 (n+1))).cell? ⟨g,j,none⟩=some (.int .i64 (a.getD j 0)):=by rw[World.cell?_setCell_other _ _ _ _ (by intro e;injection e with e;exact s e.symm)];exact p
  have G:(w.setCell ⟨b,0,none⟩ (.int .i64 (n+1))).frozen? ⟨g,j,none⟩=false:=by rw[World.frozen?_setCell];exact q
  have r:bR ((w.setCell ⟨b,0,none⟩ (.int .i64 (n+1))).setCell ⟨g,j,none⟩ (.int .i64 x)) B b (n+1) (.slice (some ⟨g,0,none⟩) a.length o) (a.set j x)/\aa (bA b (.slice (some ⟨g,0,none⟩) a.length o)) w ((w.setCell ⟨b,0,none⟩ (.int .i64 (n+1))).setCell ⟨g,j,none⟩ (.int .i64 x)):=
   ⟨z.store s j x,(oR.setCell (.inl (.inl rfl)) _).setCell (.inl (.inr rfl)) _⟩
  have m:=hD r;have C:=hD c.J;clear z r c p q;simp only[yo];generalize a.getD j 0=y at D;go_enter Tryz.func228,Tryz.ntmps228
  go_wp2_with (go_at_call 211;refine(kP _ _ _ _ _ _ _ F (by omega) u t C.O).mono ?_;rintro e w' ⟨rfl,rfl⟩)
  go_ret;exact⟨rfl,m.O⟩
 ·have f:rf a k x=a:=yb d
  have i:eV a k=5:=yb d;have l:aH a k=0:=yb d;rw[f,i,l,Int.add_zero];clear f i l;obtain⟨A,o,rfl⟩:=c.slice;have m:=hD c;clear c;go_enter Tryz.func228,Tryz.ntmps228
  go_wp2_with (go_at_call 211;refine(nA _ _ _ _ _ _ _ u (by omega) m.O.J).mono ?_;rintro e w' ⟨rfl,rfl⟩)
  go_ret;exact⟨rfl,m.O,oR⟩
theorem BE(B b:Nat)(n k c x:Int)(v:Value)(a:List Int)(w:World)(d:bR w B b n v a)(Q:n+1<=4611686018427387904):
 Calls Tryz.prog 245 #[.pointer (some ⟨b,0,none⟩),.int .i64 k,.int .i64 c,.int .i64 x] w λe w'=>e=.returned (.tuple #[.bool (iK a k c),.int .i64 (eV a k)])/\bR w' B b (n+aH a k) v (jZ a k c x)/\aa (bA b v) w w':=by
 have F:=d.len;have N:=d.n0
 by_cases i:0<=k/\k<a.length
 ·have o:eV a k=0:=yf i
  have p:aH a k=1:=yf i;rw[o,p];clear o p;obtain⟨j,rfl⟩:=ym i.1;have t:j<a.length:=by omega
  have s:iK a (j:Int) c=(a.getD j 0==c):=by simp[iK,t]
  clear i;obtain⟨g,m,rfl,_,S,L,D,E⟩:=d.at_ t;have u:=d.setN (n+1) (by omega) Q;have K:(w.setCell ⟨b,0,none⟩ (.int .i64 (n+1))).cell? ⟨g,j,none⟩=some (.int .i64 (a.getD j 0)):=by rw[World.cell?_setCell_other _ _ _ _ (by intro e;injection e with e;exact L e.symm)];exact D
  have R:(w.setCell ⟨b,0,none⟩ (.int .i64 (n+1))).frozen? ⟨g,j,none⟩=false:=by rw[World.frozen?_setCell];exact E
  by_cases bX:a.getD j 0=c
  ·have f:iK a (j:Int) c=true:=by rw[s,bX];simp
   have q:jZ a (j:Int) c x=a.set j x:=by rw[jZ,yf f];simp
   have r:bR ((w.setCell ⟨b,0,none⟩ (.int .i64 (n+1))).setCell ⟨g,j,none⟩ (.int .i64 x)) B b (n+1) (.slice (some ⟨g,0,none⟩) a.length m) (a.set j x)/\aa (bA b (.slice (some ⟨g,0,none⟩) a.length m)) w ((w.setCell ⟨b,0,none⟩ (.int .i64 (n+1))).setCell ⟨g,j,none⟩ (.int .i64 x)):=
    ⟨u.store L j x,(oR.setCell (.inl (.inl rfl)) _).setCell (.inl (.inr rfl)) _⟩
   have l:=hD r;have z:=hD d.J;rw[f,q];clear u r d D E s f q;rw[bX] at K;clear bX;go_enter Tryz.func245,Tryz.ntmps245
   go_wp2_with (go_at_call 211;refine(kP _ _ _ _ _ _ _ N (by omega) F t z.O).mono ?_;rintro e w' ⟨rfl,rfl⟩)
   go_ret2
   exact⟨rfl,l.O⟩
  ·have f:iK a (j:Int) c=false:=by rw[s];simpa using bX
   have q:jZ a (j:Int) c x=a:=by rw[jZ,f];simp
   have r:bR (w.setCell ⟨b,0,none⟩ (.int .i64 (n+1))) B b (n+1) (.slice (some ⟨g,0,none⟩) a.length m) a/\aa (bA b (.slice (some ⟨g,0,none⟩) a.length m)) w (w.setCell ⟨b,0,none⟩ (.int .i64 (n+1))):=
    ⟨u,oR.setCell (.inl (.inl rfl)) _⟩
   have l:=hD r;have z:=hD d.J;rw[f,q];clear u r d D E s f q;generalize a.getD j 0=y at K bX;have T:(y !=c)=true:=by simpa using bX
   clear bX;go_enter Tryz.func245,Tryz.ntmps245
   go_wp2_with (go_at_call 211;refine(kP _ _ _ _ _ _ _ N (by omega) F t z.O).mono ?_;rintro e w' ⟨rfl,rfl⟩)
   go_ret2
   exact⟨rfl,l.O⟩
 ·have C:iK a k c=false:=by
   unfold iK
   by_cases H:0<=k
   ·have:¬k<a.length:=λP=>i ⟨H,P⟩
    simp[this]
   ·simp[H]
  have G:jZ a k c x=a:=by rw[jZ,C];simp
  have o:eV a k=5:=yb i;have p:aH a k=0:=yb i;rw[C,G,o,p,Int.add_zero];clear C G o p;obtain⟨A,m,rfl⟩:=d.slice;have l:=hD d;clear d;go_enter Tryz.func245,Tryz.ntmps245
  go_wp2_with (go_at_call 211;refine(nA _ _ _ _ _ _ _ F (by omega) l.O.J).mono ?_;rintro e w' ⟨rfl,rfl⟩)
  go_ret2
  exact⟨rfl,l.O,oR⟩
theorem Cz(B b:Nat)(n:Int)(v:Value)(c:List Int)(w:World)(a:bR w B b n v c):
 Calls Tryz.prog 106 #[.pointer (some ⟨b,0,none⟩)] w λe w'=>e=.returned (.int .i64 c.length)/\w=w':=by
 obtain⟨A,d,rfl⟩:=a.slice;have f:w.cell? ⟨b,2,none⟩=some (.slice A c.length d):=a.J.I 2;clear a;go_enter Tryz.func106,Tryz.ntmps106
 go_wp2
 go_ret;exact⟨rfl,rfl⟩
theorem tJ(w:World):
 Calls Tryz.prog 56 #[] w λa w'=>a=.returned (.pointer (some ⟨w.heap.size,0,none⟩))/\w'=w.alloc (.cells #[.int .i64 0,.bool true,.slice none 0 0] 214):=by
 go_enter Tryz.func56,Tryz.ntmps56
 go_wp2
 go_ret;exact⟨rfl,rfl⟩
theorem bR.new(w:World)(B:Nat)(a:B<=w.heap.size):bR (w.alloc (.cells #[.int .i64 0,.bool true,.slice none 0 0] 214)) B w.heap.size 0 (.slice none 0 0) []:=
 ⟨bN,World.ownsRow_nil _ _ _ _,a,by omega,by omega,by simp⟩
def ng(xs vals:List Int):Int:=if 65536-(xs.length:Int)<vals.length then 0 else xs.length
def nh(xs vals:List Int):Int:=if 65536-(xs.length:Int)<vals.length then 6 else 0
def nj(xs vals:List Int):List Int:=if 65536-(xs.length:Int)<vals.length then xs else xs++vals
def BS(w:World)(v v':Value):Prop:=∀k,v'.ownBlock=some k->v.ownBlock=some k\/w.heap.size<=k
structure tZ(B b:Nat)(n:Int)(v:Value)(xs:List Int)(w w':World):Prop where
 ex:∃v',bR w' B b n v' xs/\BS w v v'
 only:aa (bA b v) w w'
theorem Tryz.infoI:(Tryz.prog.info? 2).map (λi=>(i.zero,i.size,i.bytes))=some (some (.int .i64 0),1,8):=by kernel_rfl
theorem sb(B b:Nat)(n:Int)(v:Value)(a d:List Int)(R:Nat)(A:Option Addr)(c:Nat)(w:World)(f:bR w B b n v a)(D:cw w R 1 A d.length (d.map (.int .i64)))(a4:a.length<=65536)(_hv:d.length<=maxLen)(T:B<=w.heap.size):
 Calls Tryz.prog 107 #[.pointer (some ⟨b,0,none⟩),.slice A d.length c] w λq w'=>q=.returned (.tuple #[.int .i64 (ng a d),.int .i64 (nh a d)])/\tZ B b n v (nj a d) w w':=by
 unfold maxLen at _hv
 by_cases e:65536-(a.length:Int)<d.length
 ·have r:ng a d=0:=yf e
  have s:nh a d=6:=yf e;have t:nj a d=a:=yf e;rw[r,s,t];have m:=hD (show tZ B b n v a w w from⟨⟨v,f,λk e=>.inl e⟩,oR⟩);obtain⟨l,j,rfl⟩:=f.slice;have Q:w.cell? ⟨b,1,none⟩=some (.bool true):=f.J.I 1;have y:w.cell? ⟨b,2,none⟩=some (.slice l a.length j):=f.J.I 2;clear r s t f D;go_enter Tryz.func107,Tryz.ntmps107;go_wp2_with fail
  go_ret2
  exact⟨rfl,m.O⟩
 ·have r:ng a d=a.length:=yb e
  have s:nh a d=0:=yb e;have t:nj a d=a++d:=yb e;rw[r,s,t];have m:=hD f;have P:=hD D;have K:=hD f.own;have a3:=f.J.lt;obtain⟨l,j,rfl⟩:=f.slice;have Q:w.cell? ⟨b,1,none⟩=some (.bool true):=f.J.I 1;have y:w.cell? ⟨b,2,none⟩=some (.slice l a.length j):=f.J.I 2;obtain⟨a0,W,X,Y,Z⟩:=info_parts Tryz.infoI;clear r s t f D;go_enter Tryz.func107,Tryz.ntmps107
  go_wp2_with (at_builtin;refine iI _ rfl (.tmp 36) (.tmp 37) 25 rfl B 2 a0 (.int .i64 0) 1 8 Tryz.underlying25 W X Y Z rfl (by decide) _ _ _ rfl K.O R _ _ _ _ rfl P.O rT ?c3 ?c4 T ?_)
  case c3=>unfold maxLen;omega
  case c4=>omega
  intro x o C z H;have G:(Value.slice l a.length j).ownBlock≠some b:=bl K.O m.O.J (by decide);have u:ae o b 214 #[.int .i64 n,.bool true,.slice l a.length j]:=m.O.J.grown z (λq=>G q.symm)
  have F:tZ B b n (.slice l a.length j) (a++d) w (o.setCell ⟨b,2,none⟩ x):=by
   refine⟨⟨x,⟨u.s_ 2 x,?_,m.O.base,m.O.n0,m.O.n1,by simp;omega⟩,?_⟩,?_⟩
   ·have i:o.ownsRow B 2 1 x (a++d).length ((a++d).map (.int .i64)):=by rw[yk,yS];exact C
    refine aa.owns (S:=(·=b)) ((aa.refl (·=b) o).setCell (p:=⟨b,2,none⟩) (.inl rfl) _) i (λk e q=>?_);subst q;exact bl i u (by decide) e
   ·intro k e
    rcases H with i|i
    ·exact .inl (i ▸ e)
    ·rw[i] at e;injection e with e;exact .inr (by omega)
   ·exact(oR.grown z (λk e=>.inl (.inr e))).setCell (.inl (.inl rfl)) _
  have a1:o.cell? ⟨b,2,none⟩=some (.slice l a.length j):=u.I 2;have a2:o.frozen? ⟨b,2,none⟩=false:=u.fz 2
  have V:∃E L y,x=.slice E L y:=by
   rcases cT C with⟨i,_⟩|⟨g,j,i,_⟩
   ·exact⟨_,_,_,i⟩
   ·exact⟨_,_,_,i⟩
  have N:=hD F;clear F C z H u G;obtain⟨E,L,y,rfl⟩:=V;go_wp2_with fail
  go_ret2
  exact⟨rfl,N.O⟩
end
end Go.Proofs.YtmdocplknceilaaGreat
