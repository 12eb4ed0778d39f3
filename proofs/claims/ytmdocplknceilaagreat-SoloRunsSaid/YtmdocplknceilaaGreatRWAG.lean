import Derived.Test.YtmdocplknceilaaGreatRWAF
import Derived.Test.YtmdocplknceilaaGreatRows
set_option linter.all false
set_option maxHeartbeats 400000
namespace Go.Proofs.YtmdocplknceilaaGreat
section
set_option maxRecDepth 100000
open Go.RowKit
structure cx(w:World)(B b:Nat)(n:Int)(v:Value)(xs:List Int):Prop where
 J:ae w b 214 #[.int .i64 n,.bool true,v]
 own:w.ownsRow B 2 1 v xs.length (xs.map (.int .i64))
 base:B<=b
 n0:0<=n
 n1:n<=4611686018427387904
 len:xs.length<=4611686018427387904
def nc(xs:List Int)(k:Int):Int:=if 0<=k/\k<xs.length then xs.getD k.toNat 0 else 0
def fM(xs:List Int)(k:Int):Int:=if 0<=k/\k<xs.length then 0 else 5
def aN(xs:List Int)(k:Int):Int:=if 0<=k/\k<xs.length then 1 else 0
def ti(xs:List Int)(k v:Int):List Int:=if 0<=k/\k<xs.length then xs.set k.toNat v else xs
def jD(xs:List Int)(k old:Int):Bool:=decide (0<=k)&&decide (k<xs.length)&&(xs.getD k.toNat 0==old)
def lj(xs:List Int)(k old v:Int):List Int:=if jD xs k old=true then xs.set k.toNat v else xs
theorem ES(b:Nat)(n:Int)(w:World)(c:0<=n)(d:n<=4611686018427387904)(e:w.cell? ⟨b,0,none⟩=some (.int .i64 n))(f:w.frozen? ⟨b,0,none⟩=false):
 Calls Tryz.prog 227 #[.pointer (some ⟨b,0,none⟩)] w λa w'=>a=.returned (.tuple #[])/\w'=w.setCell ⟨b,0,none⟩ (.int .i64 (n+1)):=by
 go_enter Tryz.func227,Tryz.ntmps227
 go_wp2
 go_end0
 exact⟨rfl,rfl⟩
theorem mr(b g k c d:Nat)(n:Int)(w:World)(l:0<=n)(m:n<=4611686018427387904)(_hlen:c<=4611686018427387904)(q:k<c)
 (a:ae w b 214 #[.int .i64 n,.bool true,.slice (some ⟨g,0,none⟩) c d]):
 Calls Tryz.prog 211 #[.pointer (some ⟨b,0,none⟩),.int .i64 k] w λe w'=>e=.returned (.tuple #[.pointer (some ⟨g,k,none⟩),.int .i64 0])/\w'=w.setCell ⟨b,0,none⟩ (.int .i64 (n+1)):=by
 have f:w.cell? ⟨b,0,none⟩=some (.int .i64 n):=a.I 0;have o:w.cell? ⟨b,1,none⟩=some (.bool true):=a.I 1;have i:w.cell? ⟨b,2,none⟩=some (.slice (some ⟨g,0,none⟩) c d):=a.I 2;have j:w.frozen? ⟨b,0,none⟩=false:=a.fz 0;have p:(w.setCell ⟨b,0,none⟩ (.int .i64 (n+1))).cell? ⟨b,2,none⟩=some (.slice (some ⟨g,0,none⟩) c d):=by rw[World.cell?_setCell_other _ _ _ _ (by simp)];exact i
 clear a;go_enter Tryz.func211,Tryz.ntmps211
 go_wp2_with (go_at_call 227;refine(ES _ _ _ l m f j).mono ?_;rintro e w' ⟨rfl,rfl⟩)
 go_ret2
 exact⟨rfl,rfl⟩
theorem pI(b a d:Nat)(A:Option Addr)(n k:Int)(w:World)(_hlen:a<=4611686018427387904)(e:k<0\/(a:Int)<=k)
 (c:ae w b 214 #[.int .i64 n,.bool true,.slice A a d]):
 Calls Tryz.prog 211 #[.pointer (some ⟨b,0,none⟩),.int .i64 k] w λf w'=>f=.returned (.tuple #[.pointer none,.int .i64 5])/\w=w':=by
 have g:w.cell? ⟨b,1,none⟩=some (.bool true):=c.I 1;have i:w.cell? ⟨b,2,none⟩=some (.slice A a d):=c.I 2;clear c
 by_cases l:k<0
 ·clear e
  go_enter Tryz.func211,Tryz.ntmps211;go_wp2_with fail
  go_ret2
  exact⟨rfl,rfl⟩
 ·have j:(a:Int)<=k:=by omega
  clear e;go_enter Tryz.func211,Tryz.ntmps211;go_wp2_with fail
  go_ret2
  exact⟨rfl,rfl⟩
theorem cx.slice{w:World}{B b:Nat}{n:Int}{v:Value}{xs:List Int}(c:cx w B b n v xs):∃A a,v=.slice A xs.length a:=by
 rcases di c.own with⟨rfl,d⟩|⟨g,a,rfl,_⟩
 ·exact⟨none,0,by rw[d]⟩
 ·exact⟨_,a,rfl⟩
theorem cx.at_{w:World}{B b:Nat}{n:Int}{v:Value}{xs:List Int}(a:cx w B b n v xs){k:Nat}(d:k<xs.length):∃g c,v=.slice (some ⟨g,0,none⟩) xs.length c/\B<=g/\g<w.heap.size/\g≠b/\w.cell? ⟨g,k,none⟩=some (.int .i64 (xs.getD k 0))/\w.frozen? ⟨g,k,none⟩=false:=by
 rcases di a.own with⟨rfl,i⟩|⟨g,c,rfl,_,_,e,f⟩
 ·omega
 ·refine⟨g,c,rfl,e,f,?_,?_,a.own.frozenAt k⟩
  ·rintro rfl
   exact aA a.own a.J (by decide) rfl
  ·rw[a.own.cellAt k (by omega),yJ,gG d];simp[List.getD,d]
theorem cx.setN{w:World}{B b:Nat}{n:Int}{v:Value}{xs:List Int}(a:cx w B b n v xs)(c:Int)(e:0<=c)(f:c<=4611686018427387904):cx (w.setCell ⟨b,0,none⟩ (.int .i64 c)) B b c v xs:=
 ⟨a.J.s_ 0 _,aa.owns (S:=(·=b)) ((aa.refl (·=b) w).setCell (p:=⟨b,0,none⟩) (.inl rfl) _) a.own (λk d=>by rintro rfl;exact aA a.own a.J (by decide) d),a.base,e,f,a.len⟩
theorem cx.store{w:World}{B b g c:Nat}{n:Int}{xs:List Int}(a:cx w B b n (.slice (some ⟨g,0,none⟩) xs.length c) xs)(f:g≠b)(k:Nat)(x:Int):
 cx (w.setCell ⟨g,k,none⟩ (.int .i64 x)) B b n (.slice (some ⟨g,0,none⟩) xs.length c) (xs.set k x):=by
 refine⟨a.J.far (by simpa using λd=>f d.symm) _,?_,a.base,a.n0,a.n1,by simpa using a.len⟩;have e:=(a.own.stored k (.int .i64 x)).1;rw[yI,<-List.map_set] at*;exact e
theorem cx.only{S:Nat->Prop}{w w':World}{B b:Nat}{n:Int}{v:Value}{xs:List Int}(a:cx w B b n v xs)(c:aa S w w')(d:¬S b)(hv:∀k,v.ownBlock=some k->¬S k):cx w' B b n v xs:=
 ⟨c.J a.J d,c.owns a.own hv,a.base,a.n0,a.n1,a.len⟩
theorem cx.drewN{w:World}{B b:Nat}{n:Int}{v:Value}{xs:List Int}(a:cx w B b n v xs)(k:Nat):cx (w.drewN k) B b n v xs:=⟨a.J,a.own,a.base,a.n0,a.n1,a.len⟩
def bO(b:Nat)(v:Value)(i:Nat):Prop:=i=b\/v.ownBlock=some i
theorem C7(B b:Nat)(n k:Int)(v:Value)(xs:List Int)(w:World)(a:cx w B b n v xs)(C:n+1<=4611686018427387904):
 Calls Tryz.prog 179 #[.pointer (some ⟨b,0,none⟩),.int .i64 k] w λd w'=>d=.returned (.tuple #[.int .i64 (nc xs k),.int .i64 (fM xs k)])/\cx w' B b (n+aN xs k) v xs/\aa (bO b v) w w':=by
 have r:=a.len;have D:=a.n0
 by_cases c:0<=k/\k<xs.length
 ·have e:nc xs k=xs.getD k.toNat 0:=yf c
  have f:fM xs k=0:=yf c;have i:aN xs k=1:=yf c;rw[e,f,i];clear e f i;obtain⟨j,rfl⟩:=ym c.1;have q:j<xs.length:=by omega
  clear c;obtain⟨g,m,rfl,_,E,z,o,y⟩:=a.at_ q;have s:=a.setN (n+1) (by omega) C;have u:(w.setCell ⟨b,0,none⟩ (.int .i64 (n+1))).cell? ⟨g,j,none⟩=some (.int .i64 (xs.getD j 0)):=by rw[World.cell?_setCell_other _ _ _ _ (by intro d;injection d with d;exact z d.symm)];exact o
  have p:cx (w.setCell ⟨b,0,none⟩ (.int .i64 (n+1))) B b (n+1) (.slice (some ⟨g,0,none⟩) xs.length m) xs/\aa (bO b (.slice (some ⟨g,0,none⟩) xs.length m)) w (w.setCell ⟨b,0,none⟩ (.int .i64 (n+1))):=⟨s,oR.setCell (.inl (.inl rfl)) _⟩
  have l:=hD p;have t:=hD a.J;clear s p a o y;simp only[yo];generalize xs.getD j 0=x at u ⊢;go_enter Tryz.func179,Tryz.ntmps179
  go_wp2_with (go_at_call 211;refine(mr _ _ _ _ _ _ _ D (by omega) r q t.O).mono ?_;rintro d w' ⟨rfl,rfl⟩)
  go_ret2
  exact⟨rfl,l.O⟩
 ·have e:nc xs k=0:=yb c
  have f:fM xs k=5:=yb c;have i:aN xs k=0:=yb c;rw[e,f,i,Int.add_zero];clear e f i;obtain⟨A,m,rfl⟩:=a.slice;have l:=hD a;clear a;go_enter Tryz.func179,Tryz.ntmps179
  go_wp2_with (go_at_call 211;refine(pI _ _ _ _ _ _ _ r (by omega) l.O.J).mono ?_;rintro d w' ⟨rfl,rfl⟩)
  go_ret2
  exact⟨rfl,l.O,oR⟩
theorem mz(B b:Nat)(n k x:Int)(v:Value)(xs:List Int)(w:World)(a:cx w B b n v xs)(D:n+1<=4611686018427387904):
 Calls Tryz.prog 228 #[.pointer (some ⟨b,0,none⟩),.int .i64 k,.int .i64 x] w λd w'=>d=.returned (.int .i64 (fM xs k))/\cx w' B b (n+aN xs k) v (ti xs k x)/\aa (bO b v) w w':=by
 have t:=a.len;have E:=a.n0
 by_cases c:0<=k/\k<xs.length
 ·have e:ti xs k x=xs.set k.toNat x:=yf c
  have f:fM xs k=0:=yf c;have i:aN xs k=1:=yf c;rw[e,f,i];clear e f i;obtain⟨j,rfl⟩:=ym c.1;have s:j<xs.length:=by omega
  clear c;obtain⟨g,m,rfl,_,G,r,o,p⟩:=a.at_ s;have u:=a.setN (n+1) (by omega) D;have C:(w.setCell ⟨b,0,none⟩ (.int .i64 (n+1))).cell? ⟨g,j,none⟩=some (.int .i64 (xs.getD j 0)):=by rw[World.cell?_setCell_other _ _ _ _ (by intro d;injection d with d;exact r d.symm)];exact o
  have F:(w.setCell ⟨b,0,none⟩ (.int .i64 (n+1))).frozen? ⟨g,j,none⟩=false:=by rw[World.frozen?_setCell];exact p
  have q:cx ((w.setCell ⟨b,0,none⟩ (.int .i64 (n+1))).setCell ⟨g,j,none⟩ (.int .i64 x)) B b (n+1) (.slice (some ⟨g,0,none⟩) xs.length m) (xs.set j x)/\aa (bO b (.slice (some ⟨g,0,none⟩) xs.length m)) w ((w.setCell ⟨b,0,none⟩ (.int .i64 (n+1))).setCell ⟨g,j,none⟩ (.int .i64 x)):=
   ⟨u.store r j x,(oR.setCell (.inl (.inl rfl)) _).setCell (.inl (.inr rfl)) _⟩
  have l:=hD q;have z:=hD a.J;clear u q a o p;simp only[yo];generalize xs.getD j 0=y at C;go_enter Tryz.func228,Tryz.ntmps228
  go_wp2_with (go_at_call 211;refine(mr _ _ _ _ _ _ _ E (by omega) t s z.O).mono ?_;rintro d w' ⟨rfl,rfl⟩)
  go_ret;exact⟨rfl,l.O⟩
 ·have e:ti xs k x=xs:=yb c
  have f:fM xs k=5:=yb c;have i:aN xs k=0:=yb c;rw[e,f,i,Int.add_zero];clear e f i;obtain⟨A,m,rfl⟩:=a.slice;have l:=hD a;clear a;go_enter Tryz.func228,Tryz.ntmps228
  go_wp2_with (go_at_call 211;refine(pI _ _ _ _ _ _ _ t (by omega) l.O.J).mono ?_;rintro d w' ⟨rfl,rfl⟩)
  go_ret;exact⟨rfl,l.O,oR⟩
theorem DR(B b:Nat)(n k a x:Int)(v:Value)(xs:List Int)(w:World)(c:cx w B b n v xs)(P:n+1<=4611686018427387904):
 Calls Tryz.prog 245 #[.pointer (some ⟨b,0,none⟩),.int .i64 k,.int .i64 a,.int .i64 x] w λd w'=>d=.returned (.tuple #[.bool (jD xs k a),.int .i64 (fM xs k)])/\cx w' B b (n+aN xs k) v (lj xs k a x)/\aa (bO b v) w w':=by
 have E:=c.len;have L:=c.n0
 by_cases f:0<=k/\k<xs.length
 ·have m:fM xs k=0:=yf f
  have o:aN xs k=1:=yf f;rw[m,o];clear m o;obtain⟨j,rfl⟩:=ym f.1;have s:j<xs.length:=by omega
  have r:jD xs (j:Int) a=(xs.getD j 0==a):=by simp[jD,s]
  clear f;obtain⟨g,l,rfl,_,R,K,C,D⟩:=c.at_ s;have t:=c.setN (n+1) (by omega) P;have H:(w.setCell ⟨b,0,none⟩ (.int .i64 (n+1))).cell? ⟨g,j,none⟩=some (.int .i64 (xs.getD j 0)):=by rw[World.cell?_setCell_other _ _ _ _ (by intro d;injection d with d;exact K d.symm)];exact C
  have Q:(w.setCell ⟨b,0,none⟩ (.int .i64 (n+1))).frozen? ⟨g,j,none⟩=false:=by rw[World.frozen?_setCell];exact D
  by_cases cE:xs.getD j 0=a
  ·have e:jD xs (j:Int) a=true:=by rw[r,cE];simp
   have p:lj xs (j:Int) a x=xs.set j x:=by rw[lj,yf e];simp
   have q:cx ((w.setCell ⟨b,0,none⟩ (.int .i64 (n+1))).setCell ⟨g,j,none⟩ (.int .i64 x)) B b (n+1) (.slice (some ⟨g,0,none⟩) xs.length l) (xs.set j x)/\aa (bO b (.slice (some ⟨g,0,none⟩) xs.length l)) w ((w.setCell ⟨b,0,none⟩ (.int .i64 (n+1))).setCell ⟨g,j,none⟩ (.int .i64 x)):=
    ⟨t.store K j x,(oR.setCell (.inl (.inl rfl)) _).setCell (.inl (.inr rfl)) _⟩
   have i:=hD q;have u:=hD c.J;rw[e,p];clear t q c C D r e p;rw[cE] at H;clear cE;go_enter Tryz.func245,Tryz.ntmps245
   go_wp2_with (go_at_call 211;refine(mr _ _ _ _ _ _ _ L (by omega) E s u.O).mono ?_;rintro d w' ⟨rfl,rfl⟩)
   go_ret2
   exact⟨rfl,i.O⟩
  ·have e:jD xs (j:Int) a=false:=by rw[r];simpa using cE
   have p:lj xs (j:Int) a x=xs:=by rw[lj,e];simp
   have q:cx (w.setCell ⟨b,0,none⟩ (.int .i64 (n+1))) B b (n+1) (.slice (some ⟨g,0,none⟩) xs.length l) xs/\aa (bO b (.slice (some ⟨g,0,none⟩) xs.length l)) w (w.setCell ⟨b,0,none⟩ (.int .i64 (n+1))):=
    ⟨t,oR.setCell (.inl (.inl rfl)) _⟩
   have i:=hD q;have u:=hD c.J;rw[e,p];clear t q c C D r e p;generalize xs.getD j 0=y at H cE;have S:(y !=a)=true:=by simpa using cE
   clear cE;go_enter Tryz.func245,Tryz.ntmps245
   go_wp2_with (go_at_call 211;refine(mr _ _ _ _ _ _ _ L (by omega) E s u.O).mono ?_;rintro d w' ⟨rfl,rfl⟩)
   go_ret2
   exact⟨rfl,i.O⟩
 ·have z:jD xs k a=false:=by
   unfold jD
   by_cases G:0<=k
   ·have:¬k<xs.length:=λN=>f ⟨G,N⟩
    simp[this]
   ·simp[G]
  have F:lj xs k a x=xs:=by rw[lj,z];simp
  have m:fM xs k=5:=yb f;have o:aN xs k=0:=yb f;rw[z,F,m,o,Int.add_zero];clear z F m o;obtain⟨A,l,rfl⟩:=c.slice;have i:=hD c;clear c;go_enter Tryz.func245,Tryz.ntmps245
  go_wp2_with (go_at_call 211;refine(pI _ _ _ _ _ _ _ E (by omega) i.O.J).mono ?_;rintro d w' ⟨rfl,rfl⟩)
  go_ret2
  exact⟨rfl,i.O,oR⟩
theorem EK(B b:Nat)(n:Int)(v:Value)(xs:List Int)(w:World)(a:cx w B b n v xs):
 Calls Tryz.prog 106 #[.pointer (some ⟨b,0,none⟩)] w λd w'=>d=.returned (.int .i64 xs.length)/\w=w':=by
 obtain⟨A,c,rfl⟩:=a.slice;have e:w.cell? ⟨b,2,none⟩=some (.slice A xs.length c):=a.J.I 2;clear a;go_enter Tryz.func106,Tryz.ntmps106
 go_wp2
 go_ret;exact⟨rfl,rfl⟩
theorem vF(w:World):
 Calls Tryz.prog 56 #[] w λa w'=>a=.returned (.pointer (some ⟨w.heap.size,0,none⟩))/\w'=w.alloc (.cells #[.int .i64 0,.bool true,.slice none 0 0] 214):=by
 go_enter Tryz.func56,Tryz.ntmps56
 go_wp2
 go_ret;exact⟨rfl,rfl⟩
theorem cx.new(w:World)(B:Nat)(a:B<=w.heap.size):cx (w.alloc (.cells #[.int .i64 0,.bool true,.slice none 0 0] 214)) B w.heap.size 0 (.slice none 0 0) []:=
 ⟨bN,World.ownsRow_nil _ _ _ _,a,by omega,by omega,by simp⟩
def py(xs vals:List Int):Int:=if 65536-(xs.length:Int)<vals.length then 0 else xs.length
def pz(xs vals:List Int):Int:=if 65536-(xs.length:Int)<vals.length then 6 else 0
def pB(xs vals:List Int):List Int:=if 65536-(xs.length:Int)<vals.length then xs else xs++vals
def D5(w:World)(v v':Value):Prop:=∀k,v'.ownBlock=some k->v.ownBlock=some k\/w.heap.size<=k
structure vV(B b:Nat)(n:Int)(v:Value)(xs:List Int)(w w':World):Prop where
 ex:∃v',cx w' B b n v' xs/\D5 w v v'
 only:aa (bO b v) w w'
theorem Tryz.infoI:(Tryz.prog.info? 2).map (λi=>(i.zero,i.size,i.bytes))=some (some (.int .i64 0),1,8):=by kernel_rfl
theorem uk(B b:Nat)(n:Int)(v:Value)(xs a:List Int)(R:Nat)(A:Option Addr)(c:Nat)(w:World)(e:cx w B b n v xs)(C:bP w R 1 A a.length (a.map (.int .i64)))(a3:xs.length<=65536)(_hv:a.length<=maxLen)(Q:B<=w.heap.size):
 Calls Tryz.prog 107 #[.pointer (some ⟨b,0,none⟩),.slice A a.length c] w λo w'=>o=.returned (.tuple #[.int .i64 (py xs a),.int .i64 (pz xs a)])/\vV B b n v (pB xs a) w w':=by
 unfold maxLen at _hv
 by_cases d:65536-(xs.length:Int)<a.length
 ·have q:py xs a=0:=yf d
  have r:pz xs a=6:=yf d;have s:pB xs a=xs:=yf d;rw[q,r,s];have l:=hD (show vV B b n v xs w w from⟨⟨v,e,λk d=>.inl d⟩,oR⟩);obtain⟨j,i,rfl⟩:=e.slice;have P:w.cell? ⟨b,1,none⟩=some (.bool true):=e.J.I 1;have x:w.cell? ⟨b,2,none⟩=some (.slice j xs.length i):=e.J.I 2;clear q r s e C;go_enter Tryz.func107,Tryz.ntmps107;go_wp2_with fail
  go_ret2
  exact⟨rfl,l.O⟩
 ·have q:py xs a=xs.length:=yb d
  have r:pz xs a=0:=yb d;have s:pB xs a=xs++a:=yb d;rw[q,r,s];have l:=hD e;have N:=hD C;have H:=hD e.own;have a2:=e.J.lt;obtain⟨j,i,rfl⟩:=e.slice;have P:w.cell? ⟨b,1,none⟩=some (.bool true):=e.J.I 1;have x:w.cell? ⟨b,2,none⟩=some (.slice j xs.length i):=e.J.I 2;obtain⟨Z,V,W,X,Y⟩:=info_parts Tryz.infoI;clear q r s e C;go_enter Tryz.func107,Tryz.ntmps107
  go_wp2_with (at_builtin;refine fX _ rfl (.tmp 36) (.tmp 37) 25 rfl B 2 Z (.int .i64 0) 1 8 Tryz.underlying25 V W X Y rfl (by decide) _ _ _ rfl H.O R _ _ _ _ rfl N.O tY ?c3 ?c4 Q ?_)
  case c3=>unfold maxLen;omega
  case c4=>omega
  intro u m z y G;have F:(Value.slice j xs.length i).ownBlock≠some b:=aA H.O l.O.J (by decide);have t:ae m b 214 #[.int .i64 n,.bool true,.slice j xs.length i]:=l.O.J.grown y (λo=>F o.symm)
  have E:vV B b n (.slice j xs.length i) (xs++a) w (m.setCell ⟨b,2,none⟩ u):=by
   refine⟨⟨u,⟨t.s_ 2 u,?_,l.O.base,l.O.n0,l.O.n1,by simp;omega⟩,?_⟩,?_⟩
   ·have f:m.ownsRow B 2 1 u (xs++a).length ((xs++a).map (.int .i64)):=by rw[yk,yS];exact z
    refine aa.owns (S:=(·=b)) ((aa.refl (·=b) m).setCell (p:=⟨b,2,none⟩) (.inl rfl) _) f (λk d o=>?_);subst o;exact aA f t (by decide) d
   ·intro k d
    rcases G with f|f
    ·exact .inl (f ▸ d)
    ·rw[f] at d;injection d with d;exact .inr (by omega)
   ·exact(oR.grown y (λk d=>.inl (.inr d))).setCell (.inl (.inl rfl)) _
  have a0:m.cell? ⟨b,2,none⟩=some (.slice j xs.length i):=t.I 2;have a1:m.frozen? ⟨b,2,none⟩=false:=t.fz 2
  have T:∃D K x,u=.slice D K x:=by
   rcases di z with⟨f,_⟩|⟨g,i,f,_⟩
   ·exact⟨_,_,_,f⟩
   ·exact⟨_,_,_,f⟩
  have L:=hD E;clear E z y G t F;obtain⟨D,K,x,rfl⟩:=T;go_wp2_with fail
  go_ret2
  exact⟨rfl,L.O⟩
end
end Go.Proofs.YtmdocplknceilaaGreat
