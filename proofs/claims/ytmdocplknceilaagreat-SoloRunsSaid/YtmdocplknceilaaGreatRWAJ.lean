import Derived.Test.YtmdocplknceilaaGreatRWAG
import Derived.Test.YtmdocplknceilaaGreatRWAH
import Derived.Test.YtmdocplknceilaaGreatRWAA
import Derived.Laws.EntriesVeiled
set_option linter.all false
set_option maxRecDepth 100000
set_option maxHeartbeats 1000000
namespace Go.Proofs.YtmdocplknceilaaGreat
section
set_option maxRecDepth 100000
open Go.RowKit
attribute [local simp] eM gw gz dj eD Region.binds ed ey Is ap Act.put
theorem tD(C:List Int)(k:Int):nc C k=ld C k:=rfl
theorem na(C:List Int)(k x:Int):ti C k x=st C k x:=rfl
structure bZ(w:World)(B m d:Nat)(z:Nat)(n:Int)(v:Value)(C:List Int)(on:Value):Prop where
 mem:cx w B m n v C
 J:ae w d 218 #[.pointer (some ⟨m,0,none⟩),.int .i64 (z:Int),.int .i64 ((z:Int)+1),.int .i64 ((z:Int)+2),.int .i64 (ld C z),.int .i64 (ld C ((z:Int)+1)),on]
 base:B<=d
section
variable {w w':World}{B m d p z:Nat}{n:Int}{v on:Value}{C:List Int}
theorem bZ.away(a:bZ w B m d z n v C on):¬bO m v d:=by
 rintro (b|b)
 ·exact ae.ne_ a.J a.mem.J (by decide) b
 ·exact aA a.mem.own a.J (by decide) b
theorem uj(b:bZ w B m d z n v C on){cs:Array Value}(e:ae w p 194 cs):¬bO m v p:=by
 rintro (a|a)
 ·exact ae.ne_ e b.mem.J (by decide) a
 ·exact aA b.mem.own e (by decide) a
end
theorem cl(p:Nat)(fn:Fn)(e b:Array Value)(cs:Array Value)(w:World)(a:ae w p 194 cs)(f:0<cs.size):
 Calls Tryz.prog 95 #[.pointer (some ⟨p,0,none⟩),.func fn e b] w λi w'=>i=.returned (.int .i64 0)/\w'=w.setCell ⟨p,0,none⟩ (.func fn e b):=by
 obtain⟨x,g⟩ :∃x,cs[0]?=some x:=⟨cs[0],by simp[f]⟩
 have j:w.cell? ⟨p,0,none⟩=some x:=(a.I 0).trans g;have k:w.frozen? ⟨p,0,none⟩=false:=a.fz 0;clear a g f;go_enter Tryz.func95,Tryz.ntmps95
 go_wp2
 go_ret;exact⟨rfl,rfl⟩
theorem jO(p:Nat)(wh x:Int)(cs:Array Value)(w:World)(a:ae w p 194 cs)(i:2<cs.size):
 Calls Tryz.prog 207 #[.pointer (some ⟨p,0,none⟩),.int .u8 wh,.int .i64 x] w λg w'=>g=.returned (.int .i64 0)/\w'=((w.setCell ⟨p,0,none⟩ .nilFunc).setCell ⟨p,1,none⟩ (.int .u8 wh)).setCell ⟨p,2,none⟩ (.int .i64 x):=by
 obtain⟨j,b⟩ :∃x,cs[0]?=some x:=⟨cs[0],by simp⟩
 obtain⟨k,e⟩ :∃x,cs[1]?=some x:=⟨cs[1],by simp⟩
 obtain⟨l,f⟩ :∃x,cs[2]?=some x:=⟨cs[2],by simp⟩
 have o:w.cell? ⟨p,0,none⟩=some j:=(a.I 0).trans b;have q:w.cell? ⟨p,1,none⟩=some k:=(a.I 1).trans e;have r:w.cell? ⟨p,2,none⟩=some l:=(a.I 2).trans f;have s:w.frozen? ⟨p,0,none⟩=false:=a.fz 0;have t:w.frozen? ⟨p,1,none⟩=false:=a.fz 1;have u:w.frozen? ⟨p,2,none⟩=false:=a.fz 2;clear a b e f i;go_enter Tryz.func207,Tryz.ntmps207
 go_wp2
 go_ret;exact⟨rfl,rfl⟩
theorem jV(x y i:Int)(w:World)(e:0<=i)(b:1<=y)(f:y<=1000000)(g:0<=x)(j:x<=1000000):
 Calls Tryz.prog 237 #[.int .i64 x,.int .i64 y,.int .i64 i] w λa w'=>a=.returned (.int .i64 (ak x y i))/\w=w':=by
 have k:=fD (w:=x) (i:=i) b;have l:=Int.emod_nonneg i (show y≠0 by omega);have o:=Int.emod_lt_of_pos i (show 0<y by omega);have q:¬y=0:=by omega
 unfold ak at*;go_enter Tryz.func237,Tryz.ntmps237
 go_wp2
 go_ret;exact⟨rfl,rfl⟩
theorem dh(B m d z p:Nat)(n k:Int)(v on:Value)(C:List Int)(cs:Array Value)(w:World)(a:bZ w B m d z n v C on)(i:ae w p 194 cs)(g:cs[3]?=some (.pointer (some ⟨d,0,none⟩)))(q:n+1<=4611686018427387904):
 Calls Tryz.prog 143 #[.pointer (some ⟨p,0,none⟩),.int .i64 k] w λb w'=>b=.returned (.int .i64 (ld C k))/\cx w' B m (n+aN C k) v C/\aa (bO m v) w w':=by
 have s:w.cell? ⟨p,3,none⟩=some (.pointer (some ⟨d,0,none⟩)):=(i.I 3).trans g;have r:w.cell? ⟨d,0,none⟩=some (.pointer (some ⟨m,0,none⟩)):=a.J.I 0;have j:=hD a;clear a i g;go_enter Tryz.func143,Tryz.ntmps143;go_wp2_with fail;refine(C7 B m n k v C w j.O.mem q).mono ?_;rintro b w' ⟨rfl,e,f⟩;have l:=hD e;have o:=hD f;rw[tD];clear e f;go_wp2_with fail;go_ret;exact⟨rfl,l.O,o.O⟩
theorem mZ(B m d z p:Nat)(n b:Int)(v on:Value)(C:List Int)(cs:Array Value)(w:World)(e:bZ w B m d z n v C on)(a:ae w p 194 cs)(Q:cs[3]?=some (.pointer (some ⟨d,0,none⟩)))(a9:n+1<=4611686018427387904)(E:(z:Int)+1<C.length):
 Calls Tryz.prog 212 #[.pointer (some ⟨p,0,none⟩),.int .i64 b] w λi w'=>i=.returned (.tuple #[])/\bZ w' B m d z (n+1) v (st C ((z:Int)+1) b) on/\aa (λx=>bO m v x\/x=d) w w':=by
 have N:w.cell? ⟨p,3,none⟩=some (.pointer (some ⟨d,0,none⟩)):=(a.I 3).trans Q;have K:w.cell? ⟨d,0,none⟩=some (.pointer (some ⟨m,0,none⟩)):=e.J.I 0;have L:w.cell? ⟨d,2,none⟩=some (.int .i64 ((z:Int)+1)):=e.J.I 2;have P:w.cell? ⟨d,5,none⟩=some (.int .i64 (ld C ((z:Int)+1))):=e.J.I 5;have S:=uj e a;have o:=e.away;have T:=a.lt;have s:=e.J.lt;have a4:aN C ((z:Int)+1)=1:=yf ⟨by omega,E⟩;obtain⟨r,l⟩:=eX w.drew
 have G:Hd (∀y,aa (bO m v) r y->y.cell? ⟨p,3,none⟩=some (.pointer (some ⟨d,0,none⟩))/\y.cell? ⟨d,0,none⟩=some (.pointer (some ⟨m,0,none⟩))/\y.cell? ⟨d,2,none⟩=some (.int .i64 ((z:Int)+1))/\y.cell? ⟨d,5,none⟩=some (.int .i64 (ld C ((z:Int)+1)))):=hD (by
  rw[l];exact λy t=>⟨(t.I (p:=⟨p,3,none⟩) T S).trans N,(t.I (p:=⟨d,0,none⟩) s o).trans K,(t.I (p:=⟨d,2,none⟩) s o).trans L,(t.I (p:=⟨d,5,none⟩) s o).trans P⟩)
 have Z:Hd (cx r B m n v C):=hD (by rw[l];exact e.mem.drewN 1);have F:Hd (ae r d 218 #[.pointer (some ⟨m,0,none⟩),.int .i64 (z:Int),.int .i64 ((z:Int)+1),.int .i64 ((z:Int)+2),.int .i64 (ld C z),.int .i64 (ld C ((z:Int)+1)),on]):=hD (by rw[l];exact e.J);have q:=hD o;have Y:=hD e.base;have H:=hD l;have a0:=hD E;clear e a Q N K L P S o T s E l;go_enter Tryz.func212,Tryz.ntmps212;go_wp2_with fail
 refine be (by kernel_rfl) (λdn y=>eZ (bO m v) r (dn 15) (λy=>cx y B m (n+1) v (st C ((z:Int)+1) b)) y) [ap p 0,ap p 0,ap p 3,ap d 0,ap d 0,ap d 0,ap m 0,ap p 0,ap p 0,ap p 3,ap d 0,ap d 0,ap d 2,Is (.int .i64 ((z:Int)+1)),Is (.int .i64 b),Is (.int .i64 (fM C ((z:Int)+1)))] (by kernel_rfl)
  (by(repeat refine⟨sT,?_⟩);trivial) (by rw[<-H.O];exact eZ.start) ⟨?_,?_,?_,?_,?_,?_,?_,?_,?_,?_,?_,?_,?_,?_,?_,?_,trivial⟩ ?_
 iterate 15
  ·intro dn u j R a6 g a a1 f
   refine ao rfl ?_;simp at a f ⊢
   try simp only[a] at f
   obtain⟨ad,ai,al,am⟩:=G.O j g.1;go_simp;exact f _ _ (by simpa[bY] using g) rfl
 ·intro dn u j R a6 g a a1 f
  refine ao rfl ?_;simp at a f ⊢;simp only[a] at f;obtain rfl:=g.was R;go_simp;refine(mz B m n _ b v C _ Z.O a9).mono ?_;rintro i az ⟨rfl,V,W⟩;rw[a4,na] at V;exact f _ _ (by simp only[bY,yR];exact eZ.put W V) rfl
 ·intro u j dn a8 g a
  simp at a ⊢;have a3:=a8 15 (by decide);have A:=g.1;have X:=g.got a3;obtain⟨ar,an,W,av⟩:=G.O j A;have aw:j.frozen? ⟨d,5,none⟩=false:=(A.J F.O q.O).fz 5;have D:=hD A;have a2:=hD X;clear A X;go_wp2_with fail
  go_end0
  refine⟨rfl,⟨a2.O.only ((aa.refl (λx=>x=d) j).setCell (p:=⟨d,5,none⟩) (.inl rfl) _) (λi=>q.O (.inl i.symm)) (λk a7 i=>q.O (.inr (i ▸ a7))),?_,Y.O⟩,?_⟩
  ·have a5:=(D.O.J F.O q.O).s_ 5 (.int .i64 b)
   rw[dT (by omega),gC (by omega) a0.O];exact a5
  ·rw[H.O] at D
   exact(aa.drew (aa.refl _ w)).trans ((D.O.mono (λx ab=>.inl ab)).setCell (p:=⟨d,5,none⟩) (.inl (.inr rfl)) _)
set_option maxRecDepth 100000
structure AC where
 dv:Value
 wh:Int
 x:Int
 v:Int
 b:Int
 t:Int
 w:Int
 n:Int
 nw:Int
 i:Int
 g:Bool
def AC.arr(c:AC)(d:Nat):Array Value:=
 #[c.dv,.int .u8 c.wh,.int .i64 c.x,.pointer (some ⟨d,0,none⟩),.int .i64 c.v,.int .i64 c.b,.int .i64 c.t,.int .i64 c.w,.int .i64 c.n,.int .i64 c.nw,.int .i64 c.i,.bool c.g]
structure au(w w':World)(B m d z p:Nat)(n:Int)(v v' on:Value)(C:List Int)(c:AC):Prop where
 dq:bZ w' B m d z n v' C on
 act:ae w' p 194 (c.arr d)
 only:aa (λx=>bO m v x\/x=d\/x=p) w w'
 row:∀k,v'.ownBlock=some k->v.ownBlock=some k\/w.heap.size<=k
section
variable {w w' w'':World}{B m d z p:Nat}{n n':Int}{v v' on:Value}{C C':List Int}{c c':AC}
theorem au.refl(a:bZ w B m d z n v C on)(b:ae w p 194 (c.arr d)):au w w B m d z p n v v on C c:=⟨a,b,oR,λ_ a=>.inl a⟩
theorem au.pd(a:au w w' B m d z p n v v' on C c):p≠d:=ae.ne_ a.act a.dq.J (by decide)
theorem au.pm(a:au w w' B m d z p n v v' on C c):¬bO m v' p:=uj a.dq a.act
theorem au.set(a:au w w' B m d z p n v v' on C c)(i:Nat)(x:Value)(e:(c.arr d).setIfInBounds i x=c'.arr d):au w (w'.setCell ⟨p,i,none⟩ x) B m d z p n v v' on C c':=by
 have o:aa (λx=>x=p) w' (w'.setCell ⟨p,i,none⟩ x):=(aa.refl (λx=>x=p) w').setCell (p:=⟨p,i,none⟩) (.inl rfl) _;refine⟨⟨a.dq.mem.only o (λb=>a.pm (.inl b.symm)) (λk f b=>a.pm (.inr (b ▸ f))),o.J a.dq.J (λb=>a.pd b.symm),a.dq.base⟩,?_,a.only.setCell (p:=⟨p,i,none⟩) (.inl (.inr (.inr rfl))) _,a.row⟩;rw[<-e];exact a.act.s_ i x
theorem au.mem(b:au w w' B m d z p n v v' on C c)(f:cx w'' B m n' v' C)(e:aa (bO m v') w' w''):au w w'' B m d z p n' v v' on C c:=
 ⟨⟨f,e.J b.dq.J b.dq.away,b.dq.base⟩,e.J b.act b.pm,b.only.trans' e (λi a=>by
   rcases a with a|a
   ·exact .inl (.inl (.inl a))
   ·rcases b.row i a with a|a
    ·exact .inl (.inl (.inr a))
    ·exact .inr a),b.row⟩
theorem au.deq(b:au w w' B m d z p n v v' on C c)(g:bZ w'' B m d z n' v' C' on)(e:aa (λx=>bO m v' x\/x=d) w' w''):au w w'' B m d z p n' v v' on C' c:=
 ⟨g,e.J b.act (λf=>f.elim b.pm b.pd),b.only.trans' e (λi a=>by
   rcases a with(a|a)|a
   ·exact .inl (.inl (.inl a))
   ·rcases b.row i a with a|a
    ·exact .inl (.inl (.inr a))
    ·exact .inr a
   ·exact .inl (.inr (.inl a))),b.row⟩
theorem au.drew(a:au w w' B m d z p n v v' on C c):au w w'.drew B m d z p n v v' on C c:=⟨⟨a.dq.mem.drewN 1,a.dq.J,a.dq.base⟩,a.act,a.only.drew,a.row⟩
theorem au.cells(a:au w w' B m d z p n v v' on C c){y:World}(b:aa (bO m v') w' y):ae y p 194 (c.arr d)/\ae y d 218 #[.pointer (some ⟨m,0,none⟩),.int .i64 (z:Int),.int .i64 ((z:Int)+1),.int .i64 ((z:Int)+2),.int .i64 (ld C z),.int .i64 (ld C ((z:Int)+1)),on]:=
 ⟨b.J a.act a.pm,b.J a.dq.J a.dq.away⟩
end
def de(f p:Nat):Value:=.func (.func f) #[.pointer (some ⟨p,0,none⟩)] #[]
theorem rY(B m d z p:Nat)(n:Int)(v on:Value)(C:List Int)(c:AC)(w:World)(i:bZ w B m d z n v C on)(l:ae w p 194 (c.arr d))(t:n+2<=4611686018427387904):
 Calls Tryz.prog 178 #[.pointer (some ⟨p,0,none⟩)] w λf w'=>f=.returned (.int .i64 0)/\au w w' B m d z p (n+aN C ((z:Int)+1)) v v on C {c with b:=ld C ((z:Int)+1),dv:=de 210 p}:=by
 have a:=hD (au.refl i l);have r:w.cell? ⟨d,2,none⟩=some (.int .i64 ((z:Int)+1)):=a.O.dq.J.I 2;have q:w.cell? ⟨p,3,none⟩=some (.pointer (some ⟨d,0,none⟩)):=a.O.act.I 3;clear i l;go_enter Tryz.func178,Tryz.ntmps178;go_wp2_with fail;refine(dh B m d z p n ((z:Int)+1) v on C _ w a.O.dq a.O.act rfl (by omega)).mono ?_;rintro f o ⟨rfl,j,k⟩;have e:=hD (a.O.mem j k);have s:o.frozen? ⟨p,5,none⟩=false:=e.O.act.fz 5;have u:o.cell? ⟨p,5,none⟩=some (.int .i64 c.b):=e.O.act.I 5;clear j k;go_wp2_with fail;have g:=hD (e.O.set 5 (.int .i64 (ld C ((z:Int)+1))) (c':={c with b:=ld C ((z:Int)+1)}) rfl);refine(cl p _ _ _ _ _ g.O.act (by simp[AC.arr])).mono ?_;rintro f x ⟨rfl,rfl⟩;go_wp2_with fail;go_ret;exact⟨rfl,g.O.set 0 _ rfl⟩
theorem vo(B m d z p:Nat)(n:Int)(v on:Value)(C:List Int)(c:AC)(w:World)(g:bZ w B m d z n v C on)(k:ae w p 194 (c.arr d))(s:n+2<=4611686018427387904):
 Calls Tryz.prog 210 #[.pointer (some ⟨p,0,none⟩)] w λe w'=>e=.returned (.int .i64 0)/\au w w' B m d z p (n+aN C ((z:Int))) v v on C {c with t:=ld C (z:Int),dv:=de 226 p}:=by
 have a:=hD (au.refl g k);have q:w.cell? ⟨d,1,none⟩=some (.int .i64 (z:Int)):=a.O.dq.J.I 1;have o:w.cell? ⟨p,3,none⟩=some (.pointer (some ⟨d,0,none⟩)):=a.O.act.I 3;clear g k;go_enter Tryz.func210,Tryz.ntmps210;go_wp2_with fail;refine(dh B m d z p n ((z:Int)) v on C _ w a.O.dq a.O.act rfl (by omega)).mono ?_;rintro e l ⟨rfl,i,j⟩;have b:=hD (a.O.mem i j);have r:l.frozen? ⟨p,6,none⟩=false:=b.O.act.fz 6;have u:l.cell? ⟨p,6,none⟩=some (.int .i64 c.t):=b.O.act.I 6;clear i j;go_wp2_with fail;have f:=hD (b.O.set 6 (.int .i64 (ld C (z:Int))) (c':={c with t:=ld C (z:Int)}) rfl);refine(cl p _ _ _ _ _ f.O.act (by simp[AC.arr])).mono ?_;rintro e x ⟨rfl,rfl⟩;go_wp2_with fail;go_ret;exact⟨rfl,f.O.set 0 _ rfl⟩
theorem sW(B m d z p:Nat)(n:Int)(v on:Value)(C:List Int)(c:AC)(w:World)(g:bZ w B m d z n v C on)(k:ae w p 194 (c.arr d))(s:n+2<=4611686018427387904):
 Calls Tryz.prog 226 #[.pointer (some ⟨p,0,none⟩)] w λe w'=>e=.returned (.int .i64 0)/\au w w' B m d z p (n+aN C ((z:Int)+2)) v v on C {c with w:=ld C ((z:Int)+2),dv:=de 235 p}:=by
 have a:=hD (au.refl g k);have q:w.cell? ⟨d,3,none⟩=some (.int .i64 ((z:Int)+2)):=a.O.dq.J.I 3;have o:w.cell? ⟨p,3,none⟩=some (.pointer (some ⟨d,0,none⟩)):=a.O.act.I 3;clear g k;go_enter Tryz.func226,Tryz.ntmps226;go_wp2_with fail;refine(dh B m d z p n ((z:Int)+2) v on C _ w a.O.dq a.O.act rfl (by omega)).mono ?_;rintro e l ⟨rfl,i,j⟩;have b:=hD (a.O.mem i j);have r:l.frozen? ⟨p,7,none⟩=false:=b.O.act.fz 7;have t:l.cell? ⟨p,7,none⟩=some (.int .i64 c.w):=b.O.act.I 7;clear i j;go_wp2_with fail;have f:=hD (b.O.set 7 (.int .i64 (ld C ((z:Int)+2))) (c':={c with w:=ld C ((z:Int)+2)}) rfl);refine(cl p _ _ _ _ _ f.O.act (by simp[AC.arr])).mono ?_;rintro e u ⟨rfl,rfl⟩;go_wp2_with fail;go_ret;exact⟨rfl,f.O.set 0 _ rfl⟩
theorem uy(B m d z p:Nat)(n:Int)(v on:Value)(C:List Int)(c:AC)(w:World)(g:bZ w B m d z n v C on)(k:ae w p 194 (c.arr d))(s:n+2<=4611686018427387904):
 Calls Tryz.prog 144 #[.pointer (some ⟨p,0,none⟩)] w λe w'=>e=.returned (.int .i64 0)/\au w w' B m d z p (n+aN C ((z:Int)+2)) v v on C {c with w:=ld C ((z:Int)+2),dv:=de 180 p}:=by
 have a:=hD (au.refl g k);have q:w.cell? ⟨d,3,none⟩=some (.int .i64 ((z:Int)+2)):=a.O.dq.J.I 3;have o:w.cell? ⟨p,3,none⟩=some (.pointer (some ⟨d,0,none⟩)):=a.O.act.I 3;clear g k;go_enter Tryz.func144,Tryz.ntmps144;go_wp2_with fail;refine(dh B m d z p n ((z:Int)+2) v on C _ w a.O.dq a.O.act rfl (by omega)).mono ?_;rintro e l ⟨rfl,i,j⟩;have b:=hD (a.O.mem i j);have r:l.frozen? ⟨p,7,none⟩=false:=b.O.act.fz 7;have t:l.cell? ⟨p,7,none⟩=some (.int .i64 c.w):=b.O.act.I 7;clear i j;go_wp2_with fail;have f:=hD (b.O.set 7 (.int .i64 (ld C ((z:Int)+2))) (c':={c with w:=ld C ((z:Int)+2)}) rfl);refine(cl p _ _ _ _ _ f.O.act (by simp[AC.arr])).mono ?_;rintro e u ⟨rfl,rfl⟩;go_wp2_with fail;go_ret;exact⟨rfl,f.O.set 0 _ rfl⟩
theorem uN(B m d z p:Nat)(n:Int)(v on:Value)(C:List Int)(c:AC)(w:World)(g:bZ w B m d z n v C on)(k:ae w p 194 (c.arr d))(s:n+2<=4611686018427387904):
 Calls Tryz.prog 137 #[.pointer (some ⟨p,0,none⟩)] w λe w'=>e=.returned (.int .i64 0)/\au w w' B m d z p (n+aN C ((z:Int))) v v on C {c with t:=ld C (z:Int),dv:=de 168 p}:=by
 have a:=hD (au.refl g k);have q:w.cell? ⟨d,1,none⟩=some (.int .i64 (z:Int)):=a.O.dq.J.I 1;have o:w.cell? ⟨p,3,none⟩=some (.pointer (some ⟨d,0,none⟩)):=a.O.act.I 3;clear g k;go_enter Tryz.func137,Tryz.ntmps137;go_wp2_with fail;refine(dh B m d z p n ((z:Int)) v on C _ w a.O.dq a.O.act rfl (by omega)).mono ?_;rintro e l ⟨rfl,i,j⟩;have b:=hD (a.O.mem i j);have r:l.frozen? ⟨p,6,none⟩=false:=b.O.act.fz 6;have u:l.cell? ⟨p,6,none⟩=some (.int .i64 c.t):=b.O.act.I 6;clear i j;go_wp2_with fail;have f:=hD (b.O.set 6 (.int .i64 (ld C (z:Int))) (c':={c with t:=ld C (z:Int)}) rfl);refine(cl p _ _ _ _ _ f.O.act (by simp[AC.arr])).mono ?_;rintro e x ⟨rfl,rfl⟩;go_wp2_with fail;go_ret;exact⟨rfl,f.O.set 0 _ rfl⟩
theorem r9(B m d z p:Nat)(n:Int)(v on:Value)(C:List Int)(c:AC)(w:World)(g:bZ w B m d z n v C on)(k:ae w p 194 (c.arr d))(s:n+2<=4611686018427387904):
 Calls Tryz.prog 208 #[.pointer (some ⟨p,0,none⟩)] w λe w'=>e=.returned (.int .i64 0)/\au w w' B m d z p (n+aN C ((z:Int)+2)) v v on C {c with w:=ld C ((z:Int)+2),dv:=de 225 p}:=by
 have a:=hD (au.refl g k);have q:w.cell? ⟨d,3,none⟩=some (.int .i64 ((z:Int)+2)):=a.O.dq.J.I 3;have o:w.cell? ⟨p,3,none⟩=some (.pointer (some ⟨d,0,none⟩)):=a.O.act.I 3;clear g k;go_enter Tryz.func208,Tryz.ntmps208;go_wp2_with fail;refine(dh B m d z p n ((z:Int)+2) v on C _ w a.O.dq a.O.act rfl (by omega)).mono ?_;rintro e l ⟨rfl,i,j⟩;have b:=hD (a.O.mem i j);have r:l.frozen? ⟨p,7,none⟩=false:=b.O.act.fz 7;have t:l.cell? ⟨p,7,none⟩=some (.int .i64 c.w):=b.O.act.I 7;clear i j;go_wp2_with fail;have f:=hD (b.O.set 7 (.int .i64 (ld C ((z:Int)+2))) (c':={c with w:=ld C ((z:Int)+2)}) rfl);refine(cl p _ _ _ _ _ f.O.act (by simp[AC.arr])).mono ?_;rintro e u ⟨rfl,rfl⟩;go_wp2_with fail;go_ret;exact⟨rfl,f.O.set 0 _ rfl⟩
theorem sX(B m d z p:Nat)(n:Int)(v on:Value)(C:List Int)(c:AC)(w:World)(g:bZ w B m d z n v C on)(k:ae w p 194 (c.arr d))(r:n+2<=4611686018427387904):
 Calls Tryz.prog 225 #[.pointer (some ⟨p,0,none⟩)] w λe w'=>e=.returned (.int .i64 0)/\au w w' B m d z p (n+aN C (c.w)) v v on C {c with n:=ld C c.w,dv:=de 234 p}:=by
 have a:=hD (au.refl g k);have o:w.cell? ⟨p,7,none⟩=some (.int .i64 c.w):=a.O.act.I 7;clear g k;go_enter Tryz.func225,Tryz.ntmps225;go_wp2_with fail;refine(dh B m d z p n (c.w) v on C _ w a.O.dq a.O.act rfl (by omega)).mono ?_;rintro e l ⟨rfl,i,j⟩;have b:=hD (a.O.mem i j);have q:l.frozen? ⟨p,8,none⟩=false:=b.O.act.fz 8;have s:l.cell? ⟨p,8,none⟩=some (.int .i64 c.n):=b.O.act.I 8;clear i j;go_wp2_with fail;have f:=hD (b.O.set 8 (.int .i64 (ld C c.w)) (c':={c with n:=ld C c.w}) rfl);refine(cl p _ _ _ _ _ f.O.act (by simp[AC.arr])).mono ?_;rintro e t ⟨rfl,rfl⟩;go_wp2_with fail;go_ret;exact⟨rfl,f.O.set 0 _ rfl⟩
theorem vl(B m d z p:Nat)(n:Int)(v on:Value)(C:List Int)(c:AC)(w:World)(g:bZ w B m d z n v C on)(k:ae w p 194 (c.arr d))(r:n+2<=4611686018427387904):
 Calls Tryz.prog 230 #[.pointer (some ⟨p,0,none⟩)] w λe w'=>e=.returned (.int .i64 0)/\au w w' B m d z p (n+aN C (c.w)) v v on C {c with n:=ld C c.w,dv:=de 236 p}:=by
 have a:=hD (au.refl g k);have o:w.cell? ⟨p,7,none⟩=some (.int .i64 c.w):=a.O.act.I 7;clear g k;go_enter Tryz.func230,Tryz.ntmps230;go_wp2_with fail;refine(dh B m d z p n (c.w) v on C _ w a.O.dq a.O.act rfl (by omega)).mono ?_;rintro e l ⟨rfl,i,j⟩;have b:=hD (a.O.mem i j);have q:l.frozen? ⟨p,8,none⟩=false:=b.O.act.fz 8;have s:l.cell? ⟨p,8,none⟩=some (.int .i64 c.n):=b.O.act.I 8;clear i j;go_wp2_with fail;have f:=hD (b.O.set 8 (.int .i64 (ld C c.w)) (c':={c with n:=ld C c.w}) rfl);refine(cl p _ _ _ _ _ f.O.act (by simp[AC.arr])).mono ?_;rintro e t ⟨rfl,rfl⟩;go_wp2_with fail;go_ret;exact⟨rfl,f.O.set 0 _ rfl⟩
theorem sU(B m d z p:Nat)(n:Int)(v on:Value)(C:List Int)(c:AC)(w:World)(i:bZ w B m d z n v C on)(l:ae w p 194 (c.arr d))(u:n+2<=4611686018427387904)(t: -1000000<=ld C ((z:Int)+1)/\ld C ((z:Int)+1)<=1000000):
 Calls Tryz.prog 96 #[.pointer (some ⟨p,0,none⟩)] w λf w'=>f=.returned (.int .i64 0)/\au w w' B m d z p (n+aN C ((z:Int)+1)) v v on C {c with b:=ld C ((z:Int)+1)-1,dv:=de 144 p}:=by
 have a:=hD (au.refl i l);have r:w.cell? ⟨d,2,none⟩=some (.int .i64 ((z:Int)+1)):=a.O.dq.J.I 2;have q:w.cell? ⟨p,3,none⟩=some (.pointer (some ⟨d,0,none⟩)):=a.O.act.I 3;clear i l;go_enter Tryz.func96,Tryz.ntmps96;go_wp2_with fail;refine(dh B m d z p n ((z:Int)+1) v on C _ w a.O.dq a.O.act rfl (by omega)).mono ?_;rintro f o ⟨rfl,j,k⟩;have e:=hD (a.O.mem j k);have s:o.frozen? ⟨p,5,none⟩=false:=e.O.act.fz 5;have x:o.cell? ⟨p,5,none⟩=some (.int .i64 c.b):=e.O.act.I 5;clear j k;go_wp2_with fail;have g:=hD (e.O.set 5 (.int .i64 (ld C ((z:Int)+1)-1)) (c':={c with b:=ld C ((z:Int)+1)-1}) rfl);refine(cl p _ _ _ _ _ g.O.act (by simp[AC.arr])).mono ?_;rintro f y ⟨rfl,rfl⟩;go_wp2_with fail;go_ret;exact⟨rfl,g.O.set 0 _ rfl⟩
theorem au.quiet{w w' w'':World}{B m d z p:Nat}{n:Int}{v v' on:Value}{C:List Int}{c:AC}(a:au w w' B m d z p n v v' on C c)(b:aa (λ_=>False) w' w''):au w w'' B m d z p n v v' on C c:=
 a.mem (a.dq.mem.only b nF nG) (b.mono λ_ e=>e.elim)
theorem uC(B m d z p:Nat)(n:Int)(v on:Value)(C:List Int)(c:AC)(w:World)(N:bZ w B m d z n v C on)(e:ae w p 194 (c.arr d))(a3:n+2<=4611686018427387904)(a2: -1000000<=c.b/\c.b<=1000000)(a4: -1000000<=c.t/\c.t<=1000000):
 Calls Tryz.prog 235 #[.pointer (some ⟨p,0,none⟩)] w λs w'=>s=.returned (.int .i64 0)/\au w w' B m d z p (n+aN C (c.w)) v v on C {c with n:=ld C c.w,dv:=if c.b-c.t≥ld C c.w then de 239 p else de 240 p}:=by
 have j:=hD (au.refl N e);have Z:w.cell? ⟨p,5,none⟩=some (.int .i64 c.b):=j.O.act.I 5;have a0:w.cell? ⟨p,6,none⟩=some (.int .i64 c.t):=j.O.act.I 6;have a1:w.cell? ⟨p,7,none⟩=some (.int .i64 c.w):=j.O.act.I 7;clear N e
 by_cases P:c.b-c.t≥ld C c.w
 ·simp only[yf P]
  go_enter Tryz.func235,Tryz.ntmps235;go_wp2_with fail;refine(dh B m d z p n (c.w) v on C _ w j.O.dq j.O.act rfl (by omega)).mono ?_;rintro s a ⟨rfl,x,A⟩;have k:=hD (j.O.mem x A);have Q:a.frozen? ⟨p,8,none⟩=false:=k.O.act.fz 8;have X:a.cell? ⟨p,8,none⟩=some (.int .i64 c.n):=k.O.act.I 8;clear x A;go_wp2_with fail;obtain⟨D,o⟩:=eX (a.setCell ⟨p,8,none⟩ (.int .i64 (ld C c.w)));have E:Hd (au w D B m d z p _ v v on C {c with n:=ld C c.w}):=hD (by rw[o];exact k.O.set 8 (.int .i64 (ld C c.w)) (c':={c with n:=ld C c.w}) rfl);rw[<-o];clear o;obtain⟨r,l⟩:=eX D.drew;have F:=hD l;have i:Hd (∀y,aa (λ_=>False) r y->au w y B m d z p _ v v on C {c with n:=ld C c.w}):=hD (λy L=>au.quiet (by rw[l];exact E.O.drew) L);clear l
  refine be (by kernel_rfl) (λ_ y=>aa (λ_=>False) r y) [ap p 0,ap p 0,ap p 5,Is (.int .i64 c.b),ap p 0,ap p 0,ap p 6,Is (.int .i64 c.t),Is (.int .i64 (c.b-c.t)),ap p 0,ap p 0,ap p 8,Is (.int .i64 (ld C c.w)),Is (.bool true)] (by kernel_rfl)
   (by(repeat refine⟨sT,?_⟩);trivial) (by rw[<-F.O];exact oR) ⟨?_,?_,?_,?_,?_,?_,?_,?_,?_,?_,?_,?_,?_,?_,trivial⟩ ?_
  iterate 13
   ·intro dn u a K H f e G g
    refine ao rfl ?_;simp at e g ⊢
    try simp only[e] at g
    have R:a.cell? ⟨p,5,none⟩=some (.int .i64 c.b):=(i.O a f).act.I 5;have S:a.cell? ⟨p,6,none⟩=some (.int .i64 c.t):=(i.O a f).act.I 6;have T:IntKind.i64.wrap (c.b-c.t)=c.b-c.t:=IntWalk.i64_in _ (by omega);have V:a.cell? ⟨p,8,none⟩=some (.int .i64 (ld C c.w)):=(i.O a f).act.I 8;go_simp;exact g _ _ f rfl
  ·intro dn u a K H f e G g
   refine ao rfl ?_;simp at e g ⊢;simp only[e] at g;go_simp;exact g _ _ f (by first|rfl|(simp;omega))
  ·intro u a dn W f e
   simp at e ⊢;have q:=hD (i.O a f);simp only[e];go_wp2_with fail;refine(cl p _ _ _ _ _ q.O.act (by simp[AC.arr])).mono ?_;rintro s Y ⟨rfl,rfl⟩;go_wp2_with fail;go_ret;exact⟨rfl,q.O.set 0 _ rfl⟩
 ·simp only[yb P]
  go_enter Tryz.func235,Tryz.ntmps235;go_wp2_with fail;refine(dh B m d z p n (c.w) v on C _ w j.O.dq j.O.act rfl (by omega)).mono ?_;rintro s a ⟨rfl,x,A⟩;have k:=hD (j.O.mem x A);have Q:a.frozen? ⟨p,8,none⟩=false:=k.O.act.fz 8;have X:a.cell? ⟨p,8,none⟩=some (.int .i64 c.n):=k.O.act.I 8;clear x A;go_wp2_with fail;obtain⟨D,o⟩:=eX (a.setCell ⟨p,8,none⟩ (.int .i64 (ld C c.w)));have E:Hd (au w D B m d z p _ v v on C {c with n:=ld C c.w}):=hD (by rw[o];exact k.O.set 8 (.int .i64 (ld C c.w)) (c':={c with n:=ld C c.w}) rfl);rw[<-o];clear o;obtain⟨r,l⟩:=eX D.drew;have F:=hD l;have i:Hd (∀y,aa (λ_=>False) r y->au w y B m d z p _ v v on C {c with n:=ld C c.w}):=hD (λy L=>au.quiet (by rw[l];exact E.O.drew) L);clear l
  refine be (by kernel_rfl) (λ_ y=>aa (λ_=>False) r y) [ap p 0,ap p 0,ap p 5,Is (.int .i64 c.b),ap p 0,ap p 0,ap p 6,Is (.int .i64 c.t),Is (.int .i64 (c.b-c.t)),ap p 0,ap p 0,ap p 8,Is (.int .i64 (ld C c.w)),Is (.bool false)] (by kernel_rfl)
   (by(repeat refine⟨sT,?_⟩);trivial) (by rw[<-F.O];exact oR) ⟨?_,?_,?_,?_,?_,?_,?_,?_,?_,?_,?_,?_,?_,?_,trivial⟩ ?_
  iterate 13
   ·intro dn u a K H f e G g
    refine ao rfl ?_;simp at e g ⊢
    try simp only[e] at g
    have R:a.cell? ⟨p,5,none⟩=some (.int .i64 c.b):=(i.O a f).act.I 5;have S:a.cell? ⟨p,6,none⟩=some (.int .i64 c.t):=(i.O a f).act.I 6;have T:IntKind.i64.wrap (c.b-c.t)=c.b-c.t:=IntWalk.i64_in _ (by omega);have V:a.cell? ⟨p,8,none⟩=some (.int .i64 (ld C c.w)):=(i.O a f).act.I 8;go_simp;exact g _ _ f rfl
  ·intro dn u a K H f e G g
   refine ao rfl ?_;simp at e g ⊢;simp only[e] at g;go_simp;exact g _ _ f (by first|rfl|(simp;omega))
  ·intro u a dn W f e
   simp at e ⊢;have q:=hD (i.O a f);simp only[e];go_wp2_with fail;refine(cl p _ _ _ _ _ q.O.act (by simp[AC.arr])).mono ?_;rintro s Y ⟨rfl,rfl⟩;go_wp2_with fail;go_ret;exact⟨rfl,q.O.set 0 _ rfl⟩
theorem xe(B m d z p:Nat)(n:Int)(v on:Value)(C:List Int)(c:AC)(w:World)(N:bZ w B m d z n v C on)(e:ae w p 194 (c.arr d))(a0:n+2<=4611686018427387904):
 Calls Tryz.prog 213 #[.pointer (some ⟨p,0,none⟩)] w λs w'=>s=.returned (.int .i64 0)/\au w w' B m d z p (n+aN C ((z:Int))) v v on C {c with t:=ld C (z:Int),dv:=if ld C (z:Int) > c.b then de 229 p else de 230 p}:=by
 have i:=hD (au.refl N e);have Y:w.cell? ⟨p,5,none⟩=some (.int .i64 c.b):=i.O.act.I 5;have Z:w.cell? ⟨d,1,none⟩=some (.int .i64 (z:Int)):=i.O.dq.J.I 1;have X:w.cell? ⟨p,3,none⟩=some (.pointer (some ⟨d,0,none⟩)):=i.O.act.I 3;clear N e
 by_cases P:ld C (z:Int) > c.b
 ·simp only[yf P]
  go_enter Tryz.func213,Tryz.ntmps213;go_wp2_with fail;refine(dh B m d z p n ((z:Int)) v on C _ w i.O.dq i.O.act rfl (by omega)).mono ?_;rintro s a ⟨rfl,x,A⟩;have k:=hD (i.O.mem x A);have Q:a.frozen? ⟨p,6,none⟩=false:=k.O.act.fz 6;have V:a.cell? ⟨p,6,none⟩=some (.int .i64 c.t):=k.O.act.I 6;clear x A;go_wp2_with fail;obtain⟨D,o⟩:=eX (a.setCell ⟨p,6,none⟩ (.int .i64 (ld C (z:Int))));have E:Hd (au w D B m d z p _ v v on C {c with t:=ld C (z:Int)}):=hD (by rw[o];exact k.O.set 6 (.int .i64 (ld C (z:Int))) (c':={c with t:=ld C (z:Int)}) rfl);rw[<-o];clear o;obtain⟨r,l⟩:=eX D.drew;have F:=hD l;have j:Hd (∀y,aa (λ_=>False) r y->au w y B m d z p _ v v on C {c with t:=ld C (z:Int)}):=hD (λy L=>au.quiet (by rw[l];exact E.O.drew) L);clear l
  refine be (by kernel_rfl) (λ_ y=>aa (λ_=>False) r y) [ap p 0,ap p 0,ap p 6,Is (.int .i64 (ld C (z:Int))),ap p 0,ap p 0,ap p 5,Is (.int .i64 c.b),Is (.bool true)] (by kernel_rfl)
   (by(repeat refine⟨sT,?_⟩);trivial) (by rw[<-F.O];exact oR) ⟨?_,?_,?_,?_,?_,?_,?_,?_,?_,trivial⟩ ?_
  iterate 8
   ·intro dn u a K H g e G f
    refine ao rfl ?_;simp at e f ⊢
    try simp only[e] at f
    have R:a.cell? ⟨p,6,none⟩=some (.int .i64 (ld C (z:Int))):=(j.O a g).act.I 6;have S:a.cell? ⟨p,5,none⟩=some (.int .i64 c.b):=(j.O a g).act.I 5;go_simp;exact f _ _ g rfl
  ·intro dn u a K H g e G f
   refine ao rfl ?_;simp at e f ⊢;simp only[e] at f;go_simp;exact f _ _ g (by first|rfl|(simp;omega))
  ·intro u a dn T g e
   simp at e ⊢;have q:=hD (j.O a g);simp only[e];go_wp2_with fail;refine(cl p _ _ _ _ _ q.O.act (by simp[AC.arr])).mono ?_;rintro s W ⟨rfl,rfl⟩;go_wp2_with fail;go_ret;exact⟨rfl,q.O.set 0 _ rfl⟩
 ·simp only[yb P]
  go_enter Tryz.func213,Tryz.ntmps213;go_wp2_with fail;refine(dh B m d z p n ((z:Int)) v on C _ w i.O.dq i.O.act rfl (by omega)).mono ?_;rintro s a ⟨rfl,x,A⟩;have k:=hD (i.O.mem x A);have Q:a.frozen? ⟨p,6,none⟩=false:=k.O.act.fz 6;have V:a.cell? ⟨p,6,none⟩=some (.int .i64 c.t):=k.O.act.I 6;clear x A;go_wp2_with fail;obtain⟨D,o⟩:=eX (a.setCell ⟨p,6,none⟩ (.int .i64 (ld C (z:Int))));have E:Hd (au w D B m d z p _ v v on C {c with t:=ld C (z:Int)}):=hD (by rw[o];exact k.O.set 6 (.int .i64 (ld C (z:Int))) (c':={c with t:=ld C (z:Int)}) rfl);rw[<-o];clear o;obtain⟨r,l⟩:=eX D.drew;have F:=hD l;have j:Hd (∀y,aa (λ_=>False) r y->au w y B m d z p _ v v on C {c with t:=ld C (z:Int)}):=hD (λy L=>au.quiet (by rw[l];exact E.O.drew) L);clear l
  refine be (by kernel_rfl) (λ_ y=>aa (λ_=>False) r y) [ap p 0,ap p 0,ap p 6,Is (.int .i64 (ld C (z:Int))),ap p 0,ap p 0,ap p 5,Is (.int .i64 c.b),Is (.bool false)] (by kernel_rfl)
   (by(repeat refine⟨sT,?_⟩);trivial) (by rw[<-F.O];exact oR) ⟨?_,?_,?_,?_,?_,?_,?_,?_,?_,trivial⟩ ?_
  iterate 8
   ·intro dn u a K H g e G f
    refine ao rfl ?_;simp at e f ⊢
    try simp only[e] at f
    have R:a.cell? ⟨p,6,none⟩=some (.int .i64 (ld C (z:Int))):=(j.O a g).act.I 6;have S:a.cell? ⟨p,5,none⟩=some (.int .i64 c.b):=(j.O a g).act.I 5;go_simp;exact f _ _ g rfl
  ·intro dn u a K H g e G f
   refine ao rfl ?_;simp at e f ⊢;simp only[e] at f;go_simp;exact f _ _ g (by first|rfl|(simp;omega))
  ·intro u a dn T g e
   simp at e ⊢;have q:=hD (j.O a g);simp only[e];go_wp2_with fail;refine(cl p _ _ _ _ _ q.O.act (by simp[AC.arr])).mono ?_;rintro s W ⟨rfl,rfl⟩;go_wp2_with fail;go_ret;exact⟨rfl,q.O.set 0 _ rfl⟩
set_option maxRecDepth 100000
theorem au.over{w w':World}{B m d z p:Nat}{n:Int}{v v' on:Value}{C:List Int}{c:AC}(a:au w w' B m d z p n v v' on C c)(wh x:Int):
 au w (((w'.setCell ⟨p,0,none⟩ .nilFunc).setCell ⟨p,1,none⟩ (.int .u8 wh)).setCell ⟨p,2,none⟩ (.int .i64 x)) B m d z p n v v' on C {c with dv:=.nilFunc,wh:=wh,x:=x}:=
 ((a.set 0 .nilFunc (c':={c with dv:=.nilFunc}) rfl).set 1 (.int .u8 wh) (c':={c with dv:=.nilFunc,wh:=wh}) rfl).set 2 (.int .i64 x) rfl
theorem uw(B m d z p:Nat)(n:Int)(v on:Value)(C:List Int)(c:AC)(w:World)(g:bZ w B m d z n v C on)(k:ae w p 194 (c.arr d))(q:n+2<=4611686018427387904)(l:(z:Int)+1<C.length):
 Calls Tryz.prog 180 #[.pointer (some ⟨p,0,none⟩)] w λe w'=>e=.returned (.int .i64 0)/\au w w' B m d z p (n+1) v v on (st C ((z:Int)+1) c.b) {c with dv:=de 213 p}:=by
 have a:=hD (au.refl g k);have o:w.cell? ⟨p,5,none⟩=some (.int .i64 c.b):=a.O.act.I 5;clear g k;go_enter Tryz.func180,Tryz.ntmps180;go_wp2_with fail;refine(mZ B m d z p n (c.b) v on C _ w a.O.dq a.O.act rfl (by omega) l).mono ?_;rintro e r ⟨rfl,i,j⟩;have f:=hD (a.O.deq i j);clear i j;go_wp2_with fail;refine(cl p _ _ _ _ _ f.O.act (by simp[AC.arr])).mono ?_;rintro e s ⟨rfl,rfl⟩;go_wp2_with fail;go_ret;exact⟨rfl,f.O.set 0 _ rfl⟩
theorem uB(B m d z p:Nat)(n:Int)(v on:Value)(C:List Int)(c:AC)(w:World)(g:bZ w B m d z n v C on)(k:ae w p 194 (c.arr d))(r:n+2<=4611686018427387904)(l:(z:Int)+1<C.length)(q: -1000000<=c.b/\c.b<=1000000):
 Calls Tryz.prog 244 #[.pointer (some ⟨p,0,none⟩)] w λe w'=>e=.returned (.int .i64 0)/\au w w' B m d z p (n+1) v v on (st C ((z:Int)+1) (c.b+1)) {c with dv:=.nilFunc,wh:=1,x:=0}:=by
 have a:=hD (au.refl g k);have o:w.cell? ⟨p,5,none⟩=some (.int .i64 c.b):=a.O.act.I 5;clear g k;go_enter Tryz.func244,Tryz.ntmps244;go_wp2_with fail;refine(mZ B m d z p n (c.b+1) v on C _ w a.O.dq a.O.act rfl (by omega) l).mono ?_;rintro e s ⟨rfl,i,j⟩;have f:=hD (a.O.deq i j);clear i j;go_wp2_with fail;refine(jO p _ _ _ _ f.O.act (by simp[AC.arr])).mono ?_;rintro e t ⟨rfl,rfl⟩;go_wp2_with fail;go_ret;exact⟨rfl,f.O.over _ _⟩
theorem rB(B m d z p:Nat)(n:Int)(v on:Value)(C:List Int)(c:AC)(w:World)(j:bZ w B m d z n v C on)(k:ae w p 194 (c.arr d))(y:n+2<=4611686018427387904):
 Calls Tryz.prog 168 #[.pointer (some ⟨p,0,none⟩)] w λe w'=>e=.returned (.int .i64 0)/\au w w' B m d z p (n+aN C ((z:Int)+1)) v v on C (if c.t≥ld C ((z:Int)+1) then {c with dv:=.nilFunc,wh:=3,x:=0} else {c with dv:=de 208 p}):=by
 have a:=hD (au.refl j k);have s:w.cell? ⟨p,6,none⟩=some (.int .i64 c.t):=a.O.act.I 6;have u:w.cell? ⟨d,2,none⟩=some (.int .i64 ((z:Int)+1)):=a.O.dq.J.I 2;have r:w.cell? ⟨p,3,none⟩=some (.pointer (some ⟨d,0,none⟩)):=a.O.act.I 3;clear j k
 by_cases l:c.t≥ld C ((z:Int)+1)
 ·simp only[yf l]
  go_enter Tryz.func168,Tryz.ntmps168;go_wp2_with fail;refine(dh B m d z p n ((z:Int)+1) v on C _ w a.O.dq a.O.act rfl (by omega)).mono ?_;rintro e i ⟨rfl,f,g⟩;have b:=hD (a.O.mem f g);have o:i.cell? ⟨p,6,none⟩=some (.int .i64 c.t):=b.O.act.I 6;clear f g;go_wp2_with fail;refine(jO p _ _ _ _ b.O.act (by simp[AC.arr])).mono ?_;rintro e q ⟨rfl,rfl⟩;go_wp2_with fail;go_ret;exact⟨rfl,b.O.over _ _⟩
 ·simp only[yb l]
  go_enter Tryz.func168,Tryz.ntmps168;go_wp2_with fail;refine(dh B m d z p n ((z:Int)+1) v on C _ w a.O.dq a.O.act rfl (by omega)).mono ?_;rintro e i ⟨rfl,f,g⟩;have b:=hD (a.O.mem f g);have o:i.cell? ⟨p,6,none⟩=some (.int .i64 c.t):=b.O.act.I 6;clear f g;go_wp2_with fail;refine(cl p _ _ _ _ _ b.O.act (by simp[AC.arr])).mono ?_;rintro e q ⟨rfl,rfl⟩;go_wp2_with fail;go_ret;exact⟨rfl,b.O.set 0 _ rfl⟩
theorem qc(B m d z p:Nat)(n:Int)(v on:Value)(C:List Int)(c:AC)(w:World)(q:bZ w B m d z n v C on)(a:ae w p 194 (c.arr d))(T:n+2<=4611686018427387904)(G:(z:Int)+1<C.length)(R: -1000000<=c.b/\c.b<=1000000):
 Calls Tryz.prog 229 #[.pointer (some ⟨p,0,none⟩)] w λo w'=>o=.returned (.int .i64 0)/\au w w' B m d z p (n+1) v v on (st C ((z:Int)+1) (c.b+1)) {c with dv:=.nilFunc,wh:=if c.g=true then 2 else 3,x:=if c.g=true then c.v else 0}:=by
 have j:=hD (au.refl q a);have Q:w.cell? ⟨p,5,none⟩=some (.int .i64 c.b):=j.O.act.I 5;clear q a
 cases hg:c.g
 ·simp only[zB,Yi]
  go_enter Tryz.func229,Tryz.ntmps229;go_wp2_with fail;refine(mZ B m d z p n (c.b+1) v on C _ w j.O.dq j.O.act rfl (by omega) G).mono ?_;rintro o i ⟨rfl,r,s⟩;have k:=hD (j.O.deq r s);clear r s;have L:i.cell? ⟨p,11,none⟩=some (.bool false):=by rw[<-hg];exact k.O.act.I 11
  go_wp2_with fail;refine(jO p _ _ _ _ k.O.act (by simp[AC.arr])).mono ?_;rintro o W ⟨rfl,rfl⟩;go_wp2_with fail;go_ret;rw[<-hg];exact⟨rfl,k.O.over _ _⟩
 ·simp only[yR]
  go_enter Tryz.func229,Tryz.ntmps229;go_wp2_with fail;refine(mZ B m d z p n (c.b+1) v on C _ w j.O.dq j.O.act rfl (by omega) G).mono ?_;rintro o i ⟨rfl,r,s⟩;have k:=hD (j.O.deq r s);clear r s;have L:i.cell? ⟨p,11,none⟩=some (.bool true):=by rw[<-hg];exact k.O.act.I 11
  go_wp2_with fail;obtain⟨l,A⟩:=eX i.drew;have t:Hd (au w l B m d z p _ v _ on (st C ((z:Int)+1) (c.b+1)) c):=hD (by rw[A];exact k.O.drew);have K:=hD A;clear A
  have H:Hd (∀b y,eZ (λx=>x=p) l b (λy=>y=(((l.setCell ⟨p,0,none⟩ .nilFunc).setCell ⟨p,1,none⟩ (.int .u8 2)).setCell ⟨p,2,none⟩ (.int .i64 c.v))) y->y.cell? ⟨p,4,none⟩=some (.int .i64 c.v)):=hD (by
   intro b y q
   cases b
   ·rw[q.was rfl];exact t.O.act.I 4
   ·rw[q.got rfl];exact(t.O.over 2 c.v).act.I 4)
  refine be (by kernel_rfl) (λdn y=>eZ (λx=>x=p) l (dn 7) (λy=>y=(((l.setCell ⟨p,0,none⟩ .nilFunc).setCell ⟨p,1,none⟩ (.int .u8 2)).setCell ⟨p,2,none⟩ (.int .i64 c.v))) y) [ap p 0,ap p 0,ap p 0,ap p 0,ap p 0,ap p 4,Is (.int .i64 c.v),Is (.int .i64 0),Is (.int .i64 0)] (by kernel_rfl)
   (by(repeat refine⟨sT,?_⟩);trivial) (by rw[<-K.O];exact eZ.start) ⟨?_,?_,?_,?_,?_,?_,?_,?_,?_,trivial⟩ ?_
  iterate 7
   ·intro dn u i D F f a E e
    refine ao rfl ?_;simp at a e ⊢
    try simp only[a] at e
    have S:=H.O _ _ f;go_simp;exact e _ _ (by simpa[bY] using f) rfl
  ·intro dn u i D F f a E e
   refine ao rfl ?_;simp at a e ⊢;simp only[a] at e;obtain rfl:=f.was D;go_simp;refine(jO p _ _ _ _ t.O.act (by simp[AC.arr])).mono ?_;rintro o V ⟨rfl,rfl⟩;exact e _ _ (by simp only[bY,yR];exact eZ.put ((((aa.refl (λx=>x=p) _).setCell (.inl rfl) _).setCell (.inl rfl) _).setCell (.inl rfl) _) rfl) rfl
  ·intro dn u i D F f a E e
   refine ao rfl ?_;simp at a e ⊢;simp only[a] at e;go_simp;exact e _ _ (by simpa[bY] using f) rfl
  ·intro u i dn P f a
   simp at a ⊢;have N:=P 7 (by decide);obtain rfl:=f.got N;simp only[a];go_wp2_with fail;go_ret;rw[<-hg];exact⟨rfl,t.O.over 2 c.v⟩
theorem sm{C:List Int}{z:Nat}{t:Int}(a:(z:Int)<C.length):jD C z t=decide (ld C z=t):=by
 have b:ld C z=C.getD (z:Int).toNat 0:=yf ⟨by omega,a⟩;unfold jD;rw[b];simp only[show(0:Int)<=z from by omega,a,decide_true,Bool.true_and];rfl
theorem Cq{C:List Int}{z:Nat}{t x:Int}(a:(z:Int)<C.length):lj C z t x=if ld C z=t then st C z x else C:=by
 unfold lj;rw[sm a]
 by_cases b:ld C z=t
 ·simp only[b,decide_true,yR]
  rw[st,yf ⟨by omega,a⟩]
 ·simp only[b,decide_false,Yi]
  rfl
theorem pe(B m d z p:Nat)(n:Int)(v on:Value)(C:List Int)(c:AC)(w:World)(a1:bZ w B m d z n v C on)(a:ae w p 194 (c.arr d))(b1:n+2<=4611686018427387904)(H:(z:Int)<C.length)(b2: -1000000<=c.t/\c.t<=1000000):
 Calls Tryz.prog 242 #[.pointer (some ⟨p,0,none⟩)] w λq w'=>q=.returned (.bool (decide (ld C (z:Int)=c.t)))/\au w w' B m d z p (n+1) v v on (if ld C (z:Int)=c.t then st C (z:Int) (c.t+1) else C) c:=by
 have j:=hD (au.refl a1 a);have a9:aN C (z:Int)=1:=yf ⟨by omega,H⟩;have b3:IntKind.i64.wrap (c.t+1)=c.t+1:=IntWalk.i64_in _ (by omega);obtain⟨P,Q⟩:=eX w.drew;have A:Hd (au w P B m d z p n v v on C c):=hD (by rw[Q];exact j.O.drew);have a5:=hD Q
 have L:Hd (∀y,aa (bO m v) P y->y.cell? ⟨p,3,none⟩=some (.pointer (some ⟨d,0,none⟩))/\y.cell? ⟨p,6,none⟩=some (.int .i64 c.t)/\y.cell? ⟨d,0,none⟩=some (.pointer (some ⟨m,0,none⟩))/\y.cell? ⟨d,1,none⟩=some (.int .i64 (z:Int))):=hD (λy V=>by
  obtain⟨g,K⟩:=A.O.cells V;exact⟨g.I 3,g.I 6,K.I 0,K.I 1⟩)
 clear a1 a Q;go_enter Tryz.func242,Tryz.ntmps242;go_wp2_with fail
 refine be (by kernel_rfl) (λdn y=>eZ (bO m v) P (dn 23) (λy=>cx y B m (n+1) v (if ld C (z:Int)=c.t then st C (z:Int) (c.t+1) else C)) y) [ap p 0,ap p 0,ap p 3,ap d 0,ap d 0,ap d 0,ap m 0,ap p 0,ap p 0,ap p 3,ap d 0,ap d 0,ap d 1,Is (.int .i64 (z:Int)),ap p 0,ap p 0,ap p 6,Is (.int .i64 c.t),ap p 0,ap p 0,ap p 6,Is (.int .i64 c.t),Is (.int .i64 (c.t+1)),Is (.tuple #[.bool (decide (ld C (z:Int)=c.t)),.int .i64 (fM C (z:Int))]),Is (.tuple #[.bool (decide (ld C (z:Int)=c.t)),.int .i64 (fM C (z:Int))]),Is (.bool (decide (ld C (z:Int)=c.t))),Is (.int .i64 (fM C (z:Int))),Is (.bool (decide (ld C (z:Int)=c.t))),Is (.int .i64 (fM C (z:Int)))] (by kernel_rfl)
  (by(repeat refine⟨sT,?_⟩);trivial) (by rw[<-a5.O];exact eZ.start) ⟨?_,?_,?_,?_,?_,?_,?_,?_,?_,?_,?_,?_,?_,?_,?_,?_,?_,?_,?_,?_,?_,?_,?_,?_,?_,?_,?_,?_,?_,trivial⟩ ?_
 iterate 23
  ·intro dn u f l F e a D b
   refine ao rfl ?_;simp at a b ⊢
   try simp only[a] at b
   obtain⟨ad,ai,aE,b0⟩:=L.O f e.1;go_simp;exact b _ _ (by simpa[bY] using e) rfl
 ·intro dn u f l F e a D b
  refine ao rfl ?_;simp at a b ⊢;simp only[a] at b;obtain rfl:=e.was l;go_simp;refine(DR B m n _ c.t _ v C _ A.O.dq.mem (by omega)).mono ?_;rintro q b6 ⟨rfl,g,K⟩;rw[a9,Cq H] at g;rw[sm H];exact b _ _ (by simp only[bY,yR];exact eZ.put K g) rfl
 iterate 5
  ·intro dn u f l F e a D b
   refine ao rfl ?_;simp at a b ⊢
   try simp only[a] at b
   go_simp;exact b _ _ (by simpa[bY] using e) rfl
 ·intro u f dn R e a
  simp at a ⊢;have a8:=R 23 (by decide);have s:=e.1;have a2:=e.got a8;obtain⟨b4,b5,an,g⟩:=L.O f s;have kb:=A.O.cells s;have Y:=hD kb.1;have a0:=hD kb.2;have E:=hD a2;have W:=hD (A.O.only.trans' (s.mono (T:=λx=>bO m v x\/x=d\/x=p) λx am=>.inl am) (λi l=>.inl l));have av:=hD s;clear kb s a2 L an g;simp only[a];clear a
  by_cases G:ld C (z:Int)=c.t
  ·simp only[G,yR] at E ⊢
   have ar:=hD G;have S:p≠d:=j.O.pd;obtain⟨o,r⟩:=eX f.drew;have X:=hD r;have Z:Hd (ae o p 194 (c.arr d)):=hD (by rw[r];exact Y.O);have N:Hd (ae o d 218 #[.pointer (some ⟨m,0,none⟩),.int .i64 (z:Int),.int .i64 ((z:Int)+1),.int .i64 ((z:Int)+2),.int .i64 (ld C z),.int .i64 (ld C ((z:Int)+1)),on]):=hD (by rw[r];exact a0.O);have a6:Hd (cx o B m (n+1) v (st C (z:Int) (c.t+1))):=hD (by rw[r];exact E.O.drewN 1)
   have a3:Hd (∀y,aa (λx=>x=d) o y->y.cell? ⟨p,3,none⟩=some (.pointer (some ⟨d,0,none⟩))/\y.cell? ⟨p,6,none⟩=some (.int .i64 c.t)):=hD (λy V=>by
    have g:=V.J Z.O S;exact⟨g.I 3,g.I 6⟩)
   have a4:=hD S;clear r S G;go_wp2_with fail
   refine be (by kernel_rfl) (λdn y=>eZ (λx=>x=d) o (dn 11) (λy=>y=(o.setCell ⟨d,4,none⟩ (.int .i64 (c.t+1)))) y) [ap p 0,ap p 0,ap p 3,ap d 0,ap p 0,ap p 0,ap p 6,Is (.int .i64 c.t),Is (.int .i64 (c.t+1)),ap d 0,ap d 4,λ_ _=>True] (by kernel_rfl)
    ⟨sT,sT,sT,sT,sT,sT,sT,sT,sT,sT,sT,(λ_ _ _ _ _=>trivial),trivial⟩ (by rw[<-X.O];exact eZ.start) ⟨?_,?_,?_,?_,?_,?_,?_,?_,?_,?_,?_,?_,trivial⟩ ?_
   iterate 11
    ·intro dn u f l F e a D b
     refine ao rfl ?_;simp at a b ⊢
     try simp only[a] at b
     obtain⟨ad,ai⟩:=a3.O f e.1;go_simp;exact b _ _ (by simpa[bY] using e) rfl
   ·intro dn u f l F e a D b
    refine ao rfl ?_;simp at a b ⊢;simp only[a] at b;obtain rfl:=e.was l;have aw:f.cell? ⟨d,4,none⟩=some (.int .i64 (ld C z)):=N.O.I 4;have az:f.frozen? ⟨d,4,none⟩=false:=N.O.fz 4;go_simp;exact b _ (by simp only[bY,yR];exact eZ.put ((aa.refl (λx=>x=d) _).setCell (p:=⟨d,4,none⟩) (.inl rfl) _) rfl)
   ·intro u f dn R e a
    simp at a ⊢;have a7:=R 11 (by decide);obtain rfl:=e.got a7;go_wp2_with fail;go_ret;refine⟨rfl,⟨a6.O.only ((aa.refl (λx=>x=d) o).setCell (p:=⟨d,4,none⟩) (.inl rfl) _) (λq=>j.O.dq.away (.inl q.symm)) (λk al q=>j.O.dq.away (.inr (q ▸ al))),?_,j.O.dq.base⟩,Z.O.far (p:=⟨d,4,none⟩) a4.O _,?_,j.O.row⟩
    ·have ab:=N.O.s_ 4 (.int .i64 (c.t+1))
     rw[gC (by omega) H,dT (by omega)];exact ab
    ·rw[X.O]
     exact(W.O.drew).setCell (p:=⟨d,4,none⟩) (.inl (.inr (.inl rfl))) _
  ·simp only[G,decide_false,Yi] at E ⊢
   go_wp2_with fail;go_ret;exact⟨rfl,⟨E.O,a0.O,j.O.dq.base⟩,Y.O,W.O,j.O.row⟩
set_option maxRecDepth 100000
theorem vm(B m d z p:Nat)(n:Int)(v on:Value)(C:List Int)(c:AC)(w:World)(o:bZ w B m d z n v C on)(q:ae w p 194 (c.arr d))(F:n+2<=4611686018427387904)(y:(z:Int)<C.length)(x: -1000000<=c.t/\c.t<=1000000):
 Calls Tryz.prog 241 #[.pointer (some ⟨p,0,none⟩)] w λb w'=>b=.returned (.int .i64 0)/\au w w' B m d z p (n+1) v v on (if ld C (z:Int)=c.t then st C (z:Int) (c.t+1) else C) {c with g:=decide (ld C (z:Int)=c.t),dv:=de 229 p}:=by
 have j:=hD (au.refl o q);clear o q;obtain⟨A,f⟩:=eX ((if ld C (z:Int)=c.t then st C (z:Int) (c.t+1) else C));obtain⟨l,i⟩:=eX (decide (ld C (z:Int)=c.t));rw[<-f,<-i];have s:=hD f;have u:=hD i;clear f i;go_enter Tryz.func241,Tryz.ntmps241;go_wp2_with fail;refine(pe B m d z p n v on C c w j.O.dq j.O.act (by omega) y x).mono ?_;rintro b r ⟨rfl,e⟩;rw[<-s.O] at e;rw[<-u.O];have a:=hD e;have D:r.cell? ⟨p,11,none⟩=some (.bool c.g):=a.O.act.I 11;have E:r.frozen? ⟨p,11,none⟩=false:=a.O.act.fz 11;clear e;go_wp2_with fail;have k:=hD (a.O.set 11 (.bool l) (c':={c with g:=l}) rfl);refine(cl p _ _ _ _ _ k.O.act (by simp[AC.arr])).mono ?_;rintro b G ⟨rfl,rfl⟩;go_wp2_with fail;go_ret;exact⟨rfl,k.O.set 0 _ rfl⟩
theorem sY(B m d z p:Nat)(n:Int)(v on:Value)(C:List Int)(c:AC)(w:World)(r:bZ w B m d z n v C on)(a:ae w p 194 (c.arr d))(W:n+2<=4611686018427387904)(L:(z:Int)<C.length)(K: -1000000<=c.t/\c.t<=1000000):
 Calls Tryz.prog 238 #[.pointer (some ⟨p,0,none⟩)] w λq w'=>q=.returned (.int .i64 0)/\au w w' B m d z p (n+1) v v on (if ld C (z:Int)=c.t then st C (z:Int) (c.t+1) else C) (if ld C (z:Int)=c.t then {c with dv:=.nilFunc,wh:=2,x:=c.v} else {c with dv:=.nilFunc,wh:=4,x:=0}):=by
 have A:=hD (au.refl r a);clear r a
 by_cases k:ld C (z:Int)=c.t
 ·simp only[yf k]
  go_enter Tryz.func238,Tryz.ntmps238;go_wp2_with fail;refine(pe B m d z p n v on C c w A.O.dq A.O.act (by omega) L K).mono ?_;rintro q f ⟨rfl,l⟩;simp only[yf k] at l;have i:=hD l;have s:=yg k;rw[s];clear k s;have Q:f.cell? ⟨p,11,none⟩=some (.bool c.g):=i.O.act.I 11;have R:f.frozen? ⟨p,11,none⟩=false:=i.O.act.fz 11;clear l;go_wp2_with fail;obtain⟨o,E⟩:=eX f.drew;have D:Hd (au w o B m d z p _ v _ on (st C (z:Int) (c.t+1)) c):=hD (by rw[E];exact i.O.drew);have P:=hD E;clear E
  have N:Hd (∀b y,eZ (λx=>x=p) o b (λy=>y=(((o.setCell ⟨p,0,none⟩ .nilFunc).setCell ⟨p,1,none⟩ (.int .u8 2)).setCell ⟨p,2,none⟩ (.int .i64 c.v))) y->y.cell? ⟨p,4,none⟩=some (.int .i64 c.v)):=hD (by
   intro b y r
   cases b
   ·rw[r.was rfl];exact D.O.act.I 4
   ·rw[r.got rfl];exact(D.O.over 2 c.v).act.I 4)
  refine be (by kernel_rfl) (λdn y=>eZ (λx=>x=p) o (dn 7) (λy=>y=(((o.setCell ⟨p,0,none⟩ .nilFunc).setCell ⟨p,1,none⟩ (.int .u8 2)).setCell ⟨p,2,none⟩ (.int .i64 c.v))) y) [ap p 0,ap p 0,ap p 0,ap p 0,ap p 0,ap p 4,Is (.int .i64 c.v),Is (.int .i64 0),Is (.int .i64 0)] (by kernel_rfl)
   (by(repeat refine⟨sT,?_⟩);trivial) (by rw[<-P.O];exact eZ.start) ⟨?_,?_,?_,?_,?_,?_,?_,?_,?_,trivial⟩ ?_
  iterate 7
   ·intro dn u f F H j a G e
    refine ao rfl ?_;simp at a e ⊢
    try simp only[a] at e
    have V:=N.O _ _ j;go_simp;exact e _ _ (by simpa[bY] using j) rfl
  ·intro dn u f F H j a G e
   refine ao rfl ?_;simp at a e ⊢;simp only[a] at e;obtain rfl:=j.was F;go_simp;refine(jO p _ _ _ _ D.O.act (by simp[AC.arr])).mono ?_;rintro q X ⟨rfl,rfl⟩;exact e _ _ (by simp only[bY,yR];exact eZ.put ((((aa.refl (λx=>x=p) _).setCell (.inl rfl) _).setCell (.inl rfl) _).setCell (.inl rfl) _) rfl) rfl
  ·intro dn u f F H j a G e
   refine ao rfl ?_;simp at a e ⊢;simp only[a] at e;go_simp;exact e _ _ (by simpa[bY] using j) rfl
  ·intro u f dn T j a
   simp at a ⊢;have S:=T 7 (by decide);obtain rfl:=j.got S;simp only[a];go_wp2_with fail;go_ret;exact⟨rfl,D.O.over 2 c.v⟩
 ·simp only[yb k]
  go_enter Tryz.func238,Tryz.ntmps238;go_wp2_with fail;refine(pe B m d z p n v on C c w A.O.dq A.O.act (by omega) L K).mono ?_;rintro q f ⟨rfl,l⟩;simp only[yb k] at l;have i:=hD l;have s:=yd k;rw[s];clear k s;have Q:f.cell? ⟨p,11,none⟩=some (.bool c.g):=i.O.act.I 11;have R:f.frozen? ⟨p,11,none⟩=false:=i.O.act.fz 11;clear l;go_wp2_with fail;refine(jO p _ _ _ _ i.O.act (by simp[AC.arr])).mono ?_;rintro q Y ⟨rfl,rfl⟩;go_wp2_with fail;go_ret;exact⟨rfl,i.O.over _ _⟩
set_option maxRecDepth 100000
theorem r8(B m d z p:Nat)(n:Int)(v on:Value)(C:List Int)(c:AC)(w:World)(f:bZ w B m d z n v C on)(b:ae w p 194 (c.arr d))(a4:n+2<=4611686018427387904)(N:0<=c.t)(P:1<=c.n)(R:c.n<=1000000)(S:0<=c.w)(T:c.w<=1000000):
 Calls Tryz.prog 234 #[.pointer (some ⟨p,0,none⟩)] w λo w'=>o=.returned (.int .i64 0)/\au w w' B m d z p (n+aN C (ak c.w c.n c.t)) v v on C {c with v:=ld C (ak c.w c.n c.t),dv:=de 238 p}:=by
 have K:=hD (au.refl f b);clear f b;go_enter Tryz.func234,Tryz.ntmps234;obtain⟨r,s⟩:=eX w.drew;have j:Hd (au w r B m d z p n v v on C c):=hD (by rw[s];exact K.O.drew);have L:=hD s
 have q:Hd (∀E F y,et (λx=>bO m v x\/x=p) r true E F (λy=>au w y B m d z p (n+aN C (ak c.w c.n c.t)) v v on C c) (λy=>au w y B m d z p (n+aN C (ak c.w c.n c.t)) v v on C {c with v:=ld C (ak c.w c.n c.t)}) y->y.cell? ⟨p,7,none⟩=some (.int .i64 c.w)/\y.cell? ⟨p,8,none⟩=some (.int .i64 c.n)/\y.cell? ⟨p,6,none⟩=some (.int .i64 c.t)):=hD (λE F y f=>by
  rcases f.or with rfl|f|f
  ·exact⟨j.O.act.I 7,j.O.act.I 8,j.O.act.I 6⟩
  ·exact⟨f.act.I 7,f.act.I 8,f.act.I 6⟩
  ·exact⟨f.act.I 7,f.act.I 8,f.act.I 6⟩)
 clear s;go_wp2_with fail
 refine be (by kernel_rfl) (λdn y=>et (λx=>bO m v x\/x=p) r true (dn 15) (dn 18) (λy=>au w y B m d z p (n+aN C (ak c.w c.n c.t)) v v on C c) (λy=>au w y B m d z p (n+aN C (ak c.w c.n c.t)) v v on C {c with v:=ld C (ak c.w c.n c.t)}) y) [ap p 0,ap p 0,ap p 0,ap p 0,ap p 7,Is (.int .i64 c.w),ap p 0,ap p 0,ap p 8,Is (.int .i64 c.n),ap p 0,ap p 0,ap p 6,Is (.int .i64 c.t),Is (.int .i64 (ak c.w c.n c.t)),Is (.int .i64 (ld C (ak c.w c.n c.t))),ap p 0,ap p 4,λ_ _=>True] (by kernel_rfl)
  ⟨sT,sT,sT,sT,sT,sT,sT,sT,sT,sT,sT,sT,sT,sT,sT,sT,sT,sT,(λ_ _ _ _ _=>trivial),trivial⟩ (by rw[<-L.O];exact et.start) ⟨?_,?_,?_,?_,?_,?_,?_,?_,?_,?_,?_,?_,?_,?_,?_,?_,?_,?_,?_,trivial⟩ ?_
 iterate 14
  ·intro dn u g i k e b l a
   refine ao rfl ?_;simp at b a ⊢
   try simp only[b] at a
   have a1:g.cell? ⟨p,7,none⟩=some (.int .i64 c.w):=(q.O _ _ _ e).1;have a2:g.cell? ⟨p,8,none⟩=some (.int .i64 c.n):=(q.O _ _ _ e).2.1;have a3:g.cell? ⟨p,6,none⟩=some (.int .i64 c.t):=(q.O _ _ _ e).2.2;go_simp;exact a _ _ (by simpa[bY] using e) rfl
 ·intro dn u g i k e b l a
  refine ao rfl ?_;simp at b a ⊢;simp only[b] at a;go_simp;refine(jV c.w c.n c.t g N P R S T).mono ?_;rintro o Y ⟨rfl,rfl⟩;exact a _ _ (by simpa[bY] using e) rfl
 ·intro dn u g i k e b l a
  refine ao rfl ?_;simp at b a ⊢;simp only[b] at a;obtain rfl:=(e.was i).1;go_simp;refine(dh B m d z p n (ak c.w c.n c.t) v on C _ _ j.O.dq j.O.act rfl (by omega)).mono ?_;rintro o Y ⟨rfl,X,H⟩;exact a _ _ (by simpa[bY] using e.put1 i (H.mono λx W=>.inl W) (j.O.mem X H)) rfl
 iterate 2
  ·intro dn u g i k e b l a
   refine ao rfl ?_;simp at b a ⊢
   try simp only[b] at a
   go_simp;exact a _ _ (by simpa[bY] using e) rfl
 ·intro dn u g i k e b l a
  refine ao rfl ?_;simp at b a ⊢;simp only[b] at a;have G:dn 15=true:=by simp[bu,Region.binds] at k;simp[k]
  have A:=e.mid G i;have Z:g.cell? ⟨p,4,none⟩=some (.int .i64 c.v):=A.act.I 4;have a0:g.frozen? ⟨p,4,none⟩=false:=A.act.fz 4;go_simp;exact a _ (by simpa[bY] using et.put2 (Q1:=λy=>au w y B m d z p (n+aN C (ak c.w c.n c.t)) v v on C c) (Q2:=λy=>au w y B m d z p (n+aN C (ak c.w c.n c.t)) v v on C {c with v:=ld C (ak c.w c.n c.t)}) G rfl (e.1.setCell (p:=⟨p,4,none⟩) (.inl (.inr rfl)) _) (A.set 4 _ rfl))
 ·intro u g dn V e b
  simp at b ⊢;have Q:=V 18 (by decide);have D:=hD (e.got Q);clear e;go_wp2_with fail;refine(cl p _ _ _ _ _ D.O.act (by simp[AC.arr])).mono ?_;rintro o a5 ⟨rfl,rfl⟩;go_wp2_with fail;go_ret;exact⟨rfl,D.O.set 0 _ rfl⟩
set_option maxRecDepth 100000
theorem ux(B m d z p:Nat)(n:Int)(v on:Value)(C:List Int)(c:AC)(w:World)(i:bZ w B m d z n v C on)(a:ae w p 194 (c.arr d))(av:n+2<=4611686018427387904)(a4:0<=c.b)(a5:1<=c.n)(a6:c.n<=1000000)(a7:0<=c.w)(a8:c.w<=1000000)(an: -1000000<=c.b/\c.b<=1000000)(aw: -1000000<=c.t/\c.t<=1000000):
 Calls Tryz.prog 236 #[.pointer (some ⟨p,0,none⟩)] w λD w'=>D=.returned (.int .i64 0)/\au w w' B m d z p (n+aN C (ak c.w c.n c.b)) v v on C (if c.t<c.b then {c with v:=ld C (ak c.w c.n c.b),dv:=.nilFunc,wh:=2,x:=ld C (ak c.w c.n c.b)} else {c with v:=ld C (ak c.w c.n c.b),dv:=de 241 p}):=by
 have a3:=hD (au.refl i a);clear i a
 by_cases a9:c.t<c.b
 ·simp only[yf a9]
  go_enter Tryz.func236,Tryz.ntmps236;obtain⟨q,r⟩:=eX w.drew;have l:Hd (au w q B m d z p n v v on C c):=hD (by rw[r];exact a3.O.drew);have H:=hD r
  have s:Hd (∀L N y,et (λx=>bO m v x\/x=p) q true L N (λy=>au w y B m d z p (n+aN C (ak c.w c.n c.b)) v v on C c) (λy=>au w y B m d z p (n+aN C (ak c.w c.n c.b)) v v on C {c with v:=ld C (ak c.w c.n c.b)}) y->y.cell? ⟨p,7,none⟩=some (.int .i64 c.w)/\y.cell? ⟨p,8,none⟩=some (.int .i64 c.n)/\y.cell? ⟨p,5,none⟩=some (.int .i64 c.b)):=hD (λL N y i=>by
   rcases i.or with rfl|i|i
   ·exact⟨l.O.act.I 7,l.O.act.I 8,l.O.act.I 5⟩
   ·exact⟨i.act.I 7,i.act.I 8,i.act.I 5⟩
   ·exact⟨i.act.I 7,i.act.I 8,i.act.I 5⟩)
  clear r;go_wp2_with fail
  refine be (by kernel_rfl) (λdn y=>et (λx=>bO m v x\/x=p) q true (dn 15) (dn 18) (λy=>au w y B m d z p (n+aN C (ak c.w c.n c.b)) v v on C c) (λy=>au w y B m d z p (n+aN C (ak c.w c.n c.b)) v v on C {c with v:=ld C (ak c.w c.n c.b)}) y) [ap p 0,ap p 0,ap p 0,ap p 0,ap p 7,Is (.int .i64 c.w),ap p 0,ap p 0,ap p 8,Is (.int .i64 c.n),ap p 0,ap p 0,ap p 5,Is (.int .i64 c.b),Is (.int .i64 (ak c.w c.n c.b)),Is (.int .i64 (ld C (ak c.w c.n c.b))),ap p 0,ap p 4,λ_ _=>True] (by kernel_rfl)
   ⟨sT,sT,sT,sT,sT,sT,sT,sT,sT,sT,sT,sT,sT,sT,sT,sT,sT,sT,(λ_ _ _ _ _=>trivial),trivial⟩ (by rw[<-H.O];exact et.start) ⟨?_,?_,?_,?_,?_,?_,?_,?_,?_,?_,?_,?_,?_,?_,?_,?_,?_,?_,?_,trivial⟩ ?_
  iterate 14
   ·intro dn u g j k f a o e
    refine ao rfl ?_;simp at a e ⊢
    try simp only[a] at e
    have X:g.cell? ⟨p,7,none⟩=some (.int .i64 c.w):=(s.O _ _ _ f).1;have Y:g.cell? ⟨p,8,none⟩=some (.int .i64 c.n):=(s.O _ _ _ f).2.1;have al:g.cell? ⟨p,5,none⟩=some (.int .i64 c.b):=(s.O _ _ _ f).2.2;go_simp;exact e _ _ (by simpa[bY] using f) rfl
  ·intro dn u g j k f a o e
   refine ao rfl ?_;simp at a e ⊢;simp only[a] at e;go_simp;refine(jV c.w c.n c.b g a4 a5 a6 a7 a8).mono ?_;rintro D S ⟨rfl,rfl⟩;exact e _ _ (by simpa[bY] using f) rfl
  ·intro dn u g j k f a o e
   refine ao rfl ?_;simp at a e ⊢;simp only[a] at e;obtain rfl:=(f.was j).1;go_simp;refine(dh B m d z p n (ak c.w c.n c.b) v on C _ _ l.O.dq l.O.act rfl (by omega)).mono ?_;rintro D S ⟨rfl,a1,Q⟩;exact e _ _ (by simpa[bY] using f.put1 j (Q.mono λx Z=>.inl Z) (l.O.mem a1 Q)) rfl
  iterate 2
   ·intro dn u g j k f a o e
    refine ao rfl ?_;simp at a e ⊢
    try simp only[a] at e
    go_simp;exact e _ _ (by simpa[bY] using f) rfl
  ·intro dn u g j k f a o e
   refine ao rfl ?_;simp at a e ⊢;simp only[a] at e;have P:dn 15=true:=by simp[bu,Region.binds] at k;simp[k]
   have G:=f.mid P j;have ad:g.cell? ⟨p,4,none⟩=some (.int .i64 c.v):=G.act.I 4;have ai:g.frozen? ⟨p,4,none⟩=false:=G.act.fz 4;go_simp;exact e _ (by simpa[bY] using et.put2 (Q1:=λy=>au w y B m d z p (n+aN C (ak c.w c.n c.b)) v v on C c) (Q2:=λy=>au w y B m d z p (n+aN C (ak c.w c.n c.b)) v v on C {c with v:=ld C (ak c.w c.n c.b)}) P rfl (f.1.setCell (p:=⟨p,4,none⟩) (.inl (.inr rfl)) _) (G.set 4 _ rfl))
  ·intro u g dn F f a
   simp at a ⊢;have W:=F 18 (by decide);have T:=hD (f.got W);clear f;obtain⟨a2,rfl⟩:=eX g;clear a;go_wp2_with fail;obtain⟨K,E⟩:=eX a2.drew;have V:=hD E;have A:Hd (∀y,aa (λ_=>False) K y->au w y B m d z p _ v _ on C {c with v:=ld C (ak c.w c.n c.b)}):=hD (λy a0=>au.quiet (by rw[E];exact T.O.drew) a0);clear E
   refine be (by kernel_rfl) (λ_ y=>aa (λ_=>False) K y) [ap p 0,ap p 0,ap p 6,Is (.int .i64 c.t),ap p 0,ap p 0,ap p 5,Is (.int .i64 c.b),Is (.bool true)] (by kernel_rfl)
    (by(repeat refine⟨sT,?_⟩);trivial) (by rw[<-V.O];exact oR) ⟨?_,?_,?_,?_,?_,?_,?_,?_,?_,trivial⟩ ?_
   iterate 8
    ·intro dn u g j k f a o e
     refine ao rfl ?_;simp at a e ⊢
     try simp only[a] at e
     have X:g.cell? ⟨p,6,none⟩=some (.int .i64 c.t):=(A.O g f).act.I 6;have Y:g.cell? ⟨p,5,none⟩=some (.int .i64 c.b):=(A.O g f).act.I 5;go_simp;exact e _ _ f rfl
   ·intro dn u g j k f a o e
    refine ao rfl ?_;simp at a e ⊢;simp only[a] at e;go_simp;exact e _ _ f (by first|rfl|(simp;omega))
   ·intro u g dn F f a
    simp at a ⊢;have R:=hD (A.O g f);obtain⟨ab,rfl⟩:=eX g;clear f;simp only[a];clear a;go_wp2_with fail;obtain⟨q,r⟩:=eX ab.drew;have l:Hd (au w q B m d z p _ v _ on C {c with v:=ld C (ak c.w c.n c.b)}):=hD (by rw[r];exact R.O.drew);have H:=hD r;clear r
    have s:Hd (∀b y,eZ (λx=>x=p) q b (λy=>y=(((q.setCell ⟨p,0,none⟩ .nilFunc).setCell ⟨p,1,none⟩ (.int .u8 2)).setCell ⟨p,2,none⟩ (.int .i64 (ld C (ak c.w c.n c.b))))) y->y.cell? ⟨p,4,none⟩=some (.int .i64 (ld C (ak c.w c.n c.b)))):=hD (by
     intro b y i
     cases b
     ·rw[i.was rfl];exact l.O.act.I 4
     ·rw[i.got rfl];exact(l.O.over 2 (ld C (ak c.w c.n c.b))).act.I 4)
    refine be (by kernel_rfl) (λdn y=>eZ (λx=>x=p) q (dn 7) (λy=>y=(((q.setCell ⟨p,0,none⟩ .nilFunc).setCell ⟨p,1,none⟩ (.int .u8 2)).setCell ⟨p,2,none⟩ (.int .i64 (ld C (ak c.w c.n c.b))))) y) [ap p 0,ap p 0,ap p 0,ap p 0,ap p 0,ap p 4,Is (.int .i64 (ld C (ak c.w c.n c.b))),Is (.int .i64 0),Is (.int .i64 0)] (by kernel_rfl)
     (by(repeat refine⟨sT,?_⟩);trivial) (by rw[<-H.O];exact eZ.start) ⟨?_,?_,?_,?_,?_,?_,?_,?_,?_,trivial⟩ ?_
    iterate 7
     ·intro dn u g j k f a o e
      refine ao rfl ?_;simp at a e ⊢
      try simp only[a] at e
      have ar:=s.O _ _ f;go_simp;exact e _ _ (by simpa[bY] using f) rfl
    ·intro dn u g j k f a o e
     refine ao rfl ?_;simp at a e ⊢;simp only[a] at e;obtain rfl:=f.was j;go_simp;refine(jO p _ _ _ _ l.O.act (by simp[AC.arr])).mono ?_;rintro D S ⟨rfl,rfl⟩;exact e _ _ (by simp only[bY,yR];exact eZ.put ((((aa.refl (λx=>x=p) _).setCell (.inl rfl) _).setCell (.inl rfl) _).setCell (.inl rfl) _) rfl) rfl
    ·intro dn u g j k f a o e
     refine ao rfl ?_;simp at a e ⊢;simp only[a] at e;go_simp;exact e _ _ (by simpa[bY] using f) rfl
    ·intro u g dn F f a
     simp at a ⊢;have am:=F 7 (by decide);obtain rfl:=f.got am;simp only[a];go_wp2_with fail;go_ret;exact⟨rfl,l.O.over 2 (ld C (ak c.w c.n c.b))⟩
 ·simp only[yb a9]
  go_enter Tryz.func236,Tryz.ntmps236;obtain⟨q,r⟩:=eX w.drew;have l:Hd (au w q B m d z p n v v on C c):=hD (by rw[r];exact a3.O.drew);have H:=hD r
  have s:Hd (∀L N y,et (λx=>bO m v x\/x=p) q true L N (λy=>au w y B m d z p (n+aN C (ak c.w c.n c.b)) v v on C c) (λy=>au w y B m d z p (n+aN C (ak c.w c.n c.b)) v v on C {c with v:=ld C (ak c.w c.n c.b)}) y->y.cell? ⟨p,7,none⟩=some (.int .i64 c.w)/\y.cell? ⟨p,8,none⟩=some (.int .i64 c.n)/\y.cell? ⟨p,5,none⟩=some (.int .i64 c.b)):=hD (λL N y i=>by
   rcases i.or with rfl|i|i
   ·exact⟨l.O.act.I 7,l.O.act.I 8,l.O.act.I 5⟩
   ·exact⟨i.act.I 7,i.act.I 8,i.act.I 5⟩
   ·exact⟨i.act.I 7,i.act.I 8,i.act.I 5⟩)
  clear r;go_wp2_with fail
  refine be (by kernel_rfl) (λdn y=>et (λx=>bO m v x\/x=p) q true (dn 15) (dn 18) (λy=>au w y B m d z p (n+aN C (ak c.w c.n c.b)) v v on C c) (λy=>au w y B m d z p (n+aN C (ak c.w c.n c.b)) v v on C {c with v:=ld C (ak c.w c.n c.b)}) y) [ap p 0,ap p 0,ap p 0,ap p 0,ap p 7,Is (.int .i64 c.w),ap p 0,ap p 0,ap p 8,Is (.int .i64 c.n),ap p 0,ap p 0,ap p 5,Is (.int .i64 c.b),Is (.int .i64 (ak c.w c.n c.b)),Is (.int .i64 (ld C (ak c.w c.n c.b))),ap p 0,ap p 4,λ_ _=>True] (by kernel_rfl)
   ⟨sT,sT,sT,sT,sT,sT,sT,sT,sT,sT,sT,sT,sT,sT,sT,sT,sT,sT,(λ_ _ _ _ _=>trivial),trivial⟩ (by rw[<-H.O];exact et.start) ⟨?_,?_,?_,?_,?_,?_,?_,?_,?_,?_,?_,?_,?_,?_,?_,?_,?_,?_,?_,trivial⟩ ?_
  iterate 14
   ·intro dn u g j k f a o e
    refine ao rfl ?_;simp at a e ⊢
    try simp only[a] at e
    have X:g.cell? ⟨p,7,none⟩=some (.int .i64 c.w):=(s.O _ _ _ f).1;have Y:g.cell? ⟨p,8,none⟩=some (.int .i64 c.n):=(s.O _ _ _ f).2.1;have al:g.cell? ⟨p,5,none⟩=some (.int .i64 c.b):=(s.O _ _ _ f).2.2;go_simp;exact e _ _ (by simpa[bY] using f) rfl
  ·intro dn u g j k f a o e
   refine ao rfl ?_;simp at a e ⊢;simp only[a] at e;go_simp;refine(jV c.w c.n c.b g a4 a5 a6 a7 a8).mono ?_;rintro D S ⟨rfl,rfl⟩;exact e _ _ (by simpa[bY] using f) rfl
  ·intro dn u g j k f a o e
   refine ao rfl ?_;simp at a e ⊢;simp only[a] at e;obtain rfl:=(f.was j).1;go_simp;refine(dh B m d z p n (ak c.w c.n c.b) v on C _ _ l.O.dq l.O.act rfl (by omega)).mono ?_;rintro D S ⟨rfl,a1,Q⟩;exact e _ _ (by simpa[bY] using f.put1 j (Q.mono λx Z=>.inl Z) (l.O.mem a1 Q)) rfl
  iterate 2
   ·intro dn u g j k f a o e
    refine ao rfl ?_;simp at a e ⊢
    try simp only[a] at e
    go_simp;exact e _ _ (by simpa[bY] using f) rfl
  ·intro dn u g j k f a o e
   refine ao rfl ?_;simp at a e ⊢;simp only[a] at e;have P:dn 15=true:=by simp[bu,Region.binds] at k;simp[k]
   have G:=f.mid P j;have ad:g.cell? ⟨p,4,none⟩=some (.int .i64 c.v):=G.act.I 4;have ai:g.frozen? ⟨p,4,none⟩=false:=G.act.fz 4;go_simp;exact e _ (by simpa[bY] using et.put2 (Q1:=λy=>au w y B m d z p (n+aN C (ak c.w c.n c.b)) v v on C c) (Q2:=λy=>au w y B m d z p (n+aN C (ak c.w c.n c.b)) v v on C {c with v:=ld C (ak c.w c.n c.b)}) P rfl (f.1.setCell (p:=⟨p,4,none⟩) (.inl (.inr rfl)) _) (G.set 4 _ rfl))
  ·intro u g dn F f a
   simp at a ⊢;have W:=F 18 (by decide);have T:=hD (f.got W);clear f;obtain⟨a2,rfl⟩:=eX g;clear a;go_wp2_with fail;obtain⟨K,E⟩:=eX a2.drew;have V:=hD E;have A:Hd (∀y,aa (λ_=>False) K y->au w y B m d z p _ v _ on C {c with v:=ld C (ak c.w c.n c.b)}):=hD (λy a0=>au.quiet (by rw[E];exact T.O.drew) a0);clear E
   refine be (by kernel_rfl) (λ_ y=>aa (λ_=>False) K y) [ap p 0,ap p 0,ap p 6,Is (.int .i64 c.t),ap p 0,ap p 0,ap p 5,Is (.int .i64 c.b),Is (.bool false)] (by kernel_rfl)
    (by(repeat refine⟨sT,?_⟩);trivial) (by rw[<-V.O];exact oR) ⟨?_,?_,?_,?_,?_,?_,?_,?_,?_,trivial⟩ ?_
   iterate 8
    ·intro dn u g j k f a o e
     refine ao rfl ?_;simp at a e ⊢
     try simp only[a] at e
     have X:g.cell? ⟨p,6,none⟩=some (.int .i64 c.t):=(A.O g f).act.I 6;have Y:g.cell? ⟨p,5,none⟩=some (.int .i64 c.b):=(A.O g f).act.I 5;go_simp;exact e _ _ f rfl
   ·intro dn u g j k f a o e
    refine ao rfl ?_;simp at a e ⊢;simp only[a] at e;go_simp;exact e _ _ f (by first|rfl|(simp;omega))
   ·intro u g dn F f a
    simp at a ⊢;have R:=hD (A.O g f);obtain⟨ab,rfl⟩:=eX g;clear f;simp only[a];clear a;go_wp2_with fail;refine(cl p _ _ _ _ _ R.O.act (by simp[AC.arr])).mono ?_;rintro D az ⟨rfl,rfl⟩;go_wp2_with fail;go_ret;exact⟨rfl,R.O.set 0 _ rfl⟩
end
end Go.Proofs.YtmdocplknceilaaGreat
