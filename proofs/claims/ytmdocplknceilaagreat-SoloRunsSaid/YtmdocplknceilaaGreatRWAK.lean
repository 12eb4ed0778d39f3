import Derived.Test.YtmdocplknceilaaGreatRWAJ
set_option linter.all false
set_option maxRecDepth 100000
set_option maxHeartbeats 1000000
namespace Go.Proofs.YtmdocplknceilaaGreat
section
set_option maxRecDepth 100000
open Go.RowKit
attribute [local simp] eM gw gz dj eD Region.binds ed ey Is ap Act.put
theorem au.memC{w w' f:World}{B b d z p:Nat}{n n':Int}{v e on:Value}{C C':List Int}{c:AC}(a:au w w' B b d z p n v e on C c)(k:cx f B b n' e C')(g:aa (bO b e) w' f)(i:ld C' z=ld C z)(j:ld C' ((z:Int)+1)=ld C ((z:Int)+1)):au w f B b d z p n' v e on C' c:=by
 refine a.deq ⟨k,?_,a.dq.base⟩ (g.mono λx l=>.inl l);rw[i,j];exact g.J a.dq.J a.dq.away
theorem sV(B g d z p:Nat)(n:Int)(v on:Value)(C:List Int)(c:AC)(w:World)(E:bZ w B g d z n v C on)(a:ae w p 194 (c.arr d))(a4:n+2<=4611686018427387904)(N:0<=c.b)(F:1<=c.n)(P:c.n<=1000000)(Q:0<=c.w)(R:c.w<=1000000)(a5:(z:Int)+2<c.w):
 Calls Tryz.prog 240 #[.pointer (some ⟨p,0,none⟩)] w λl w'=>l=.returned (.int .i64 0)/\au w w' B g d z p (n+aN C (ak c.w c.n c.b)) v v on (st C (ak c.w c.n c.b) c.v) {c with dv:=de 244 p}:=by
 have G:=hD (au.refl E a);clear E a;have a0:=fD (w:=c.w) (i:=c.b) F;have K:Hd (ld (st C (ak c.w c.n c.b) c.v) z=ld C z):=hD (dT (by omega));have L:Hd (ld (st C (ak c.w c.n c.b) c.v) ((z:Int)+1)=ld C ((z:Int)+1)):=hD (dT (by omega));clear a0;go_enter Tryz.func240,Tryz.ntmps240;obtain⟨s,t⟩:=eX w.drew;have q:Hd (au w s B g d z p n v v on C c):=hD (by rw[t];exact G.O.drew);have H:=hD t
 have A:Hd (∀y,aa (bO g v) s y->y.cell? ⟨p,7,none⟩=some (.int .i64 c.w)/\y.cell? ⟨p,8,none⟩=some (.int .i64 c.n)/\y.cell? ⟨p,5,none⟩=some (.int .i64 c.b)/\y.cell? ⟨p,4,none⟩=some (.int .i64 c.v)/\y.cell? ⟨p,3,none⟩=some (.pointer (some ⟨d,0,none⟩))/\y.cell? ⟨d,0,none⟩=some (.pointer (some ⟨g,0,none⟩))):=hD (λy a1=>by
  obtain⟨j,o⟩:=q.O.cells a1;exact⟨j.I 7,j.I 8,j.I 5,j.I 4,j.I 3,o.I 0⟩)
 clear t;go_wp2_with fail
 refine be (by kernel_rfl) (λdn y=>eZ (bO g v) s (dn 24) (λy=>au w y B g d z p (n+aN C (ak c.w c.n c.b)) v v on (st C (ak c.w c.n c.b) c.v) c) y) [ap p 0,ap p 0,ap p 3,ap d 0,ap d 0,ap d 0,ap g 0,ap p 0,ap p 0,ap p 7,Is (.int .i64 c.w),ap p 0,ap p 0,ap p 8,Is (.int .i64 c.n),ap p 0,ap p 0,ap p 5,Is (.int .i64 c.b),Is (.int .i64 (ak c.w c.n c.b)),ap p 0,ap p 0,ap p 4,Is (.int .i64 c.v),Is (.int .i64 (fM C (ak c.w c.n c.b)))] (by kernel_rfl)
  (by(repeat refine⟨sT,?_⟩);trivial) (by rw[<-H.O];exact eZ.start) ⟨?_,?_,?_,?_,?_,?_,?_,?_,?_,?_,?_,?_,?_,?_,?_,?_,?_,?_,?_,?_,?_,?_,?_,?_,?_,trivial⟩ ?_
 iterate 19
  ·intro dn u k m x f a r e
   refine ao rfl ?_;simp at a e ⊢
   try simp only[a] at e
   obtain⟨S,T,V,W,X,a3⟩:=A.O k f.1;go_simp;exact e _ _ (by simpa[bY] using f) rfl
 ·intro dn u k m x f a r e
  refine ao rfl ?_;simp at a e ⊢;simp only[a] at e;go_simp;refine(jV c.w c.n c.b k N F P Q R).mono ?_;rintro l a2 ⟨rfl,rfl⟩;exact e _ _ (by simpa[bY] using f) rfl
 iterate 4
  ·intro dn u k m x f a r e
   refine ao rfl ?_;simp at a e ⊢
   try simp only[a] at e
   obtain⟨S,T,V,W,X⟩:=A.O k f.1;go_simp;exact e _ _ (by simpa[bY] using f) rfl
 ·intro dn u k m x f a r e
  refine ao rfl ?_;simp at a e ⊢;simp only[a] at e;obtain rfl:=f.was m;go_simp;refine(mz B g n (ak c.w c.n c.b) c.v v C _ q.O.dq.mem (by omega)).mono ?_;rintro l a2 ⟨rfl,j,o⟩;rw[na] at j;exact e _ _ (by simpa[bY] using eZ.put o (q.O.memC j o K.O L.O)) rfl
 ·intro u k dn Z f a
  simp at a ⊢;have Y:=Z 24 (by decide);have D:=hD (f.got Y);obtain⟨a7,rfl⟩:=eX k;clear f a;go_wp2_with fail;refine(cl p _ _ _ _ _ D.O.act (by simp[AC.arr])).mono ?_;rintro l a6 ⟨rfl,rfl⟩;go_wp2_with fail;go_ret;exact⟨rfl,D.O.set 0 _ rfl⟩
theorem sS(B i d z p:Nat)(n:Int)(v on:Value)(C:List Int)(c:AC)(w:World)(l:bZ w B i d z n v C on)(b:ae w p 194 (c.arr d))(ad:n+2<=4611686018427387904)(a5:1<=c.n)(a6:c.n<=1000000):
 Calls Tryz.prog 246 #[.pointer (some ⟨p,0,none⟩)] w λt w'=>t=.returned (.int .i64 0)/\au w w' B i d z p (n+aN C ((z:Int)+2)) v v on (st C ((z:Int)+2) c.nw) {c with w:=c.nw,n:=2*c.n,dv:=de 240 p}:=by
 have N:=hD (au.refl l b);clear l b;have S:Hd (ld (st C ((z:Int)+2) c.nw) z=ld C z):=hD (dT (by omega));have T:Hd (ld (st C ((z:Int)+2) c.nw) ((z:Int)+1)=ld C ((z:Int)+1)):=hD (dT (by omega));have ai:IntKind.i64.wrap (2*c.n)=2*c.n:=IntWalk.i64_in _ (by omega);go_enter Tryz.func246,Tryz.ntmps246;obtain⟨s,A⟩:=eX w.drew;have r:Hd (au w s B i d z p n v v on C c):=hD (by rw[A];exact N.O.drew);have Q:=hD A
 have L:Hd (∀y,aa (bO i v) s y->y.cell? ⟨p,9,none⟩=some (.int .i64 c.nw)/\y.cell? ⟨p,3,none⟩=some (.pointer (some ⟨d,0,none⟩))/\y.cell? ⟨d,0,none⟩=some (.pointer (some ⟨i,0,none⟩))/\y.cell? ⟨d,3,none⟩=some (.int .i64 ((z:Int)+2))):=hD (λy Z=>by
  obtain⟨o,q⟩:=r.O.cells Z;exact⟨o.I 9,o.I 3,q.I 0,q.I 3⟩)
 clear A;go_wp2_with fail
 refine be (by kernel_rfl) (λdn y=>eZ (bO i v) s (dn 18) (λy=>au w y B i d z p (n+aN C ((z:Int)+2)) v v on (st C ((z:Int)+2) c.nw) c) y) [ap p 0,ap p 0,ap p 3,ap d 0,ap d 0,ap d 0,ap i 0,ap p 0,ap p 0,ap p 3,ap d 0,ap d 0,ap d 3,Is (.int .i64 ((z:Int)+2)),ap p 0,ap p 0,ap p 9,Is (.int .i64 c.nw),Is (.int .i64 (fM C ((z:Int)+2)))] (by kernel_rfl)
  (by(repeat refine⟨sT,?_⟩);trivial) (by rw[<-Q.O];exact eZ.start) ⟨?_,?_,?_,?_,?_,?_,?_,?_,?_,?_,?_,?_,?_,?_,?_,?_,?_,?_,?_,trivial⟩ ?_
 iterate 18
  ·intro dn u f g j e b k a
   refine ao rfl ?_;simp at b a ⊢
   try simp only[b] at a
   obtain⟨a7,a8,a9,ab⟩:=L.O f e.1;go_simp;exact a _ _ (by simpa[bY] using e) rfl
 ·intro dn u f g j e b k a
  refine ao rfl ?_;simp at b a ⊢;simp only[b] at a;obtain rfl:=e.was g;go_simp;refine(mz B i n ((z:Int)+2) c.nw v C _ r.O.dq.mem (by omega)).mono ?_;rintro t al ⟨rfl,o,q⟩;rw[na] at o;exact a _ _ (by simpa[bY] using eZ.put q (r.O.memC o q S.O T.O)) rfl
 ·intro u f dn E e b
  simp at b ⊢;have Y:=E 18 (by decide);have P:=hD (e.got Y);obtain⟨a0,rfl⟩:=eX f;clear e b;obtain⟨H,D⟩:=eX a0.drew;have m:Hd (au w H B i d z p _ v v on (st C ((z:Int)+2) c.nw) c):=hD (by rw[D];exact P.O.drew);have R:=hD D;clear D;go_wp2_with fail
  refine be (by kernel_rfl) (λdn y=>et (λx=>x=p) H (dn 9) (dn 13) (dn 16) (λy=>au w y B i d z p (n+aN C ((z:Int)+2)) v v on (st C ((z:Int)+2) c.nw) {c with w:=c.nw}) (λy=>au w y B i d z p (n+aN C ((z:Int)+2)) v v on (st C ((z:Int)+2) c.nw) {c with w:=c.nw,n:=2*c.n}) y) [ap p 0,ap p 0,ap p 0,ap p 0,ap p 9,Is (.int .i64 c.nw),ap p 0,ap p 0,ap p 8,Is (.int .i64 c.n),Is (.int .i64 (2*c.n)),ap p 0,ap p 7,λ_ _=>True,ap p 0,ap p 8,λ_ _=>True] (by kernel_rfl)
   ⟨sT,sT,sT,sT,sT,sT,sT,sT,sT,sT,sT,sT,sT,(λ_ _ _ _ _=>trivial),sT,sT,(λ_ _ _ _ _=>trivial),trivial⟩ (by rw[<-R.O];exact et.start) ⟨?_,?_,?_,?_,?_,?_,?_,?_,?_,?_,?_,?_,?_,?_,?_,?_,?_,trivial⟩ ?_
  iterate 5
   ·intro dn u f g j e b k a
    refine ao rfl ?_;simp at b a ⊢
    try simp only[b] at a
    go_simp;exact a _ _ (by simpa[bY] using e) rfl
  ·intro dn u f g j e b k a
   refine ao rfl ?_;simp at b a ⊢;simp only[b] at a
   have X:f.cell? ⟨p,9,none⟩=some (.int .i64 c.nw):=by
    rcases e.or with rfl|l|l
    ·exact m.O.act.I 9
    ·exact l.act.I 9
    ·exact l.act.I 9
   go_simp;exact a _ _ (by simpa[bY] using e) rfl
  iterate 3
   ·intro dn u f g j e b k a
    refine ao rfl ?_;simp at b a ⊢
    try simp only[b] at a
    go_simp;exact a _ _ (by simpa[bY] using e) rfl
  ·intro dn u f g j e b k a
   refine ao rfl ?_;simp at b a ⊢;simp only[b] at a
   have X:f.cell? ⟨p,8,none⟩=some (.int .i64 c.n):=by
    rcases e.or0 g with rfl|l
    ·exact m.O.act.I 8
    ·exact l.act.I 8
   go_simp;exact a _ _ (by simpa[bY] using e.mo (b0':=true) (λ_=>rfl)) rfl
  iterate 3
   ·intro dn u f g j e b k a
    refine ao rfl ?_;simp at b a ⊢
    try simp only[b] at a
    go_simp;exact a _ _ (by simpa[bY] using e) rfl
  ·intro dn u f g j e b k a
   refine ao rfl ?_;simp at b a ⊢;simp only[b] at a;obtain rfl:=(e.was g).1;have a1:f.cell? ⟨p,7,none⟩=some (.int .i64 c.w):=m.O.act.I 7;have a3:f.frozen? ⟨p,7,none⟩=false:=m.O.act.fz 7;go_simp;exact a _ (by simpa[bY] using e.put1 g ((aa.refl (λx=>x=p) _).setCell (p:=⟨p,7,none⟩) (.inl rfl) _) (m.O.set 7 _ rfl))
  iterate 2
   ·intro dn u f g j e b k a
    refine ao rfl ?_;simp at b a ⊢
    try simp only[b] at a
    go_simp;exact a _ _ (by simpa[bY] using e) rfl
  ·intro dn u f g j e b k a
   refine ao rfl ?_;simp at b a ⊢;simp only[b] at a;have K:dn 13=true:=by simp[bu,Region.binds] at j;simp[j]
   have W:dn 9=true:=by simp[bu,Region.binds] at j;simp[j]
   have F:=e.mid K g;have a2:f.cell? ⟨p,8,none⟩=some (.int .i64 c.n):=F.act.I 8;have a4:f.frozen? ⟨p,8,none⟩=false:=F.act.fz 8;go_simp;exact a _ (by simpa[bY] using et.put2 (Q1:=(λy=>au w y B i d z p (n+aN C ((z:Int)+2)) v v on (st C ((z:Int)+2) c.nw) {c with w:=c.nw})) (Q2:=(λy=>au w y B i d z p (n+aN C ((z:Int)+2)) v v on (st C ((z:Int)+2) c.nw) {c with w:=c.nw,n:=2*c.n})) K W (e.1.setCell (p:=⟨p,8,none⟩) (.inl rfl) _) (F.set 8 _ rfl))
  ·intro u f dn E e b
   simp at b ⊢;have V:=E 16 (by decide);have G:=hD (e.got V);clear e b;go_wp2_with fail;refine(cl p _ _ _ _ _ G.O.act (by simp[AC.arr])).mono ?_;rintro t am ⟨rfl,rfl⟩;go_wp2_with fail;go_ret;exact⟨rfl,G.O.set 0 _ rfl⟩
set_option maxRecDepth 100000
theorem sw(B q d z p:Nat)(n:Int)(v on:Value)(C:List Int)(c:AC)(w:World)(G:bZ w B q d z n v C on)(a:ae w p 194 (c.arr d))(Q:n+2<=4611686018427387904):
 Calls Tryz.prog 243 #[.pointer (some ⟨p,0,none⟩)] w λx w'=>x=.returned (.int .i64 0)/\au w w' B q d z p n v v on C {c with dv:=if c.i=c.b then de 246 p else de 247 p}:=by
 have F:=hD (au.refl G a);clear G a
 by_cases l:c.i=c.b
 ·simp only[yf l]
  have r:=hD l;clear l;go_enter Tryz.func243,Tryz.ntmps243;go_wp2_with fail;obtain⟨o,k⟩:=eX w.drew;have s:=hD k;have j:Hd (∀y,aa (λ_=>False) o y->au w y B q d z p _ v _ on C c):=hD (λy E=>au.quiet (by rw[k];exact F.O.drew) E);clear k
  refine be (by kernel_rfl) (λ_ y=>aa (λ_=>False) o y) [ap p 0,ap p 0,ap p 10,Is (.int .i64 c.i),ap p 0,ap p 0,ap p 5,Is (.int .i64 c.b),Is (.bool true)] (by kernel_rfl)
   (by(repeat refine⟨sT,?_⟩);trivial) (by rw[<-s.O];exact oR) ⟨?_,?_,?_,?_,?_,?_,?_,?_,?_,trivial⟩ ?_
  iterate 8
   ·intro dn u f D A e a t g
    refine ao rfl ?_;simp at a g ⊢
    try simp only[a] at g
    have H:f.cell? ⟨p,10,none⟩=some (.int .i64 c.i):=(j.O f e).act.I 10;have K:f.cell? ⟨p,5,none⟩=some (.int .i64 c.b):=(j.O f e).act.I 5;go_simp;exact g _ _ e rfl
  ·intro dn u f D A e a t g
   refine ao rfl ?_;simp at a g ⊢;simp only[a] at g;go_simp;exact g _ _ e (yl Value.bool (beq_iff_eq.2 r.O))
  ·intro u f dn L e a
   simp at a ⊢;have m:=hD (j.O f e);obtain⟨P,rfl⟩:=eX f;clear e;simp only[a];clear a;go_wp2_with fail;refine(cl p _ _ _ _ _ m.O.act (by simp[AC.arr])).mono ?_;rintro x N ⟨rfl,rfl⟩;go_wp2_with fail;go_ret;exact⟨rfl,m.O.set 0 _ rfl⟩
 ·simp only[yb l]
  have r:=hD l;clear l;go_enter Tryz.func243,Tryz.ntmps243;go_wp2_with fail;obtain⟨o,k⟩:=eX w.drew;have s:=hD k;have j:Hd (∀y,aa (λ_=>False) o y->au w y B q d z p _ v _ on C c):=hD (λy E=>au.quiet (by rw[k];exact F.O.drew) E);clear k
  refine be (by kernel_rfl) (λ_ y=>aa (λ_=>False) o y) [ap p 0,ap p 0,ap p 10,Is (.int .i64 c.i),ap p 0,ap p 0,ap p 5,Is (.int .i64 c.b),Is (.bool false)] (by kernel_rfl)
   (by(repeat refine⟨sT,?_⟩);trivial) (by rw[<-s.O];exact oR) ⟨?_,?_,?_,?_,?_,?_,?_,?_,?_,trivial⟩ ?_
  iterate 8
   ·intro dn u f D A e a t g
    refine ao rfl ?_;simp at a g ⊢
    try simp only[a] at g
    have H:f.cell? ⟨p,10,none⟩=some (.int .i64 c.i):=(j.O f e).act.I 10;have K:f.cell? ⟨p,5,none⟩=some (.int .i64 c.b):=(j.O f e).act.I 5;go_simp;exact g _ _ e rfl
  ·intro dn u f D A e a t g
   refine ao rfl ?_;simp at a g ⊢;simp only[a] at g;go_simp;exact g _ _ e (yl Value.bool (bF r.O))
  ·intro u f dn L e a
   simp at a ⊢;have m:=hD (j.O f e);obtain⟨P,rfl⟩:=eX f;clear e;simp only[a];clear a;go_wp2_with fail;refine(cl p _ _ _ _ _ m.O.act (by simp[AC.arr])).mono ?_;rintro x N ⟨rfl,rfl⟩;go_wp2_with fail;go_ret;exact⟨rfl,m.O.set 0 _ rfl⟩
theorem au.trans{w w' l:World}{B e d z p:Nat}{n n':Int}{v g j on:Value}{C C':List Int}{c c':AC}(b:au w w' B e d z p n v g on C c)(k:au w' l B e d z p n' g j on C' c'):au w l B e d z p n' v j on C' c':=
 ⟨k.dq,k.act,b.only.trans' k.only (λi a=>by
  rcases a with(a|a)|a|a
  ·exact .inl (.inl (.inl a))
  ·rcases b.row i a with a|a
   ·exact .inl (.inl (.inr a))
   ·exact .inr a
  ·exact .inl (.inr (.inl a))
  ·exact .inl (.inr (.inr a))),λf m=>by
  rcases k.row f m with a|a
  ·exact b.row f a
  ·exact .inr (by have:=b.only.size;omega)⟩
theorem sR(l r:Nat)(V:Int)(B f d z p:Nat)(n:Int)(v on:Value)(C:List Int)(c:AC)(w:World)(s:bZ w B f d z n v C on)(a:ae w p 194 (c.arr d))(bb:n+2<=4611686018427387904)(m:ae w l 125 #[.pointer (some ⟨p,0,none⟩)])(L:ae w r 2 #[.int .i64 V])(W:v.ownBlock≠some r)
 (a9:0<=c.i) (b0:1<=c.n) (b1:c.n<=400000) (ab:0<=c.nw) (ad:c.nw<=1000000) (b2:c.i<=1000000) (bf:(z:Int)+2<c.nw) (bc:n+3<=4611686018427387904):
 Calls Tryz.prog 248 #[.pointer (some ⟨l,0,none⟩),.pointer (some ⟨r,0,none⟩)] w λj w'=>j=.returned (.int .i64 0)/\au w w' B f d z p (n+aN C (ak c.nw (2*c.n) c.i)) v v on (st C (ak c.nw (2*c.n) c.i) V) {c with i:=c.i+1,dv:=if c.i+1=c.b then de 246 p else de 247 p}:=by
 have a4:=hD (au.refl s a);have am:=fD (w:=c.nw) (n:=2*c.n) (i:=c.i) (by omega);have a6:Hd (ld (st C (ak c.nw (2*c.n) c.i) V) z=ld C z):=hD (dT (by omega));have a7:Hd (ld (st C (ak c.nw (2*c.n) c.i) V) ((z:Int)+1)=ld C ((z:Int)+1)):=hD (dT (by omega));have bk:IntKind.i64.wrap (2*c.n)=2*c.n:=IntWalk.i64_in _ (by omega);have bm:IntKind.i64.wrap (c.i+1)=c.i+1:=IntWalk.i64_in _ (by omega)
 have Q:¬bO f v l:=by
  rintro (j|j)
  ·exact ae.ne_ m s.mem.J (by decide) j
  ·exact aA s.mem.own m (by decide) j
 have T:¬bO f v r:=by
  rintro (j|j)
  ·exact ae.ne_ L s.mem.J (by decide) j
  ·exact W j
 have R:p≠l:=ae.ne_ a m (by decide);have ar:=hD m;have a3:=hD R;obtain⟨x,q⟩:=eX w.drew;have H:Hd (au w x B f d z p n v v on C c):=hD (by rw[q];exact a4.O.drew);have a5:=hD q;have a1:Hd (∀y,aa (bO f v) x y->ae y l 125 #[.pointer (some ⟨p,0,none⟩)]):=hD (λy t=>t.J (by rw[q];exact m) Q)
 have S:Hd (∀y,aa (bO f v) x y->y.cell? ⟨l,0,none⟩=some (.pointer (some ⟨p,0,none⟩))/\y.cell? ⟨r,0,none⟩=some (.int .i64 V)/\y.cell? ⟨p,3,none⟩=some (.pointer (some ⟨d,0,none⟩))/\y.cell? ⟨p,8,none⟩=some (.int .i64 c.n)/\y.cell? ⟨p,9,none⟩=some (.int .i64 c.nw)/\y.cell? ⟨p,10,none⟩=some (.int .i64 c.i)/\y.cell? ⟨d,0,none⟩=some (.pointer (some ⟨f,0,none⟩))):=hD (λy t=>by
  obtain⟨o,D⟩:=H.O.cells t;exact⟨(t.J (by rw[q];exact m) Q).I 0,(t.J (by rw[q];exact L) T).I 0,o.I 3,o.I 8,o.I 9,o.I 10,D.I 0⟩)
 obtain⟨az,N⟩:=eX (if c.i+1=c.b then de 246 p else de 247 p);rw[<-N];have a2:=hD N;clear s a am m L W Q T R q N;go_enter Tryz.func248,Tryz.ntmps248;go_wp2_with fail
 refine be (by kernel_rfl) (λdn y=>eZ (bO f v) x (dn 22) (λy=>au w y B f d z p (n+aN C (ak c.nw (2*c.n) c.i)) v v on (st C (ak c.nw (2*c.n) c.i) V) c) y) [ap p 0,ap p 0,ap p 3,ap d 0,ap d 0,ap d 0,ap f 0,ap p 0,ap p 0,ap p 9,Is (.int .i64 c.nw),ap p 0,ap p 0,ap p 8,Is (.int .i64 c.n),Is (.int .i64 (2*c.n)),ap p 0,ap p 0,ap p 10,Is (.int .i64 c.i),Is (.int .i64 (ak c.nw (2*c.n) c.i)),Is (.int .i64 V),Is (.int .i64 (fM C (ak c.nw (2*c.n) c.i)))] (by kernel_rfl)
  (by(repeat refine⟨sT,?_⟩);trivial) (by rw[<-a5.O];exact eZ.start) ⟨?_,?_,?_,?_,?_,?_,?_,?_,?_,?_,?_,?_,?_,?_,?_,?_,?_,?_,?_,?_,?_,?_,?_,trivial⟩ ?_
 iterate 20
  ·intro dn u k A P g a K e
   refine ao rfl ?_;simp at a e ⊢
   try simp only[a] at e
   obtain⟨b4,b5,b6,b7,b8,b9,ba⟩:=S.O k g.1;go_simp;exact e _ _ (by simpa[bY] using g) rfl
 ·intro dn u k A P g a K e
  refine ao rfl ?_;simp at a e ⊢;simp only[a] at e;go_simp;refine(jV c.nw (2*c.n) c.i k a9 (by omega) (by omega) ab ad).mono ?_;rintro j an ⟨rfl,rfl⟩;exact e _ _ (by simpa[bY] using g) rfl
 ·intro dn u k A P g a K e
  refine ao rfl ?_;simp at a e ⊢;have b3:=(S.O k g.1).2.1;go_simp;exact e _ _ (by simpa[bY] using g) rfl
 ·intro dn u k A P g a K e
  refine ao rfl ?_;simp at a e ⊢;simp only[a] at e;obtain rfl:=g.was A;go_simp;refine(mz B f n (ak c.nw (2*c.n) c.i) V v C _ H.O.dq.mem (by omega)).mono ?_;rintro j an ⟨rfl,o,D⟩;rw[na] at o;exact e _ _ (by simpa[bY] using eZ.put D (H.O.memC o D a6.O a7.O)) rfl
 ·intro u k dn al g a
  simp at a ⊢;have ai:=al 22 (by decide);have G:=hD (g.got ai);have a0:=hD (a1.O _ g.1);obtain⟨E,rfl⟩:=eX k;clear g a;have av:E.cell? ⟨l,0,none⟩=some (.pointer (some ⟨p,0,none⟩)):=a0.O.I 0;have aw:E.cell? ⟨p,10,none⟩=some (.int .i64 c.i):=G.O.act.I 10;have aE:E.frozen? ⟨p,10,none⟩=false:=G.O.act.fz 10;have R:=a3.O;go_wp2_with fail;obtain⟨Z,X⟩:=eX (E.setCell ⟨p,10,none⟩ (.int .i64 (c.i+1)));have F:Hd (au w Z B f d z p _ v v on (st C (ak c.nw (2*c.n) c.i) V) {c with i:=c.i+1}):=hD (by rw[X];exact G.O.set 10 _ rfl);rw[<-X];refine(sw B f d z p _ v on _ _ Z F.O.dq F.O.act (by unfold aN;split<;>omega)).mono ?_;rintro j bn ⟨rfl,Y⟩;have a8:=hD Y;clear Y;go_wp2_with fail;go_ret;exact⟨rfl,by rw[a2.O];exact F.O.trans a8.O⟩
end
end Go.Proofs.YtmdocplknceilaaGreat
