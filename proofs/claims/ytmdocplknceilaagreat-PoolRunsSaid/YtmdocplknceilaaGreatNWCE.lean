import Derived.Test.YtmdocplknceilaaGreatNWCB
set_option linter.all false
set_option maxRecDepth 100000
set_option maxHeartbeats 4000000
namespace Go.Proofs.YtmdocplknceilaaGreat
section
open Go.RowKit Go.Maps
def uZ:Prop:=∀w,Calls Tryz.prog 11 #[] w λe w'=>e=.returned (.bool true)/\ac w w'
attribute [local simp] ew fe fD cL dP Region.binds dD dN Is ao Act.put
theorem vW(w:World):
 Calls Tryz.prog 37 #[] w λm w'=>∃A c,m=.returned (aP dA A c)/\dg w' (bC w w') A dA/\ac w w':=by
 obtain⟨a,D⟩:=eX (w.alloc (.cells #[.slice none 0 0] 24));have Z:ac w a:=by rw[D];exact oR.alloc _
 have C:ae a w.heap.size 24 #[.slice none 0 0]:=by rw[D];exact bN
 have X:=C.I 0;have a7:=C.fz 0;simp at X;obtain⟨g,Q⟩:=eX w.heap.size;have a4:=hD D.symm;have V:=hD Z;have N:=hD C;rw[<-Q] at X a7 N;have T:=hD Q;clear D Z C Q;obtain⟨z,t⟩:=eX (a.alloc (.cells #[.int .u8 12,.int .i64 1,.int .i64 0,.int .i64 0,.int .i64 1,.int .u8 13,.int .i64 0,.int .i64 0,.int .i64 0,.int .i64 0,.int .u8 3,.int .i64 1,.int .i64 1,.int .i64 1,.int .i64 0,.int .u8 14,.int .i64 0,.int .i64 1,.int .i64 0,.int .i64 0] 106));obtain⟨B,u⟩:=eX (z.alloc (.cells #[.int .u8 14,.int .i64 0,.int .i64 0,.int .i64 0,.int .i64 0] 106));obtain⟨f,E⟩:=eX (B.alloc (.cells #[.int .i64 1,.int .i64 2,.slice (some ⟨a.heap.size,0,none⟩) 4 4,.int .i64 1,.int .i64 1,.slice (some ⟨a.heap.size+1,0,none⟩) 1 1] 99));have S:z.heap.size=a.heap.size+1:=by rw[t];simp
 have a0:B.heap.size=a.heap.size+1+1:=by rw[u];simp[S]
 have R:ac a z:=by rw[t];exact oR.alloc _
 have K:ac z B:=by rw[u];exact oR.alloc _
 have x:ac B f:=by rw[E];exact oR.alloc _
 have F:ae f a.heap.size 106 #[.int .u8 12,.int .i64 1,.int .i64 0,.int .i64 0,.int .i64 1,.int .u8 13,.int .i64 0,.int .i64 0,.int .i64 0,.int .i64 0,.int .u8 3,.int .i64 1,.int .i64 1,.int .i64 1,.int .i64 0,.int .u8 14,.int .i64 0,.int .i64 1,.int .i64 0,.int .i64 0]:=(K.trans x).J (by rw[t];exact bN) nF;have G:ae f (a.heap.size+1) 106 #[.int .u8 14,.int .i64 0,.int .i64 0,.int .i64 0,.int .i64 0]:=x.J (by rw[u,<-S];exact bN) nF;have H:ae f (a.heap.size+1+1) 99 #[.int .i64 1,.int .i64 2,.slice (some ⟨a.heap.size,0,none⟩) 4 4,.int .i64 1,.int .i64 1,.slice (some ⟨a.heap.size+1,0,none⟩) 1 1]:=by rw[E,<-a0];exact bN
 have r:g<a.heap.size:=N.O.lt;have q:w.heap.size<=a.heap.size:=V.O.size;have s:ae f g 24 #[.slice none 0 0]:=(R.trans (K.trans x)).J N.O nF;have a2:=hD (aI s (aI F (aI G (aI H (aI r q)))));have a3:=hD (V.O.trans (R.trans (K.trans x)));have P:(((a.alloc (.cells #[.int .u8 12,.int .i64 1,.int .i64 0,.int .i64 0,.int .i64 1,.int .u8 13,.int .i64 0,.int .i64 0,.int .i64 0,.int .i64 0,.int .u8 3,.int .i64 1,.int .i64 1,.int .i64 1,.int .i64 0,.int .u8 14,.int .i64 0,.int .i64 1,.int .i64 0,.int .i64 0] 106)).alloc (.cells #[.int .u8 14,.int .i64 0,.int .i64 0,.int .i64 0,.int .i64 0] 106)).alloc (.cells #[.int .i64 1,.int .i64 2,.slice (some ⟨a.heap.size,0,none⟩) 4 4,.int .i64 1,.int .i64 1,.slice (some ⟨a.heap.size+1,0,none⟩) 1 1] 99))=f:=by rw[E,u,t]
 have Y:=s.I 0;have a8:=s.fz 0;simp at Y;rw[<-P] at Y a8;have a1:=hD P;clear P s F G H R K x S a0 t u E r q;go_enter Tryz.func37,Tryz.ntmps37;go_upto_region 1 with fail;rw[a4.O,<-T.O];go_wp2_with fail;rw[a1.O];obtain⟨s,F,G,H,r,q⟩:=a2.O;have L:=af f g 0 (.slice (some ⟨a.heap.size+1+1,0,none⟩) 2 2);refine bodyPost_ret (bX Tryz.results37 rfl (cs:=#[.slice (some ⟨a.heap.size+1+1,0,none⟩) 2 2]) (s.s_ 0 _) Tryz.underlying24 rfl (by kernel_rfl)) rfl ?_;have d:=L.J F (λm=>absurd m (Nat.ne_of_gt r));have p:=L.J G (λm=>absurd m (Nat.ne_of_gt (Nat.lt_succ_of_lt r)));have l:=L.J H (λm=>absurd m (Nat.ne_of_gt (Nat.lt_succ_of_lt (Nat.lt_succ_of_lt r))));refine⟨some ⟨a.heap.size+1+1,0,none⟩,2,rfl,?_,a3.O.trans' L (λb a9=>.inr (by rw[a9,T.O];exact lR))⟩;have W:bC w (f.setCell ⟨g,0,none⟩ (.slice (some ⟨a.heap.size+1+1,0,none⟩) 2 2)) (a.heap.size+1+1):=⟨lT q (by omega),l.lt⟩
 have a6:bC w (f.setCell ⟨g,0,none⟩ (.slice (some ⟨a.heap.size+1+1,0,none⟩) 2 2)) (a.heap.size+1):=⟨lT q (by omega),p.lt⟩
 have a5:bC w (f.setCell ⟨g,0,none⟩ (.slice (some ⟨a.heap.size+1+1,0,none⟩) 2 2)) a.heap.size:=⟨q,d.lt⟩
 generalize f.setCell ⟨g,0,none⟩ (.slice (some ⟨a.heap.size+1+1,0,none⟩) 2 2)=ab at*;refine .inr ⟨_,_,rfl,λi y n=>?_⟩
 match i,n with
 |0,n=>
  cases n
  refine⟨W,⟨_,l⟩,l.I 0,l.I 1,_,_,l.I 2,.inr ⟨_,_,rfl,λk o e=>⟨?_,⟨_,d⟩,λj v hv=>?_⟩⟩⟩
  ·exact a5
  ·match k,e with
   |0,e=>cases e;match j,hv with
    |0,hv=>cases hv;exact d.I 0
    |1,hv=>cases hv;exact d.I 1
    |2,hv=>cases hv;exact d.I 2
    |3,hv=>cases hv;exact d.I 3
    |4,hv=>cases hv;exact d.I 4
    |j+5,hv=>exact absurd (gS hv).1 (by simp[eJ])
   |1,e=>cases e;match j,hv with
    |0,hv=>cases hv;exact d.I 5
    |1,hv=>cases hv;exact d.I 6
    |2,hv=>cases hv;exact d.I 7
    |3,hv=>cases hv;exact d.I 8
    |4,hv=>cases hv;exact d.I 9
    |j+5,hv=>exact absurd (gS hv).1 (by simp[eJ])
   |2,e=>cases e;match j,hv with
    |0,hv=>cases hv;exact d.I 10
    |1,hv=>cases hv;exact d.I 11
    |2,hv=>cases hv;exact d.I 12
    |3,hv=>cases hv;exact d.I 13
    |4,hv=>cases hv;exact d.I 14
    |j+5,hv=>exact absurd (gS hv).1 (by simp[eJ])
   |3,e=>cases e;match j,hv with
    |0,hv=>cases hv;exact d.I 15
    |1,hv=>cases hv;exact d.I 16
    |2,hv=>cases hv;exact d.I 17
    |3,hv=>cases hv;exact d.I 18
    |4,hv=>cases hv;exact d.I 19
    |j+5,hv=>exact absurd (gS hv).1 (by simp[eJ])
   |k+4,e=>exact absurd (gS e).1 (by simp)
 |1,n=>
  cases n
  refine⟨W,⟨_,l⟩,l.I 3,l.I 4,_,_,l.I 5,.inr ⟨_,_,rfl,λk o e=>⟨?_,⟨_,p⟩,λj v hv=>?_⟩⟩⟩
  ·exact a6
  ·match k,e with
   |0,e=>cases e;match j,hv with
    |0,hv=>cases hv;exact p.I 0
    |1,hv=>cases hv;exact p.I 1
    |2,hv=>cases hv;exact p.I 2
    |3,hv=>cases hv;exact p.I 3
    |4,hv=>cases hv;exact p.I 4
    |j+5,hv=>exact absurd (gS hv).1 (by simp[eJ])
   |k+1,e=>exact absurd (gS e).1 (by simp)
 |i+2,n=>exact absurd (gS n).1 (by simp[dA])
theorem n8:bW dA fg:=⟨by decide,by decide,by decide,λx a=>by simp[fg] at a;subst a;exact⟨by decide,by decide⟩,by decide,⟨by decide,λc b=>by cases b⟩⟩
theorem pH:bU dA=0:=by decide
theorem qe:lH dA:=⟨AQ pH (λx b o a=>by simp[dA] at b;rcases b with rfl|rfl<;>·simp at a;rcases a with rfl|rfl|rfl|rfl<;>exact⟨by decide,by decide⟩),pH,λx b=>by simp[dA] at b;rcases b with rfl|rfl<;>·refine⟨by decide,λo a=>?_⟩;simp at a;rcases a with rfl|rfl|rfl|rfl<;>(unfold jW;decide)⟩
end
end Go.Proofs.YtmdocplknceilaaGreat
