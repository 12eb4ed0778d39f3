import Derived.Test.YtmdocplknceilaaGreatRWAZ
import Derived.Test.YtmdocplknceilaaGreatRWAH
import Derived.Deep.RegionHeld3
set_option linter.all false
set_option maxRecDepth 100000
set_option maxHeartbeats 3000000
namespace Go.Proofs.YtmdocplknceilaaGreat
section
open Go.RowKit Go.Sort
theorem dP.cells4{w w':World}(k:dP w w'){e f:Nat}{T:TypeId}{a b c d:Value}(l:w.cell? ⟨e,0,none⟩=some a)(m:w.cell? ⟨e,1,none⟩=some b)(n:w.cell? ⟨f,0,none⟩=some c)(o:w.cell? ⟨f,1,none⟩=some d)(i:e<w.heap.size)(j:f<w.heap.size):
 w'.cell? ⟨e,0,none⟩=some a/\w'.cell? ⟨e,1,none⟩=some b/\w'.cell? ⟨f,0,none⟩=some c/\w'.cell? ⟨f,1,none⟩=some d:=by
 have g:=k.U;exact⟨(g.I (p:=⟨e,0,none⟩) i nF).trans l,(g.I (p:=⟨e,1,none⟩) i nF).trans m,(g.I (p:=⟨f,0,none⟩) j nF).trans n,(g.I (p:=⟨f,1,none⟩) j nF).trans o⟩
attribute [local simp] eM gw gz dj eD Region.binds ed ey Is ap Act.put
theorem Du(x y:iG)(w:World):Calls Tryz.prog 100 #[.agg (iL x).toArray,.agg (iL y).toArray] w λa w'=>a=.returned (.int .i64 (tG x y))/\dP w w':=by
 obtain⟨e,E⟩ :∃v,v=x.n.job:=⟨_,rfl⟩
 obtain⟨b,G⟩ :∃v,v=y.n.job:=⟨_,rfl⟩
 obtain⟨f,F⟩ :∃v,v=sB x.n.M:=⟨_,rfl⟩
 obtain⟨d,H⟩ :∃v,v=sB y.n.M:=⟨_,rfl⟩
 obtain⟨t,z⟩ :∃v,v=tJ e b:=⟨_,rfl⟩
 obtain⟨u,B⟩ :∃v,v=kZ f d:=⟨_,rfl⟩
 have V:tG x y=sH t u:=by rw[z,B,E,G,F,H];rfl
 have Y:Hd (∀W,Calls Tryz.prog 102 #[.int .u64 e,.int .u64 b] W λa w'=>a=.returned (.int .i64 t)/\W=w'):=hD λW=>by rw[z];exact Cx e b W
 have Z:Hd (∀W,Calls Tryz.prog 69 #[.string f,.string d] W λa w'=>a=.returned (.int .i64 u)/\W=w'):=hD λW=>by rw[B];exact tA f d W
 rw[V];unfold iL jo;simp only[<-E,<-G,<-F,<-H];obtain⟨s,o⟩:=eX (w.alloc (.cells #[.int .u64 e,.string f,.string (sB x.r.tk.M),.int .i64 x.r.tk.fn,.slice x.A x.r.tk.args.length x.c,.int .i64 (x.r.tk.fuel:Int),.int .u8 (x.r.sa:Int),.int .i64 x.r.opn,.int .i64 x.r.res.v,.int .i64 x.r.res.e] 60));obtain⟨i,p⟩:=eX (s.alloc (.cells #[.int .u64 b,.string d,.string (sB y.r.tk.M),.int .i64 y.r.tk.fn,.slice y.A y.r.tk.args.length y.c,.int .i64 (y.r.tk.fuel:Int),.int .u8 (y.r.sa:Int),.int .i64 y.r.opn,.int .i64 y.r.res.v,.int .i64 y.r.res.e] 60));obtain⟨m,C⟩ :∃g,g=w.heap.size:=⟨_,rfl⟩
 obtain⟨j,D⟩ :∃g,g=s.heap.size:=⟨_,rfl⟩
 have Q:ae s m 60 #[.int .u64 e,.string f,.string (sB x.r.tk.M),.int .i64 x.r.tk.fn,.slice x.A x.r.tk.args.length x.c,.int .i64 (x.r.tk.fuel:Int),.int .u8 (x.r.sa:Int),.int .i64 x.r.opn,.int .i64 x.r.res.v,.int .i64 x.r.res.e]:=by rw[o,C];exact bN
 have l:=Q.alloc (.cells #[.int .u64 b,.string d,.string (sB y.r.tk.M),.int .i64 y.r.tk.fn,.slice y.A y.r.tk.args.length y.c,.int .i64 (y.r.tk.fuel:Int),.int .u8 (y.r.sa:Int),.int .i64 y.r.opn,.int .i64 y.r.res.v,.int .i64 y.r.res.e] 60);rw[<-p] at l;have q:ae i j 60 #[.int .u64 b,.string d,.string (sB y.r.tk.M),.int .i64 y.r.tk.fn,.slice y.A y.r.tk.args.length y.c,.int .i64 (y.r.tk.fuel:Int),.int .u8 (y.r.sa:Int),.int .i64 y.r.opn,.int .i64 y.r.res.v,.int .i64 y.r.res.e]:=by rw[p,D];exact bN
 have K:=l.I 0;have L:=l.I 1;have N:=q.I 0;have P:=q.I 1;simp at K L N P;have S:dP w i:=by rw[p,o];exact((dP.refl w).alloc _).alloc _
 have k:Hd (∀W',dP i W'->dP i W'/\W'.cell? ⟨m,0,none⟩=some (.int .u64 e)/\W'.cell? ⟨m,1,none⟩=some (.string f)/\W'.cell? ⟨j,0,none⟩=some (.int .u64 b)/\W'.cell? ⟨j,1,none⟩=some (.string d)):=hD λW' R=>⟨R,R.cells4 (T:=60) K L N P l.lt q.lt⟩
 have a0:=hD S;have a3:=hD o.symm;have a4:=hD p.symm;have a1:=hD C;have X:j=w.heap.size+1:=by rw[D,o];simp
 have a2:=hD X;clear o p Q l q S C D X V z B E G F H K L N P;go_enter Tryz.func100,Tryz.ntmps100;go_upto_region 1 with fail;rw[a3.O,a4.O,<-a2.O,<-a1.O];have a5:=k.O i (dP.refl _)
 go_region_held3 (λW'=>dP i W'/\W'.cell? ⟨m,0,none⟩=some (.int .u64 e)/\W'.cell? ⟨m,1,none⟩=some (.string f)/\W'.cell? ⟨j,0,none⟩=some (.int .u64 b)/\W'.cell? ⟨j,1,none⟩=some (.string d))
  (first|exact k.O _ (yt ‹_›)|exact k.O _ (dP.drew (yt ‹_›))|exact k.O _ (dP.alloc (yt ‹_›) _)|exact k.O _ (dP.alloc (dP.drew (yt ‹_›)) _)|fail)
  (first
   |(go_at_call 102;refine(Y.O _).mono ?_;rintro a W' ⟨rfl,rfl⟩)
   |(go_at_call 69;refine(Z.O _).mono ?_;rintro a W' ⟨rfl,rfl⟩)
   |(go_at_call 101;refine(EV t u _ _ _ (by first|exact bN|exact ae.drew bN)).mono ?_;rintro a W' ⟨rfl,rfl⟩)
   |fail)
 go_wp2_with fail;go_ret;exact⟨rfl,a0.O.trans (yt ‹_›)⟩
end
end Go.Proofs.YtmdocplknceilaaGreat
