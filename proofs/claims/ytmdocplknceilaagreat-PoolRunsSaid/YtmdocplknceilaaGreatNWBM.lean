import Derived.Test.YtmdocplknceilaaGreatNWAU
import Derived.Sort.Statements
import Derived.Sort.Grow
import Derived.Sort.Walk0
import Derived.Laws.Cover1
import Derived.Deep.RegionHeld3
import Derived.Shelf.SlSortCmp.WholeK
set_option linter.all false
set_option maxRecDepth 100000
set_option maxHeartbeats 3000000
namespace Go.Proofs.YtmdocplknceilaaGreat
section
open Go.RowKit Go.Sort
def tj(a b:Int):Int:=if a<b then-1 else if b<a then 1 else 0
def mx(a b:ByteArray):Int:=if Op.bytesLess a.toList b.toList=true then-1 else if (Op.bytesLess a.toList b.toList||a.toList==b.toList)=true then 0 else 1
theorem B3(a b:Int)(w:World):Calls Tryz.prog 102 #[.int .u64 a,.int .u64 b] w λe w'=>e=.returned (.int .i64 (tj a b))/\w=w':=by
 have c:∀(x:Int) (W:World),Calls Tryz.prog 146 #[.int .u64 x] W λe w'=>e=.returned (.bool false)/\W=w':=λx W=>by
  go_enter Tryz.func146,Tryz.ntmps146;go_wp2_with fail;go_ret;exact⟨rfl,rfl⟩
 unfold tj
 by_cases d:a<b
 ·rw[yf d]
  go_enter Tryz.func102,Tryz.ntmps102
  go_wp2_with (first|(go_at_call 146;refine(c _ _).mono ?_;rintro e i ⟨rfl,rfl⟩)|fail)
  go_ret;exact⟨rfl,rfl⟩
 ·rw[yb d]
  by_cases f:b<a
  ·rw[yf f]
   go_enter Tryz.func102,Tryz.ntmps102
   go_wp2_with (first|(go_at_call 146;refine(c _ _).mono ?_;rintro e i ⟨rfl,rfl⟩)|fail)
   go_ret;exact⟨rfl,rfl⟩
  ·rw[yb f]
   go_enter Tryz.func102,Tryz.ntmps102
   go_wp2_with (first|(go_at_call 146;refine(c _ _).mono ?_;rintro e i ⟨rfl,rfl⟩)|fail)
   go_ret;exact⟨rfl,rfl⟩
theorem BZ(a b:ByteArray)(w:World):Calls Tryz.prog 165 #[.string a,.string b] w λe w'=>e=.returned (.int .i64 (mx a b))/\w=w':=by
 have c:∀(x:ByteArray) (W:World),Calls Tryz.prog 205 #[.string x] W λe w'=>e=.returned (.bool false)/\W=w':=λx W=>by
  go_enter Tryz.func205,Tryz.ntmps205;go_wp2_with fail;go_ret;exact⟨rfl,rfl⟩
 obtain⟨i,f⟩:=eX a.toList;unfold mx
 cases h1:Op.bytesLess a.toList b.toList
 ·cases h2:(a.toList==b.toList)
  ·simp only[zB,Yi,Bool.or_self]
   go_enter Tryz.func165,Tryz.ntmps165
   go_wp2_with (first|(go_at_call 205;refine(c _ _).mono ?_;rintro e d ⟨rfl,rfl⟩)|fail)
   go_ret;exact⟨rfl,rfl⟩
  ·simp only[zB,Yi,Bool.or_true,yR]
   go_enter Tryz.func165,Tryz.ntmps165
   go_wp2_with (first|(go_at_call 205;refine(c _ _).mono ?_;rintro e d ⟨rfl,rfl⟩)|fail)
   go_ret;exact⟨rfl,rfl⟩
 ·simp only[yR]
  go_enter Tryz.func165,Tryz.ntmps165
  go_wp2_with (first|(go_at_call 205;refine(c _ _).mono ?_;rintro e d ⟨rfl,rfl⟩)|fail)
  go_ret;exact⟨rfl,rfl⟩
theorem CM(a b:ByteArray)(w:World):Calls Tryz.prog 121 #[.string a,.string b] w λe w'=>e=.returned (.int .i64 (mx a b))/\w=w':=by
 have c:=λW=>BZ a b W
 generalize mx a b=r at*;go_enter Tryz.func121,Tryz.ntmps121
 go_wp2_with (first|(go_at_call 165;refine(c _).mono ?_;rintro e d ⟨rfl,rfl⟩)|fail)
 go_ret;exact⟨rfl,rfl⟩
theorem BL(a b:ByteArray)(w:World):Calls Tryz.prog 69 #[.string a,.string b] w λe w'=>e=.returned (.int .i64 (mx a b))/\w=w':=by
 have c:=λW=>CM a b W
 generalize mx a b=r at*;go_enter Tryz.func69,Tryz.ntmps69
 go_wp2_with (first|(go_at_call 121;refine(c _).mono ?_;rintro e d ⟨rfl,rfl⟩)|fail)
 go_ret;exact⟨rfl,rfl⟩
def sd(a b:Int):Int:=if a≠0 then a else b
def E5(k:Nat)(a b:Int):Prop:=(1<=k->a=0)/\(2<=k->b=0)
theorem Ei(a b:Int)(g c:Nat)(w:World)(y:ae w g 3 #[.int .i64 a,.int .i64 b]):Calls Tryz.prog 101 #[.slice (some ⟨g,0,none⟩) 2 c] w λe w'=>e=.returned (.int .i64 (sd a b))/\w=w':=by
 obtain⟨r,u⟩:=eX (sd a b);rw[<-u];have p:=hD u;obtain⟨q,s⟩:=y.gE2;have A:=hD q;have B:=hD s;clear u y q s;go_enter Tryz.func101,Tryz.ntmps101;go_wp2_with fail
 go_loopw [8] (λi wr=>∃k:Nat,k<=2/\i=.int .i64 k/\E5 k a b/\w=wr) (λi _=>2-(intOf i).toNat)
 case atStart=>exact⟨0,by decide,rfl,⟨λe=>absurd e (by decide),λe=>absurd e (by decide)⟩,rfl⟩
 case round=>
  obtain⟨k,D,rfl,⟨f,m⟩,rfl⟩:=hrel
  match k,D with
  |0,_=>
   have q:=A.O
   by_cases d:a=0
   ·have x:(a==0)=true:=by rw[d];rfl
    have j:=hD d;clear d f m;go_wp2_with fail;go_roundw
    case rel=>exact⟨1,by decide,rfl,⟨λ_=>j.O,λe=>absurd e (by decide)⟩,trivial⟩
    case measure=>simp[intOf]
   ·have x:(a==0)=false:=bF d
    have j:=hD d;clear d f m;go_wp2_with fail;go_ret;exact⟨by rw[p.O];unfold sd;rw[yf j.O];rfl,rfl⟩
  |1,_=>
   have s:=B.O;have o:=hD (f (lR))
   by_cases d:b=0
   ·have x:(b==0)=true:=by rw[d];rfl
    have j:=hD d;clear d f m;go_wp2_with fail;go_roundw
    case rel=>exact⟨2,by decide,rfl,⟨λ_=>o.O,λ_=>j.O⟩,trivial⟩
    case measure=>simp[intOf]
   ·have x:(b==0)=false:=bF d
    have j:=hD d;clear d f m;go_wp2_with fail;go_ret;exact⟨by rw[p.O];unfold sd;rw[yb (λe=>e o.O)];rfl,rfl⟩
  |2,_=>
   have o:=hD (f (by decide));have C:=hD (m (by decide));clear f m;go_wp2_with fail;go_ret;exact⟨by rw[p.O];unfold sd;rw[yb (λe=>e o.O),C.O];rfl,rfl⟩
def ev(w w':World):Prop:=∃q os,w'=grow (w.drewN q) os
theorem ev.refl(w:World):ev w w:=⟨0,#[],by rw[grow_empty];rfl⟩
theorem ev.alloc{w w':World}(a:ev w w')(o:Obj):ev w (w'.alloc o):=by
 obtain⟨q,c,rfl⟩:=a;exact⟨q,c++ #[o],by rw[alloc_eq_grow,grow_grow]⟩
theorem ev.drew{w w':World}(a:ev w w'):ev w w'.drew:=by
 obtain⟨q,c,rfl⟩:=a;exact⟨q+1,c,rfl⟩
theorem ev.trans{w w' a:World}(c:ev w w')(k:ev w' a):ev w a:=by
 obtain⟨q,d,rfl⟩:=c;obtain⟨q',f,rfl⟩:=k;refine⟨q+q',d++f,?_⟩;unfold World.drewN grow;simp[zx]
theorem ev.U{w w':World}(c:ev w w'):ac w w':=by
 obtain⟨q,a,rfl⟩:=c;refine⟨rfl,rfl,rfl,?_,λb d _=>?_⟩
 ·show w.heap.size<=(w.heap++a).size
  simp
 ·show(w.heap++a)[b]?=w.heap[b]?
  rw[zX d]
structure iB where
 n:Nm
 r:aG
 A:Option Addr
 c:Nat
instance:Inhabited iB:=⟨⟨⟨0,[]⟩,⟨⟨[],0,[],0⟩,0,0,⟨0,0⟩,false,0,false⟩,none,0⟩⟩
def iG(x:iB):List Value:=(jf x.n x.r x.A x.c).toList
def td(x y:iB):Int:=sd (tj x.n.job y.n.job) (mx (sB x.n.M) (sB y.n.M))
theorem ev.cells4{w w':World}(q:ev w w'){f i:Nat}{T:TypeId}{a b c d:Value}(s:w.cell? ⟨f,0,none⟩=some a)(u:w.cell? ⟨f,1,none⟩=some b)(x:w.cell? ⟨i,0,none⟩=some c)(y:w.cell? ⟨i,1,none⟩=some d)(m:f<w.heap.size)(o:i<w.heap.size):
 w'.cell? ⟨f,0,none⟩=some a/\w'.cell? ⟨f,1,none⟩=some b/\w'.cell? ⟨i,0,none⟩=some c/\w'.cell? ⟨i,1,none⟩=some d:=by
 have j:=q.U;exact⟨(j.I (p:=⟨f,0,none⟩) m nF).trans s,(j.I (p:=⟨f,1,none⟩) m nF).trans u,(j.I (p:=⟨i,0,none⟩) o nF).trans x,(j.I (p:=⟨i,1,none⟩) o nF).trans y⟩
attribute [local simp] ew fe fD cL dP Region.binds dD dN Is ao Act.put
theorem CU(x y:iB)(w:World):Calls Tryz.prog 100 #[.agg (iG x).toArray,.agg (iG y).toArray] w λe w'=>e=.returned (.int .i64 (td x y))/\ev w w':=by
 obtain⟨f,L⟩ :∃v,v=x.n.job:=⟨_,rfl⟩
 obtain⟨a,Q⟩ :∃v,v=y.n.job:=⟨_,rfl⟩
 obtain⟨i,N⟩ :∃v,v=sB x.n.M:=⟨_,rfl⟩
 obtain⟨d,R⟩ :∃v,v=sB y.n.M:=⟨_,rfl⟩
 obtain⟨D,F⟩ :∃v,v=tj f a:=⟨_,rfl⟩
 obtain⟨E,G⟩ :∃v,v=mx i d:=⟨_,rfl⟩
 have a2:td x y=sd D E:=by rw[F,G,L,Q,N,R];rfl
 have a4:Hd (∀W,Calls Tryz.prog 102 #[.int .u64 f,.int .u64 a] W λe w'=>e=.returned (.int .i64 D)/\W=w'):=hD λW=>by rw[F];exact B3 f a W
 have a5:Hd (∀W,Calls Tryz.prog 69 #[.string i,.string d] W λe w'=>e=.returned (.int .i64 E)/\W=w'):=hD λW=>by rw[G];exact BL i d W
 rw[a2];unfold iG jf;simp only[<-L,<-Q,<-N,<-R];obtain⟨C,s⟩:=eX (w.alloc (.cells #[.int .u64 f,.string i,.string (sB x.r.tk.M),.int .i64 x.r.tk.fn,.slice x.A x.r.tk.args.length x.c,.int .i64 (x.r.tk.fuel:Int),.int .u8 (x.r.sa:Int),.int .i64 x.r.opn,.int .i64 x.r.res.v,.int .i64 x.r.res.e] 60));obtain⟨j,u⟩:=eX (C.alloc (.cells #[.int .u64 a,.string d,.string (sB y.r.tk.M),.int .i64 y.r.tk.fn,.slice y.A y.r.tk.args.length y.c,.int .i64 (y.r.tk.fuel:Int),.int .u8 (y.r.sa:Int),.int .i64 y.r.opn,.int .i64 y.r.res.v,.int .i64 y.r.res.e] 60));obtain⟨q,H⟩ :∃g,g=w.heap.size:=⟨_,rfl⟩
 obtain⟨m,K⟩ :∃g,g=C.heap.size:=⟨_,rfl⟩
 have Z:ae C q 60 #[.int .u64 f,.string i,.string (sB x.r.tk.M),.int .i64 x.r.tk.fn,.slice x.A x.r.tk.args.length x.c,.int .i64 (x.r.tk.fuel:Int),.int .u8 (x.r.sa:Int),.int .i64 x.r.opn,.int .i64 x.r.res.v,.int .i64 x.r.res.e]:=by rw[s,H];exact bN
 have p:=Z.alloc (.cells #[.int .u64 a,.string d,.string (sB y.r.tk.M),.int .i64 y.r.tk.fn,.slice y.A y.r.tk.args.length y.c,.int .i64 (y.r.tk.fuel:Int),.int .u8 (y.r.sa:Int),.int .i64 y.r.opn,.int .i64 y.r.res.v,.int .i64 y.r.res.e] 60);rw[<-u] at p;have B:ae j m 60 #[.int .u64 a,.string d,.string (sB y.r.tk.M),.int .i64 y.r.tk.fn,.slice y.A y.r.tk.args.length y.c,.int .i64 (y.r.tk.fuel:Int),.int .u8 (y.r.sa:Int),.int .i64 y.r.opn,.int .i64 y.r.res.v,.int .i64 y.r.res.e]:=by rw[u,K];exact bN
 have S:=p.I 0;have V:=p.I 1;have X:=B.I 0;have Y:=B.I 1;simp at S V X Y;have a1:ev w j:=by rw[u,s];exact((ev.refl w).alloc _).alloc _
 have o:Hd (∀W',ev j W'->ev j W'/\W'.cell? ⟨q,0,none⟩=some (.int .u64 f)/\W'.cell? ⟨q,1,none⟩=some (.string i)/\W'.cell? ⟨m,0,none⟩=some (.int .u64 a)/\W'.cell? ⟨m,1,none⟩=some (.string d)):=hD λW' a0=>⟨a0,a0.cells4 (T:=60) S V X Y p.lt B.lt⟩
 have a6:=hD a1;have a9:=hD s.symm;have ab:=hD u.symm;have a7:=hD H;have a3:m=w.heap.size+1:=by rw[K,s];simp
 have a8:=hD a3;clear s u Z p B a1 H K a3 a2 F G L Q N R S V X Y;go_enter Tryz.func100,Tryz.ntmps100;go_upto_region 1 with fail;rw[a9.O,ab.O,<-a8.O,<-a7.O];have ad:=o.O j (ev.refl _)
 go_region_held3 (λW'=>ev j W'/\W'.cell? ⟨q,0,none⟩=some (.int .u64 f)/\W'.cell? ⟨q,1,none⟩=some (.string i)/\W'.cell? ⟨m,0,none⟩=some (.int .u64 a)/\W'.cell? ⟨m,1,none⟩=some (.string d))
  (first|exact o.O _ (yt ‹_›)|exact o.O _ (ev.drew (yt ‹_›))|exact o.O _ (ev.alloc (yt ‹_›) _)|exact o.O _ (ev.alloc (ev.drew (yt ‹_›)) _)|fail)
  (first
   |(go_at_call 102;refine(a4.O _).mono ?_;rintro e W' ⟨rfl,rfl⟩)
   |(go_at_call 69;refine(a5.O _).mono ?_;rintro e W' ⟨rfl,rfl⟩)
   |(go_at_call 101;refine(Ei D E _ _ _ (by first|exact bN|exact ae.drew bN)).mono ?_;rintro e W' ⟨rfl,rfl⟩)
   |fail)
 go_wp2_with fail;go_ret;exact⟨rfl,a6.O.trans (yt ‹_›)⟩
end
section
open Go.RowKit Go.Sort Go.Shelf Go.Lib
theorem iy{α:Type}(enc:α->List Value){k:Nat}(d:∀x,(enc x).length=k):∀(l:List α) (t:Nat),t<l.length*k->∃x,l[t / k]?=some x/\(l.flatMap enc)[t]?=(enc x)[t % k]?
 | [],t,c=>by simp at c
 |a :: l,t,c=>by
  have o:0<k:=by
   rcases Nat.eq_zero_or_pos k with e|e
   ·rw[e,Nat.mul_zero] at c;omega
   ·exact e
  rw[yZ]
  by_cases f:t<k
  ·refine⟨a,by rw[Nat.div_eq_of_lt f];rfl,?_⟩
   rw[yi (by rw[d];exact f),Nat.mod_eq_of_lt f]
  ·have i:k<=t:=yA f
   obtain⟨x,j,m⟩:=iy enc d l (t-k) (by rw[zo,Nat.add_mul,Nat.one_mul] at c;omega);refine⟨x,?_,?_⟩
   ·rw[Nat.div_eq_sub_div o i]
    exact j
   ·rw[yK (by rw[d];exact i),d,m,Nat.mod_eq_sub_mod i]
theorem nZ{α:Type}[Inhabited α](enc:α->List Value){k:Nat}(c:∀x,(enc x).length=k)(l:List α)(t:Nat)(a:t<l.length*k):(l.flatMap enc)[t]?=some (flatK enc k l.toArray)[t]!:=by
 obtain⟨x,i,j⟩:=iy enc c l t a
 have m:0<k:=by
  rcases Nat.eq_zero_or_pos k with e|e
  ·rw[e,Nat.mul_zero] at a;omega
  ·exact e
 rw[get_flatK _ _ _ _ (by simpa using a),j]
 have f:l.toArray[t / k]! =x:=by
  rw[List.getElem!_toArray,List.getElem!_eq_getElem?_getD,i];rfl
 rw[f];have d:t % k<(enc x).length:=by rw[c];exact Yj _ m
 rw[gG d,List.getElem!_eq_getElem?_getD,gG d];rfl
theorem vJ{α:Type}[Inhabited α](enc:α->List Value){k:Nat}(d:∀x,(enc x).length=k)(l:List α):(flatK enc k l.toArray).toList=l.flatMap enc:=by
 have i:(l.flatMap enc).length=l.length*k:=by
  induction l with
  |nil=>simp
  |cons a l j=>rw[yZ,yk,d,j,zo,Nat.add_mul,Nat.one_mul,Nat.add_comm]
 apply zt;intro t
 by_cases c:t<l.length*k
 ·rw[nZ enc d l t c]
  have f:t<(flatK enc k l.toArray).size:=by simpa using c
  rw[zj,zM f,getElem!_pos _ t f]
 ·rw[zv (by simpa using yA c),zv (by rw[i];exact yA c)]
section
variable {α:Type}[Inhabited α]{P:Program}{w w':World}{enc:α->List Value}{k base g n cap:Nat}{e:TypeId}{l:List α}
theorem Bu(p:∀x,(enc x).length=k)(i:w.ownsRow base e k (.slice (some ⟨g,0,none⟩) l.length cap) l.length (l.flatMap enc)):HoldsK enc k w g 0 l.toArray/\g<w.heap.size:=by
 rcases i.2 with⟨a,_⟩|⟨s,q,cur,a,u,m,y,A,B,o⟩
 ·cases a
 ·cases a
  have c:ae w g e cur:=m;refine⟨λj d=>?_,c.lt⟩;rw[size_flatK,List.size_toArray] at d;rw[yq];refine⟨?_,c.fz j⟩;rw[c.I j];have f:=nZ enc p l j d;rw[<-o,List.getElem?_take_of_lt d,zj] at f;exact f
theorem wU(s:∀x,(enc x).length=k)(A:w.ownsRow base e k (.slice (some ⟨g,0,none⟩) l.length cap) l.length (l.flatMap enc))(j:Nat)(a:List α)(d:Array Obj)(q:a.length=l.length):
 (sortWorldK enc k w g 0 j a.toArray d).ownsRow base e k (.slice (some ⟨g,0,none⟩) l.length cap) l.length (a.flatMap enc)/\aa (λb=>b=g) w (sortWorldK enc k w g 0 j a.toArray d):=by
 rcases A.2 with⟨f,_⟩|⟨K,H,cur,f,B,m,o,C,p,L⟩
 ·cases f
 ·cases f
  have F:g<w.heap.size:=(yu.1 m).1;have i:(sortWorldK enc k w g 0 j a.toArray d).heap=(w.heap.modify g (onCells (putCells id 0 (flatK enc k a.toArray))))++d:=rfl;have u:(a.flatMap enc).length=l.length*k:=by rw[<-vJ enc s a,Array.length_toList,size_flatK,List.size_toArray,q]
  constructor
  ·refine⟨u,.inr ⟨g,cap,putCells id 0 (flatK enc k a.toArray) cur,rfl,B,?_,o,C,?_,?_⟩⟩
   ·rw[i,zX (by simpa using F),Array.getElem?_modify,yf rfl,m]
    rfl
   ·unfold putCells
    rw[Array.size_mapIdx];exact p
   ·apply zt
    intro t
    by_cases c:t<l.length*k
    ·rw[List.getElem?_take_of_lt c,zj]
     have y:t<a.length*k:=by rw[q];exact c
     rw[nZ enc s a t y];unfold putCells
     have E:t<cur.size:=by
      rw[p];exact lL c (zP k o)
     rw[Array.getElem?_mapIdx,zM E];simp only[yU,yx,yq,true_and,Nat.sub_zero,id_eq];rw[yf (by simpa using y)]
    ·rw[zv (by rw[ze];omega),zv (by rw[u];exact yA c)]
  ·refine⟨rfl,rfl,rfl,?_,λb D G=>?_⟩
   ·rw[i,Array.size_append,Array.size_modify]
    exact Nat.le_add_right _ _
   ·rw[i,zX (by simpa using D),Array.getElem?_modify,yb (λe=>G e.symm)]
theorem C8{ρ:Ren}(L:SlLaysF0.n6 P ρ)(F:∀w,(isAgg (ρ.t 24)).run P w=.ok true w)(a2:∀w,(Go.sizeOf (ρ.t 24)).run P w=.ok k w)(f:∀x,(enc x).length=k)(N:∀x,∀v∈enc x,v.oneCell'=true)(c:α->α->Int)(R:SWO (ltOf c))(fn:Nat)
 (K:∀args w,(callFunc fn args).run P w=.ok (.enter fn args) w) (S:∀(x y:α) (W:World),Calls P fn #[.agg (enc x).toArray,.agg (enc y).toArray] W λe w'=>e=.returned (.int .i64 (c x y))/\∃q a1,w'=grow (W.drewN q) a1)
 (p:w.ownsRow base e k (.slice (some ⟨g,0,none⟩) l.length cap) l.length (l.flatMap enc)) (Y:l.length<4611686018427387904):
 Calls P (ρ.f 6) #[.slice (some ⟨g,0,none⟩) l.length cap,.func (.func fn) #[] #[]] w λo w'=>o=.returned (.tuple #[])/\∃l':List α,l'.Perm l/\(∀i j,i<j->j<l'.length->ltOf c l'[j]! l'[i]! =false)/\
  w'.ownsRow base e k (.slice (some ⟨g,0,none⟩) l.length cap) l.length (l'.flatMap enc)/\aa (λb=>b=g) w w':=by
 obtain⟨Q,Z⟩:=Bu f p;have d:l.toArray.size=l.length:=List.size_toArray;have s:=AnyQ.slices_SortFunc L k F a2 enc f N c R fn #[] g 0 cap l.toArray w K (λB C a3 d x y=>by simpa using S x y _) Q Z (by rw[d];exact Y);rw[d] at s;refine s.mono ?_;rintro o w' ⟨T,a,B,C,⟨m,a4,A⟩,a0,rfl⟩;rw[d] at m;have u:a.toList.length=l.length:=by rw[Array.length_toList];exact m
 obtain⟨D,E⟩:=wU f p B a.toList C u;rw[Array.toArray_toList] at D E;refine⟨T,a.toList,?_,λi j V X=>?_,D,E⟩
 ·have G:(a.extract 0 l.length).toList=a.toList:=by rw[<-m];simp
  have H:(l.toArray.extract 0 l.length).toList=l:=by simp
  rw[G,H] at A;exact A
 ·have:=a0 i j (yx _) V (by rw[<-u];exact X)
  simpa[<-Array.getElem!_toList] using this
end
end
section
open Go.RowKit Go.Maps
def i5(P:Program)(w:World)(k:TypeId)(b r:Nat)(g:Value->Option Value)(cnt:Nat)(dN:List Value)(left:Nat):Prop:=
 ∃D lf,w.ranges P k qj b r cnt D lf left/\Maps.size D=cnt/\(∀key kl,keyOf P k key=some kl->(g key=none->Maps.has D kl=false)/\∀v,g key=some v->Maps.has D kl=true/\∀z,D.atKey kl z=.held v)/\
  ∀key kl,keyOf P k key=some kl->(lf kl=true↔g key≠none/\key ∉ dN)
section
variable {P:Program}{w w':World}{k t e:TypeId}{b r cnt left:Nat}{g:Value->Option Value}{key v z:Value}{kl:Lit}{dN:List Value}
theorem i5.heap(i:i5 P w k b r g cnt dN left)(s:w'.heap[b]?=w.heap[b]?)(u:w'.heap[r]?=w.heap[r]?):i5 P w' k b r g cnt dN left:=by
 obtain⟨a,x,⟨f,d,A,B,c,j,F,m,o,p,y⟩,q⟩:=i;exact⟨a,x,⟨f,d,A,B,c,s.trans j,F,m,o,u.trans p,y⟩,q⟩
theorem i5.only{S:Nat->Prop}(a:i5 P w k b r g cnt dN left)(d:aa S w w')(i:¬S b)(j:¬S r):i5 P w' k b r g cnt dN left:=by
 have f:=a;obtain⟨m,o,c,_⟩:=f;exact a.heap (d.block b c.owns.lt i) (d.block r c.lt j)
theorem i5.left_eq(a:i5 P w k b r g cnt dN left):w.rangeLeft b r=left:=by
 obtain⟨d,f,c,_⟩:=a;exact c.left_eq
theorem aN.range(j:aN P w k b g cnt)(i:Keyed P k)(B:P.underlying t=some (.map k e)):
 ∃w',(Instr.range t (.map (some b))).run P w=.ok (.pointer (some ⟨w.heap.size,0,none⟩)) w'/\i5 P w' k b w.heap.size g cnt [] cnt/\ac w w'/\w'.heap.size=w.heap.size+1:=by
 obtain⟨f,m,a,c⟩:=j;obtain⟨w',y,d,q,A⟩:=m.range i B;refine⟨w',y,⟨f,_,by rw[<-a];rw[<-a] at d;exact d,a,c,λkey kl s=>?_⟩,(aa.refl _ w).grown q (λx C=>by cases C),A⟩;obtain⟨o,p⟩:=c key kl s
 cases hgk:g key with
 |none=>rw[o hgk];simp
 |some u=>rw[(p u hgk).1];simp
theorem i5.next(H:i5 P w k b r g cnt dN left)(i:Keyed P k)(p:TypeId):
 (left=0/\(∀key kl,keyOf P k key=some kl->g key≠none->key∈dN)/\(Instr.next (.pointer (some ⟨r,0,none⟩)) false p).run P w=.ok (.tuple #[.bool false]) w)\/
 ∃key v w' B,(∃kl,keyOf P k key=some kl)/\g key=some v/\key ∉ dN/\(Instr.next (.pointer (some ⟨r,0,none⟩)) false p).run P w=.ok (.tuple #[.bool true,key,v]) w'/\i5 P w' k b r g cnt (key :: dN) B/\B<left/\aa (λx=>x=r) w w'/\
  (Instr.entry (.pointer (some ⟨r,0,none⟩))).run P w'=.ok (.tuple #[key,v]) w':=by
 obtain⟨C,a5,K,L,q,o⟩:=H
 rcases K.next i p with⟨E,F,G⟩|⟨key,v,kl,y,w',D,a,T,A,V,W,X,Y,Z,a4,S⟩
 ·refine .inl ⟨E,λkey kl Q d=>?_,G⟩
  by_cases s:key∈dN
  ·exact s
  ·have:=(o key kl Q).2 ⟨d,s⟩
   rw[F] at this
   cases this
 ·obtain⟨a2,a3⟩:=(o key kl a).1 T
  have hv:g key=some v:=by
   cases d:g key with
   |none=>exact absurd d a2
   |some u=>
    have:=((q key kl a).2 u d).2 (.held v);rw[V] at this;simp only[qj,yC] at A;rw[<-A] at this;simp only[DataW.held.injEq] at this;rw[this]
  refine .inr ⟨key,v,w',D,⟨kl,a⟩,hv,a3,W,⟨C,_,X,L,q,λa0 a1 f=>?_⟩,Y,(aa.refl _ w).grown Z λx R=>by cases R;exact .inl rfl,S⟩;have N:=o a0 a1 f;simp only[zm,Bool.not_eq_true',yG,not_or];rw[N];constructor
  ·rintro ⟨⟨j,m⟩,c⟩
   refine⟨j,λe=>?_,m⟩;subst e;rw[a] at f
   cases f
   rw[WideAt.sameKey_self (i.key a)] at c
   cases c
  ·rintro ⟨j,m,c⟩
   exact⟨⟨j,c⟩,Maps.sameKey_ne λe=>m (i.inj f (e ▸ a))⟩
theorem mO{d:Array Oper}{f:List Oper}{o:Oper}{a:Act}{Q:Exit->Act->World->Prop}(p:o.guard=none)(c:Operand)(t:TypeId)(s:o.op=Op.range t c)(k e:TypeId)(i:Keyed P k)(y:P.underlying t=some (.map k e))
 (q:a.eval c=.map (some b)) (u:aN P w k b g cnt)
 (j:∀w',i5 P w' k b w.heap.size g cnt [] cnt->ac w w'->w'.heap.size=w.heap.size+1->wpList P d Q f (a.put o.dst (.pointer (some ⟨w.heap.size,0,none⟩))) w'):
 wpList P d Q (o :: f) a w:=by
 refine wpList_plain p λD m=>?_
 obtain⟨w',x,A,B,C⟩:=u.range i y;unfold Oper.wp;simp[execOp,s,q,x,Result.andThen];exact m _ _ (j w' A B C)
theorem nR{α:Type}{j:Array Oper}{m:List Oper}{o:Oper}{a:Act}{Q:Exit->Act->World->Prop}(H:o.guard=none)(A:Operand)(u:o.op=Op.next A false)(B:Keyed P k)(c f:α->Value)
 (L:∀key v,g key=some v->∃x,key=c x/\v=f x) (s:a.eval A=.pointer (some ⟨r,0,none⟩)) (C:i5 P w k b r g cnt dN left)
 (E:left=0->(∀key kl,keyOf P k key=some kl->g key≠none->key∈dN)->wpList P j Q m (a.put o.dst (.tuple #[.bool false])) w)
 (F:∀(x:α) (w':World) (d:Nat),g (c x)=some (f x)->c x ∉ dN->i5 P w' k b r g cnt (c x :: dN) d->d<left->aa (λy=>y=r) w w'->
  (Instr.entry (.pointer (some ⟨r,0,none⟩))).run P w'=.ok (.tuple #[c x,f x]) w'->wpList P j Q m (a.put o.dst (.tuple #[.bool true,c x,f x])) w'):
 wpList P j Q (o :: m) a w:=by
 refine wpList_plain H λV p=>?_
 unfold Oper.wp
 rcases C.next B o.type with⟨D,N,i⟩|⟨key,v,w',d,W,q,S,i,T,R,K,G⟩
 ·simp[execOp,u,s,i,Result.andThen]
  exact p _ _ (E D N)
 ·obtain⟨x,rfl,rfl⟩:=L key v q
  simp[execOp,u,s,i,Result.andThen];exact p _ _ (F x w' d q S T R K G)
end
end
end Go.Proofs.YtmdocplknceilaaGreat
