import Derived.Test.YtmdocplknceilaaGreatRWAQ
import Derived.Sort.Statements
import Derived.Sort.Grow
import Derived.Sort.Walk0
import Derived.Laws.Cover1
set_option linter.all false
namespace Go.Proofs.YtmdocplknceilaaGreat
section
open Go.RowKit Go.Sort
def tJ(a b:Int):Int:=if a<b then-1 else if b<a then 1 else 0
def kZ(a b:ByteArray):Int:=if Op.bytesLess a.toList b.toList=true then-1 else if (Op.bytesLess a.toList b.toList||a.toList==b.toList)=true then 0 else 1
theorem Cx(a b:Int)(w:World):Calls Tryz.prog 102 #[.int .u64 a,.int .u64 b] w λc w'=>c=.returned (.int .i64 (tJ a b))/\w=w':=by
 have d:∀(x:Int) (W:World),Calls Tryz.prog 146 #[.int .u64 x] W λc w'=>c=.returned (.bool false)/\W=w':=λx W=>by
  go_enter Tryz.func146,Tryz.ntmps146;go_wp2_with fail;go_ret;exact⟨rfl,rfl⟩
 unfold tJ
 by_cases e:a<b
 ·rw[yf e]
  go_enter Tryz.func102,Tryz.ntmps102
  go_wp2_with (first|(go_at_call 146;refine(d _ _).mono ?_;rintro c g ⟨rfl,rfl⟩)|fail)
  go_ret;exact⟨rfl,rfl⟩
 ·rw[yb e]
  by_cases f:b<a
  ·rw[yf f]
   go_enter Tryz.func102,Tryz.ntmps102
   go_wp2_with (first|(go_at_call 146;refine(d _ _).mono ?_;rintro c g ⟨rfl,rfl⟩)|fail)
   go_ret;exact⟨rfl,rfl⟩
  ·rw[yb f]
   go_enter Tryz.func102,Tryz.ntmps102
   go_wp2_with (first|(go_at_call 146;refine(d _ _).mono ?_;rintro c g ⟨rfl,rfl⟩)|fail)
   go_ret;exact⟨rfl,rfl⟩
theorem Cw(a b:ByteArray)(w:World):Calls Tryz.prog 165 #[.string a,.string b] w λc w'=>c=.returned (.int .i64 (kZ a b))/\w=w':=by
 have d:∀(x:ByteArray) (W:World),Calls Tryz.prog 205 #[.string x] W λc w'=>c=.returned (.bool false)/\W=w':=λx W=>by
  go_enter Tryz.func205,Tryz.ntmps205;go_wp2_with fail;go_ret;exact⟨rfl,rfl⟩
 obtain⟨g,f⟩:=eX a.toList;unfold kZ
 cases h1:Op.bytesLess a.toList b.toList
 ·cases h2:(a.toList==b.toList)
  ·simp only[zB,Yi,Bool.or_self]
   go_enter Tryz.func165,Tryz.ntmps165
   go_wp2_with (first|(go_at_call 205;refine(d _ _).mono ?_;rintro c e ⟨rfl,rfl⟩)|fail)
   go_ret;exact⟨rfl,rfl⟩
  ·simp only[zB,Yi,Bool.or_true,yR]
   go_enter Tryz.func165,Tryz.ntmps165
   go_wp2_with (first|(go_at_call 205;refine(d _ _).mono ?_;rintro c e ⟨rfl,rfl⟩)|fail)
   go_ret;exact⟨rfl,rfl⟩
 ·simp only[yR]
  go_enter Tryz.func165,Tryz.ntmps165
  go_wp2_with (first|(go_at_call 205;refine(d _ _).mono ?_;rintro c e ⟨rfl,rfl⟩)|fail)
  go_ret;exact⟨rfl,rfl⟩
theorem Dl(a b:ByteArray)(w:World):Calls Tryz.prog 121 #[.string a,.string b] w λc w'=>c=.returned (.int .i64 (kZ a b))/\w=w':=by
 have d:=λW=>Cw a b W
 generalize kZ a b=r at*;go_enter Tryz.func121,Tryz.ntmps121
 go_wp2_with (first|(go_at_call 165;refine(d _).mono ?_;rintro c e ⟨rfl,rfl⟩)|fail)
 go_ret;exact⟨rfl,rfl⟩
theorem tA(a b:ByteArray)(w:World):Calls Tryz.prog 69 #[.string a,.string b] w λc w'=>c=.returned (.int .i64 (kZ a b))/\w=w':=by
 have d:=λW=>Dl a b W
 generalize kZ a b=r at*;go_enter Tryz.func69,Tryz.ntmps69
 go_wp2_with (first|(go_at_call 121;refine(d _).mono ?_;rintro c e ⟨rfl,rfl⟩)|fail)
 go_ret;exact⟨rfl,rfl⟩
def sH(a b:Int):Int:=if a≠0 then a else b
def FS(k:Nat)(a b:Int):Prop:=(1<=k->a=0)/\(2<=k->b=0)
theorem EV(a b:Int)(g c:Nat)(w:World)(t:ae w g 3 #[.int .i64 a,.int .i64 b]):Calls Tryz.prog 101 #[.slice (some ⟨g,0,none⟩) 2 c] w λe w'=>e=.returned (.int .i64 (sH a b))/\w=w':=by
 obtain⟨r,q⟩:=eX (sH a b);rw[<-q];have n:=hD q;obtain⟨o,p⟩:=t.gE2;have u:=hD o;have v:=hD p;clear q t o p;go_enter Tryz.func101,Tryz.ntmps101;go_wp2_with fail
 go_loopw [8] (λi wr=>∃k:Nat,k<=2/\i=.int .i64 k/\FS k a b/\w=wr) (λi _=>2-(intOf i).toNat)
 case atStart=>exact⟨0,by decide,rfl,⟨λe=>absurd e (by decide),λe=>absurd e (by decide)⟩,rfl⟩
 case round=>
  obtain⟨k,y,rfl,⟨f,l⟩,rfl⟩:=hrel
  match k,y with
  |0,_=>
   have o:=u.O
   by_cases d:a=0
   ·have s:(a==0)=true:=by rw[d];rfl
    have j:=hD d;clear d f l;go_wp2_with fail;go_roundw
    case rel=>exact⟨1,by decide,rfl,⟨λ_=>j.O,λe=>absurd e (by decide)⟩,trivial⟩
    case measure=>simp[intOf]
   ·have s:(a==0)=false:=bF d
    have j:=hD d;clear d f l;go_wp2_with fail;go_ret;exact⟨by rw[n.O];unfold sH;rw[yf j.O];rfl,rfl⟩
  |1,_=>
   have p:=v.O;have m:=hD (f (lR))
   by_cases d:b=0
   ·have s:(b==0)=true:=by rw[d];rfl
    have j:=hD d;clear d f l;go_wp2_with fail;go_roundw
    case rel=>exact⟨2,by decide,rfl,⟨λ_=>m.O,λ_=>j.O⟩,trivial⟩
    case measure=>simp[intOf]
   ·have s:(b==0)=false:=bF d
    have j:=hD d;clear d f l;go_wp2_with fail;go_ret;exact⟨by rw[n.O];unfold sH;rw[yb (λe=>e m.O)];rfl,rfl⟩
  |2,_=>
   have m:=hD (f (by decide));have x:=hD (l (by decide));clear f l;go_wp2_with fail;go_ret;exact⟨by rw[n.O];unfold sH;rw[yb (λe=>e m.O),x.O];rfl,rfl⟩
def dP(w w':World):Prop:=∃q os,w'=grow (w.drewN q) os
theorem dP.refl(w:World):dP w w:=⟨0,#[],by rw[grow_empty];rfl⟩
theorem dP.alloc{w w':World}(a:dP w w')(o:Obj):dP w (w'.alloc o):=by
 obtain⟨q,b,rfl⟩:=a;exact⟨q,b++ #[o],by rw[alloc_eq_grow,grow_grow]⟩
theorem dP.drew{w w':World}(a:dP w w'):dP w w'.drew:=by
 obtain⟨q,b,rfl⟩:=a;exact⟨q+1,b,rfl⟩
theorem dP.trans{w w' a:World}(b:dP w w')(k:dP w' a):dP w a:=by
 obtain⟨q,c,rfl⟩:=b;obtain⟨q',d,rfl⟩:=k;refine⟨q+q',c++d,?_⟩;unfold World.drewN grow;simp[zx]
theorem dP.U{w w':World}(c:dP w w'):ac w w':=by
 obtain⟨q,a,rfl⟩:=c;refine⟨rfl,rfl,rfl,?_,λb d _=>?_⟩
 ·show w.heap.size<=(w.heap++a).size
  simp
 ·show(w.heap++a)[b]?=w.heap[b]?
  rw[zX d]
structure iG where
 n:Nm
 r:aG
 A:Option Addr
 c:Nat
instance:Inhabited iG:=⟨⟨⟨0,[]⟩,⟨⟨[],0,[],0⟩,0,0,⟨0,0⟩,false,0,false⟩,none,0⟩⟩
def iL(x:iG):List Value:=(jo x.n x.r x.A x.c).toList
def tG(x y:iG):Int:=sH (tJ x.n.job y.n.job) (kZ (sB x.n.M) (sB y.n.M))
end
end Go.Proofs.YtmdocplknceilaaGreat
