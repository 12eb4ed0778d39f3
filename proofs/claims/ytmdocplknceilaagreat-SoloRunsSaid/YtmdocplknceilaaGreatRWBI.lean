import Derived.Test.YtmdocplknceilaaGreatRWBG
import Derived.Test.YtmdocplknceilaaGreatRWBA
set_option linter.all false
namespace Go.Proofs.YtmdocplknceilaaGreat
section
open Go.RowKit Go.Maps Go.Sort
instance instEnt:Inhabited (Nm×Nat×aL):=⟨⟨0,[]⟩,0,⟨0,0⟩⟩
def Am(x y:Nm×Nat×aL):Int:=kZ (sB x.1.M) (sB y.1.M)
theorem qR(x y:Nm×Nat×aL):ltOf Am x y=ltStr x.1.M y.1.M:=vy _ _
theorem Gy:SWO (ltOf Am) where
 irrefl x:=by rw[qR];exact swo_ltStr.irrefl _
 trans x y z h1 h2:=by rw[qR] at*;exact swo_ltStr.trans _ _ _ h1 h2
 ntrans x y z h1 h2:=by rw[qR] at*;exact swo_ltStr.ntrans _ _ _ h1 h2
theorem CD(x:Nm×Nat×aL):(gg x).length=5:=rfl
theorem CE(x:Nm×Nat×aL):∀u∈gg x,u.oneCell'=true:=by
 intro u a;simp[gg] at a
 rcases a with rfl|rfl|rfl|rfl|rfl<;>rfl
theorem CB(x y:Nm×Nat×aL)(w:World):Calls Tryz.prog 68 #[.agg (gg x).toArray,.agg (gg y).toArray] w λk w'=>k=.returned (.int .i64 (Am x y))/\dP w w':=by
 unfold Am gg;generalize sB x.1.M=c;generalize sB y.1.M=d;obtain⟨g,a⟩:=eX (w.alloc (.cells #[.int .u64 x.1.job,.string c,.int .i64 (x.2.1:Int),.int .i64 x.2.2.v,.int .i64 x.2.2.e] 69));obtain⟨f,b⟩:=eX (g.alloc (.cells #[.int .u64 y.1.job,.string d,.int .i64 (y.2.1:Int),.int .i64 y.2.2.v,.int .i64 y.2.2.e] 69))
 have i:ae f w.heap.size 69 #[.int .u64 x.1.job,.string c,.int .i64 (x.2.1:Int),.int .i64 x.2.2.v,.int .i64 x.2.2.e]:=by
  rw[b];exact ae.alloc (by rw[a];exact bN) _
 have l:g.heap.size=w.heap.size+1:=by rw[a];simp
 have j:ae f (w.heap.size+1) 69 #[.int .u64 y.1.job,.string d,.int .i64 (y.2.1:Int),.int .i64 y.2.2.v,.int .i64 y.2.2.e]:=by rw[b,<-l];exact bN
 have o:=i.I 1;have p:=j.I 1;simp at o p;have n:Hd (dP w f):=hD (by rw[b,a];exact((dP.refl w).alloc _).alloc _);have m:=hD (λW=>tA c d W);generalize kZ c d=r at*;have e:=hD (aI a.symm b.symm);clear a b i j l;go_enter Tryz.func68,Tryz.ntmps68;go_upto_region 1 with fail;rw[e.O.1,e.O.2];clear e;go_wp2_with fail;refine(m.O _).mono ?_;rintro k q ⟨rfl,rfl⟩;go_wp2_with fail;go_ret;exact⟨rfl,n.O⟩
theorem AA(g c base:Nat)(l:List (Nm×Nat×aL))(w:World)(m:w.ownsRow base 69 5 (.slice (some ⟨g,0,none⟩) l.length c) l.length (l.flatMap gg))(t:l.length<=1000000):
 Calls Tryz.prog 67 #[.slice (some ⟨g,0,none⟩) l.length c,.func (.func 68) #[] #[]] w λf w'=>f=.returned (.tuple #[])/\∃l':List (Nm×Nat×aL),l'.Perm l/\(l'.Pairwise λa b=>¬b.1.M<a.1.M)/\
  w'.ownsRow base 69 5 (.slice (some ⟨g,0,none⟩) l.length c) l.length (l'.flatMap gg)/\aa (λb=>b=g) w w':=by
 refine(uK (k:=5) Tryz.sortEnt Tryz.isAgg69 Tryz.sizeOf69 CD CE Am Gy 68 (enters_of Tryz.func68 (by kernel_rfl) rfl) CB m (by omega)).mono ?_;rintro d w' ⟨rfl,l',p,q,r,s⟩;refine⟨rfl,l',p,?_,r,s⟩;rw[List.pairwise_iff_getElem];intro i j n e o d;have:=q i j o e;rw[qR,getElem!_pos l' i n,getElem!_pos l' j e] at this;unfold ltStr at this;simp at this;exact absurd d (List.not_lt.2 this)
end
end Go.Proofs.YtmdocplknceilaaGreat
