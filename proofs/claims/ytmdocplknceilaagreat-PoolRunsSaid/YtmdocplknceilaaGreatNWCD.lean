import Derived.Test.YtmdocplknceilaaGreatNWBX
import Derived.Test.YtmdocplknceilaaGreatNWCA
import Derived.Test.YtmdocplknceilaaGreatNWCB
import Derived.Test.YtmdocplknceilaaGreatNWCC
set_option linter.all false
namespace Go.Proofs.YtmdocplknceilaaGreat
section
open Go.RowKit Go.Maps
theorem wT{p:List ah}{e:List Int}{a:Int}(b:js p e.length a=0)(r:∀x∈p,x.ops.length<=200)(l:∀x∈p,∀o∈x.ops,jW o/\dJ o.n)(q:∀x∈e,dJ x):
 lH p/\bW p ⟨[],0,e,a.toNat⟩/\0<=a:=by
 have i:io p e.length=0:=by
  by_cases d:io p e.length=0
  ·exact d
  ·rw[sk d] at b
   exact absurd b d
 have m:0<=a/\a<=65536:=by
  unfold js at b;rw[yb (by rw[i];simp)] at b;split at b
  ·cases b
  ·rename_i d
   constructor<;>·refine Classical.byContradiction λt=>d ?_;omega
 have f:=uH i;have k:gC p:=AQ f λx g o j=>(l x g o j).2
 have s:0<p.length:=zK.2 k.p0;refine⟨⟨k,f,λx g=>⟨lT (r x g) (by decide),λo j=>(l x g o j).1⟩⟩,⟨yE _,?_,Aj i,q,?_,?_⟩,m.1⟩
 ·show(0:Int)<(p.length:Int)
  exact yB.2 s
 ·show a.toNat<=65536
  omega
 ·exact⟨by simp,λc f=>by cases f⟩
abbrev Dt:=Nat×Nat
def A9(x:Dt):List Value:=[.int .u8 (x.1:Int),.int .u32 (x.2:Int)]
theorem Fg{w:World}{A:Option Addr}{ps:List Dt}(n:cO w w.heap.size 2 A ps.length (ps.flatMap A9)){k:Nat}{x:Dt}(c:ps[k]?=some x):∃b o,A=some ⟨b,o,none⟩/\w.cell? ⟨b,o+k*2,none⟩=some (.int .u8 (x.1:Int))/\w.cell? ⟨b,o+k*2+1,none⟩=some (.int .u32 (x.2:Int)):=by
 have u:k<ps.length:=(gS c).1;obtain⟨l,m,t,a⟩:=n.2 (by omega);obtain⟨y,f,i⟩:=iy A9 (k:=2) (λ_=>rfl) ps (k*2) (by omega);obtain⟨v,g,j⟩:=iy A9 (k:=2) (λ_=>rfl) ps (k*2+1) (by omega);rw[show k*2 / 2=k by omega,c] at f;rw[show(k*2+1) / 2=k by omega,c] at g
 cases f
 cases g
 rw[show k*2 % 2=0 by omega] at i;rw[show(k*2+1) % 2=1 by omega] at j;have d:=a (k*2) _ (i.trans rfl);have e:=a (k*2+1) _ (j.trans rfl);obtain⟨b,o,s⟩:=l;obtain⟨z,_,p⟩:=iy A9 (k:=2) (λ_=>rfl) ps 0 (by omega);have q:=World.cell?_spot (a 0 _ (p.trans rfl));have r:s=none:=by simpa[Addr.add] using q
 subst r;rw[bw] at d e;exact⟨b,o,m,d,e⟩
end
end Go.Proofs.YtmdocplknceilaaGreat
