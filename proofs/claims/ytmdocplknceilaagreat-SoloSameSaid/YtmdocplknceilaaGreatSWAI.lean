import Derived.Test.YtmdocplknceilaaGreatSWAF
import Derived.Deep.WholeRow
import Derived.Deep.MidRow
import Derived.WalkSpells
set_option linter.all false
namespace Go.Proofs.YtmdocplknceilaaGreat
section
open Go.RowKit
def bs(s:ByteArray):List Nat:=s.data.toList.map UInt8.toNat
theorem rq(s:ByteArray):(bs s).length=s.size:=by simp[bs]
structure jx(w:World)(g:Nat)(xs:List Nat):Prop where
 lt:g<w.heap.size
 I:∀j,j<xs.length->w.cell? ⟨g,j,none⟩=some (.int .u8 ((xs.getD j 0:Nat):Int))
 free:∀j,j<xs.length->w.frozen? ⟨g,j,none⟩=false
theorem jx.only{S:Nat->Prop}{w w':World}{g:Nat}{e:List Nat}(a:jx w g e)(c:aa S w w')(d:¬S g):jx w' g e:=
 ⟨lL a.lt c.size,λj b=>(c.I (p:=⟨g,j,none⟩) a.lt d).trans (a.I j b),λj b=>(World.frozen?_of_block (c.block g a.lt d)).trans (a.free j b)⟩
section
variable {P:Program}
theorem nK(s:ByteArray)(b j:Nat)(c:j<s.size):(bytesRow s b)[j]?=some (.int .u8 (((bs s).getD j 0:Nat):Int)):=by
 have a:j<s.data.size:=c;unfold bytesRow bs;rw[zX (by simpa using a)];simp[List.getD];exact⟨s.data[j],zM a,by simp[zM a]⟩
end
end
end Go.Proofs.YtmdocplknceilaaGreat
