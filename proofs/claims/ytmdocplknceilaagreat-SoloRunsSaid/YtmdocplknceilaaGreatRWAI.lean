import Derived.Test.YtmdocplknceilaaGreatRWAF
import Derived.Deep.WholeRow
import Derived.Deep.MidRow
import Derived.WalkSpells
set_option linter.all false
namespace Go.Proofs.YtmdocplknceilaaGreat
section
open Go.RowKit
def bs(s:ByteArray):List Nat:=s.data.toList.map UInt8.toNat
theorem tB(s:ByteArray):(bs s).length=s.size:=by simp[bs]
structure kA(w:World)(g:Nat)(xs:List Nat):Prop where
 lt:g<w.heap.size
 I:∀j,j<xs.length->w.cell? ⟨g,j,none⟩=some (.int .u8 ((xs.getD j 0:Nat):Int))
 free:∀j,j<xs.length->w.frozen? ⟨g,j,none⟩=false
theorem kA.only{S:Nat->Prop}{w w':World}{g:Nat}{xs:List Nat}(a:kA w g xs)(c:aa S w w')(d:¬S g):kA w' g xs:=
 ⟨lL a.lt c.size,λj b=>(c.I (p:=⟨g,j,none⟩) a.lt d).trans (a.I j b),λj b=>(World.frozen?_of_block (c.block g a.lt d)).trans (a.free j b)⟩
section
variable {P:Program}
theorem pP(s:ByteArray)(b j:Nat)(c:j<s.size):(bytesRow s b)[j]?=some (.int .u8 (((bs s).getD j 0:Nat):Int)):=by
 have a:j<s.data.size:=c;unfold bytesRow bs;rw[zX (by simpa using a)];simp[List.getD];exact⟨s.data[j],zM a,by simp[zM a]⟩
theorem vw{b:Oper}{a:Act}{w w':World}{c:Act->World->Prop}{Q:Exit->Act->World->Prop}(e:TypeId)(x y:Operand)(g:b.op=.store e x y){d v:Value}(j:a.eval x=d)(k:a.eval y=v)
 (i:(Instr.storeAt e d v).run P w=.ok () w') (f:c (a.put b.dst undef) w'):b.wp P a w c Q:=by
 unfold Oper.wp execOp;simp only[g,j,k,Sem.run_bind,Sem.run_pure,Result.andThen_ok,i];exact f
theorem ky{d:Array Oper}{f:List Oper}{b:Oper}{a:Act}{w w':World}{Q:Exit->Act->World->Prop}(j:b.guard=none)(c:TypeId)(x y:Operand)(k:b.op=.store c x y){e v:Value}(m:a.eval x=e)(n:a.eval y=v)
 (l:(Instr.storeAt c e v).run P w=.ok () w') (g:wpList P d Q f (a.put b.dst undef) w'):wpList P d Q (b :: f) a w:=
 wpList_plain j λ_ i=>vw c x y k m n l (i _ _ g)
end
end
end Go.Proofs.YtmdocplknceilaaGreat
