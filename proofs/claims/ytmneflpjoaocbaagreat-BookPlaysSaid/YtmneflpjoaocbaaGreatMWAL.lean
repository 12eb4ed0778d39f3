/- Several texts in one: BkP. -/
/- Books, plain: what sectors a stream makes, and the stream of sectors. No program in sight. -/
namespace Go.Proofs.YtmneflpjoaocbaaGreat
set_option maxRecDepth 100000
/-- the part of a stream that sector k has -/
def cutL (s : List UInt8) (k : Nat) : List UInt8 := (s.drop (k * 127)).take 127
/-- a sector, as a stream makes it -/
def madeL (s : List UInt8) (k : Nat) : List UInt8 := cutL s k ++ List.replicate (127 - (cutL s k).length) 0 ++ [UInt8.ofNat (cutL s k).length]
/-- what sectors have -/
def streamL : List (List UInt8) → List UInt8
  | [] => []
  | t :: r =>
    let c := (t.getD 127 0).toNat
    let m := if 127 < c then 0 else c
    t.take m ++ (if m < 127 then [] else streamL r)
theorem cutL_len (s : List UInt8) (k : Nat) : (cutL s k).length = min 127 (s.length - k * 127) := by simp [cutL]
theorem cutL_le (s : List UInt8) (k : Nat) : (cutL s k).length ≤ 127 := by rw [cutL_len]; omega
theorem madeL_len (s : List UInt8) (k : Nat) : (madeL s k).length = 128 := by
  have := cutL_le s k
  simp [madeL]
  omega
end Go.Proofs.YtmneflpjoaocbaaGreat
