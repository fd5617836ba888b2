/- More plain lemmas: a line is written field by field. -/
import Derived.Test.YthclgijnfopikaaGreatDoorSpec
namespace Go.Proofs.YthclgijnfopikaaGreatDoor
theorem lineFold_snoc (f : UInt8 → List UInt8) (cs : List UInt8) (k : Nat) (h : k < cs.length) : lineFold f (cs.take (k + 1)) = lineFold f (cs.take k) ++ ([32] ++ f cs[k]) := by
  unfold lineFold
  rw [List.take_succ_eq_append_getElem h, List.flatMap_append]
  simp
theorem lineFold_le (f : UInt8 → List UInt8) (cs : List UInt8) (k : Nat) : (lineFold f (cs.take k)).length ≤ (lineFold f cs).length := by
  unfold lineFold
  conv => rhs; rw [← List.take_append_drop k cs, List.flatMap_append, List.length_append]
  omega
theorem word_len (op : Nat) : (word op).length ≤ 16 := by
  by_cases h : op < 45
  · have : ((List.range 45).all fun i => decide ((word i).length ≤ 16)) = true := by decide +kernel
    have := List.all_eq_true.1 this op (List.mem_range.2 h)
    simpa using this
  · rw [(word_out op (by omega)).1]; simp
theorem lineD_long {op : Nat} {f : UInt8 → List UInt8} {k : Nat} (hw : word op ≠ []) (h : 1048576 < (word op ++ lineFold f ((flds op).take k)).length) : lineD op f = ([], 4) := by
  have := lineFold_le f (flds op) k
  unfold lineD
  rw [if_neg hw, if_pos]
  unfold lineOut
  simp only [List.length_append] at h ⊢
  omega
theorem lineD_ok {op : Nat} {f : UInt8 → List UInt8} (hw : word op ≠ []) (h : (word op ++ lineFold f (flds op)).length ≤ 1048576) : lineD op f = (lineOut op f, 0) := by
  unfold lineD
  rw [if_neg hw, if_neg]
  unfold lineOut; omega
end Go.Proofs.YthclgijnfopikaaGreatDoor
