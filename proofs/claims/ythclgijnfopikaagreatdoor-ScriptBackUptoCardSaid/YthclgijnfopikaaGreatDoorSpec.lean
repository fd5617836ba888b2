/- What chapter 28's program computes, in plain Lean: no program in sight. -/
import Derived.Lib.AtoiAll
import Derived.Lib.ItoaNum
import Derived.Laws.Strings
namespace Go.Proofs.YthclgijnfopikaaGreatDoor

/-! ### the forms -/
def formsL : List (List UInt8 × List UInt8) :=
  [([], []),
   ([101, 108, 101, 109, 101, 110, 116], [83, 84]),
   ([116, 101, 120, 116], [68]),
   ([99, 111, 109, 109, 101, 110, 116], [68]),
   ([102, 114, 97, 103, 109, 101, 110, 116], []),
   ([99, 108, 111, 110, 101], [65, 89]),
   ([97, 116, 116, 97, 99, 104], [65, 78, 89]),
   ([105, 110, 115, 101, 114, 116], [65, 66, 67]),
   ([114, 101, 112, 108, 97, 99, 101], [65, 66, 67]),
   ([114, 101, 109, 111, 118, 101], [65, 66]),
   ([110, 111, 114, 109, 97, 108, 105, 122, 101], [65]),
   ([99, 111, 110, 116, 101, 110, 116], [65, 68]),
   ([97, 115, 115, 105, 103, 110], [65, 76]),
   ([100, 97, 116, 97], [65, 78, 77, 68]),
   ([115, 112, 108, 105, 116], [65, 78]),
   ([115, 101, 116, 97, 116, 116, 114], [65, 83, 84]),
   ([100, 101, 108, 97, 116, 116, 114], [65, 83]),
   ([116, 111, 103, 103, 108, 101], [65, 83, 78]),
   ([114, 97, 110, 103, 101], [65, 78, 66, 77]),
   ([101, 120, 116, 114, 97, 99, 116], [65]),
   ([101, 114, 97, 115, 101], [65]),
   ([105, 116, 101, 114, 97, 116, 101], [65, 78]),
   ([115, 116, 101, 112], [65, 89]),
   ([111, 98, 115, 101, 114, 118, 101, 114], [78]),
   ([111, 98, 115, 101, 114, 118, 101], [65, 66, 78]),
   ([116, 97, 107, 101], [65]),
   ([100, 105, 115, 99, 111, 110, 110, 101, 99, 116], [65]),
   ([108, 105, 115, 116, 101, 110], [65, 83, 78, 77, 66]),
   ([117, 110, 108, 105, 115, 116, 101, 110], [65, 83, 78, 77]),
   ([100, 105, 115, 112, 97, 116, 99, 104], [65, 83, 78]),
   ([101, 102, 102, 101, 99, 116], [78]),
   ([115, 105, 103, 110, 97, 108], []),
   ([97, 98, 111, 114, 116], [65, 78]),
   ([97, 110, 121], [76]),
   ([100, 101, 102, 105, 110, 101], [83, 84, 76, 75]),
   ([116, 97, 115, 107], [78, 77]),
   ([109, 105, 99, 114, 111], [77]),
   ([116, 105, 109, 101, 114], [78, 77]),
   ([99, 108, 101, 97, 114], [65]),
   ([116, 105, 99, 107], [78]),
   ([116, 117, 114, 110], [78]),
   ([97, 115, 107], [65, 78]),
   ([103, 101, 116], [65, 83]),
   ([102, 105, 110, 100], [65, 83]),
   ([100, 117, 109, 112], [65])]
def word (op : Nat) : List UInt8 := (formsL.getD op ([], [])).1
def flds (op : Nat) : List UInt8 := (formsL.getD op ([], [])).2
def str (l : List UInt8) : ByteArray := ⟨l.toArray⟩
theorem str_data (s : ByteArray) : str s.data.toList = s := rfl
theorem data_str (l : List UInt8) : (str l).data.toList = l := rfl
theorem str_inj {a b : ByteArray} (h : a.data.toList = b.data.toList) : a = b := by
  obtain ⟨⟨l⟩⟩ := a; obtain ⟨⟨m⟩⟩ := b; simp at h; rw [h]
theorem toList_inj {a b : ByteArray} (h : a.toList = b.toList) : a = b := str_inj (by rw [ByteArray.toList_eq, ByteArray.toList_eq] at h; exact h)
theorem seq_yes {a b : ByteArray} (h : a = b) : (a.toList == b.toList) = true := by rw [h]; exact beq_self_eq_true _
theorem seq_no {a b : ByteArray} (h : a ≠ b) : (a.toList == b.toList) = false := beq_eq_false_iff_ne.2 (fun e => h (toList_inj e))
theorem sne_no {a b : ByteArray} (h : a = b) : (a.toList != b.toList) = false := by rw [h]; simp
theorem sne_yes {a b : ByteArray} (h : a ≠ b) : (a.toList != b.toList) = true := by
  rw [bne_iff_ne]; exact fun e => h (toList_inj e)
theorem word_out (op : Nat) (h : 45 ≤ op) : word op = [] ∧ flds op = [] := by
  have : formsL.getD op ([], []) = ([], []) := by
    rw [List.getD_eq_getElem?_getD, List.getElem?_eq_none (by show 45 ≤ op; exact h)]; rfl
  exact ⟨by unfold word; rw [this], by unfold flds; rw [this]⟩

/-! ### Find -/
def findOp (s : ByteArray) : Nat := ((List.range 45).find? fun i => decide (0 < i) && decide (str (word i) = s)).getD 0
theorem findOp_lt (s : ByteArray) : findOp s < 45 := by
  unfold findOp
  cases h : (List.range 45).find? fun i => decide (0 < i) && decide (str (word i) = s) with
  | none => decide
  | some i => exact List.mem_range.1 (List.mem_of_find?_eq_some h)
theorem findOp_at {s : ByteArray} {k : Nat} (h0 : 0 < k) (h1 : k < 45) (hk : str (word k) = s) (hn : ∀ c, c < k → 0 < c → str (word c) ≠ s) : findOp s = k := by
  have : (List.range 45).find? (fun i => decide (0 < i) && decide (str (word i) = s)) = some k := by
    rw [List.find?_range_eq_some]
    refine ⟨by simp [h0, hk], by simpa using h1, fun j hj => ?_⟩
    by_cases hj0 : 0 < j
    · simp [hn j hj hj0]
    · simp [hj0]
  unfold findOp
  rw [this]; rfl
theorem findOp_none {s : ByteArray} (hn : ∀ c, c < 45 → 0 < c → str (word c) ≠ s) : findOp s = 0 := by
  have : (List.range 45).find? (fun i => decide (0 < i) && decide (str (word i) = s)) = none := by
    rw [List.find?_eq_none]
    intro x hx
    have hx := List.mem_range.1 hx
    by_cases hj0 : 0 < x
    · simp [hn x hx hj0]
    · simp [hj0]
  unfold findOp
  rw [this]; rfl

/-! ### numbers -/
def isDig (c : UInt8) : Bool := decide (48 ≤ c.toNat) && decide (c.toNat ≤ 57)
/-- Does the byte at place i belong to the numeral's spelling? -/
def numAt (i : Nat) (c : UInt8) : Bool := isDig c || (decide (i = 0) && decide (c.toNat = 45))
def numLenFrom (i : Nat) : List UInt8 → Nat
  | [] => 0
  | c :: r => if numAt i c = true then numLenFrom (i + 1) r + 1 else 0
def numLen (l : List UInt8) : Nat := numLenFrom 0 l
theorem numLenFrom_is : ∀ (k i : Nat) (l : List UInt8), k ≤ l.length → (∀ c (h : c < l.length), c < k → numAt (i + c) l[c] = true) →
    (∀ h : k < l.length, numAt (i + k) l[k] = false) → numLenFrom i l = k
  | 0, i, l, _, _, h => by
    cases l with
    | nil => rfl
    | cons c r =>
      have := h (by simp)
      simp only [List.getElem_cons_zero, Nat.add_zero] at this
      simp [numLenFrom, this]
  | k + 1, i, l, hk, ha, h => by
    cases l with
    | nil => simp at hk
    | cons c r =>
      have h0 := ha 0 (by simp) (by omega)
      simp only [List.getElem_cons_zero, Nat.add_zero] at h0
      simp only [numLenFrom, h0, if_true]
      rw [numLenFrom_is k (i + 1) r (by simpa using hk) (fun c hc hck => ?_) (fun hc => ?_)]
      · have := ha (c + 1) (by simpa using hc) (by omega)
        simp only [List.getElem_cons_succ] at this
        rw [show i + 1 + c = i + (c + 1) by omega]; exact this
      · have := h (by simpa using hc)
        simp only [List.getElem_cons_succ] at this
        rw [show i + 1 + k = i + (k + 1) by omega]; exact this
theorem numLenFrom_le : ∀ (i : Nat) (l : List UInt8), numLenFrom i l ≤ l.length
  | _, [] => by simp [numLenFrom]
  | i, c :: r => by
    simp only [numLenFrom]
    split
    · have := numLenFrom_le (i + 1) r; simp; omega
    · simp
/-- script.number: the number, and what is behind it. -/
def numD (l : List UInt8) : Option (Int × List UInt8) :=
  match Lib.atoiAll (l.take (numLen l)) with
  | .ok v => if Lib.itoa v = l.take (numLen l) then some (v, l.drop (numLen l)) else none
  | _ => none

/-! ### lines -/
def lineFold (f : UInt8 → List UInt8) (cs : List UInt8) : List UInt8 := cs.flatMap fun c => 32 :: f c
def lineOut (op : Nat) (f : UInt8 → List UInt8) : List UInt8 := word op ++ lineFold f (flds op)
/-- script.Line: the line and the error. -/
def lineD (op : Nat) (f : UInt8 → List UInt8) : List UInt8 × Int :=
  if word op = [] then ([], 23) else if 1048576 < (lineOut op f).length then ([], 4) else (lineOut op f, 0)
end Go.Proofs.YthclgijnfopikaaGreatDoor
