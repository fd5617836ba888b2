/- How fields are written. -/
import Derived.Test.YthclgijnfopikaaGreatDoorSpec6
namespace Go.Proofs.YthclgijnfopikaaGreatDoor
def plainU (u : Nat) : Bool := decide (32 ≤ u) && decide (u ≤ 126)
def bareU (u : Nat) : Bool := plainU u && !(u == 34) && !(u == 92)
def hexL : List UInt8 := [48, 49, 50, 51, 52, 53, 54, 55, 56, 57, 97, 98, 99, 100, 101, 102]
def hexAt (n : Nat) : UInt8 := hexL.getD n 0
/-- So many hexadecimal digits of u. -/
def digsD (u : Nat) : Nat → List UInt8
  | 0 => []
  | k + 1 => hexAt (u / 16 ^ k % 16) :: digsD u k
def escD (dg : Nat) (lt : UInt8) (u : Nat) : List UInt8 :=
  if bareU u = true then [UInt8.ofNat u] else if plainU u = true then [92, UInt8.ofNat u] else 92 :: lt :: digsD u dg
/-- script.quote. -/
def quoteD (dg : Nat) (lt : UInt8) (l : List Nat) : List UInt8 := [34] ++ l.flatMap (escD dg lt) ++ [34]
theorem digsD_len (u : Nat) : ∀ k, (digsD u k).length = k
  | 0 => rfl
  | k + 1 => by simp [digsD, digsD_len u k]
theorem escD_len (dg : Nat) (lt : UInt8) (u : Nat) : (escD dg lt u).length ≤ 2 + dg := by
  unfold escD
  split
  · simp; omega
  · split
    · simp
    · simp [digsD_len]; omega
theorem flat_le {α : Type} (f : α → List UInt8) (n : Nat) (h : ∀ x, (f x).length ≤ n) : ∀ l : List α, (l.flatMap f).length ≤ l.length * n
  | [] => by simp
  | x :: r => by
    have := flat_le f n h r
    have := h x
    simp only [List.flatMap_cons, List.length_append, List.length_cons, Nat.add_mul, Nat.one_mul]
    omega
theorem quoteD_len (dg : Nat) (lt : UInt8) (l : List Nat) : (quoteD dg lt l).length ≤ l.length * (2 + dg) + 2 := by
  have := flat_le (escD dg lt) (2 + dg) (escD_len dg lt) l
  unfold quoteD
  simp only [List.length_append, List.length_cons, List.length_nil]
  omega
theorem flat_snoc {α : Type} (f : α → List UInt8) (l : List α) (k : Nat) (h : k < l.length) : (l.take (k + 1)).flatMap f = (l.take k).flatMap f ++ f l[k] := by
  rw [List.take_succ_eq_append_getElem h, List.flatMap_append]; simp
theorem digsD_step (u : Nat) : ∀ (d k : Nat), k < d → (digsD u d).take (d - k) = (digsD u d).take (d - (k + 1)) ++ [hexAt (u / 16 ^ k % 16)]
  | 0, k, h => by omega
  | d + 1, k, h => by
    by_cases e : k = d
    · subst e
      have e1 : k + 1 - k = 1 := by omega
      have e2 : k + 1 - (k + 1) = 0 := by omega
      rw [e1, e2]
      simp [digsD]
    · have ih := digsD_step u d k (by omega)
      have e1 : d + 1 - k = (d - k) + 1 := by omega
      have e2 : d + 1 - (k + 1) = (d - (k + 1)) + 1 := by omega
      rw [e1, e2]
      simp only [digsD, List.take_succ_cons, List.cons_append, ih]
def nums (s : List UInt8) : List Nat := s.map (·.toNat)
def txtD (x : List UInt8) : List UInt8 := quoteD 2 120 (nums x)
/-- A list's items with blanks between. -/
def joinD : List (List UInt8) → List UInt8
  | [] => []
  | [x] => x
  | x :: y :: r => x ++ 32 :: joinD (y :: r)
/-- How the field c of m is written. -/
def wrD (m : Cmd) (c : UInt8) : List UInt8 :=
  if c = 83 then quoteD 2 120 (nums m.S) else if c = 84 then quoteD 2 120 (nums m.T) else if c = 68 then quoteD 4 117 m.data
  else if c = 76 then 91 :: joinD (m.list.map Lib.itoa) ++ [93] else if c = 75 then 91 :: joinD (m.names.map fun s => quoteD 2 120 (nums s)) ++ [93]
  else if c = 89 then (if m.yes then [121, 101, 115] else [110, 111]) else Lib.itoa (numOf c m)
end Go.Proofs.YthclgijnfopikaaGreatDoor
