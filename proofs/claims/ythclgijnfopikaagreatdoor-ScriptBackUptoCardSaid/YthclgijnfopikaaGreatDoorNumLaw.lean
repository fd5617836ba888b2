/- Plain laws: a number's text is read back, and only it is. -/
import Derived.Test.YthclgijnfopikaaGreatDoorSpec8
namespace Go.Proofs.YthclgijnfopikaaGreatDoor
theorem parse_append : ∀ (a b : List UInt8) (acc : Nat), Lib.parseUint10 acc (a ++ b) = match Lib.parseUint10 acc a with | .ok v => Lib.parseUint10 v b | e => e
  | [], b, acc => rfl
  | c :: r, b, acc => by
    simp only [List.cons_append, Lib.parseUint10]
    split
    · split
      · rfl
      · split
        · rfl
        · exact parse_append r b _
    · rfl
theorem parse_one (acc d : Nat) (hd : d < 10) (h : acc * 10 + d < 18446744073709551616) : Lib.parseUint10 acc [UInt8.ofNat (48 + d)] = .ok (acc * 10 + d) := by
  have e : (UInt8.ofNat (48 + d)).toNat = 48 + d := by simp; omega
  simp only [Lib.parseUint10, e]
  rw [if_pos (by omega), if_neg (by omega), if_neg (by omega)]
  congr 1
  omega
theorem parse_dec (u : Nat) (h : u < 18446744073709551616) : Lib.parseUint10 0 (Lib.decDigits u) = .ok u := by
  induction u using Nat.strongRecOn with
  | _ u ih =>
    by_cases h10 : u < 10
    · rw [Lib.decDigits, dif_pos h10, parse_one 0 u h10 (by omega)]
      simp
    · rw [Lib.decDigits, dif_neg h10, parse_append, ih (u / 10) (by omega) (by omega)]
      simp only []
      rw [parse_one _ _ (Nat.mod_lt _ (by omega)) (by omega)]
      congr 1
      omega
theorem dec_ne (u : Nat) : Lib.decDigits u ≠ [] := by
  rw [Lib.decDigits]
  split <;> simp
theorem dec_dig (u : Nat) : ∀ c ∈ Lib.decDigits u, isDig c = true := by
  induction u using Nat.strongRecOn with
  | _ u ih =>
    intro c hc
    have one : ∀ d : Nat, d < 10 → isDig (UInt8.ofNat (48 + d)) = true := by decide
    by_cases h10 : u < 10
    · rw [Lib.decDigits, dif_pos h10] at hc
      simp only [List.mem_cons, List.not_mem_nil, or_false] at hc
      rw [hc]; exact one u h10
    · rw [Lib.decDigits, dif_neg h10] at hc
      rcases List.mem_append.1 hc with hc | hc
      · exact ih (u / 10) (by omega) c hc
      · simp only [List.mem_cons, List.not_mem_nil, or_false] at hc
        rw [hc]; exact one _ (Nat.mod_lt _ (by omega))
theorem mag_dec (u : Nat) (h : u < 18446744073709551616) : Lib.parseMag (Lib.decDigits u) = .ok u := by
  unfold Lib.parseMag
  rw [if_neg (dec_ne u), parse_dec u h]
theorem atoi_itoa (n : Int) (h0 : -9223372036854775808 ≤ n) (h1 : n ≤ 9223372036854775807) : Lib.atoiAll (Lib.itoa n) = .ok n := by
  unfold Lib.itoa
  by_cases hn : n < 0
  · rw [if_pos hn]
    simp only [Lib.atoiAll, show (45 : UInt8).toNat = 45 from rfl, or_true, if_true, mag_dec n.natAbs (by omega), not_true_eq_false, false_and, if_false, true_and]
    rw [if_neg (by omega)]
    congr 1
    omega
  · rw [if_neg hn]
    cases hd : Lib.decDigits n.toNat with
    | nil => exact absurd hd (dec_ne _)
    | cons c r =>
      have hc : isDig c = true := dec_dig n.toNat c (by rw [hd]; exact List.mem_cons_self ..)
      simp only [isDig, Bool.and_eq_true, decide_eq_true_eq] at hc
      have hm := mag_dec n.toNat (by omega)
      rw [hd] at hm
      have e43 : ¬ (c.toNat = 43 ∨ c.toNat = 45) := by omega
      have e45 : ¬ c.toNat = 45 := by omega
      unfold Lib.atoiAll
      have e43' : ¬ c.toNat = 43 := by omega
      simp only [e43', e45, or_false, if_false]
      rw [hm]
      simp only [not_false_eq_true, true_and, false_and, if_false]
      rw [if_neg (by omega)]
      congr 1
      omega
theorem itoa_pos (n : Int) : 1 ≤ (Lib.itoa n).length := by
  unfold Lib.itoa
  split
  · simp
  · have := dec_ne n.toNat
    cases h : Lib.decDigits n.toNat with
    | nil => exact absurd h this
    | cons c r => simp
theorem itoa_at (n : Int) (k : Nat) (h : k < (Lib.itoa n).length) : numAt k (Lib.itoa n)[k] = true := by
  unfold numAt
  by_cases hn : n < 0
  · have e : Lib.itoa n = 45 :: Lib.decDigits n.natAbs := by unfold Lib.itoa; rw [if_pos hn]
    simp only [e] at h ⊢
    cases k with
    | zero => rfl
    | succ k =>
      simp only [List.getElem_cons_succ]
      rw [dec_dig _ _ (List.getElem_mem _)]; rfl
  · have e : Lib.itoa n = Lib.decDigits n.toNat := by unfold Lib.itoa; rw [if_neg hn]
    simp only [e] at h ⊢
    rw [dec_dig _ _ (List.getElem_mem _)]; rfl
/-- What stands behind a field begins with no digit. -/
def Ends (rest : List UInt8) : Prop := ∀ c r, rest = c :: r → isDig c = false
theorem ends_nil : Ends [] := fun _ _ h => by cases h
theorem ends_32 (r : List UInt8) : Ends (32 :: r) := fun c r' h => by injection h with h; rw [← h]; decide
theorem ends_93 (r : List UInt8) : Ends (93 :: r) := fun c r' h => by injection h with h; rw [← h]; decide
theorem numD_itoa (n : Int) (h0 : -9223372036854775808 ≤ n) (h1 : n ≤ 9223372036854775807) (rest : List UInt8) (hr : Ends rest) : numD (Lib.itoa n ++ rest) = some (n, rest) := by
  have hl : numLen (Lib.itoa n ++ rest) = (Lib.itoa n).length := by
    refine numLenFrom_is _ 0 _ (by simp) (fun c hc hck => ?_) (fun hc => ?_)
    · rw [Nat.zero_add, List.getElem_append_left hck]
      exact itoa_at n c hck
    · rw [Nat.zero_add, List.getElem_append_right (Nat.le_refl _)]
      have hp := itoa_pos n
      have hrl : 0 < rest.length := by simp at hc; omega
      cases rest with
      | nil => simp at hrl
      | cons c r =>
        have := hr c r rfl
        simp only [numAt, Nat.sub_self, List.getElem_cons_zero, this, Bool.false_or, Bool.and_eq_false_iff, decide_eq_false_iff_not]
        left; omega
  unfold numD
  rw [hl, List.take_left, atoi_itoa n h0 h1]
  simp
theorem itoa_numD {s rest : List UInt8} {v : Int} (h : numD s = some (v, rest)) : s = Lib.itoa v ++ rest ∧ Lib.atoiAll (Lib.itoa v) = .ok v := by
  unfold numD at h
  split at h
  · rename_i v' hv
    split at h
    · rename_i e
      injection h with h
      injection h with h2 h3
      subst h2 h3
      rw [e]
      exact ⟨(List.take_append_drop _ _).symm, hv⟩
    · cases h
  · cases h
end Go.Proofs.YthclgijnfopikaaGreatDoor
