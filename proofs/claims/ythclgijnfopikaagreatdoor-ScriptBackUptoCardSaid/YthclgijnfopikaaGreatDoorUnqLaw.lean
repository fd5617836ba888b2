/- Plain laws: quoted units are read back, and only they are. -/
import Derived.Test.YthclgijnfopikaaGreatDoorSpec8
namespace Go.Proofs.YthclgijnfopikaaGreatDoor
theorem hex_idx : ∀ n : Nat, n < 16 → Lib.indexByte hexL (hexAt n) = (n : Int) := by decide +kernel
theorem hex_back_all : ∀ n : Nat, n < 256 → 0 ≤ Lib.indexByte hexL (UInt8.ofNat n) → (Lib.indexByte hexL (UInt8.ofNat n)).toNat < 16 ∧ hexAt (Lib.indexByte hexL (UInt8.ofNat n)).toNat = UInt8.ofNat n := by decide +kernel
theorem hex_back (c : UInt8) (h : 0 ≤ Lib.indexByte hexL c) : (Lib.indexByte hexL c).toNat < 16 ∧ hexAt (Lib.indexByte hexL c).toNat = c := by
  have := hex_back_all c.toNat c.toNat_lt
  have e : UInt8.ofNat c.toNat = c := by simp
  rw [e] at this
  exact this h
theorem hexs_digs (x : Nat) : ∀ (k u : Nat), hexsD (digsD x k) u = some (u * 16 ^ k + x % 16 ^ k)
  | 0, u => by simp [digsD, hexsD, Nat.mod_one]
  | k + 1, u => by
    have h16 : x / 16 ^ k % 16 < 16 := Nat.mod_lt _ (by omega)
    have hi := hex_idx _ h16
    rw [digsD, hexsD, hi, if_neg (by omega), hexs_digs x k]
    congr 1
    rw [Int.toNat_natCast, Nat.pow_succ, Nat.mod_mul, Nat.add_mul, Nat.mul_assoc, Nat.mul_comm (x / 16 ^ k % 16), Nat.mul_comm 16 (16 ^ k)]
    omega
theorem digs_hexs : ∀ (l : List UInt8) (v u : Nat), hexsD l v = some u → u / 16 ^ l.length = v ∧ digsD u l.length = l
  | [], v, u, h => by simp [hexsD] at h; subst h; exact ⟨by simp, rfl⟩
  | c :: r, v, u, h => by
    unfold hexsD at h
    split at h
    · cases h
    · rename_i h0
      obtain ⟨h1, h2⟩ := hex_back c (by omega)
      obtain ⟨i1, i2⟩ := digs_hexs r _ _ h
      refine ⟨?_, ?_⟩
      · rw [List.length_cons, Nat.pow_succ, ← Nat.div_div_eq_div_mul, i1]
        omega
      · rw [List.length_cons, digsD, i1, i2]
        have e : (v * 16 + (Lib.indexByte hexL c).toNat) % 16 = (Lib.indexByte hexL c).toNat := by omega
        rw [e, h2]
theorem unq_nil (dg : Nat) (lt : UInt8) (acc : List Nat) : unqD dg lt [] acc = none := by rw [unqD]
theorem unq_end (dg : Nat) (lt : UInt8) (r : List UInt8) (acc : List Nat) : unqD dg lt (34 :: r) acc = some (acc, r) := by rw [unqD.eq_def]; rfl
theorem unq_bare {dg : Nat} {lt c : UInt8} (hb : bareU c.toNat = true) (r : List UInt8) (acc : List Nat) : unqD dg lt (c :: r) acc = unqD dg lt r (acc ++ [c.toNat]) := by
  have hc : c ≠ 34 := by rintro rfl; revert hb; decide
  rw [unqD.eq_def]
  simp only [hc, if_false, hb, if_true]
theorem unq_bad {dg : Nat} {lt c : UInt8} (hc : c ≠ 34) (hb : bareU c.toNat = false) (h92 : c ≠ 92) (r : List UInt8) (acc : List Nat) : unqD dg lt (c :: r) acc = none := by
  rw [unqD.eq_def]
  simp [hc, hb, h92]
theorem unq_92 (dg : Nat) (lt : UInt8) (acc : List Nat) : unqD dg lt [92] acc = none := by rw [unqD.eq_def]; rfl
theorem b92 : bareU (UInt8.toNat 92) = false := by decide
theorem unq_plain {dg : Nat} {lt e : UInt8} (he : e = 34 ∨ e = 92) (r : List UInt8) (acc : List Nat) : unqD dg lt (92 :: e :: r) acc = unqD dg lt r (acc ++ [e.toNat]) := by
  rw [unqD.eq_def]
  simp only [show ((92 : UInt8) = 34) = False by simp, if_false, b92, Bool.false_eq_true, ne_eq, not_true_eq_false, he, if_true]
theorem unq_letter {dg : Nat} {lt e : UInt8} (he : ¬ (e = 34 ∨ e = 92)) (r : List UInt8) (acc : List Nat) : unqD dg lt (92 :: e :: r) acc =
    if e ≠ lt ∨ r.length < dg then none else match hexsD (r.take dg) 0 with | none => none | some u => if plainU u = true then none else unqD dg lt (r.drop dg) (acc ++ [u]) := by
  rw [unqD.eq_def]
  simp only [show ((92 : UInt8) = 34) = False by simp, if_false, b92, Bool.false_eq_true, ne_eq, not_true_eq_false, he]
  rfl

theorem toNat_ofNat8 {x : Nat} (h : x < 256) : (UInt8.ofNat x).toNat = x := by simp; omega
theorem unq_esc {dg : Nat} {lt : UInt8} (hlt : ¬ (lt = 34 ∨ lt = 92)) {x : Nat} (hx : x < 16 ^ dg) (rest : List UInt8) (acc : List Nat) : unqD dg lt (escD dg lt x ++ rest) acc = unqD dg lt rest (acc ++ [x]) := by
  unfold escD
  by_cases hb : bareU x = true
  · rw [if_pos hb]
    have hp : x ≤ 126 := by unfold bareU plainU at hb; simp at hb; omega
    have e := toNat_ofNat8 (x := x) (by omega)
    have := unq_bare (dg := dg) (lt := lt) (c := UInt8.ofNat x) (by rw [e]; exact hb) rest acc
    rw [e] at this
    exact this
  · rw [if_neg hb]
    by_cases hp : plainU x = true
    · rw [if_pos hp]
      have hq : x = 34 ∨ x = 92 := by
        unfold bareU at hb
        rw [hp] at hb
        simp at hb
        omega
      have e := toNat_ofNat8 (x := x) (by omega)
      have := unq_plain (dg := dg) (lt := lt) (e := UInt8.ofNat x) (by rcases hq with rfl | rfl <;> decide) rest acc
      rw [e] at this
      exact this
    · rw [if_neg hp]
      have hl : (digsD x dg ++ rest).take dg = digsD x dg := by
        have := digsD_len x dg
        rw [List.take_append_of_le_length (by omega), List.take_of_length_le (by omega)]
      have hd : (digsD x dg ++ rest).drop dg = rest := by
        have := List.drop_left (l₁ := digsD x dg) (l₂ := rest)
        rwa [digsD_len] at this
      show unqD dg lt (92 :: lt :: (digsD x dg ++ rest)) acc = _
      rw [unq_letter hlt, if_neg (by simp [digsD_len]), hl, hexs_digs]
      simp only [Nat.zero_mul, Nat.zero_add, Nat.mod_eq_of_lt hx]
      rw [if_neg hp, hd]
theorem unq_flat {dg : Nat} {lt : UInt8} (hlt : ¬ (lt = 34 ∨ lt = 92)) (rest : List UInt8) : ∀ (l : List Nat) (acc : List Nat), (∀ x ∈ l, x < 16 ^ dg) → unqD dg lt (l.flatMap (escD dg lt) ++ 34 :: rest) acc = some (acc ++ l, rest)
  | [], acc, _ => by simpa using unq_end dg lt rest acc
  | x :: r, acc, h => by
    rw [List.flatMap_cons, List.append_assoc, unq_esc hlt (h x (List.mem_cons_self ..)), unq_flat hlt rest r _ fun y hy => h y (List.mem_cons_of_mem _ hy), List.append_assoc]
    rfl
theorem unquote_quote {dg : Nat} {lt : UInt8} (hlt : ¬ (lt = 34 ∨ lt = 92)) (l : List Nat) (rest : List UInt8) (h : ∀ x ∈ l, x < 16 ^ dg) : unquoteD dg lt (quoteD dg lt l ++ rest) = some (l, rest) := by
  have e : quoteD dg lt l ++ rest = 34 :: (l.flatMap (escD dg lt) ++ 34 :: rest) := by simp [quoteD]
  rw [e]
  show (if (34 : UInt8) = 34 then unqD dg lt (l.flatMap (escD dg lt) ++ 34 :: rest) [] else none) = _
  rw [if_pos rfl, unq_flat hlt rest l [] h]
  rfl

theorem esc_of_bare {dg : Nat} {lt c : UInt8} (h : bareU c.toNat = true) : escD dg lt c.toNat = [c] := by
  unfold escD; rw [if_pos h]; simp
theorem quote_unq {dg : Nat} {lt : UInt8} (hdg : 256 ≤ 16 ^ dg) : ∀ (n : Nat) (s : List UInt8) (acc l : List Nat) (rest : List UInt8), s.length ≤ n → unqD dg lt s acc = some (l, rest) →
    ∃ l', l = acc ++ l' ∧ s = l'.flatMap (escD dg lt) ++ 34 :: rest ∧ ∀ x ∈ l', x < 16 ^ dg
  | n, [], acc, l, rest, _, h => by rw [unq_nil] at h; cases h
  | 0, c :: r, acc, l, rest, hn, h => by simp at hn
  | n + 1, c :: r, acc, l, rest, hn, h => by
    simp only [List.length_cons] at hn
    by_cases hc : c = 34
    · subst hc
      rw [unq_end] at h
      simp only [Option.some.injEq, Prod.mk.injEq] at h
      obtain ⟨rfl, rfl⟩ := h
      exact ⟨[], by simp, rfl, fun x hx => by cases hx⟩
    · by_cases hb : bareU c.toNat = true
      · rw [unq_bare hb] at h
        obtain ⟨l', rfl, rfl, hl⟩ := quote_unq hdg n r _ _ _ (by omega) h
        refine ⟨c.toNat :: l', by simp, ?_, ?_⟩
        · rw [List.flatMap_cons, esc_of_bare hb]; rfl
        · intro x hx
          rcases List.mem_cons.1 hx with rfl | hx
          · exact Nat.lt_of_lt_of_le c.toNat_lt hdg
          · exact hl x hx
      · have hb' : bareU c.toNat = false := by simpa using hb
        by_cases h92 : c = 92
        · subst h92
          cases r with
          | nil => rw [unq_92] at h; cases h
          | cons e r2 =>
            simp only [List.length_cons] at hn
            by_cases he : e = 34 ∨ e = 92
            · rw [unq_plain he] at h
              obtain ⟨l', rfl, rfl, hl⟩ := quote_unq hdg n r2 _ _ _ (by omega) h
              refine ⟨e.toNat :: l', by simp, ?_, ?_⟩
              · have : escD dg lt e.toNat = [92, e] := by
                  rcases he with rfl | rfl <;> rfl
                rw [List.flatMap_cons, this]; rfl
              · intro x hx
                rcases List.mem_cons.1 hx with rfl | hx
                · exact Nat.lt_of_lt_of_le e.toNat_lt hdg
                · exact hl x hx
            · rw [unq_letter he] at h
              split at h
              · cases h
              · rename_i hno
                simp only [not_or, ne_eq, Classical.not_not] at hno
                obtain ⟨rfl, hlen⟩ := hno
                split at h
                · cases h
                · rename_i u hu
                  split at h
                  · cases h
                  · rename_i hp
                    have hp : plainU u = false := by simpa using hp
                    obtain ⟨l', rfl, hs, hl⟩ := quote_unq hdg n (r2.drop dg) _ _ _ (by simp; omega) h
                    have htl : (r2.take dg).length = dg := by simp; omega
                    obtain ⟨i1, i2⟩ := digs_hexs _ _ _ hu
                    rw [htl] at i1 i2
                    have hlt16 : u < 16 ^ dg := by
                      rcases Nat.lt_or_ge u (16 ^ dg) with h | h
                      · exact h
                      · have := Nat.div_pos h (Nat.pow_pos (by omega)); omega
                    refine ⟨u :: l', by simp, ?_, ?_⟩
                    · have hbu : bareU u = false := by unfold bareU; rw [hp]; rfl
                      have : escD dg e u = 92 :: e :: r2.take dg := by
                        unfold escD; rw [if_neg (by simp [hbu]), if_neg (by simp [hp]), i2]
                      rw [List.flatMap_cons, this, List.append_assoc, ← hs]
                      simp
                    · intro x hx
                      rcases List.mem_cons.1 hx with rfl | hx
                      · exact hlt16
                      · exact hl x hx
        · rw [unq_bad hc hb' h92] at h; cases h
theorem quote_unquote {dg : Nat} {lt : UInt8} (hdg : 256 ≤ 16 ^ dg) {s : List UInt8} {l : List Nat} {rest : List UInt8} (h : unquoteD dg lt s = some (l, rest)) : s = quoteD dg lt l ++ rest ∧ ∀ x ∈ l, x < 16 ^ dg := by
  unfold unquoteD at h
  split at h
  · cases h
  · rename_i c r
    split at h
    · rename_i hc
      subst hc
      obtain ⟨l', rfl, rfl, hl⟩ := quote_unq hdg _ _ _ _ _ (Nat.le_refl _) h
      exact ⟨by simp [quoteD], by simpa using hl⟩
    · cases h
end Go.Proofs.YthclgijnfopikaaGreatDoor
