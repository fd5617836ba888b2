/- The law ScriptKnown: its walk. -/
import Derived.Test.YthclgijnfopikaaDoorBegins
namespace Go.Proofs.YthclgijnfopikaaDoor
open Go.RowKit

theorem word_ne : ∀ c : Nat, c < 45 → 0 < c → word c ≠ [] := by decide +kernel
theorem word_inj : ∀ a : Nat, a < 45 → ∀ b : Nat, b < 45 → 0 < a → 0 < b → word a = word b → a = b := by decide +kernel
theorem word_zero : word 0 = [] := by decide +kernel
theorem str_eq {a b : List UInt8} (h : str a = str b) : a = b := by
  have := congrArg (fun s : ByteArray => s.data.toList) h
  simpa [str] using this
theorem find_word (a : Nat) (h0 : 0 < a) (h1 : a < 45) : findOp (str (word a)) = a :=
  findOp_at h0 h1 rfl (fun c hc h0' e => by have := word_inj c (by omega) a h1 h0' h0 (str_eq e); omega)
theorem find_empty : findOp (str []) = 0 := findOp_none (fun c hc h0 e => word_ne c hc h0 (str_eq e))
theorem word_none (a : Nat) (h : a = 0 ∨ 45 ≤ a) : word a = [] := by
  rcases h with rfl | h
  · exact word_zero
  · exact (word_out a h).1

set_option maxHeartbeats 8000000 in
set_option maxRecDepth 100000 in
theorem known_none {B : Nat} (a b : Nat) (ha : a = 0 ∨ 45 ≤ a) (w : World) (hG : Glob B w) : Calls Tryd.prog 3 #[.int .u8 a, .int .u8 b] w fun e w' => e = .returned (.bool true) ∧ Below w.heap.size w w' := by
  have HB := Asd.mk (fun W (h : Glob B W) => begins_calls W h)
  obtain ⟨s0, hs0⟩ : ∃ s, s = str [] := ⟨_, rfl⟩
  have HW : Asd (∀ W, Calls Tryd.prog 5 #[.int .u8 a] W fun e w' => e = .returned (.string s0) ∧ Below W.heap.size W w') := ⟨fun W => by have := word_calls a W; rw [word_none a ha, ← hs0] at this; exact this⟩
  have HF : Asd (∀ W, Calls Tryd.prog 6 #[.string s0] W fun e w' => e = .returned (.tuple #[.int .u8 0, .bool false]) ∧ Below W.heap.size W w') := ⟨fun W => by have := find_calls s0 W; unfold FindPost at this; rw [hs0, find_empty, ← hs0] at this; exact this⟩
  have heq : s0.toList.isEmpty = true := by rw [hs0]; exact (isEmpty_str _).2 rfl
  have HG := Asd.mk hG
  clear hG hs0
  have ht : ((a : Int) == 0) = false → decide ((45 : Int) ≤ (a : Int)) = true := fun h => by
    have : ¬ (a : Int) = 0 := by simpa using h
    simp; omega
  by_cases h0 : a = 0
  · have hz : ((a : Int) == 0) = true := by simp [h0]
    have H0 := Asd.mk h0
    clear h0 ht ha
    go_enter Tryd.func3, Tryd.ntmps3
    go_wp2_with fail
    refine (HB.out _ HG.out).mono ?_
    rintro e w1 ⟨rfl, hb1⟩
    have B1 := Asd.mk hb1
    clear hb1
    go_wp2_with fail
    refine (HW.out _).mono ?_
    rintro e w2 ⟨rfl, hb2⟩
    have B2 := Asd.mk (bl_trans B1.out hb2)
    clear hb2
    go_wp2_with fail
    refine (HF.out _).mono ?_
    rintro e w3 ⟨rfl, hb3⟩
    have B3 := Asd.mk (bl_trans B2.out hb3)
    clear hb3
    go_wp2_with fail
    go_ret
    exact ⟨rfl, B3.out⟩
  · have hz : ((a : Int) == 0) = false := by simp [h0]
    have h45 := ht hz
    have H0 := Asd.mk h0
    clear h0 ht ha
    go_enter Tryd.func3, Tryd.ntmps3
    go_wp2_with fail
    refine (HB.out _ HG.out).mono ?_
    rintro e w1 ⟨rfl, hb1⟩
    have B1 := Asd.mk hb1
    clear hb1
    go_wp2_with fail
    refine (HW.out _).mono ?_
    rintro e w2 ⟨rfl, hb2⟩
    have B2 := Asd.mk (bl_trans B1.out hb2)
    clear hb2
    go_wp2_with fail
    refine (HF.out _).mono ?_
    rintro e w3 ⟨rfl, hb3⟩
    have B3 := Asd.mk (bl_trans B2.out hb3)
    clear hb3
    go_wp2_with fail
    go_ret
    exact ⟨rfl, B3.out⟩

set_option maxHeartbeats 8000000 in
set_option maxRecDepth 100000 in
theorem known_some {B : Nat} (a b : Nat) (ha : 0 < a) (ha2 : a < 45) (w : World) (hG : Glob B w) : Calls Tryd.prog 3 #[.int .u8 a, .int .u8 b] w fun e w' => e = .returned (.bool true) ∧ Below w.heap.size w w' := by
  have HB := Asd.mk (fun W (h : Glob B W) => begins_calls W h)
  obtain ⟨s0, hs0⟩ : ∃ s, s = str (word a) := ⟨_, rfl⟩
  obtain ⟨s1, hs1⟩ : ∃ s, s = str (word b) := ⟨_, rfl⟩
  have HW : Asd (∀ W, Calls Tryd.prog 5 #[.int .u8 a] W fun e w' => e = .returned (.string s0) ∧ Below W.heap.size W w') := ⟨fun W => by rw [hs0]; exact word_calls a W⟩
  have HV : Asd (∀ W, Calls Tryd.prog 5 #[.int .u8 b] W fun e w' => e = .returned (.string s1) ∧ Below W.heap.size W w') := ⟨fun W => by rw [hs1]; exact word_calls b W⟩
  have HF : Asd (∀ W, Calls Tryd.prog 6 #[.string s0] W fun e w' => e = .returned (.tuple #[.int .u8 a, .bool true]) ∧ Below W.heap.size W w') := ⟨fun W => by
    have := find_calls s0 W; unfold FindPost at this; rw [hs0, find_word a ha ha2, ← hs0] at this
    have e : decide (0 < a) = true := by simpa using ha
    rw [e] at this; exact this⟩
  have heq : s0.toList.isEmpty = false := by rw [hs0]; have := mt (isEmpty_str (word a)).1 (word_ne a ha2 ha); simpa using this
  have hz : ((a : Int) == 0) = false := by simp; omega
  have h45 : decide ((45 : Int) ≤ (a : Int)) = false := by simp; omega
  have hab : Asd (a ≠ b → (s1.toList == s0.toList) = false) := ⟨fun h => by
    rw [hs0, hs1]
    refine seq_no fun e => ?_
    have e := str_eq e
    by_cases hb : b = 0 ∨ 45 ≤ b
    · rw [word_none b hb] at e; exact word_ne a ha2 ha e.symm
    · exact h (word_inj b (by omega) a ha2 (by omega) ha e).symm⟩
  have HG := Asd.mk hG
  clear hG hs0 hs1 ha ha2
  by_cases h : a = b
  · have hq : ((a : Int) == (b : Int)) = true := by simp [h]
    have H0 := Asd.mk h
    clear h
    go_enter Tryd.func3, Tryd.ntmps3
    go_wp2_with fail
    refine (HB.out _ HG.out).mono ?_
    rintro e w1 ⟨rfl, hb1⟩
    have B1 := Asd.mk hb1
    clear hb1
    go_wp2_with fail
    refine (HW.out _).mono ?_
    rintro e w2 ⟨rfl, hb2⟩
    have B2 := Asd.mk (bl_trans B1.out hb2)
    clear hb2
    go_wp2_with fail
    refine (HF.out _).mono ?_
    rintro e w3 ⟨rfl, hb3⟩
    have B3 := Asd.mk (bl_trans B2.out hb3)
    clear hb3
    go_wp2_with fail
    go_ret
    exact ⟨rfl, B3.out⟩
  · have hq : ((a : Int) == (b : Int)) = false := by simp; omega
    have hs := hab.out h
    have H0 := Asd.mk h
    clear h
    go_enter Tryd.func3, Tryd.ntmps3
    go_wp2_with fail
    refine (HB.out _ HG.out).mono ?_
    rintro e w1 ⟨rfl, hb1⟩
    have B1 := Asd.mk hb1
    clear hb1
    go_wp2_with fail
    refine (HW.out _).mono ?_
    rintro e w2 ⟨rfl, hb2⟩
    have B2 := Asd.mk (bl_trans B1.out hb2)
    clear hb2
    go_wp2_with fail
    refine (HF.out _).mono ?_
    rintro e w3 ⟨rfl, hb3⟩
    have B3 := Asd.mk (bl_trans B2.out hb3)
    clear hb3
    go_wp2_with fail
    refine (HV.out _).mono ?_
    rintro e w4 ⟨rfl, hb4⟩
    have B4 := Asd.mk (bl_trans B3.out hb4)
    clear hb4
    go_wp2_with fail
    go_ret
    exact ⟨rfl, B4.out⟩
theorem known_calls {B : Nat} (a b : Nat) (w : World) (hG : Glob B w) : Calls Tryd.prog 3 #[.int .u8 a, .int .u8 b] w fun e w' => e = .returned (.bool true) ∧ Below w.heap.size w w' := by
  by_cases h : a = 0 ∨ 45 ≤ a
  · exact known_none a b h w hG
  · exact known_some a b (by omega) (by omega) w hG
end Go.Proofs.YthclgijnfopikaaDoor
