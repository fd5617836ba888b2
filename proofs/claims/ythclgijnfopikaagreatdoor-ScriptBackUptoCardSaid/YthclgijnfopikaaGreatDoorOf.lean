/- The walks of script.of, Word and Find. -/
import Derived.Test.YthclgijnfopikaaGreatDoorForms
namespace Go.Proofs.YthclgijnfopikaaGreatDoor
open Go.RowKit

theorem of_small (op : Nat) (h : op < 45) (w : World) : Calls Tryz.prog 29 #[.int .u8 op] w fun e w' => e = .returned (.agg #[.string (str (word op)), .string (str (flds op))]) ∧ Below w.heap.size w w' := by
  obtain ⟨h1, h2⟩ := formsCells_at op h
  have hlt : decide (45 ≤ (op : Int)) = false := decide_eq_false (by omega)
  generalize str (word op) = a at *
  generalize str (flds op) = b at *
  go_enter Tryz.func29, Tryz.ntmps29
  go_wp2_with (go_at_call 39; refine (forms_calls _).mono ?_; rintro e w' ⟨rfl, rfl⟩)
  exact bodyPost_ret (v := .agg #[.string a, .string b]) (by simp [results, Tryz.results29, go_sem]) rfl ⟨rfl, bl_alloc (bl_alloc (Below.refl _ _) _) _⟩
theorem of_large (op : Nat) (h : 45 ≤ op) (w : World) : Calls Tryz.prog 29 #[.int .u8 op] w fun e w' => e = .returned (.agg #[.string (str []), .string (str [])]) ∧ Below w.heap.size w w' := by
  have hlt : decide (45 ≤ (op : Int)) = true := decide_eq_true (by omega)
  go_enter Tryz.func29, Tryz.ntmps29
  go_wp2
  exact bodyPost_ret (v := .agg #[.string (str []), .string (str [])]) (by simp [results, Tryz.results29, go_sem, str]) rfl ⟨rfl, bl_alloc (Below.refl _ _) _⟩
theorem of_calls (op : Nat) (w : World) : Calls Tryz.prog 29 #[.int .u8 op] w fun e w' => e = .returned (.agg #[.string (str (word op)), .string (str (flds op))]) ∧ Below w.heap.size w w' := by
  by_cases h : op < 45
  · exact of_small op h w
  · rw [(word_out op (by omega)).1, (word_out op (by omega)).2]
    exact of_large op (by omega) w
theorem fld_word (a b : ByteArray) (w : World) : (Instr.field 55 (.agg #[.string a, .string b]) 0).run Tryz.prog w = .ok (.string a) w := by kernel_rfl
theorem fld_fields (a b : ByteArray) (w : World) : (Instr.field 55 (.agg #[.string a, .string b]) 1).run Tryz.prog w = .ok (.string b) w := by kernel_rfl
theorem word_calls (op : Nat) (w : World) : Calls Tryz.prog 18 #[.int .u8 op] w fun e w' => e = .returned (.string (str (word op))) ∧ Below w.heap.size w w' := by
  have H := of_calls op
  generalize str (word op) = a at H ⊢
  generalize str (flds op) = b at H
  have hu := fld_word a b
  have H' := Asd.mk H
  clear H
  go_enter Tryz.func18, Tryz.ntmps18
  go_wp2_with (go_at_call 29; refine (H'.out _).mono ?_; rintro e w' ⟨rfl, hb⟩)
  go_ret
  exact ⟨rfl, by assumption⟩

/-! ### Find -/
def FindPost (s : ByteArray) (w : World) (e : Ending) (w' : World) : Prop := e = .returned (.tuple #[.int .u8 (findOp s), .bool (decide (0 < findOp s))]) ∧ Below w.heap.size w w'
set_option maxHeartbeats 1000000 in
set_option maxRecDepth 100000 in
theorem find_calls (s : ByteArray) (w : World) : Calls Tryz.prog 16 #[.string s] w (FindPost s w) := by
  go_enter Tryz.func16, Tryz.ntmps16
  go_wp2_with (go_at_call 39; refine (forms_calls _).mono ?_; rintro e w' ⟨rfl, rfl⟩)
  go_loopw [8] (fun i wr => ∃ k : Nat, k ≤ 45 ∧ i = .int .i64 k ∧ Asd (∀ c, c < k → 0 < c → str (word c) ≠ s) ∧ Below (w.heap.size + 1) (w.alloc (.cells formsCells 55)) wr) (fun i _ => 45 - (intOf i).toNat)
  case atStart => exact ⟨0, by omega, rfl, ⟨fun c hc => absurd hc (by omega)⟩, Below.refl _ _⟩
  case round =>
    obtain ⟨k, hk, rfl, hn, hb⟩ := hrel
    have hbw : Asd (Below w.heap.size w wr) := ⟨(bl_alloc (Below.refl _ _) _).trans (hb.mono (by omega))⟩
    have hbs := hb.size
    simp only [World.alloc, Array.size_push] at hbs
    by_cases hlt : k < 45
    · obtain ⟨c1, c2⟩ := formsCells_at k hlt
      have hblk := bk_below (bk_new w (.cells formsCells 55)) hb (by omega)
      have d1 := (bk_cell hblk (k * 2)).trans c1
      have d2 := (bk_cell hblk (k * 2 + 1)).trans c2
      have Hb := Asd.mk hb
      clear c1 c2 hblk hb
      by_cases h0 : k = 0
      · subst h0
        simp only [Nat.zero_mul, Nat.zero_add] at d1 d2
        generalize str (word 0) = a at d1
        generalize str (flds 0) = b at d2
        go_wp2
        go_roundw
        case rel => exact ⟨1, by omega, by go_num, ⟨fun c hc h => absurd h (by omega)⟩, (Hb.out.alloc (by omega) _)⟩
        case measure => simp [intOf]
      · have hz : decide ((0 : Int) < (k : Int)) = true := decide_eq_true (by omega)
        by_cases he : str (word k) = s
        · have hf := Asd.mk (findOp_at (by omega) hlt he hn.out)
          have hs := seq_yes he
          generalize str (word k) = a at d1 hs
          generalize str (flds k) = b at d2
          clear hn he
          go_wp2
          go_ret2
          refine ⟨?_, bl_alloc hbw.out _⟩
          rw [hf.out]; simp; omega
        · have hs := seq_no he
          have hn' : Asd (∀ c, c < k + 1 → 0 < c → str (word c) ≠ s) := ⟨fun c hc h => by
            by_cases e : c = k
            · rw [e]; exact he
            · exact hn.out c (by omega) h⟩
          generalize str (word k) = a at d1 hs
          generalize str (flds k) = b at d2
          clear hn he
          go_wp2
          go_roundw
          case rel => exact ⟨k + 1, by omega, by go_num, hn', (Hb.out.alloc (by omega) _)⟩
          case measure => simp [intOf]; omega
    · have hf := Asd.mk (findOp_none (s := s) fun c hc h => hn.out c (by omega) h)
      clear hn hb
      go_wp2
      go_ret2
      refine ⟨?_, hbw.out⟩
      rw [hf.out]; rfl
end Go.Proofs.YthclgijnfopikaaGreatDoor
