/- The walks of canopyref28: words, Known, Word, Find, Fields. -/
import Derived.Test.YthclgijnfopikaaGreatDoorOf
namespace Go.Proofs.YthclgijnfopikaaGreatDoor
open Go.RowKit

def wordsCells : Array Value := (formsL.map fun p => Value.string (str p.1)).toArray
def fldsCells : Array Value := (formsL.map fun p => Value.string (str p.2)).toArray
theorem wordsCells_at (i : Nat) (h : i < 45) : wordsCells[i]? = some (.string (str (word i))) := by
  have hl : formsL.length = 45 := by decide
  simp [wordsCells, word, List.getD_eq_getElem?_getD, hl, h]
theorem fldsCells_at (i : Nat) (h : i < 45) : fldsCells[i]? = some (.string (str (flds i))) := by
  have hl : formsL.length = 45 := by decide
  simp [fldsCells, flds, List.getD_eq_getElem?_getD, hl, h]

set_option maxHeartbeats 8000000 in
set_option maxRecDepth 100000 in
theorem rwords_calls (w : World) : Calls Tryz.prog 40 #[] w fun e w' => e = .returned (.slice (some ⟨w.heap.size, 0, none⟩) 45 45) ∧ w' = w.alloc (.cells wordsCells 9) := by
  go_enter Tryz.func40, Tryz.ntmps40
  go_wp2
  go_ret
  exact ⟨rfl, rfl⟩

theorem rknown_calls (op : Nat) (w : World) : Calls Tryz.prog 31 #[.int .u8 op] w fun e w' => e = .returned (.bool (decide (0 < op) && decide (op < 45))) ∧ w = w' := by
  by_cases h0 : op = 0
  · subst h0
    go_enter Tryz.func31, Tryz.ntmps31
    go_wp2
    go_ret
    exact ⟨rfl, rfl⟩
  · have hg : decide ((0 : Int) < (op : Int)) = true := by simp; omega
    have hr : (decide (0 < op) && decide (op < 45)) = decide ((op : Int) < 45) := by
      have : decide (0 < op) = true := by simp; omega
      rw [this, Bool.true_and]
      exact decide_eq_decide.2 (by omega)
    rw [hr]
    go_enter Tryz.func31, Tryz.ntmps31
    go_wp2
    go_ret
    exact ⟨rfl, rfl⟩

theorem rword_none (op : Nat) (h : op = 0 ∨ 45 ≤ op) (w : World) : Calls Tryz.prog 19 #[.int .u8 op] w fun e w' => e = .returned (.string (str [])) ∧ Below w.heap.size w w' := by
  have hk := rknown_calls op w
  have e : (decide (0 < op) && decide (op < 45)) = false := by simp; omega
  rw [e] at hk
  have HK := Asd.mk hk
  clear hk e
  go_enter Tryz.func19, Tryz.ntmps19
  go_wp2_with fail
  refine HK.out.mono ?_
  rintro e w1 ⟨rfl, rfl⟩
  go_wp2_with fail
  go_ret
  exact ⟨rfl, Below.refl _ _⟩
theorem rword_some (op : Nat) (h0 : 0 < op) (h1 : op < 45) (w : World) : Calls Tryz.prog 19 #[.int .u8 op] w fun e w' => e = .returned (.string (str (word op))) ∧ Below w.heap.size w w' := by
  have hk := rknown_calls op w
  have e : (decide (0 < op) && decide (op < 45)) = true := by simp; omega
  rw [e] at hk
  have HK := Asd.mk hk
  have hc := bk_cell (bk_new w (.cells wordsCells 9)) op
  rw [wordsCells_at op h1] at hc
  have hi0 : (0 : Int) ≤ (op : Int) := by omega
  have hi1 : (op : Int) < 45 := by omega
  have hW := fun W => rwords_calls W
  generalize str (word op) = s at *
  generalize wordsCells = wc at *
  have HW := Asd.mk hW
  clear hW
  clear hk e
  go_enter Tryz.func19, Tryz.ntmps19
  go_wp2_with fail
  refine HK.out.mono ?_
  rintro e w1 ⟨rfl, rfl⟩
  go_wp2_with fail
  refine (HW.out _).mono ?_
  rintro e w' ⟨rfl, rfl⟩
  go_wp2_with fail
  go_ret
  exact ⟨rfl, bl_alloc (Below.refl _ _) _⟩
theorem rword_calls (op : Nat) (w : World) : Calls Tryz.prog 19 #[.int .u8 op] w fun e w' => e = .returned (.string (str (word op))) ∧ Below w.heap.size w w' := by
  by_cases h : op = 0 ∨ 45 ≤ op
  · have e : word op = [] := by
      rcases h with rfl | h
      · decide +kernel
      · exact (word_out op h).1
    rw [e]
    exact rword_none op h w
  · exact rword_some op (by omega) (by omega) w

set_option maxHeartbeats 8000000 in
set_option maxRecDepth 100000 in
theorem rfields_calls (op : Nat) (hop : op < 256) (w : World) : Calls Tryz.prog 33 #[.int .u8 op] w fun e w' => e = .returned (.string (str (flds op))) ∧ Below w.heap.size w w' := by
  by_cases h : op < 45
  · have hc := bk_cell (bk_new w (.cells fldsCells 9)) op
    rw [fldsCells_at op h] at hc
    have hi0 : (0 : Int) ≤ (op : Int) := by omega
    have hi1 : (op : Int) < 45 := by omega
    have hi2 : decide ((45 : Int) ≤ (op : Int)) = false := by simp; omega
    have hfl : (formsL.map fun p => Value.string (str p.2))[op]? = some (.string (str (flds op))) := by have := fldsCells_at op h; simpa [fldsCells] using this
    generalize str (flds op) = s at *
    have Hfl := Asd.mk hfl
    clear hc hfl
    go_enter Tryz.func33, Tryz.ntmps33
    go_wp2_with fail
    go_ret
    refine ⟨congrArg Ending.returned ?_, bl_alloc (Below.refl _ _) _⟩
    have h45 : formsL.length = 45 := by decide
    exact Option.some.inj ((List.getElem?_eq_getElem (l := formsL.map fun p => Value.string (str p.2)) (by rw [List.length_map, h45]; exact h)).symm.trans Hfl.out)
  · have hi3 : (45 : Int) ≤ (op : Int) := by omega
    have hi4 : (op : Int) < 256 := by omega
    have hi2 : decide ((45 : Int) ≤ (op : Int)) = true := by simp; omega
    rw [(word_out op (by omega)).2]
    go_enter Tryz.func33, Tryz.ntmps33
    go_wp2_with fail
    all_goals first | (go_ret; exact ⟨rfl, bl_alloc (Below.refl _ _) _⟩) | (exfalso; omega)

set_option maxHeartbeats 2000000 in
set_option maxRecDepth 100000 in
theorem rfind_calls (s : ByteArray) (w : World) : Calls Tryz.prog 17 #[.string s] w (FindPost s w) := by
  have HW := Asd.mk (fun (op : Nat) W => rword_calls op W)
  go_enter Tryz.func17, Tryz.ntmps17
  go_wp2_with fail
  go_loopw [4] (fun v4 wr => ∃ k : Nat, 1 ≤ k ∧ k ≤ 45 ∧ v4 = .int .u8 k ∧ Asd (Below w.heap.size w wr) ∧ Asd (∀ c, c < k → 0 < c → str (word c) ≠ s)) (fun v4 _ => 45 - (intOf v4).toNat)
  case atStart => exact ⟨1, Nat.le_refl _, by omega, rfl, ⟨Below.refl _ _⟩, ⟨fun c h1 h2 => by omega⟩⟩
  case round =>
    obtain ⟨k, hk1, hk, rfl, hB, hN⟩ := hrel
    by_cases hlt : k < 45
    · have hlti : (k : Int) < 45 := by omega
      obtain ⟨wk, hwk⟩ : ∃ x, x = str (word k) := ⟨_, rfl⟩
      have HWk : Asd (∀ W, Calls Tryz.prog 19 #[.int .u8 k] W fun e w' => e = .returned (.string wk) ∧ Below W.heap.size W w') := ⟨fun W => by rw [hwk]; exact HW.out k W⟩
      have Hwk := Asd.mk hwk
      clear hwk HW
      by_cases he : wk = s
      · have hq : (wk.toList == s.toList) = true := seq_yes he
        have He := Asd.mk he
        clear he
        go_wp2_with fail
        refine (HWk.out _).mono ?_
        rintro e w1 ⟨rfl, hb1⟩
        have B1 := Asd.mk (bl_trans hB.out hb1)
        clear hb1
        go_wp2_with fail
        go_ret2
        have hf : findOp s = k := findOp_at (by omega) hlt (by rw [← Hwk.out]; exact He.out) hN.out
        refine ⟨?_, B1.out⟩
        rw [hf]
        have : decide (0 < k) = true := by simp; omega
        rw [this]
        rfl
      · have hq : (wk.toList == s.toList) = false := seq_no he
        have He := Asd.mk he
        clear he
        go_wp2_with fail
        refine (HWk.out _).mono ?_
        rintro e w1 ⟨rfl, hb1⟩
        have B1 := Asd.mk (bl_trans hB.out hb1)
        clear hb1
        go_wp2_with fail
        refine ⟨⟨k + 1, by omega, by omega, by simp, B1, ⟨fun c h1 h2 => ?_⟩⟩, ?_⟩
        · by_cases hc : c = k
          · subst hc; rw [← Hwk.out]; exact He.out
          · exact hN.out c (by omega) h2
        · show 45 - ((k : Int) + 1).toNat < 45 - (k : Int).toNat
          omega
    · have hlti : ¬ (k : Int) < 45 := by omega
      go_wp2_with fail
      go_ret2
      have hf : findOp s = 0 := findOp_none (fun c h1 h2 => hN.out c (by omega) h2)
      refine ⟨?_, hB.out⟩
      rw [hf]
      rfl
end Go.Proofs.YthclgijnfopikaaGreatDoor
