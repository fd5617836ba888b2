/- The walks of script.plain, bare, bytes, quote, Quote. -/
import Derived.Test.YthclgijnfopikaaGreatDoorSpec7
import Derived.Test.YthclgijnfopikaaGreatDoorOwnR
import Derived.Laws.BitsLemmas
import Derived.Laws.BitsAllLaws
namespace Go.Proofs.YthclgijnfopikaaGreatDoor
open Go.RowKit

theorem plainU_calls (u : Nat) (w : World) : Calls Tryz.prog 104 #[.int .u16 u] w fun e w' => e = .returned (.bool (plainU u)) ∧ w = w' := by
  by_cases h : 32 ≤ u
  · have g : decide ((32 : Int) ≤ (u : Int)) = true := by simp; omega
    have hr : plainU u = decide ((u : Int) ≤ 126) := by
      unfold plainU
      rw [show decide (32 ≤ u) = true by simpa using h, Bool.true_and]
      exact decide_eq_decide.2 (by omega)
    rw [hr]
    clear h
    go_enter Tryz.func104, Tryz.ntmps104
    go_wp2
    go_ret
    exact ⟨rfl, rfl⟩
  · have g : decide ((32 : Int) ≤ (u : Int)) = false := by simp; omega
    have hr : plainU u = false := by
      unfold plainU
      rw [show decide (32 ≤ u) = false by simpa using h, Bool.false_and]
    rw [hr]
    clear h
    go_enter Tryz.func104, Tryz.ntmps104
    go_wp2
    go_ret
    exact ⟨rfl, rfl⟩
theorem bareU_calls (u : Nat) (w : World) : Calls Tryz.prog 102 #[.int .u16 u] w fun e w' => e = .returned (.bool (bareU u)) ∧ w = w' := by
  have HP := Asd.mk (plainU_calls u)
  by_cases h : plainU u = true
  · by_cases h2 : u = 34
    · have hr : bareU u = false := by unfold bareU; rw [h2]; rfl
      rw [hr]
      rw [h] at HP
      have g : ((u : Int) != 34) = false := by simp [h2]
      clear h h2
      go_enter Tryz.func102, Tryz.ntmps102
      go_wp2_with fail
      refine (HP.out _).mono ?_
      rintro e w' ⟨rfl, rfl⟩
      go_wp2
      go_ret
      exact ⟨rfl, rfl⟩
    · have g : ((u : Int) != 34) = true := by simp; omega
      have hr : bareU u = ((u : Int) != 92) := by
        unfold bareU
        rw [h]
        have e : (u == 34) = false := by simpa using h2
        rw [e]
        by_cases h3 : u = 92
        · subst h3; rfl
        · have e1 : (u == 92) = false := by simpa using h3
          have e2 : ((u : Int) != 92) = true := by simp; omega
          rw [e1, e2]; rfl
      rw [hr]
      rw [h] at HP
      clear h h2 hr
      go_enter Tryz.func102, Tryz.ntmps102
      go_wp2_with fail
      refine (HP.out _).mono ?_
      rintro e w' ⟨rfl, rfl⟩
      go_wp2
      go_ret
      exact ⟨rfl, rfl⟩
  · have h : plainU u = false := by simpa using h
    have hr : bareU u = false := by unfold bareU; rw [h]; rfl
    rw [hr]
    rw [h] at HP
    clear h hr
    go_enter Tryz.func102, Tryz.ntmps102
    go_wp2_with fail
    refine (HP.out _).mono ?_
    rintro e w' ⟨rfl, rfl⟩
    go_wp2
    go_ret
    exact ⟨rfl, rfl⟩

def BytesPost (s : List UInt8) (w : World) (e : Ending) (w' : World) : Prop := ∃ v, e = .returned v ∧ OR w' w.heap.size 115 encU v (nums s) ∧ Below w.heap.size w w'
theorem nums_snoc (s : ByteArray) (k : Nat) (h : k < s.size) : nums (s.data.toList.take (k + 1)) = nums (s.data.toList.take k) ++ [s[k].toNat] := by
  have hl : k < s.data.toList.length := by simpa using h
  unfold nums
  rw [List.take_succ_eq_append_getElem hl, List.map_append]
  rfl
theorem encU_one' (x : Nat) : (encU x).oneCell' = true := rfl
set_option maxHeartbeats 2000000 in
set_option maxRecDepth 100000 in
theorem bytes_calls (s : ByteArray) (hs : s.size ≤ 1073741824) (w : World) : Calls Tryz.prog 93 #[.string s] w (BytesPost s.data.toList w) := by
  go_enter Tryz.func93, Tryz.ntmps93
  go_wp2_with fail
  go_loopw [3, 7] (fun v3 v7 wr => ∃ k : Nat, k ≤ s.size ∧ v7 = .int .i64 k ∧ Asd (OR wr w.heap.size 115 encU v3 (nums (s.data.toList.take k))) ∧ Asd (Below w.heap.size w wr)) (fun _ v7 _ => s.size - (intOf v7).toNat)
  case atStart => exact ⟨0, Nat.zero_le _, rfl, ⟨OR.nil _ _ _ _⟩, ⟨Below.refl _ _⟩⟩
  case round =>
    obtain ⟨k, hk, rfl, hO, hB⟩ := hrel
    by_cases hlt : k < s.size
    · have hsn := Asd.mk (nums_snoc s k hlt)
      have hb8 : (s[k].toNat : Int) < 256 := by have := s[k].toNat_lt; omega
      have hlen : (nums (s.data.toList.take k)).length = k := by simp [nums]; omega
      have Hlen := Asd.mk hlen
      clear hlen
      have hO' := Asd.mk hO.out.lt
      have hsz := Asd.mk hB.out.size
      go_wp2_with (at_builtin; refine wpList_append_one rfl _ _ 23 rfl encU_one' 115 Tryz.underlying23 infoD w.heap.size u3 rfl _ (hO.out.alloc _) wr.heap.size 1 s[k].toNat rfl (by exact bk_cell (bk_new _ _) 0) (by have := hsz.out; simp [World.alloc, -World.alloc_eq]; omega) (by rw [Hlen.out]; omega) (by rw [Hlen.out]; simp only [maxLen]; omega) ?_; intro v' w' h' g' a'; clear a')
      have hO2 : Asd (OR w' w.heap.size 115 encU v' (nums (s.data.toList.take (k + 1)))) := ⟨by rw [hsn.out]; exact h'⟩
      have hB2 : Asd (Below w.heap.size w w') := ⟨bl_grown (bl_alloc hB.out _) g' fun g hg => (hO'.out g hg).1⟩
      clear h' g' hO hB
      go_wp2_with fail
      refine ⟨⟨k + 1, by omega, by simp, hO2, hB2⟩, ?_⟩
      simp [intOf]; omega
    · have hkd : s.data.toList.take k = s.data.toList := List.take_of_length_le (by rw [show s.data.toList.length = s.size by simp]; omega)
      have hge : ¬ (k : Int) < (s.size : Int) := by omega
      have Hkd := Asd.mk hkd
      clear hkd
      go_wp2_with fail
      go_ret
      exact ⟨_, rfl, by rw [← Hkd.out]; exact hO.out, hB.out⟩
end Go.Proofs.YthclgijnfopikaaGreatDoor
