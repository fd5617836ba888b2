/- The walk of script.number. -/
import Derived.Test.YthclgijnfopikaaGreatDoorLib
import Derived.Deep.QuietTactic
import Derived.BigQuiet
import Derived.Lib.Strings
import Derived.Lib.IndexBytes
import Derived.Deep.RegionWith
namespace Go.Proofs.YthclgijnfopikaaGreatDoor
open Go.RowKit

def NumPost (l : List UInt8) (w : World) (e : Ending) (w' : World) : Prop :=
  e = .returned (.tuple #[.int .i64 (((numD l).map (·.1)).getD 0), .string (str (((numD l).map (·.2)).getD [])), .bool (numD l).isSome]) ∧ Below w.heap.size w w'

/-- How far the loop has come. -/
def Upto (s : ByteArray) (k : Nat) : Prop := ∀ c (h : c < s.size), c < k → numAt c s[c] = true
theorem numLen_of {s : ByteArray} {k : Nat} (hk : k ≤ s.size) (ha : Upto s k) (h : ∀ h : k < s.size, numAt k s[k] = false) : numLen s.data.toList = k :=
  numLenFrom_is k 0 _ (by simpa using hk) (fun c hc hck => by rw [Nat.zero_add]; exact ha c (by simpa using hc) hck) (fun hc => by rw [Nat.zero_add]; exact h (by simpa using hc))
theorem extract_take (s : ByteArray) (k : Nat) : s.extract 0 k = str (s.data.toList.take k) := by
  apply str_inj; rw [data_str, Lib.extract_data]; simp

theorem bad_none {s : ByteArray} {k : Nat} {v : Int} (hL : numLen s.data.toList = k) (hv : Lib.atoiAll (s.extract 0 k).data.toList = .ok v) (h : str (Lib.itoa v) ≠ str (s.data.toList.take k)) : numD s.data.toList = none := by
  rw [extract_take, data_str] at hv
  unfold numD
  rw [hL, hv]
  simp only []
  rw [if_neg (fun e => h (by rw [e]))]
theorem good_some {s : ByteArray} {k : Nat} {v : Int} (hL : numLen s.data.toList = k) (hv : Lib.atoiAll (s.extract 0 k).data.toList = .ok v) (h : str (Lib.itoa v) = str (s.data.toList.take k)) : numD s.data.toList = some (v, s.data.toList.drop k) := by
  rw [extract_take, data_str] at hv
  unfold numD
  rw [hL, hv]
  simp only []
  rw [if_pos (by have := congrArg (fun x : ByteArray => x.data.toList) h; simpa [data_str] using this)]
theorem fail_none {s : ByteArray} {k : Nat} (hL : numLen s.data.toList = k) (hv : ∀ v, Lib.atoiAll (s.extract 0 k).data.toList ≠ .ok v) : numD s.data.toList = none := by
  rw [extract_take, data_str] at hv
  unfold numD
  rw [hL]
  split
  · rename_i v e; exact absurd e (hv v)
  · rfl
theorem extract_drop (s : ByteArray) (k : Nat) : s.extract k s.size = str (s.data.toList.drop k) := by
  apply str_inj; rw [data_str, Lib.extract_to_end]
set_option maxHeartbeats 4000000 in
set_option maxRecDepth 100000 in
theorem number_calls (B : Nat) (s : ByteArray) (hs : s.size ≤ 1048576) (w : World) (hG : Glob B w) : Calls Tryz.prog 79 #[.string s] w (NumPost s.data.toList w) := by
  go_enter Tryz.func79, Tryz.ntmps79
  go_wp2
  go_loop [5] (fun i => ∃ k : Nat, k ≤ s.size ∧ i = .int .i64 k ∧ Asd (Upto s k)) (fun i => s.size - (intOf i).toNat)
  case atStart => exact ⟨0, by omega, rfl, ⟨fun c h hc => absurd hc (by omega)⟩⟩
  case round =>
    obtain ⟨k, hk, rfl, hu⟩ := hrel
    by_cases hlt : k < s.size
    · by_cases hn : numAt k s[k] = true
      · have hu' : Asd (Upto s (k + 1)) := ⟨fun c h hc => by
          by_cases e : c = k
          · subst e; exact hn
          · exact hu.out c h (by omega)⟩
        clear hu
        by_cases hd : isDig s[k] = true
        · simp only [isDig, Bool.and_eq_true, decide_eq_true_eq] at hd
          obtain ⟨h1, h2⟩ := hd
          clear hn
          have g1 : decide (48 ≤ (s[k].toNat : Int)) = true := decide_eq_true (by omega)
          have g2 : decide ((s[k].toNat : Int) ≤ 57) = true := decide_eq_true (by omega)
          clear h1 h2
          go_wp2
          go_round
          case rel => exact ⟨k + 1, by omega, by go_num, hu'⟩
          case measure => simp [intOf]; omega
        · simp only [numAt, hd, Bool.false_or, Bool.and_eq_true, decide_eq_true_eq] at hn
          obtain ⟨h0, h45⟩ := hn
          have g1 : decide (48 ≤ (s[k].toNat : Int)) = false := decide_eq_false (by omega)
          have g0 : ((k : Int) == 0) = true := beq_iff_eq.2 (by omega)
          have g4 : ((s[k].toNat : Int) == 45) = true := beq_iff_eq.2 (by omega)
          clear h0 h45 hd
          go_wp2
          go_round
          case rel => exact ⟨k + 1, by omega, by go_num, hu'⟩
          case measure => simp [intOf]; omega
      · have hn' : numAt k s[k] = false := by simpa using hn
        have hL := Asd.mk (numLen_of hk hu.out (fun _ => hn'))
        clear hu hn
        have hcs : (decide (48 ≤ (s[k].toNat : Int)) = false ∧ ((k : Int) == 0) = false) ∨ (decide (48 ≤ (s[k].toNat : Int)) = false ∧ ((k : Int) == 0) = true ∧ ((s[k].toNat : Int) == 45) = false)
            ∨ (decide (48 ≤ (s[k].toNat : Int)) = true ∧ decide ((s[k].toNat : Int) ≤ 57) = false ∧ ((k : Int) == 0) = false)
            ∨ (decide (48 ≤ (s[k].toNat : Int)) = true ∧ decide ((s[k].toNat : Int) ≤ 57) = false ∧ ((k : Int) == 0) = true ∧ ((s[k].toNat : Int) == 45) = false) := by
          simp only [numAt, isDig, Bool.or_eq_false_iff, Bool.and_eq_false_iff, decide_eq_false_iff_not] at hn'
          simp only [decide_eq_false_iff_not, decide_eq_true_eq, beq_eq_false_iff_ne, beq_iff_eq, ne_eq]
          omega
        clear hn'
        rcases hcs with ⟨g1, g0⟩ | ⟨g1, g0, g4⟩ | ⟨g1, g2, g0⟩ | ⟨g1, g2, g0, g4⟩
        all_goals
          have hsz : (s.extract 0 k).size ≤ 1048576 := by rw [extract_take]; show (List.take k s.data.toList).toArray.size ≤ 1048576; simp; omega
          have hEx := Asd.mk (extract_take s k)
          go_wp2_with fail
          by_cases hok : ∃ v, Lib.atoiAll (s.extract 0 k).data.toList = .ok v
          · obtain ⟨v, hc⟩ := hok
            refine (atoi_ok _ hsz v hc _).mono ?_
            rintro e w1 ⟨rfl, hb1⟩
            have Hc := Asd.mk hc
            clear hc
            go_wp2_with fail
            have hG1 := Asd.mk (hG.below hb1 hG.le)
            obtain ⟨h0, h1⟩ := Lib.atoiAll_bounds Hc.out
            obtain ⟨t, ht⟩ : ∃ t, t = str (Lib.itoa v) := ⟨_, rfl⟩
            have HI : Asd (∀ W, Glob B W → Calls Tryz.prog 43 #[.int .i64 v] W fun e w' => e = .returned (.string t) ∧ Below W.heap.size W w') := ⟨fun W h => by rw [ht]; exact itoa_calls v h0 h1 W h⟩
            have Ht := Asd.mk ht
            clear ht
            go_region_with (go_at_call 43; refine (HI.out _ (by exact hG1.out.again rfl)).mono ?_; rintro e w2 ⟨rfl, hb2⟩)
            have Hb2 : Asd (Below w.heap.size w w2) := ⟨bl_trans hb1 (by first | exact hb2 | exact ⟨hb2.os, hb2.tape, hb2.output, hb2.size, hb2.block⟩)⟩
            clear hb1 hb2
            go_wp2_with fail
            · have hs : (!t.toList == (s.extract 0 k).toList) = true := by assumption
              go_ret3
              refine ⟨?_, Hb2.out⟩
              rw [bad_none hL.out Hc.out (by rw [← hEx.out, ← Ht.out]; intro e; rw [seq_yes e] at hs; cases hs)]
              rfl
            · have hs : (!t.toList == (s.extract 0 k).toList) = false := by assumption
              have he : t = s.extract 0 k := Classical.byContradiction fun h => by rw [seq_no h] at hs; cases hs
              go_quiet (fail)
              go_wp2
              go_ret3
              refine ⟨?_, below_drewN Hb2.out _⟩
              rw [good_some hL.out Hc.out (by rw [← hEx.out, ← Ht.out, he])]
              simp [extract_drop]
          · have hbad : ∀ v, Lib.atoiAll (s.extract 0 k).data.toList ≠ .ok v := fun v h => hok ⟨v, h⟩
            have Hn := Asd.mk (fail_none hL.out hbad)
            refine (atoi_bad _ hsz hbad _ hG).mono ?_
            rintro e w1 ⟨v, a, rfl, hb1⟩
            clear hbad hok
            go_wp2_with fail
            go_quiet (fail)
            go_wp2
            go_ret3
            refine ⟨?_, below_drewN hb1 _⟩
            rw [Hn.out]; rfl
    · have hL := Asd.mk (numLen_of hk hu.out (fun h => absurd h hlt))
      clear hu
      have hsz : (s.extract 0 k).size ≤ 1048576 := by rw [extract_take]; show (List.take k s.data.toList).toArray.size ≤ 1048576; simp; omega
      have hEx := Asd.mk (extract_take s k)
      go_wp2_with fail
      by_cases hok : ∃ v, Lib.atoiAll (s.extract 0 k).data.toList = .ok v
      · obtain ⟨v, hc⟩ := hok
        refine (atoi_ok _ hsz v hc _).mono ?_
        rintro e w1 ⟨rfl, hb1⟩
        have Hc := Asd.mk hc
        clear hc
        go_wp2_with fail
        have hG1 := Asd.mk (hG.below hb1 hG.le)
        obtain ⟨h0, h1⟩ := Lib.atoiAll_bounds Hc.out
        obtain ⟨t, ht⟩ : ∃ t, t = str (Lib.itoa v) := ⟨_, rfl⟩
        have HI : Asd (∀ W, Glob B W → Calls Tryz.prog 43 #[.int .i64 v] W fun e w' => e = .returned (.string t) ∧ Below W.heap.size W w') := ⟨fun W h => by rw [ht]; exact itoa_calls v h0 h1 W h⟩
        have Ht := Asd.mk ht
        clear ht
        go_region_with (go_at_call 43; refine (HI.out _ (by exact hG1.out.again rfl)).mono ?_; rintro e w2 ⟨rfl, hb2⟩)
        have Hb2 : Asd (Below w.heap.size w w2) := ⟨bl_trans hb1 (by first | exact hb2 | exact ⟨hb2.os, hb2.tape, hb2.output, hb2.size, hb2.block⟩)⟩
        clear hb1 hb2
        go_wp2_with fail
        · have hs : (!t.toList == (s.extract 0 k).toList) = true := by assumption
          go_ret3
          refine ⟨?_, Hb2.out⟩
          rw [bad_none hL.out Hc.out (by rw [← hEx.out, ← Ht.out]; intro e; rw [seq_yes e] at hs; cases hs)]
          rfl
        · have hs : (!t.toList == (s.extract 0 k).toList) = false := by assumption
          have he : t = s.extract 0 k := Classical.byContradiction fun h => by rw [seq_no h] at hs; cases hs
          go_quiet (fail)
          go_wp2
          go_ret3
          refine ⟨?_, below_drewN Hb2.out _⟩
          rw [good_some hL.out Hc.out (by rw [← hEx.out, ← Ht.out, he])]
          simp [extract_drop]
      · have hbad : ∀ v, Lib.atoiAll (s.extract 0 k).data.toList ≠ .ok v := fun v h => hok ⟨v, h⟩
        have Hn := Asd.mk (fail_none hL.out hbad)
        refine (atoi_bad _ hsz hbad _ hG).mono ?_
        rintro e w1 ⟨v, a, rfl, hb1⟩
        clear hbad hok
        go_wp2_with fail
        go_quiet (fail)
        go_wp2
        go_ret3
        refine ⟨?_, below_drewN hb1 _⟩
        rw [Hn.out]; rfl
end Go.Proofs.YthclgijnfopikaaGreatDoor
