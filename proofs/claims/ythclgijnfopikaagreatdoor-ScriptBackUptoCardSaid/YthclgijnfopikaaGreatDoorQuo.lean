/- The walks of script.quote and Quote. -/
import Derived.Test.YthclgijnfopikaaGreatDoorQuote
import Derived.Test.YthclgijnfopikaaGreatDoorSame
namespace Go.Proofs.YthclgijnfopikaaGreatDoor
open Go.RowKit

theorem encB_of (x : Nat) (h : x < 256) : encB (UInt8.ofNat x) = .int .u8 (x : Int) := by
  unfold encB
  have : (UInt8.ofNat x).toNat = x := by simp; omega
  rw [this]
theorem escD_bare {dg : Nat} {lt : UInt8} {x : Nat} (h : bareU x = true) : escD dg lt x = [UInt8.ofNat x] := by unfold escD; rw [if_pos h]
theorem escD_plain {dg : Nat} {lt : UInt8} {x : Nat} (h : bareU x = false) (h2 : plainU x = true) : escD dg lt x = [92, UInt8.ofNat x] := by unfold escD; rw [if_neg (by simp [h]), if_pos h2]
theorem escD_hex {dg : Nat} {lt : UInt8} {x : Nat} (h : bareU x = false) (h2 : plainU x = false) : escD dg lt x = 92 :: lt :: digsD x dg := by unfold escD; rw [if_neg (by simp [h]), if_neg (by simp [h2])]
theorem bare_le {x : Nat} (h : bareU x = true) : plainU x = true := by unfold bareU at h; simp at h; exact h.1.1
theorem plain_le {x : Nat} (h : plainU x = true) : x ≤ 126 := by unfold plainU at h; simp at h; exact h.2

theorem and15 (a : Nat) (h : a < 65536) : bits .and .u16 (a : Int) 15 = ((a % 16 : Nat) : Int) := by
  have := u16_and_nat a 15 h (by omega)
  rw [show ((15 : Nat) : Int) = 15 from rfl] at this
  rw [this]
  congr 1
  exact Nat.and_two_pow_sub_one_eq_mod a 4
theorem index_hex_all : ∀ d : Nat, d < 16 → ∃ h : d < (ByteArray.mk #[48, 49, 50, 51, 52, 53, 54, 55, 56, 57, 97, 98, 99, 100, 101, 102]).size, (ByteArray.mk #[48, 49, 50, 51, 52, 53, 54, 55, 56, 57, 97, 98, 99, 100, 101, 102])[d] = hexAt d := by decide
theorem index_hex (d : Nat) (h : d < 16) (W : World) : (Instr.index 9 (.string ⟨#[48, 49, 50, 51, 52, 53, 54, 55, 56, 57, 97, 98, 99, 100, 101, 102]⟩) (.int .u16 (d : Int))).run Tryz.prog W = .ok (encB (hexAt d)) W := by
  obtain ⟨h1, h2⟩ := index_hex_all d h
  rw [run_index_string W _ _ _ _ Tryz.underlying9, dif_pos ⟨by omega, by simp [ByteArray.size]; omega⟩]
  simp only [Int.toNat_natCast, h2]
  rfl
set_option maxHeartbeats 4000000 in
set_option maxRecDepth 100000 in
theorem quote_calls {ok : Nat → Prop} (dg : Nat) (hdg : dg ≤ 4) (lt : UInt8) (l : List Nat) (hl : l.length ≤ 134217728) (hu : ∀ x ∈ l, x < 65536) (v : Value) (w : World) (h : Rd w ok encU v l) :
    Calls Tryz.prog 89 #[v, .int .i64 dg, .int .u8 lt.toNat] w fun e w' => e = .returned (.string (str (quoteD dg lt l))) ∧ Below w.heap.size w w' := by
  obtain ⟨A, c, rfl⟩ := h.len
  obtain ⟨n, hn⟩ : ∃ n, n = l.length := ⟨_, rfl⟩
  rw [← hn] at h hl ⊢
  have H := Asd.mk h
  have Hn := Asd.mk hn
  have Hu := Asd.mk hu
  have hlt8 : (lt.toNat : Int) < 256 := by have := lt.toNat_lt; omega
  have hdg4 : (dg : Int) ≤ 4 := by omega
  have HB := Asd.mk bareU_calls
  have HP := Asd.mk plainU_calls
  have hstr := fun W (bs : List UInt8) v (ho : OR W w.heap.size 5 encB v bs) => run_string_or (P := Tryz.prog) Tryz.underlying57 Tryz.underlying5 Tryz.underlying9 ho
  have Hstr := Asd.mk hstr
  clear hn hu h hstr
  go_enter Tryz.func89, Tryz.ntmps89
  go_wp2_with fail
  go_loopw [7, 14] (fun v7 v14 wr => ∃ k : Nat, k ≤ n ∧ v14 = .int .i64 k ∧ Asd (OR wr w.heap.size 5 encB v7 (34 :: (l.take k).flatMap (escD dg lt))) ∧ Asd (Below w.heap.size w wr)) (fun _ v14 _ => n - (intOf v14).toNat)
  case atStart => exact ⟨0, Nat.zero_le _, rfl, ⟨OR.lit (xs := [34]) w (Nat.le_refl _) (by decide)⟩, ⟨bl_alloc (Below.refl _ _) _⟩⟩
  case round =>
    obtain ⟨k, hk, rfl, hO, hB⟩ := hrel
    by_cases hlt : k < n
    · obtain ⟨b1, o1, x, e1, hx, hc1⟩ := H.out.cell hlt
      subst e1
      have d1 := (hB.out.cell (p := ⟨b1, o1 + k, none⟩) (World.block_lt_of_cell? w _ hc1)).trans hc1
      have hxl : x < 65536 := Hu.out x (List.mem_of_getElem? hx)
      have hk0 : (0 : Int) ≤ (k : Int) := by omega
      have hk1 : (k : Int) < (n : Int) := by omega
      have hkl : k < l.length := by rw [← Hn.out]; exact hlt
      have hfl : (l.take (k + 1)).flatMap (escD dg lt) = (l.take k).flatMap (escD dg lt) ++ escD dg lt x := by
        rw [flat_snoc _ _ _ hkl]
        rw [List.getElem?_eq_getElem hkl] at hx
        injection hx with hx
        rw [hx]
      have Hfl := Asd.mk hfl
      obtain ⟨pre, hpre⟩ : ∃ p, p = (l.take k).flatMap (escD dg lt) := ⟨_, rfl⟩
      have hpl : pre.length ≤ n * 8 := by
        rw [hpre]
        have := flat_le (escD dg lt) (2 + dg) (escD_len dg lt) (l.take k)
        have e : (l.take k).length = k := by simp; omega
        rw [e] at this
        refine Nat.le_trans this (Nat.mul_le_mul (by omega) (by omega))
      rw [← hpre] at hO Hfl
      have hO' := Asd.mk hO.out.lt
      have hsz := Asd.mk hB.out.size
      simp only [encU] at d1
      have hx0 : (0 : Int) ≤ (x : Int) := by omega
      have hx1 : (x : Int) < 65536 := by omega
      clear hx hc1 hfl hpre
      by_cases hbare : bareU x = true
      · have hb := HB.out x
        rw [hbare] at hb
        have HBx := Asd.mk hb
        have hx2 := plain_le (bare_le hbare)
        have hx3 : (x : Int) ≤ 126 := by omega
        rw [escD_bare hbare] at Hfl
        clear hb hbare hx2
        go_wp2_with fail
        refine (HBx.out _).mono ?_
        rintro e w1 ⟨rfl, rfl⟩
        go_wp2_with (at_builtin; refine wpList_append_one rfl _ _ 57 rfl encB_one 5 Tryz.underlying57 infoB w.heap.size u7 rfl _ (hO.out.alloc _) wr.heap.size 1 (UInt8.ofNat x) rfl (by rw [encB_of x (by omega)]; exact bk_cell (bk_new _ _) 0) (by have := hsz.out; simp [World.alloc, -World.alloc_eq]; omega) (by simp only [List.length_cons]; omega) (by simp only [List.length_cons, maxLen]; omega) ?_; intro v' w' h' g' a'; clear a')
        have hO2 : Asd (OR w' w.heap.size 5 encB v' (34 :: (l.take (k + 1)).flatMap (escD dg lt))) := ⟨by rw [Hfl.out]; exact h'⟩
        have hB2 : Asd (Below w.heap.size w w') := ⟨bl_grown (bl_alloc hB.out _) g' fun g hg => (hO'.out g hg).1⟩
        clear h' g' hO hB
        go_wp2_with fail
        refine ⟨⟨k + 1, by omega, by simp, hO2, hB2⟩, ?_⟩
        simp [intOf]; omega
      · have hbare : bareU x = false := by simpa using hbare
        have hb := HB.out x
        rw [hbare] at hb
        have HBx := Asd.mk hb
        by_cases hpl2 : plainU x = true
        · have hp := HP.out x
          rw [hpl2] at hp
          have HPx := Asd.mk hp
          have hx2 := plain_le hpl2
          have hx3 : (x : Int) ≤ 126 := by omega
          rw [escD_plain hbare hpl2] at Hfl
          clear hb hbare hx2 hp hpl2
          go_wp2_with fail
          refine (HBx.out _).mono ?_
          rintro e w1 ⟨rfl, rfl⟩
          go_wp2_with fail
          refine (HPx.out _).mono ?_
          rintro e w1 ⟨rfl, rfl⟩
          go_wp2_with (at_builtin; refine wpList_append_two rfl _ _ 57 rfl encB_one 5 Tryz.underlying57 infoB w.heap.size u7 rfl _ (hO.out.alloc _) wr.heap.size 2 92 (UInt8.ofNat x) rfl (by exact bk_cell (bk_new _ _) 0) (by rw [encB_of x (by omega)]; exact bk_cell (bk_new _ _) 1) (by have := hsz.out; simp [World.alloc, -World.alloc_eq]; omega) (by simp only [List.length_cons]; omega) (by simp only [List.length_cons, maxLen]; omega) ?_; intro v' w' h' g' a'; clear a')
          have hO2 : Asd (OR w' w.heap.size 5 encB v' (34 :: (l.take (k + 1)).flatMap (escD dg lt))) := ⟨by rw [Hfl.out]; exact h'⟩
          have hB2 : Asd (Below w.heap.size w w') := ⟨bl_grown (bl_alloc hB.out _) g' fun g hg => (hO'.out g hg).1⟩
          clear h' g' hO hB
          go_wp2_with fail
          refine ⟨⟨k + 1, by omega, by simp, hO2, hB2⟩, ?_⟩
          simp [intOf]; omega
        · have hpl2 : plainU x = false := by simpa using hpl2
          have hp := HP.out x
          rw [hpl2] at hp
          have HPx := Asd.mk hp
          rw [escD_hex hbare hpl2] at Hfl
          clear hb hbare hp hpl2
          go_wp2_with fail
          refine (HBx.out _).mono ?_
          rintro e w1 ⟨rfl, rfl⟩
          go_wp2_with fail
          refine (HPx.out _).mono ?_
          rintro e w1 ⟨rfl, rfl⟩
          go_wp2_with (at_builtin; refine wpList_append_two rfl _ _ 57 rfl encB_one 5 Tryz.underlying57 infoB w.heap.size u7 rfl _ (hO.out.alloc _) wr.heap.size 2 92 lt rfl (by exact bk_cell (bk_new _ _) 0) (by exact bk_cell (bk_new _ _) 1) (by have := hsz.out; simp [World.alloc, -World.alloc_eq]; omega) (by simp only [List.length_cons]; omega) (by simp only [List.length_cons, maxLen]; omega) ?_; intro v' w' h' g' a'; clear a')
          have hO2 : Asd (OR w' w.heap.size 5 encB v' (34 :: pre ++ [92, lt])) := ⟨h'⟩
          have hB2 : Asd (Below w.heap.size w w') := ⟨bl_grown (bl_alloc hB.out _) g' fun g hg => (hO'.out g hg).1⟩
          clear h' g' hO hB hO' hsz d1
          go_wp2_with fail
          obtain ⟨wo, hwo⟩ : ∃ wo : World, wo = w' := ⟨_, rfl⟩
          rw [← hwo] at hO2 hB2 ⊢
          clear hwo
          go_loopw [7, 10] (fun v7 v10 wr => ∃ c : Nat, c ≤ dg ∧ v10 = .int .i64 ((c : Int) - 1) ∧ Asd (OR wr w.heap.size 5 encB v7 (34 :: pre ++ [92, lt] ++ (digsD x dg).take (dg - c))) ∧ Asd (Below w.heap.size w wr)) (fun _ v10 _ => (intOf v10 + 1).toNat)
          case atStart => exact ⟨dg, Nat.le_refl _, rfl, ⟨by have := hO2.out; simpa using this⟩, hB2⟩
          case round =>
            obtain ⟨c, hc, rfl, hO, hB⟩ := hrel
            cases c with
            | zero =>
              have hfin : Asd (OR wr w.heap.size 5 encB u7 (34 :: (l.take (k + 1)).flatMap (escD dg lt))) := ⟨by
                rw [Hfl.out]
                have := hO.out
                rw [Nat.sub_zero, List.take_of_length_le (Nat.le_of_eq (digsD_len x dg))] at this
                simpa using this⟩
              clear hO
              go_wp2_with fail
              refine ⟨⟨k + 1, by omega, by simp, hfin, hB⟩, ?_⟩
              simp [intOf]; omega
            | succ j =>
              have e : ((j + 1 : Nat) : Int) - 1 = j := by omega
              rw [e]
              clear e
              obtain ⟨b8, hb8⟩ : ∃ b8, b8 = hexAt (x / 16 ^ j % 16) := ⟨_, rfl⟩
              have hst := digsD_step x dg j (by omega)
              rw [← hb8] at hst
              have Hst := Asd.mk hst
              have hand := and15 (x / 16 ^ j) (Nat.lt_of_le_of_lt (Nat.div_le_self _ _) hxl)
              have hidx := fun W => index_hex (x / 16 ^ j % 16) (Nat.mod_lt _ (by omega)) W
              rw [← hb8] at hidx
              have hb8b : (b8.toNat : Int) < 256 := by have := b8.toNat_lt; omega
              have hlen : ((digsD x dg).take (dg - (j + 1))).length ≤ 4 := by simp [digsD_len]; omega
              have Hlen := Asd.mk hlen
              have hO' := Asd.mk hO.out.lt
              have hsz := Asd.mk hB.out.size
              have Hj := Asd.mk (show j < dg by omega)
              unfold encB at hidx
              clear hst hb8 hlen
              have hj : j < 4 := by omega
              obtain ⟨d, hd⟩ : ∃ d, d = x / 16 ^ j % 16 := ⟨_, rfl⟩
              rw [← hd] at hidx hand
              have hand2 : (j = 0 → bits .and .u16 (x : Int) 15 = (d : Int)) ∧ (j = 1 → bits .and .u16 ((x : Int) / 16) 15 = (d : Int)) ∧ (j = 2 → bits .and .u16 ((x : Int) / 256) 15 = (d : Int)) ∧ (j = 3 → bits .and .u16 ((x : Int) / 4096) 15 = (d : Int)) := by
                refine ⟨?_, ?_, ?_, ?_⟩ <;> rintro rfl <;> simpa using hand
              obtain ⟨ha0, ha1, ha2, ha3⟩ := hand2
              clear hd hand
              rcases (by omega : j = 0 ∨ j = 1 ∨ j = 2 ∨ j = 3) with rfl | rfl | rfl | rfl
              all_goals
                first | have hand := ha0 rfl | have hand := ha1 rfl | have hand := ha2 rfl | have hand := ha3 rfl
                clear ha0 ha1 ha2 ha3
                obtain ⟨F, hF⟩ : ∃ F : Int → World → Result Value, ∀ W i, (Instr.index 9 (.string ⟨#[48, 49, 50, 51, 52, 53, 54, 55, 56, 57, 97, 98, 99, 100, 101, 102]⟩) (.int .u16 i)).run Tryz.prog W = F i W := ⟨_, fun _ _ => rfl⟩
                have hFd := fun W => (hF W d).symm.trans (hidx W)
                clear hidx
                go_wp2_with (at_builtin; refine wpList_append_one rfl _ _ 57 rfl encB_one 5 Tryz.underlying57 infoB w.heap.size u7 rfl _ (hO.out.alloc _) wr.heap.size 1 b8 rfl (by exact bk_cell (bk_new _ _) 0) (by have := hsz.out; simp [World.alloc, -World.alloc_eq]; omega) (by have := Hlen.out; simp only [List.length_append, List.length_cons, List.length_nil]; omega) (by have := Hlen.out; simp only [List.length_append, List.length_cons, List.length_nil, maxLen]; omega) ?_; intro v' w' h' g' a'; clear a')
                have hO2 : Asd (OR w' w.heap.size 5 encB v' _) := ⟨h'⟩
                rw [List.append_assoc, ← Hst.out] at hO2
                have hB2 : Asd (Below w.heap.size w w') := ⟨bl_grown (bl_alloc hB.out _) g' fun g hg => (hO'.out g hg).1⟩
                clear h' g' hO hB
                go_wp2_with fail
                have := Hj.out
                refine ⟨⟨_, by omega, ?_, hO2, hB2⟩, ?_⟩
                · first | rfl | simp
                · simp [intOf]
    · have hkn : k = n := by omega
      have hall : (l.take k).flatMap (escD dg lt) = l.flatMap (escD dg lt) := by rw [List.take_of_length_le (by rw [← Hn.out]; omega)]
      rw [hall] at hO
      have hfl : (l.flatMap (escD dg lt)).length ≤ 134217728 * 6 := by
        have := flat_le (escD dg lt) (2 + dg) (escD_len dg lt) l
        refine Nat.le_trans this (Nat.mul_le_mul (by rw [← Hn.out]; omega) (by omega))
      have hge : ¬ (k : Int) < (n : Int) := by omega
      have hO' := Asd.mk hO.out.lt
      have hsz := Asd.mk hB.out.size
      clear hall hkn
      go_wp2_with (at_builtin; refine wpList_append_one rfl _ _ 57 rfl encB_one 5 Tryz.underlying57 infoB w.heap.size u7 rfl _ (hO.out.alloc _) wr.heap.size 1 34 rfl (by exact bk_cell (bk_new _ _) 0) (by have := hsz.out; simp [World.alloc, -World.alloc_eq]; omega) (by simp only [List.length_cons]; omega) (by simp only [List.length_cons, maxLen]; omega) ?_; intro v' w' h' g' a'; clear a'; have hcv := Hstr.out _ _ _ h')
      go_ret
      refine ⟨?_, bl_grown (bl_alloc hB.out _) g' fun g hg => (hO'.out g hg).1⟩
      rfl
end Go.Proofs.YthclgijnfopikaaGreatDoor
