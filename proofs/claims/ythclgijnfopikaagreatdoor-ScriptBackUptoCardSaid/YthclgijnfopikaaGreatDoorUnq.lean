/- The walk of script.unquote. -/
import Derived.Test.YthclgijnfopikaaGreatDoorQuo
import Derived.Test.YthclgijnfopikaaGreatDoorUnqLaw
namespace Go.Proofs.YthclgijnfopikaaGreatDoor
open Go.RowKit

def UnqPost (u : Option (List Nat × List UInt8)) (w : World) (e : Ending) (w' : World) : Prop :=
  ∃ v, e = .returned (.tuple #[v, .string (str ((u.map (·.2)).getD [])), .bool u.isSome]) ∧ OR w' w.heap.size 115 encU v ((u.map (·.1)).getD []) ∧ Below w.heap.size w w'
theorem drop_get (s : ByteArray) (k : Nat) (h : k < s.size) : s.data.toList.drop k = s[k] :: s.data.toList.drop (k + 1) := by
  have hl : k < s.data.toList.length := by simpa using h
  rw [List.drop_eq_getElem_cons hl]
  rfl
theorem unq_none {dg : Nat} {lt : UInt8} {s : ByteArray} (h : ∀ h : 0 < s.size, s[0] ≠ 34) : unquoteD dg lt s.data.toList = none := by
  by_cases h0 : 0 < s.size
  · have := drop_get s 0 h0
    rw [List.drop_zero] at this
    rw [this]
    unfold unquoteD
    simp only []
    rw [if_neg (h h0)]
  · have hz : s.size = 0 := by omega
    have : s.data.toList = [] := List.eq_nil_of_length_eq_zero (by rw [show s.data.toList.length = s.size by simp]; exact hz)
    rw [this]; rfl
theorem unq_some {dg : Nat} {lt : UInt8} {s : ByteArray} (h0 : 0 < s.size) (h : s[0] = 34) : unquoteD dg lt s.data.toList = unqD dg lt (s.data.toList.drop 1) [] := by
  have := drop_get s 0 h0
  rw [List.drop_zero] at this
  rw [this]
  unfold unquoteD
  simp only []
  rw [if_pos h]
  rfl
theorem idx_calls (b : UInt8) (w : World) : Calls Tryz.prog 103 #[.string ⟨#[48, 49, 50, 51, 52, 53, 54, 55, 56, 57, 97, 98, 99, 100, 101, 102]⟩, .int .u8 b.toNat] w fun e w' => e = .returned (.int .i64 (Lib.indexByte hexL b)) ∧ w = w' :=
  (Tryz.strings_IndexByte ⟨#[48, 49, 50, 51, 52, 53, 54, 55, 56, 57, 97, 98, 99, 100, 101, 102]⟩ (b.toNat : Int) w).mono fun e w' ⟨h1, h2⟩ => ⟨by
    rw [h1, Int.toNat_natCast, show b.toNat.toUInt8 = b by simp]; rfl, h2.symm⟩
theorem or_add (u d : Nat) (hu : u < 4096) (hd : d < 16) : bits .or .u16 ((u : Int) * 16) (d : Int) = ((u * 16 + d : Nat) : Int) := by
  have h := u16_or_nat (u * 16) d (by omega) (by omega)
  rw [show ((u : Int) * 16) = ((u * 16 : Nat) : Int) by omega, h]
  congr 1
  have := Nat.shiftLeft_add_eq_or_of_lt (a := u) (i := 4) (b := d) (by omega)
  rw [Nat.shiftLeft_eq] at this
  exact this.symm

set_option maxHeartbeats 4000000 in
set_option maxRecDepth 100000 in
theorem unquote_calls (dg : Nat) (hdg : dg ≤ 4) (lt : UInt8) (hltr : ¬ (lt = 34 ∨ lt = 92)) (s : ByteArray) (hs : s.size ≤ 1048576) (w : World) :
    Calls Tryz.prog 87 #[.string s, .int .i64 dg, .int .u8 lt.toNat] w (UnqPost (unquoteD dg lt s.data.toList) w) := by
  by_cases h0 : 0 < s.size
  · by_cases h34 : s[0] = 34
    · rw [unq_some h0 h34]
      obtain ⟨U, hU⟩ : ∃ U, U = unqD dg lt (s.data.toList.drop 1) [] := ⟨_, rfl⟩
      rw [← hU]
      have HU := Asd.mk hU
      have he : s.toList.isEmpty = false := by
        rw [ByteArray.toList_eq]
        cases hd : s.data.toList with
        | nil => have : s.size = 0 := by have := congrArg List.length hd; simpa using this
                 omega
        | cons a r => rfl
      have g0 : ((s[0].toNat : Int) != 34) = false := by rw [h34]; rfl
      clear hU h34
      go_enter Tryz.func87, Tryz.ntmps87
      go_wp2_with fail
      go_loopw [9, 10] (fun v9 v10 wr => ∃ (k : Nat) (acc : List Nat), 1 ≤ k ∧ k ≤ s.size ∧ v10 = .int .i64 k ∧ Asd (OR wr w.heap.size 115 encU v9 acc) ∧ Asd (Below w.heap.size w wr) ∧ Asd (unqD dg lt (s.data.toList.drop k) acc = U) ∧ Asd (acc.length ≤ k)) (fun _ v10 _ => s.size - (intOf v10).toNat)
      case atStart => exact ⟨1, [], Nat.le_refl _, by omega, rfl, ⟨OR.nil _ _ _ _⟩, ⟨Below.refl _ _⟩, ⟨HU.out.symm⟩, ⟨Nat.zero_le _⟩⟩
      case round =>
        obtain ⟨k, acc, hk1, hk, rfl, hO, hB, hu, hla⟩ := hrel
        have hsz := Asd.mk hB.out.size
        have hO' := Asd.mk hO.out.lt
        have hdg4 : (dg : Int) ≤ 4 := by omega
        by_cases hlt : k < s.size
        · have hdr := drop_get s k hlt
          rw [hdr] at hu
          have hc8 : (s[k].toNat : Int) < 256 := by have := s[k].toNat_lt; omega
          have Hla : Asd (acc.length ≤ 1048576) := ⟨by have := hla.out; omega⟩
          clear hdr
          by_cases h34 : s[k] = 34
          · -- the end
            have g34 : ((s[k].toNat : Int) == 34) = true := by rw [h34]; rfl
            have hUe : Asd (U = some (acc, s.data.toList.drop (k + 1))) := ⟨by rw [← hu.out, h34, unq_end]⟩
            have hex := Asd.mk (extract_drop s (k + 1))
            have hk2 : k + 1 ≤ s.size := by omega
            clear h34 hu
            go_wp2_with fail
            go_quiet (fail)
            go_wp2_with fail
            go_ret3
            rw [hUe.out]
            refine ⟨_, ?_, hO.out.drewN _, below_drewN hB.out _⟩
            show _ = Ending.returned (.tuple #[_, .string (str (s.data.toList.drop (k + 1))), .bool true])
            rw [← hex.out]
            rfl
          · have g34 : ((s[k].toNat : Int) == 34) = false := by
              have : s[k].toNat ≠ 34 := fun e => h34 (UInt8.toNat_inj.1 (by rw [e]; rfl))
              simpa using (by omega : ¬ (s[k].toNat : Int) = 34)
            by_cases hb : bareU s[k].toNat = true
            · -- a unit that stands as it is
              have HBx := Asd.mk (bareU_calls s[k].toNat)
              rw [hb] at HBx
              have hu2 : Asd (unqD dg lt (s.data.toList.drop (k + 1)) (acc ++ [s[k].toNat]) = U) := ⟨by rw [← hu.out, unq_bare hb]⟩
              clear hu hb h34
              go_wp2_with fail
              refine (HBx.out _).mono ?_
              rintro e w1 ⟨rfl, rfl⟩
              go_wp2_with (at_builtin; refine wpList_append_one rfl _ _ 23 rfl encU_one' 115 Tryz.underlying23 infoD w.heap.size u9 rfl _ (hO.out.alloc _) wr.heap.size 1 s[k].toNat rfl (by exact bk_cell (bk_new _ _) 0) (by have := hsz.out; simp [World.alloc, -World.alloc_eq]; omega) (by have := Hla.out; omega) (by have := Hla.out; simp only [maxLen]; omega) ?_; intro v' w' h' g' a'; clear a')
              have hO2 : Asd (OR w' w.heap.size 115 encU v' (acc ++ [s[k].toNat])) := ⟨h'⟩
              have hB2 : Asd (Below w.heap.size w w') := ⟨bl_grown (bl_alloc hB.out _) g' fun g hg => (hO'.out g hg).1⟩
              clear h' g' hO hB
              go_wp2_with fail
              refine ⟨⟨k + 1, _, by omega, by omega, by simp, hO2, hB2, hu2, ⟨by have := hla.out; simp only [List.length_append, List.length_cons, List.length_nil]; omega⟩⟩, ?_⟩
              simp [intOf]; omega
            · have hb : bareU s[k].toNat = false := by simpa using hb
              have HBx := Asd.mk (bareU_calls s[k].toNat)
              rw [hb] at HBx
              by_cases h92 : s[k] = 92
              · have g92 : ((s[k].toNat : Int) != 92) = false := by rw [h92]; rfl
                rw [h92] at hu
                by_cases hend : k + 1 = s.size
                · -- nothing behind the stroke
                  have gend : (((k : Int) + 1) == (s.size : Int)) = true := by simpa using (by omega : (k : Int) + 1 = s.size)
                  have hUe : Asd (U = none) := ⟨by rw [← hu.out, List.drop_of_length_le (by rw [show s.data.toList.length = s.size by simp]; omega), unq_92]⟩
                  clear hu hb h34 h92 hend
                  go_wp2_with fail
                  refine (HBx.out _).mono ?_
                  rintro e w1 ⟨rfl, rfl⟩
                  go_wp2_with fail
                  go_ret3
                  rw [hUe.out]
                  exact ⟨_, rfl, OR.nil _ _ _ _, hB.out⟩
                · have gend : (((k : Int) + 1) == (s.size : Int)) = false := by simpa using (by omega : ¬ (k : Int) + 1 = s.size)
                  have hlt2 : k + 1 < s.size := by omega
                  rw [drop_get s (k + 1) hlt2] at hu
                  have hc82 : (s[k + 1].toNat : Int) < 256 := by have := s[k + 1].toNat_lt; omega
                  by_cases he : s[k + 1] = 34 ∨ s[k + 1] = 92
                  · have hu2 : Asd (unqD dg lt (s.data.toList.drop (k + 1 + 1)) (acc ++ [s[k + 1].toNat]) = U) := ⟨by rw [← hu.out, unq_plain he]⟩
                    have ge : ((s[k + 1].toNat : Int) == 34) = true ∨ (((s[k + 1].toNat : Int) == 34) = false ∧ ((s[k + 1].toNat : Int) == 92) = true) := by
                      rcases he with h | h
                      · left; rw [h]; rfl
                      · right; rw [h]; exact ⟨rfl, rfl⟩
                    clear hu hb h34 h92 hend he
                    rcases ge with ge | ⟨ge, ge2⟩
                    all_goals
                      go_wp2_with fail
                      refine (HBx.out _).mono ?_
                      rintro e w1 ⟨rfl, rfl⟩
                      go_wp2_with (at_builtin; refine wpList_append_one rfl _ _ 23 rfl encU_one' 115 Tryz.underlying23 infoD w.heap.size u9 rfl _ (hO.out.alloc _) wr.heap.size 1 s[k + 1].toNat rfl (by exact bk_cell (bk_new _ _) 0) (by have := hsz.out; simp [World.alloc, -World.alloc_eq]; omega) (by have := Hla.out; omega) (by have := Hla.out; simp only [maxLen]; omega) ?_; intro v' w' h' g' a'; clear a')
                      have hO2 : Asd (OR w' w.heap.size 115 encU v' (acc ++ [s[k + 1].toNat])) := ⟨h'⟩
                      have hB2 : Asd (Below w.heap.size w w') := ⟨bl_grown (bl_alloc hB.out _) g' fun g hg => (hO'.out g hg).1⟩
                      clear h' g' hO hB
                      go_wp2_with fail
                      refine ⟨⟨k + 1 + 1, _, by omega, by omega, by simp, hO2, hB2, hu2, ⟨by have := hla.out; simp only [List.length_append, List.length_cons, List.length_nil]; omega⟩⟩, ?_⟩
                      simp [intOf]; omega
                  · have ge : ((s[k + 1].toNat : Int) == 34) = false := by
                      have : s[k + 1].toNat ≠ 34 := fun e => he (.inl (UInt8.toNat_inj.1 (by rw [e]; rfl)))
                      simpa using (by omega : ¬ (s[k + 1].toNat : Int) = 34)
                    have ge2 : ((s[k + 1].toNat : Int) == 92) = false := by
                      have : s[k + 1].toNat ≠ 92 := fun e => he (.inr (UInt8.toNat_inj.1 (by rw [e]; rfl)))
                      simpa using (by omega : ¬ (s[k + 1].toNat : Int) = 92)
                    rw [unq_letter he] at hu
                    have hrl : (s.data.toList.drop (k + 1 + 1)).length = s.size - (k + 2) := by rw [List.length_drop, show s.data.toList.length = s.size by simp]
                    by_cases hlt3 : s[k + 1] = lt
                    · have gl : ((s[k + 1].toNat : Int) != (lt.toNat : Int)) = false := by rw [hlt3]; simp
                      by_cases hlong : k + 1 + dg < s.size
                      · have glong : decide ((s.size : Int) ≤ (k : Int) + 1 + (dg : Int)) = false := by simp; omega
                        have hdl : ¬ (s[k + 1] ≠ lt ∨ (s.data.toList.drop (k + 1 + 1)).length < dg) := by rw [hrl]; simp [hlt3]; omega
                        rw [if_neg hdl] at hu
                        clear hb h34 h92 hend he hlt3 hrl hdl
                        go_wp2_with fail
                        refine (HBx.out _).mono ?_
                        rintro e w1 ⟨rfl, rfl⟩
                        go_wp2_with fail
                        obtain ⟨D, hD⟩ : ∃ D, D = (s.data.toList.drop (k + 1 + 1)).take dg := ⟨_, rfl⟩
                        have hDl : D.length = dg := by rw [hD, List.length_take, List.length_drop, show s.data.toList.length = s.size by simp]; omega
                        have hDg : ∀ (j : Nat) (h1 : 1 ≤ j) (h2 : j ≤ dg) (h3 : k + 1 + j < s.size), D.drop (j - 1) = s[k + 1 + j] :: D.drop j := fun j h1 h2 h3 => by
                          have hjl : j - 1 < D.length := by omega
                          rw [List.drop_eq_getElem_cons hjl]
                          have e1 : D[j - 1] = s[k + 1 + j] := by
                            have e2 : s[k + 1 + j] = s.data.toList[k + 1 + j]'(by rw [show s.data.toList.length = s.size by simp]; omega) := rfl
                            rw [e2]
                            simp only [hD, List.getElem_take, List.getElem_drop]
                            congr 1
                            omega
                          rw [e1, show j - 1 + 1 = j by omega]
                        rw [← hD] at hu
                        obtain ⟨R, hR⟩ : ∃ R, R = hexsD D 0 := ⟨_, rfl⟩
                        rw [← hR] at hu
                        have HR := Asd.mk hR
                        have HDl := Asd.mk hDl
                        have HDg := Asd.mk hDg
                        have HI := Asd.mk idx_calls
                        clear hD hDl hDg hR g34 g92 gend ge ge2 gl glong HBx
                        go_loop [11, 12] (fun v11 v12 => ∃ j u : Nat, 1 ≤ j ∧ j ≤ dg + 1 ∧ v12 = .int .i64 j ∧ v11 = .int .u16 u ∧ Asd (hexsD (D.drop (j - 1)) u = R) ∧ Asd (u < 16 ^ (j - 1))) (fun _ v12 => dg + 1 - (intOf v12).toNat)
                        case atStart => exact ⟨1, 0, Nat.le_refl _, by omega, rfl, rfl, ⟨HR.out.symm⟩, ⟨by decide⟩⟩
                        case round =>
                          obtain ⟨j, u, hj1, hj2, rfl, rfl, hh, hul⟩ := hrel
                          have hu16 : u < 65536 := Nat.lt_of_lt_of_le hul.out (Nat.le_trans (Nat.pow_le_pow_right (by omega) (by omega : j - 1 ≤ 4)) (by decide))
                          by_cases hjd : j ≤ dg
                          · have hbnd : k + 1 + j < s.size := by omega
                            obtain ⟨b, hb⟩ : ∃ b, b = s[k + 1 + j] := ⟨_, rfl⟩
                            have hdj := HDg.out j hj1 hjd hbnd
                            rw [← hb] at hdj
                            rw [hdj] at hh
                            have HIb := Asd.mk (HI.out b)
                            obtain ⟨x, hx⟩ : ∃ x, x = Lib.indexByte hexL b := ⟨_, rfl⟩
                            rw [← hx] at HIb
                            have Hx := Asd.mk hx
                            have hjd' : (j : Int) ≤ (dg : Int) := by omega
                            have hb8 : (b.toNat : Int) < 256 := by have := b.toNat_lt; omega
                            rw [hb] at HIb hb8
                            clear hb hdj
                            by_cases hx0 : x < 0
                            · have hUe : Asd (U = none) := ⟨by
                                have e : R = none := by rw [← hh.out, hexsD, ← Hx.out, if_pos hx0]
                                rw [← hu.out, e]⟩
                              clear hh hul hu
                              clear hx
                              go_wp2_with fail
                              refine (HIb.out _).mono ?_
                              rintro e w1 ⟨rfl, rfl⟩
                              go_wp2_with fail
                              go_ret3
                              rw [hUe.out]
                              exact ⟨_, rfl, OR.nil _ _ _ _, hB.out⟩
                            · obtain ⟨d, rfl⟩ := Int.eq_ofNat_of_zero_le (by omega : 0 ≤ x)
                              have hd16 : d < 16 := by have := (hex_back b (by rw [← Hx.out]; omega)).1; rw [← Hx.out, Int.toNat_natCast] at this; exact this
                              have hu4 : u < 4096 := Nat.lt_of_lt_of_le hul.out (Nat.le_trans (Nat.pow_le_pow_right (by omega) (by omega : j - 1 ≤ 3)) (by decide))
                              have hor := or_add u d hu4 hd16
                              have hh2 : Asd (hexsD (D.drop (j + 1 - 1)) (u * 16 + d) = R) := ⟨by
                                have := hh.out
                                rw [hexsD, ← Hx.out, if_neg hx0, Int.toNat_natCast] at this
                                rw [show j + 1 - 1 = j by omega]
                                exact this⟩
                              have hul2 : Asd (u * 16 + d < 16 ^ (j + 1 - 1)) := ⟨by
                                have h1 := hul.out
                                rw [show j + 1 - 1 = (j - 1) + 1 by omega, Nat.pow_succ]
                                omega⟩
                              have hu4' : (u : Int) < 4096 := by omega
                              have hd16' : (d : Int) < 16 := by omega
                              clear hh hul hx hx0
                              go_wp2_with fail
                              refine (HIb.out _).mono ?_
                              rintro e w1 ⟨rfl, rfl⟩
                              go_wp2_with fail
                              refine ⟨⟨j + 1, u * 16 + d, by omega, by omega, by simp, by simp, hh2, hul2⟩, ?_⟩
                              simp [intOf]; omega
                          · have hj : j = dg + 1 := by omega
                            have hRu : R = some u := by
                              have := hh.out
                              rw [List.drop_of_length_le (by rw [HDl.out]; omega), hexsD] at this
                              exact this.symm
                            rw [hRu] at hu
                            have hjd' : ¬ (j : Int) ≤ (dg : Int) := by omega
                            have hjj : (j : Int) = (dg : Int) + 1 := by omega
                            have HPx := Asd.mk (plainU_calls u)
                            clear hRu hh hul hj hjj
                            by_cases hp : plainU u = true
                            · have hUe : Asd (U = none) := ⟨by rw [← hu.out]; simp only []; rw [if_pos hp]⟩
                              rw [hp] at HPx
                              clear hu hp
                              go_wp2_with fail
                              refine (HPx.out _).mono ?_
                              rintro e w1 ⟨rfl, rfl⟩
                              go_wp2_with fail
                              go_ret3
                              rw [hUe.out]
                              exact ⟨_, rfl, OR.nil _ _ _ _, hB.out⟩
                            · have hp : plainU u = false := by simpa using hp
                              have hu2 : Asd (unqD dg lt (s.data.toList.drop (k + 1 + dg + 1)) (acc ++ [u]) = U) := ⟨by
                                have := hu.out
                                simp only [] at this
                                rw [if_neg (by simp [hp]), List.drop_drop] at this
                                rw [← this]
                                congr 2
                                omega⟩
                              rw [hp] at HPx
                              clear hu hp
                              go_wp2_with fail
                              refine (HPx.out _).mono ?_
                              rintro e w1 ⟨rfl, rfl⟩
                              go_wp2_with (at_builtin; refine wpList_append_one rfl _ _ 23 rfl encU_one' 115 Tryz.underlying23 infoD w.heap.size u9 rfl _ (hO.out.alloc _) wr.heap.size 1 u rfl (by exact bk_cell (bk_new _ _) 0) (by have := hsz.out; simp [World.alloc, -World.alloc_eq]; omega) (by have := Hla.out; omega) (by have := Hla.out; simp only [maxLen]; omega) ?_; intro v' w' h' g' a'; clear a')
                              have hO2 : Asd (OR w' w.heap.size 115 encU v' (acc ++ [u])) := ⟨h'⟩
                              have hB2 : Asd (Below w.heap.size w w') := ⟨bl_grown (bl_alloc hB.out _) g' fun g hg => (hO'.out g hg).1⟩
                              clear h' g' hO hB
                              go_wp2_with fail
                              refine ⟨⟨k + 1 + dg + 1, _, by omega, by omega, by simp, hO2, hB2, hu2, ⟨by have := hla.out; simp only [List.length_append, List.length_cons, List.length_nil]; omega⟩⟩, ?_⟩
                              simp [intOf]; omega
                      · have glong : decide ((s.size : Int) ≤ (k : Int) + 1 + (dg : Int)) = true := by simp; omega
                        have hUe : Asd (U = none) := ⟨by rw [← hu.out, if_pos (.inr (by rw [hrl]; omega))]⟩
                        clear hu hb h34 h92 hend he hlt3 hrl hlong
                        go_wp2_with fail
                        refine (HBx.out _).mono ?_
                        rintro e w1 ⟨rfl, rfl⟩
                        go_wp2_with fail
                        go_ret3
                        rw [hUe.out]
                        exact ⟨_, rfl, OR.nil _ _ _ _, hB.out⟩
                    · have gl : ((s[k + 1].toNat : Int) != (lt.toNat : Int)) = true := by
                        have : s[k + 1].toNat ≠ lt.toNat := fun e => hlt3 (UInt8.toNat_inj.1 e)
                        simpa using (by omega : ¬ (s[k + 1].toNat : Int) = (lt.toNat : Int))
                      have hUe : Asd (U = none) := ⟨by rw [← hu.out, if_pos (.inl hlt3)]⟩
                      clear hu hb h34 h92 hend he hlt3 hrl
                      go_wp2_with fail
                      refine (HBx.out _).mono ?_
                      rintro e w1 ⟨rfl, rfl⟩
                      go_wp2_with fail
                      go_ret3
                      rw [hUe.out]
                      exact ⟨_, rfl, OR.nil _ _ _ _, hB.out⟩
              · -- no stroke
                have g92 : ((s[k].toNat : Int) != 92) = true := by
                  have : s[k].toNat ≠ 92 := fun e => h92 (UInt8.toNat_inj.1 (by rw [e]; rfl))
                  simpa using (by omega : ¬ (s[k].toNat : Int) = 92)
                have hUe : Asd (U = none) := ⟨by rw [← hu.out, unq_bad h34 hb h92]⟩
                clear hu hb h34 h92
                go_wp2_with fail
                refine (HBx.out _).mono ?_
                rintro e w1 ⟨rfl, rfl⟩
                go_wp2_with fail
                go_ret3
                rw [hUe.out]
                exact ⟨_, rfl, OR.nil _ _ _ _, hB.out⟩
        · have hge : ¬ (k : Int) < (s.size : Int) := by omega
          have hUe : Asd (U = none) := ⟨by rw [← hu.out, List.drop_of_length_le (by rw [show s.data.toList.length = s.size by simp]; omega), unq_nil]⟩
          clear hu
          go_wp2_with fail
          go_ret3
          rw [hUe.out]
          exact ⟨_, rfl, OR.nil _ _ _ _, hB.out⟩
    · have hU := unq_none (dg := dg) (lt := lt) (s := s) (fun h => h34)
      rw [hU]
      have he : s.toList.isEmpty = false := by
        rw [ByteArray.toList_eq]
        cases hd : s.data.toList with
        | nil => have : s.size = 0 := by have := congrArg List.length hd; simpa using this
                 omega
        | cons a r => rfl
      have g0 : ((s[0].toNat : Int) != 34) = true := by
        have : s[0].toNat ≠ 34 := fun e => h34 (UInt8.toNat_inj.1 (by rw [e]; rfl))
        simpa using (by omega : ¬ (s[0].toNat : Int) = 34)
      clear hU h34
      go_enter Tryz.func87, Tryz.ntmps87
      go_wp2_with fail
      go_ret3
      exact ⟨_, rfl, OR.nil _ _ _ _, Below.refl _ _⟩
  · rw [unq_none fun h => absurd h h0]
    have he : s.toList.isEmpty = true := by
      rw [ByteArray.toList_eq, List.isEmpty_iff]
      exact List.eq_nil_of_length_eq_zero (by rw [show s.data.toList.length = s.size by simp]; omega)
    go_enter Tryz.func87, Tryz.ntmps87
    go_wp2_with fail
    go_ret3
    exact ⟨_, rfl, OR.nil _ _ _ _, Below.refl _ _⟩
end Go.Proofs.YthclgijnfopikaaGreatDoor
