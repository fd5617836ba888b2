/- The walk of canopyref28.Plain. (Printed by gen_refplain.py.) -/
import Derived.Test.YthclgijnfopikaaGreatDoorRdr
import Derived.Test.YthclgijnfopikaaGreatDoorSpec6
import Derived.Test.YthclgijnfopikaaGreatDoorAppendRd
import Derived.Test.YthclgijnfopikaaGreatDoorSame
import Derived.Test.YthclgijnfopikaaGreatDoorPlain
import Derived.Test.YthclgijnfopikaaGreatDoorRefWords
namespace Go.Proofs.YthclgijnfopikaaGreatDoor
open Go.RowKit

theorem flds_len (op : Nat) : (flds op).length ≤ 16 := by
  by_cases h : op < 45
  · have : ((List.range 45).all fun i => decide ((flds i).length ≤ 16)) = true := by decide +kernel
    have := List.all_eq_true.1 this op (List.mem_range.2 h)
    simpa using this
  · rw [(word_out op (by omega)).2]; simp
set_option maxHeartbeats 8000000 in
set_option maxRecDepth 100000 in
theorem rplain_some {ok : Nat → Prop} (m : Cmd) (ho0 : 0 < m.op) (ho1 : m.op < 45) (cs : Array Value) (w : World) (hd : m.data.length ≤ 70368744177664) (hl : m.list.length ≤ 17592186044416) (hn : m.names.length ≤ 8796093022208) (hkv : KV w ok cs m) :
    Calls Tryz.prog 20 #[.agg cs] w (PlainPost m w) := by
  obtain ⟨vD, vL, vK, rfl, rD, rL, rK⟩ := hkv
  obtain ⟨mop, hmop⟩ : ∃ o, o = m.op := ⟨_, rfl⟩
  have HKn := Asd.mk (fun W => rknown_calls mop W)
  have HOf := Asd.mk (fun W => rfields_calls mop (by omega) W)
  have hkn : (decide (0 < mop) && decide (mop < 45)) = true := by rw [hmop]; simp; omega
  rw [hkn] at HKn
  clear hkn ho0 ho1
  obtain ⟨b, hbf⟩ : ∃ b, b = str (flds mop) := ⟨_, rfl⟩
  rw [← hbf] at HOf
  have Hbf := Asd.mk hbf
  have Hbl := Asd.mk (show b.size = (flds mop).length by rw [hbf]; show (flds mop).toArray.size = _; simp)
  have Hmop := Asd.mk hmop
  obtain ⟨sS, hS⟩ : ∃ s, s = str m.S := ⟨_, rfl⟩
  obtain ⟨sT, hT⟩ : ∃ s, s = str m.T := ⟨_, rfl⟩
  have HS := Asd.mk hS
  have HT := Asd.mk hT
  simp only [cmdCells]
  rw [← hmop, ← hS, ← hT]
  obtain ⟨pb, hpb⟩ : ∃ p, p = w.heap.size := ⟨_, rfl⟩
  have ZL : zeroCmd 0 = #[.int .u8 0, .int .i64 0, .int .i64 0, .int .i64 0, .int .i64 0, .int .i64 0, .string ⟨#[]⟩, .string ⟨#[]⟩, .slice none 0 0, .slice none 0 0, .slice none 0 0, .bool false] := rfl
  have ZM : zeroCmd mop = #[.int .u8 mop, .int .i64 0, .int .i64 0, .int .i64 0, .int .i64 0, .int .i64 0, .string ⟨#[]⟩, .string ⟨#[]⟩, .slice none 0 0, .slice none 0 0, .slice none 0 0, .bool false] := rfl
  obtain ⟨W3, hW3⟩ : ∃ W, W = ((w.alloc (.cells #[.int .u8 mop, .int .i64 m.A, .int .i64 m.B, .int .i64 m.C, .int .i64 m.N, .int .i64 m.M, .string sS, .string sT, vD, vL, vK, .bool m.yes] 28)).alloc (.cells (zeroCmd 0) 28)).alloc (.cells (zeroCmd mop) 28) := ⟨_, rfl⟩
  have hz1 : (w.alloc (.cells #[.int .u8 mop, .int .i64 m.A, .int .i64 m.B, .int .i64 m.C, .int .i64 m.N, .int .i64 m.M, .string sS, .string sT, vD, vL, vK, .bool m.yes] 28)).heap.size = pb + 1 := by rw [hpb]; simp [World.alloc, -World.alloc_eq]
  have hz2 : ((w.alloc (.cells #[.int .u8 mop, .int .i64 m.A, .int .i64 m.B, .int .i64 m.C, .int .i64 m.N, .int .i64 m.M, .string sS, .string sT, vD, vL, vK, .bool m.yes] 28)).alloc (.cells (zeroCmd 0) 28)).heap.size = pb + 1 + 1 := by rw [hpb]; simp [World.alloc, -World.alloc_eq]
  have X3 : Asd (W3.heap[pb]? = some (.cells #[.int .u8 mop, .int .i64 m.A, .int .i64 m.B, .int .i64 m.C, .int .i64 m.N, .int .i64 m.M, .string sS, .string sT, vD, vL, vK, .bool m.yes] 28 (0, 0))) := ⟨by rw [hW3, hpb]; exact bk_alloc (bk_alloc (bk_new w _) _) _⟩
  have R3 : Asd (W3.heap[pb + 1]? = some (.cells (zeroCmd 0) 28 (0, 0))) := ⟨by rw [hW3, ← hz1]; exact bk_alloc (bk_new _ _) _⟩
  have D3 : Asd (CmdIn W3 (fun _ => False) (pb + 1 + 1) (Cmd.zero mop)) := ⟨⟨_, by rw [hW3, ← hz2]; exact bk_new _ _, kv_zero _ _ _⟩⟩
  have B3 : Asd (Below w.heap.size w W3) := ⟨by rw [hW3]; exact bl_alloc (bl_alloc (bl_alloc (Below.refl _ _) _) _) _⟩
  have hw3 : ((w.alloc (.cells #[.int .u8 mop, .int .i64 m.A, .int .i64 m.B, .int .i64 m.C, .int .i64 m.N, .int .i64 m.M, .string sS, .string sT, vD, vL, vK, .bool m.yes] 28)).alloc (.cells #[.int .u8 0, .int .i64 0, .int .i64 0, .int .i64 0, .int .i64 0, .int .i64 0, .string ⟨#[]⟩, .string ⟨#[]⟩, .slice none 0 0, .slice none 0 0, .slice none 0 0, .bool false] 28)).alloc (.cells #[.int .u8 mop, .int .i64 0, .int .i64 0, .int .i64 0, .int .i64 0, .int .i64 0, .string ⟨#[]⟩, .string ⟨#[]⟩, .slice none 0 0, .slice none 0 0, .slice none 0 0, .bool false] 28) = W3 := by rw [hW3, ZL, ZM]
  have Hw3 := Asd.mk hw3
  have Hpb := Asd.mk hpb
  have HD := Asd.mk (And.intro rD hd)
  have HL := Asd.mk (And.intro rL hl)
  have HK := Asd.mk (And.intro rK hn)
  clear hmop hbf hS hT hpb hW3 hw3 hz1 hz2 ZL ZM rD rL rK hd hl hn
  go_enter Tryz.func20, Tryz.ntmps20
  go_wp2_with fail
  rw [Hw3.out, ← Hpb.out]
  clear Hw3
  refine (HKn.out _).mono ?_
  rintro e w3' ⟨rfl, rfl⟩
  clear HKn
  have y0 := bk_cell X3.out 0
  simp only [List.getElem?_toArray, List.getElem?_cons_zero] at y0
  go_wp2_with fail
  refine (HOf.out _).mono ?_
  rintro e w5 ⟨rfl, hb4⟩
  clear y0
  have X5 := Asd.mk (bk_below X3.out hb4 (bk_lt X3.out))
  have R5 := Asd.mk (bk_below R3.out hb4 (bk_lt R3.out))
  have D5 : Asd (CmdIn w5 (fun _ => False) (pb + 1 + 1) (Cmd.zero mop)) := ⟨D3.out.kept (hb4.block _ (by obtain ⟨_, e, _⟩ := D3.out; exact bk_lt e)) fun g _ _ _ ho e => ⟨hb4.block g (bk_lt e), ho⟩⟩
  have B5 := Asd.mk (bl_trans B3.out hb4)
  clear hb4 X3 R3 D3 B3
  go_wp2_with fail
  clear HOf
  go_loopw [5] (fun v5 wr => ∃ k : Nat, k ≤ b.size ∧ v5 = .int .i64 k ∧ Asd (CmdIn wr (fun g => pb + 1 + 1 < g) (pb + 1 + 1) (((flds mop).take k).foldl (stepC m) (Cmd.zero mop))) ∧
      Asd (wr.heap[pb]? = some (.cells #[.int .u8 mop, .int .i64 m.A, .int .i64 m.B, .int .i64 m.C, .int .i64 m.N, .int .i64 m.M, .string sS, .string sT, vD, vL, vK, .bool m.yes] 28 (0, 0))) ∧ Asd (wr.heap[pb + 1]? = some (.cells (zeroCmd 0) 28 (0, 0))) ∧ Asd (Below w.heap.size w wr)) (fun v5 _ => b.size - (intOf v5).toNat)
  case atStart => exact ⟨0, Nat.zero_le _, rfl, ⟨D5.out.kept rfl fun g c t f ho e => ho.elim⟩, X5, R5, B5⟩
  case round =>
    obtain ⟨k, hk, rfl, hD, hX, hR, hB⟩ := hrel
    obtain ⟨dm, hdm⟩ : ∃ d, d = ((flds mop).take k).foldl (stepC m) (Cmd.zero mop) := ⟨_, rfl⟩
    rw [← hdm] at hD
    by_cases hlt : k < b.size
    · obtain ⟨c, hc⟩ : ∃ c, c = b[k] := ⟨_, rfl⟩
      have hkl : k < (flds mop).length := by rw [← Hbl.out]; exact hlt
      have hcm : c = (flds mop)[k] := by rw [hc]; exact str_get Hbf.out hlt hkl
      have hcl : c ∈ letters := by rw [hcm]; exact flds_letter (List.getElem_mem _)
      have hst : ((flds mop).take (k + 1)).foldl (stepC m) (Cmd.zero mop) = stepC m dm c := by rw [foldl_take _ _ _ _ hkl, ← hdm, ← hcm]
      obtain ⟨w6, hw6⟩ : ∃ w6, w6 = wr := ⟨_, rfl⟩
      have hpw := Hpb.out
      obtain ⟨dcs, hde, dvD, dvL, dvK, rfl, dD, dL, dK⟩ := hD.out
      rw [← hw6] at hde dD dL dK hX hR hB ⊢
      have qD := Asd.mk dD
      have qL := Asd.mk dL
      have qK := Asd.mk dK
      have E6 : Asd (w6.heap[pb + 1 + 1]? = some (.cells (cmdCells dm dvD dvL dvK) 28 (0, 0))) := ⟨hde⟩
      have X6 := hX
      have R6 := hR
      have B6 : Asd (Below w.heap.size w w6) := hB
      have hk0 : (0 : Int) ≤ (k : Int) := by omega
      have hk1 : (k : Int) < (b.size : Int) := by omega
      have Hcm := Asd.mk hc
      have hbs : b.size ≤ 16 := by rw [Hbl.out]; exact flds_len _
      have Hst := Asd.mk hst
      clear hD hX hR hB hw6 hcm hst hde dD dL dK hpw hdm
      simp only [letters, List.mem_cons, List.not_mem_nil, or_false] at hcl
      rcases hcl with rfl | rfl | rfl | rfl | rfl | rfl | rfl | rfl | rfl | rfl | rfl
      · have hcb : b[k].toNat = 65 := by rw [← hc]; rfl
        clear hc
        have x := bk_cell X6.out 1
        have d := bk_cell E6.out 1
        have f := bk_free E6.out 1
        simp only [cmdCells, List.getElem?_toArray, List.getElem?_cons_zero, List.getElem?_cons_succ] at x d
        go_wp2_with fail
        have hE7 : (w6.setCell ⟨pb + 1 + 1, 1, none⟩ (.int .i64 m.A)).heap[pb + 1 + 1]? = some (.cells (cmdCells (stepC m dm 65) dvD dvL dvK) 28 (0, 0)) := by
          exact bk_set E6.out 1 _
        have o7 : ∀ g, g ≠ pb + 1 + 1 → (w6.setCell ⟨pb + 1 + 1, 1, none⟩ (.int .i64 m.A)).heap[g]? = w6.heap[g]? := fun g hg => Below.heap_setCell w6 ⟨pb + 1 + 1, 1, none⟩ _ g hg
        have hpw := Hpb.out
        have hk7 : ∀ g c t f, pb + 1 + 1 < g → w6.heap[g]? = some (.cells c t f) → (w6.setCell ⟨pb + 1 + 1, 1, none⟩ (.int .i64 m.A)).heap[g]? = w6.heap[g]? ∧ pb + 1 + 1 < g := fun g _ _ _ ho _ => ⟨o7 g (by omega), ho⟩
        have hci : CmdIn (w6.setCell ⟨pb + 1 + 1, 1, none⟩ (.int .i64 m.A)) (fun g => pb + 1 + 1 < g) (pb + 1 + 1) (stepC m dm 65) := ⟨_, hE7, dvD, dvL, dvK, rfl, qD.out.kept hk7, qL.out.kept hk7, qK.out.kept hk7⟩
        refine ⟨⟨k + 1, by omega, by simp, ⟨by rw [Hst.out]; exact hci⟩, ⟨(o7 pb (by omega)).trans X6.out⟩, ⟨(o7 (pb + 1) (by omega)).trans R6.out⟩, ⟨bl_set B6.out (by show w.heap.size ≤ pb + 1 + 1; omega) _⟩⟩, ?_⟩
        simp [intOf]; omega
      · have hcb : b[k].toNat = 66 := by rw [← hc]; rfl
        clear hc
        have x := bk_cell X6.out 2
        have d := bk_cell E6.out 2
        have f := bk_free E6.out 2
        simp only [cmdCells, List.getElem?_toArray, List.getElem?_cons_zero, List.getElem?_cons_succ] at x d
        go_wp2_with fail
        have hE7 : (w6.setCell ⟨pb + 1 + 1, 2, none⟩ (.int .i64 m.B)).heap[pb + 1 + 1]? = some (.cells (cmdCells (stepC m dm 66) dvD dvL dvK) 28 (0, 0)) := by
          exact bk_set E6.out 2 _
        have o7 : ∀ g, g ≠ pb + 1 + 1 → (w6.setCell ⟨pb + 1 + 1, 2, none⟩ (.int .i64 m.B)).heap[g]? = w6.heap[g]? := fun g hg => Below.heap_setCell w6 ⟨pb + 1 + 1, 2, none⟩ _ g hg
        have hpw := Hpb.out
        have hk7 : ∀ g c t f, pb + 1 + 1 < g → w6.heap[g]? = some (.cells c t f) → (w6.setCell ⟨pb + 1 + 1, 2, none⟩ (.int .i64 m.B)).heap[g]? = w6.heap[g]? ∧ pb + 1 + 1 < g := fun g _ _ _ ho _ => ⟨o7 g (by omega), ho⟩
        have hci : CmdIn (w6.setCell ⟨pb + 1 + 1, 2, none⟩ (.int .i64 m.B)) (fun g => pb + 1 + 1 < g) (pb + 1 + 1) (stepC m dm 66) := ⟨_, hE7, dvD, dvL, dvK, rfl, qD.out.kept hk7, qL.out.kept hk7, qK.out.kept hk7⟩
        refine ⟨⟨k + 1, by omega, by simp, ⟨by rw [Hst.out]; exact hci⟩, ⟨(o7 pb (by omega)).trans X6.out⟩, ⟨(o7 (pb + 1) (by omega)).trans R6.out⟩, ⟨bl_set B6.out (by show w.heap.size ≤ pb + 1 + 1; omega) _⟩⟩, ?_⟩
        simp [intOf]; omega
      · have hcb : b[k].toNat = 67 := by rw [← hc]; rfl
        clear hc
        have x := bk_cell X6.out 3
        have d := bk_cell E6.out 3
        have f := bk_free E6.out 3
        simp only [cmdCells, List.getElem?_toArray, List.getElem?_cons_zero, List.getElem?_cons_succ] at x d
        go_wp2_with fail
        have hE7 : (w6.setCell ⟨pb + 1 + 1, 3, none⟩ (.int .i64 m.C)).heap[pb + 1 + 1]? = some (.cells (cmdCells (stepC m dm 67) dvD dvL dvK) 28 (0, 0)) := by
          exact bk_set E6.out 3 _
        have o7 : ∀ g, g ≠ pb + 1 + 1 → (w6.setCell ⟨pb + 1 + 1, 3, none⟩ (.int .i64 m.C)).heap[g]? = w6.heap[g]? := fun g hg => Below.heap_setCell w6 ⟨pb + 1 + 1, 3, none⟩ _ g hg
        have hpw := Hpb.out
        have hk7 : ∀ g c t f, pb + 1 + 1 < g → w6.heap[g]? = some (.cells c t f) → (w6.setCell ⟨pb + 1 + 1, 3, none⟩ (.int .i64 m.C)).heap[g]? = w6.heap[g]? ∧ pb + 1 + 1 < g := fun g _ _ _ ho _ => ⟨o7 g (by omega), ho⟩
        have hci : CmdIn (w6.setCell ⟨pb + 1 + 1, 3, none⟩ (.int .i64 m.C)) (fun g => pb + 1 + 1 < g) (pb + 1 + 1) (stepC m dm 67) := ⟨_, hE7, dvD, dvL, dvK, rfl, qD.out.kept hk7, qL.out.kept hk7, qK.out.kept hk7⟩
        refine ⟨⟨k + 1, by omega, by simp, ⟨by rw [Hst.out]; exact hci⟩, ⟨(o7 pb (by omega)).trans X6.out⟩, ⟨(o7 (pb + 1) (by omega)).trans R6.out⟩, ⟨bl_set B6.out (by show w.heap.size ≤ pb + 1 + 1; omega) _⟩⟩, ?_⟩
        simp [intOf]; omega
      · have hcb : b[k].toNat = 78 := by rw [← hc]; rfl
        clear hc
        have x := bk_cell X6.out 4
        have d := bk_cell E6.out 4
        have f := bk_free E6.out 4
        simp only [cmdCells, List.getElem?_toArray, List.getElem?_cons_zero, List.getElem?_cons_succ] at x d
        go_wp2_with fail
        have hE7 : (w6.setCell ⟨pb + 1 + 1, 4, none⟩ (.int .i64 m.N)).heap[pb + 1 + 1]? = some (.cells (cmdCells (stepC m dm 78) dvD dvL dvK) 28 (0, 0)) := by
          exact bk_set E6.out 4 _
        have o7 : ∀ g, g ≠ pb + 1 + 1 → (w6.setCell ⟨pb + 1 + 1, 4, none⟩ (.int .i64 m.N)).heap[g]? = w6.heap[g]? := fun g hg => Below.heap_setCell w6 ⟨pb + 1 + 1, 4, none⟩ _ g hg
        have hpw := Hpb.out
        have hk7 : ∀ g c t f, pb + 1 + 1 < g → w6.heap[g]? = some (.cells c t f) → (w6.setCell ⟨pb + 1 + 1, 4, none⟩ (.int .i64 m.N)).heap[g]? = w6.heap[g]? ∧ pb + 1 + 1 < g := fun g _ _ _ ho _ => ⟨o7 g (by omega), ho⟩
        have hci : CmdIn (w6.setCell ⟨pb + 1 + 1, 4, none⟩ (.int .i64 m.N)) (fun g => pb + 1 + 1 < g) (pb + 1 + 1) (stepC m dm 78) := ⟨_, hE7, dvD, dvL, dvK, rfl, qD.out.kept hk7, qL.out.kept hk7, qK.out.kept hk7⟩
        refine ⟨⟨k + 1, by omega, by simp, ⟨by rw [Hst.out]; exact hci⟩, ⟨(o7 pb (by omega)).trans X6.out⟩, ⟨(o7 (pb + 1) (by omega)).trans R6.out⟩, ⟨bl_set B6.out (by show w.heap.size ≤ pb + 1 + 1; omega) _⟩⟩, ?_⟩
        simp [intOf]; omega
      · have hcb : b[k].toNat = 77 := by rw [← hc]; rfl
        clear hc
        have x := bk_cell X6.out 5
        have d := bk_cell E6.out 5
        have f := bk_free E6.out 5
        simp only [cmdCells, List.getElem?_toArray, List.getElem?_cons_zero, List.getElem?_cons_succ] at x d
        go_wp2_with fail
        have hE7 : (w6.setCell ⟨pb + 1 + 1, 5, none⟩ (.int .i64 m.M)).heap[pb + 1 + 1]? = some (.cells (cmdCells (stepC m dm 77) dvD dvL dvK) 28 (0, 0)) := by
          exact bk_set E6.out 5 _
        have o7 : ∀ g, g ≠ pb + 1 + 1 → (w6.setCell ⟨pb + 1 + 1, 5, none⟩ (.int .i64 m.M)).heap[g]? = w6.heap[g]? := fun g hg => Below.heap_setCell w6 ⟨pb + 1 + 1, 5, none⟩ _ g hg
        have hpw := Hpb.out
        have hk7 : ∀ g c t f, pb + 1 + 1 < g → w6.heap[g]? = some (.cells c t f) → (w6.setCell ⟨pb + 1 + 1, 5, none⟩ (.int .i64 m.M)).heap[g]? = w6.heap[g]? ∧ pb + 1 + 1 < g := fun g _ _ _ ho _ => ⟨o7 g (by omega), ho⟩
        have hci : CmdIn (w6.setCell ⟨pb + 1 + 1, 5, none⟩ (.int .i64 m.M)) (fun g => pb + 1 + 1 < g) (pb + 1 + 1) (stepC m dm 77) := ⟨_, hE7, dvD, dvL, dvK, rfl, qD.out.kept hk7, qL.out.kept hk7, qK.out.kept hk7⟩
        refine ⟨⟨k + 1, by omega, by simp, ⟨by rw [Hst.out]; exact hci⟩, ⟨(o7 pb (by omega)).trans X6.out⟩, ⟨(o7 (pb + 1) (by omega)).trans R6.out⟩, ⟨bl_set B6.out (by show w.heap.size ≤ pb + 1 + 1; omega) _⟩⟩, ?_⟩
        simp [intOf]; omega
      · have hcb : b[k].toNat = 83 := by rw [← hc]; rfl
        clear hc
        have x := bk_cell X6.out 6
        have d := bk_cell E6.out 6
        have f := bk_free E6.out 6
        simp only [cmdCells, List.getElem?_toArray, List.getElem?_cons_zero, List.getElem?_cons_succ] at x d
        go_wp2_with fail
        have hE7 : (w6.setCell ⟨pb + 1 + 1, 6, none⟩ (.string sS)).heap[pb + 1 + 1]? = some (.cells (cmdCells (stepC m dm 83) dvD dvL dvK) 28 (0, 0)) := by
          rw [HS.out]; exact bk_set E6.out 6 _
        have o7 : ∀ g, g ≠ pb + 1 + 1 → (w6.setCell ⟨pb + 1 + 1, 6, none⟩ (.string sS)).heap[g]? = w6.heap[g]? := fun g hg => Below.heap_setCell w6 ⟨pb + 1 + 1, 6, none⟩ _ g hg
        have hpw := Hpb.out
        have hk7 : ∀ g c t f, pb + 1 + 1 < g → w6.heap[g]? = some (.cells c t f) → (w6.setCell ⟨pb + 1 + 1, 6, none⟩ (.string sS)).heap[g]? = w6.heap[g]? ∧ pb + 1 + 1 < g := fun g _ _ _ ho _ => ⟨o7 g (by omega), ho⟩
        have hci : CmdIn (w6.setCell ⟨pb + 1 + 1, 6, none⟩ (.string sS)) (fun g => pb + 1 + 1 < g) (pb + 1 + 1) (stepC m dm 83) := ⟨_, hE7, dvD, dvL, dvK, rfl, qD.out.kept hk7, qL.out.kept hk7, qK.out.kept hk7⟩
        refine ⟨⟨k + 1, by omega, by simp, ⟨by rw [Hst.out]; exact hci⟩, ⟨(o7 pb (by omega)).trans X6.out⟩, ⟨(o7 (pb + 1) (by omega)).trans R6.out⟩, ⟨bl_set B6.out (by show w.heap.size ≤ pb + 1 + 1; omega) _⟩⟩, ?_⟩
        simp [intOf]; omega
      · have hcb : b[k].toNat = 84 := by rw [← hc]; rfl
        clear hc
        have x := bk_cell X6.out 7
        have d := bk_cell E6.out 7
        have f := bk_free E6.out 7
        simp only [cmdCells, List.getElem?_toArray, List.getElem?_cons_zero, List.getElem?_cons_succ] at x d
        go_wp2_with fail
        have hE7 : (w6.setCell ⟨pb + 1 + 1, 7, none⟩ (.string sT)).heap[pb + 1 + 1]? = some (.cells (cmdCells (stepC m dm 84) dvD dvL dvK) 28 (0, 0)) := by
          rw [HT.out]; exact bk_set E6.out 7 _
        have o7 : ∀ g, g ≠ pb + 1 + 1 → (w6.setCell ⟨pb + 1 + 1, 7, none⟩ (.string sT)).heap[g]? = w6.heap[g]? := fun g hg => Below.heap_setCell w6 ⟨pb + 1 + 1, 7, none⟩ _ g hg
        have hpw := Hpb.out
        have hk7 : ∀ g c t f, pb + 1 + 1 < g → w6.heap[g]? = some (.cells c t f) → (w6.setCell ⟨pb + 1 + 1, 7, none⟩ (.string sT)).heap[g]? = w6.heap[g]? ∧ pb + 1 + 1 < g := fun g _ _ _ ho _ => ⟨o7 g (by omega), ho⟩
        have hci : CmdIn (w6.setCell ⟨pb + 1 + 1, 7, none⟩ (.string sT)) (fun g => pb + 1 + 1 < g) (pb + 1 + 1) (stepC m dm 84) := ⟨_, hE7, dvD, dvL, dvK, rfl, qD.out.kept hk7, qL.out.kept hk7, qK.out.kept hk7⟩
        refine ⟨⟨k + 1, by omega, by simp, ⟨by rw [Hst.out]; exact hci⟩, ⟨(o7 pb (by omega)).trans X6.out⟩, ⟨(o7 (pb + 1) (by omega)).trans R6.out⟩, ⟨bl_set B6.out (by show w.heap.size ≤ pb + 1 + 1; omega) _⟩⟩, ?_⟩
        simp [intOf]; omega
      · have hcb : b[k].toNat = 68 := by rw [← hc]; rfl
        clear hc
        have x := bk_cell X6.out 8
        have d := bk_cell E6.out 8
        have f := bk_free E6.out 8
        simp only [cmdCells, List.getElem?_toArray, List.getElem?_cons_zero, List.getElem?_cons_succ] at x d
        have rd6 : Asd (Rd (w6.alloc (.cells #[] 115)) (fun _ => True) encU vD m.data) := ⟨HD.out.1.kept fun g _ _ _ _ e => ⟨(Below.heap_alloc w6 _ g (Nat.lt_of_lt_of_le (bk_lt e) B6.out.size)).trans (B6.out.block g (bk_lt e)), trivial⟩⟩
        have hbd := HD.out.2
        have x2 := bk_cell (bk_alloc X6.out (.cells #[] 115)) 8
        simp only [List.getElem?_toArray, List.getElem?_cons_zero, List.getElem?_cons_succ] at x2
        go_wp2_with (at_builtin; refine wpList_append_rd rfl _ _ 24 rfl encU_one 115 Tryz.underlying24 infoD w6.heap.size (by simp [World.alloc, -World.alloc_eq]) (.slice (some ⟨w6.heap.size, 0, none⟩) 0 0) rfl (World.ownsRow_made w6 #[] 0 (Nat.le_refl _) (Nat.zero_le _) rfl) vD rfl m.data rd6.out (by omega) (by simp only [maxLen]; omega) ?_; intro v7 w7 h7 g7; obtain ⟨n7, hn7⟩ : ∃ n, n = (m.data).length := ⟨_, rfl⟩; obtain ⟨A7, c7, hv7⟩ := h7.len; rw [← hn7] at hv7; have G7 := Asd.mk g7; have E7 := Asd.mk (bk_grown (bk_alloc E6.out _) g7 (by simp only [Value.ownBlock]; intro e; injection e with e; have := bk_lt E6.out; omega)); have d7 := bk_cell E7.out 8; have f7 := bk_free E7.out 8; simp only [cmdCells, List.getElem?_toArray, List.getElem?_cons_zero, List.getElem?_cons_succ] at d7; subst hv7; have H7 := Asd.mk h7; clear h7 g7 hn7 d f x x2)
        have hpw := Hpb.out
        have hs6 := bk_lt E6.out
        have hE8 : (w7.setCell ⟨pb + 1 + 1, 8, none⟩ (.slice A7 n7 c7)).heap[pb + 1 + 1]? = some (.cells (cmdCells (stepC m dm 68) (.slice A7 n7 c7) dvL dvK) 28 (0, 0)) := bk_set E7.out 8 _
        have o8 : ∀ g, g ≠ pb + 1 + 1 → (w7.setCell ⟨pb + 1 + 1, 8, none⟩ (.slice A7 n7 c7)).heap[g]? = w7.heap[g]? := fun g hg => Below.heap_setCell w7 ⟨pb + 1 + 1, 8, none⟩ _ g hg
        have o7 : ∀ g, g < w6.heap.size → w7.heap[g]? = w6.heap[g]? := fun g hg => (G7.out.block g (by simp [World.alloc, -World.alloc_eq]; omega) (by simp only [Value.ownBlock]; intro e; injection e with e; omega)).trans (Below.heap_alloc w6 _ g hg)
        have hk8 : ∀ g c t f, pb + 1 + 1 < g → w6.heap[g]? = some (.cells c t f) → (w7.setCell ⟨pb + 1 + 1, 8, none⟩ (.slice A7 n7 c7)).heap[g]? = w6.heap[g]? ∧ pb + 1 + 1 < g := fun g _ _ _ ho e => ⟨(o8 g (by omega)).trans (o7 g (bk_lt e)), ho⟩
        have hk7 : ∀ g c t f, w6.heap.size ≤ g → w7.heap[g]? = some (.cells c t f) → (w7.setCell ⟨pb + 1 + 1, 8, none⟩ (.slice A7 n7 c7)).heap[g]? = w7.heap[g]? ∧ pb + 1 + 1 < g := fun g _ _ _ ho _ => ⟨o8 g (by omega), by omega⟩
        have hci : CmdIn (w7.setCell ⟨pb + 1 + 1, 8, none⟩ (.slice A7 n7 c7)) (fun g => pb + 1 + 1 < g) (pb + 1 + 1) (stepC m dm 68) := ⟨_, hE8, .slice A7 n7 c7, dvL, dvK, rfl, H7.out.kept hk7, qL.out.kept hk8, qK.out.kept hk8⟩
        refine ⟨⟨k + 1, by omega, by simp, ⟨by rw [Hst.out]; exact hci⟩, ⟨(o8 pb (by omega)).trans ((o7 pb (by omega)).trans X6.out)⟩, ⟨(o8 (pb + 1) (by omega)).trans ((o7 (pb + 1) (by omega)).trans R6.out)⟩, ⟨bl_set (bl_grown (bl_alloc B6.out _) G7.out (fun g hg => by simp [Value.ownBlock] at hg; have := B6.out.size; omega)) (by show w.heap.size ≤ pb + 1 + 1; omega) _⟩⟩, ?_⟩
        simp [intOf]; omega
      · have hcb : b[k].toNat = 76 := by rw [← hc]; rfl
        clear hc
        have x := bk_cell X6.out 9
        have d := bk_cell E6.out 9
        have f := bk_free E6.out 9
        simp only [cmdCells, List.getElem?_toArray, List.getElem?_cons_zero, List.getElem?_cons_succ] at x d
        have rd6 : Asd (Rd (w6.alloc (.cells #[] 3)) (fun _ => True) encI vL m.list) := ⟨HL.out.1.kept fun g _ _ _ _ e => ⟨(Below.heap_alloc w6 _ g (Nat.lt_of_lt_of_le (bk_lt e) B6.out.size)).trans (B6.out.block g (bk_lt e)), trivial⟩⟩
        have hbd := HL.out.2
        have x2 := bk_cell (bk_alloc X6.out (.cells #[] 3)) 9
        simp only [List.getElem?_toArray, List.getElem?_cons_zero, List.getElem?_cons_succ] at x2
        go_wp2_with (at_builtin; refine wpList_append_rd rfl _ _ 25 rfl encI_one 3 Tryz.underlying25 infoL w6.heap.size (by simp [World.alloc, -World.alloc_eq]) (.slice (some ⟨w6.heap.size, 0, none⟩) 0 0) rfl (World.ownsRow_made w6 #[] 0 (Nat.le_refl _) (Nat.zero_le _) rfl) vL rfl m.list rd6.out (by omega) (by simp only [maxLen]; omega) ?_; intro v7 w7 h7 g7; obtain ⟨n7, hn7⟩ : ∃ n, n = (m.list).length := ⟨_, rfl⟩; obtain ⟨A7, c7, hv7⟩ := h7.len; rw [← hn7] at hv7; have G7 := Asd.mk g7; have E7 := Asd.mk (bk_grown (bk_alloc E6.out _) g7 (by simp only [Value.ownBlock]; intro e; injection e with e; have := bk_lt E6.out; omega)); have d7 := bk_cell E7.out 9; have f7 := bk_free E7.out 9; simp only [cmdCells, List.getElem?_toArray, List.getElem?_cons_zero, List.getElem?_cons_succ] at d7; subst hv7; have H7 := Asd.mk h7; clear h7 g7 hn7 d f x x2)
        have hpw := Hpb.out
        have hs6 := bk_lt E6.out
        have hE8 : (w7.setCell ⟨pb + 1 + 1, 9, none⟩ (.slice A7 n7 c7)).heap[pb + 1 + 1]? = some (.cells (cmdCells (stepC m dm 76) dvD (.slice A7 n7 c7) dvK) 28 (0, 0)) := bk_set E7.out 9 _
        have o8 : ∀ g, g ≠ pb + 1 + 1 → (w7.setCell ⟨pb + 1 + 1, 9, none⟩ (.slice A7 n7 c7)).heap[g]? = w7.heap[g]? := fun g hg => Below.heap_setCell w7 ⟨pb + 1 + 1, 9, none⟩ _ g hg
        have o7 : ∀ g, g < w6.heap.size → w7.heap[g]? = w6.heap[g]? := fun g hg => (G7.out.block g (by simp [World.alloc, -World.alloc_eq]; omega) (by simp only [Value.ownBlock]; intro e; injection e with e; omega)).trans (Below.heap_alloc w6 _ g hg)
        have hk8 : ∀ g c t f, pb + 1 + 1 < g → w6.heap[g]? = some (.cells c t f) → (w7.setCell ⟨pb + 1 + 1, 9, none⟩ (.slice A7 n7 c7)).heap[g]? = w6.heap[g]? ∧ pb + 1 + 1 < g := fun g _ _ _ ho e => ⟨(o8 g (by omega)).trans (o7 g (bk_lt e)), ho⟩
        have hk7 : ∀ g c t f, w6.heap.size ≤ g → w7.heap[g]? = some (.cells c t f) → (w7.setCell ⟨pb + 1 + 1, 9, none⟩ (.slice A7 n7 c7)).heap[g]? = w7.heap[g]? ∧ pb + 1 + 1 < g := fun g _ _ _ ho _ => ⟨o8 g (by omega), by omega⟩
        have hci : CmdIn (w7.setCell ⟨pb + 1 + 1, 9, none⟩ (.slice A7 n7 c7)) (fun g => pb + 1 + 1 < g) (pb + 1 + 1) (stepC m dm 76) := ⟨_, hE8, dvD, .slice A7 n7 c7, dvK, rfl, qD.out.kept hk8, H7.out.kept hk7, qK.out.kept hk8⟩
        refine ⟨⟨k + 1, by omega, by simp, ⟨by rw [Hst.out]; exact hci⟩, ⟨(o8 pb (by omega)).trans ((o7 pb (by omega)).trans X6.out)⟩, ⟨(o8 (pb + 1) (by omega)).trans ((o7 (pb + 1) (by omega)).trans R6.out)⟩, ⟨bl_set (bl_grown (bl_alloc B6.out _) G7.out (fun g hg => by simp [Value.ownBlock] at hg; have := B6.out.size; omega)) (by show w.heap.size ≤ pb + 1 + 1; omega) _⟩⟩, ?_⟩
        simp [intOf]; omega
      · have hcb : b[k].toNat = 75 := by rw [← hc]; rfl
        clear hc
        have x := bk_cell X6.out 10
        have d := bk_cell E6.out 10
        have f := bk_free E6.out 10
        simp only [cmdCells, List.getElem?_toArray, List.getElem?_cons_zero, List.getElem?_cons_succ] at x d
        have rd6 : Asd (Rd (w6.alloc (.cells #[] 9)) (fun _ => True) encS vK m.names) := ⟨HK.out.1.kept fun g _ _ _ _ e => ⟨(Below.heap_alloc w6 _ g (Nat.lt_of_lt_of_le (bk_lt e) B6.out.size)).trans (B6.out.block g (bk_lt e)), trivial⟩⟩
        have hbd := HK.out.2
        have x2 := bk_cell (bk_alloc X6.out (.cells #[] 9)) 10
        simp only [List.getElem?_toArray, List.getElem?_cons_zero, List.getElem?_cons_succ] at x2
        go_wp2_with (at_builtin; refine wpList_append_rd rfl _ _ 26 rfl encS_one 9 Tryz.underlying26 infoK w6.heap.size (by simp [World.alloc, -World.alloc_eq]) (.slice (some ⟨w6.heap.size, 0, none⟩) 0 0) rfl (World.ownsRow_made w6 #[] 0 (Nat.le_refl _) (Nat.zero_le _) rfl) vK rfl m.names rd6.out (by omega) (by simp only [maxLen]; omega) ?_; intro v7 w7 h7 g7; obtain ⟨n7, hn7⟩ : ∃ n, n = (m.names).length := ⟨_, rfl⟩; obtain ⟨A7, c7, hv7⟩ := h7.len; rw [← hn7] at hv7; have G7 := Asd.mk g7; have E7 := Asd.mk (bk_grown (bk_alloc E6.out _) g7 (by simp only [Value.ownBlock]; intro e; injection e with e; have := bk_lt E6.out; omega)); have d7 := bk_cell E7.out 10; have f7 := bk_free E7.out 10; simp only [cmdCells, List.getElem?_toArray, List.getElem?_cons_zero, List.getElem?_cons_succ] at d7; subst hv7; have H7 := Asd.mk h7; clear h7 g7 hn7 d f x x2)
        have hpw := Hpb.out
        have hs6 := bk_lt E6.out
        have hE8 : (w7.setCell ⟨pb + 1 + 1, 10, none⟩ (.slice A7 n7 c7)).heap[pb + 1 + 1]? = some (.cells (cmdCells (stepC m dm 75) dvD dvL (.slice A7 n7 c7)) 28 (0, 0)) := bk_set E7.out 10 _
        have o8 : ∀ g, g ≠ pb + 1 + 1 → (w7.setCell ⟨pb + 1 + 1, 10, none⟩ (.slice A7 n7 c7)).heap[g]? = w7.heap[g]? := fun g hg => Below.heap_setCell w7 ⟨pb + 1 + 1, 10, none⟩ _ g hg
        have o7 : ∀ g, g < w6.heap.size → w7.heap[g]? = w6.heap[g]? := fun g hg => (G7.out.block g (by simp [World.alloc, -World.alloc_eq]; omega) (by simp only [Value.ownBlock]; intro e; injection e with e; omega)).trans (Below.heap_alloc w6 _ g hg)
        have hk8 : ∀ g c t f, pb + 1 + 1 < g → w6.heap[g]? = some (.cells c t f) → (w7.setCell ⟨pb + 1 + 1, 10, none⟩ (.slice A7 n7 c7)).heap[g]? = w6.heap[g]? ∧ pb + 1 + 1 < g := fun g _ _ _ ho e => ⟨(o8 g (by omega)).trans (o7 g (bk_lt e)), ho⟩
        have hk7 : ∀ g c t f, w6.heap.size ≤ g → w7.heap[g]? = some (.cells c t f) → (w7.setCell ⟨pb + 1 + 1, 10, none⟩ (.slice A7 n7 c7)).heap[g]? = w7.heap[g]? ∧ pb + 1 + 1 < g := fun g _ _ _ ho _ => ⟨o8 g (by omega), by omega⟩
        have hci : CmdIn (w7.setCell ⟨pb + 1 + 1, 10, none⟩ (.slice A7 n7 c7)) (fun g => pb + 1 + 1 < g) (pb + 1 + 1) (stepC m dm 75) := ⟨_, hE8, dvD, dvL, .slice A7 n7 c7, rfl, qD.out.kept hk8, qL.out.kept hk8, H7.out.kept hk7⟩
        refine ⟨⟨k + 1, by omega, by simp, ⟨by rw [Hst.out]; exact hci⟩, ⟨(o8 pb (by omega)).trans ((o7 pb (by omega)).trans X6.out)⟩, ⟨(o8 (pb + 1) (by omega)).trans ((o7 (pb + 1) (by omega)).trans R6.out)⟩, ⟨bl_set (bl_grown (bl_alloc B6.out _) G7.out (fun g hg => by simp [Value.ownBlock] at hg; have := B6.out.size; omega)) (by show w.heap.size ≤ pb + 1 + 1; omega) _⟩⟩, ?_⟩
        simp [intOf]; omega
      · have hcb : b[k].toNat = 89 := by rw [← hc]; rfl
        clear hc
        have x := bk_cell X6.out 11
        have d := bk_cell E6.out 11
        have f := bk_free E6.out 11
        simp only [cmdCells, List.getElem?_toArray, List.getElem?_cons_zero, List.getElem?_cons_succ] at x d
        go_wp2_with fail
        have hE7 : (w6.setCell ⟨pb + 1 + 1, 11, none⟩ (.bool m.yes)).heap[pb + 1 + 1]? = some (.cells (cmdCells (stepC m dm 89) dvD dvL dvK) 28 (0, 0)) := by
          exact bk_set E6.out 11 _
        have o7 : ∀ g, g ≠ pb + 1 + 1 → (w6.setCell ⟨pb + 1 + 1, 11, none⟩ (.bool m.yes)).heap[g]? = w6.heap[g]? := fun g hg => Below.heap_setCell w6 ⟨pb + 1 + 1, 11, none⟩ _ g hg
        have hpw := Hpb.out
        have hk7 : ∀ g c t f, pb + 1 + 1 < g → w6.heap[g]? = some (.cells c t f) → (w6.setCell ⟨pb + 1 + 1, 11, none⟩ (.bool m.yes)).heap[g]? = w6.heap[g]? ∧ pb + 1 + 1 < g := fun g _ _ _ ho _ => ⟨o7 g (by omega), ho⟩
        have hci : CmdIn (w6.setCell ⟨pb + 1 + 1, 11, none⟩ (.bool m.yes)) (fun g => pb + 1 + 1 < g) (pb + 1 + 1) (stepC m dm 89) := ⟨_, hE7, dvD, dvL, dvK, rfl, qD.out.kept hk7, qL.out.kept hk7, qK.out.kept hk7⟩
        refine ⟨⟨k + 1, by omega, by simp, ⟨by rw [Hst.out]; exact hci⟩, ⟨(o7 pb (by omega)).trans X6.out⟩, ⟨(o7 (pb + 1) (by omega)).trans R6.out⟩, ⟨bl_set B6.out (by show w.heap.size ≤ pb + 1 + 1; omega) _⟩⟩, ?_⟩
        simp [intOf]; omega
    · have hk0 : (0 : Int) ≤ (k : Int) := by omega
      have hk1 : ¬ (k : Int) < (b.size : Int) := by omega
      have hkd : (flds mop).take k = flds mop := List.take_of_length_le (by rw [← Hbl.out]; omega)
      obtain ⟨dcs, hde, hkv⟩ := hD.out
      have h12 := Asd.mk (And.intro (kv_one hkv) (kv_size hkv))
      have HDE := Asd.mk hde
      have HKV := Asd.mk hkv
      have Hdm : Asd (dm = plainD m) := ⟨by rw [hdm, hkd, Hmop.out]; rfl⟩
      clear hde hkv hD hdm hkd hX
      go_wp2_with (first | (refine wpList_load_row rfl 28 _ rfl (pb + 1 + 1) rfl 28 dcs (0, 0) _ HDE.out Tryz.underlying28 rfl (by rw [infoCmd, h12.out.2]) ?_) | (refine wpList_store_rowK rfl 28 _ _ rfl (pb + 1) dcs rfl rfl 28 (zeroCmd 0) hR.out (by rw [infoCmd, h12.out.2]) (by rw [h12.out.2]; rfl) h12.out.1 ?_; intro W9 hW9 hg9 hz9; clear hz9))
      refine bodyPost_ret (results_cell_row rfl _ _ (pb + 1) 28 dcs (0, 0) _ rfl hW9 Tryz.underlying28 rfl (by rw [infoCmd, h12.out.2])) rfl ?_
      have hpw := Hpb.out
      refine ⟨dcs, rfl, ?_, bl_grown hB.out hg9 (fun g hg => by injection hg with hg; omega)⟩
      rw [← Hdm.out]
      exact HKV.out.kept fun g _ _ _ ho e => ⟨hg9.block g (bk_lt e) (by intro e; injection e with e; omega), by omega⟩
set_option maxHeartbeats 8000000 in
set_option maxRecDepth 100000 in
theorem rplain_none {ok : Nat → Prop} (m : Cmd) (ho0 : m.op = 0 ∨ 45 ≤ m.op) (cs : Array Value) (w : World) (hd : m.data.length ≤ 70368744177664) (hl : m.list.length ≤ 17592186044416) (hn : m.names.length ≤ 8796093022208) (hkv : KV w ok cs m) :
    Calls Tryz.prog 20 #[.agg cs] w (PlainPost m w) := by
  obtain ⟨vD, vL, vK, rfl, rD, rL, rK⟩ := hkv
  obtain ⟨mop, hmop⟩ : ∃ o, o = m.op := ⟨_, rfl⟩
  have HKn := Asd.mk (fun W => rknown_calls mop W)
  have hkn : (decide (0 < mop) && decide (mop < 45)) = false := by rw [hmop]; simp; omega
  rw [hkn] at HKn
  have hfl0 : flds m.op = [] := by
    rcases ho0 with h | h
    · rw [h]; decide +kernel
    · exact (word_out m.op h).2
  have Hfl0 := Asd.mk hfl0
  clear hkn ho0 hfl0
  have Hmop := Asd.mk hmop
  obtain ⟨sS, hS⟩ : ∃ s, s = str m.S := ⟨_, rfl⟩
  obtain ⟨sT, hT⟩ : ∃ s, s = str m.T := ⟨_, rfl⟩
  have HS := Asd.mk hS
  have HT := Asd.mk hT
  simp only [cmdCells]
  rw [← hmop, ← hS, ← hT]
  obtain ⟨pb, hpb⟩ : ∃ p, p = w.heap.size := ⟨_, rfl⟩
  have ZL : zeroCmd 0 = #[.int .u8 0, .int .i64 0, .int .i64 0, .int .i64 0, .int .i64 0, .int .i64 0, .string ⟨#[]⟩, .string ⟨#[]⟩, .slice none 0 0, .slice none 0 0, .slice none 0 0, .bool false] := rfl
  have ZM : zeroCmd mop = #[.int .u8 mop, .int .i64 0, .int .i64 0, .int .i64 0, .int .i64 0, .int .i64 0, .string ⟨#[]⟩, .string ⟨#[]⟩, .slice none 0 0, .slice none 0 0, .slice none 0 0, .bool false] := rfl
  obtain ⟨W3, hW3⟩ : ∃ W, W = ((w.alloc (.cells #[.int .u8 mop, .int .i64 m.A, .int .i64 m.B, .int .i64 m.C, .int .i64 m.N, .int .i64 m.M, .string sS, .string sT, vD, vL, vK, .bool m.yes] 28)).alloc (.cells (zeroCmd 0) 28)).alloc (.cells (zeroCmd mop) 28) := ⟨_, rfl⟩
  have hz1 : (w.alloc (.cells #[.int .u8 mop, .int .i64 m.A, .int .i64 m.B, .int .i64 m.C, .int .i64 m.N, .int .i64 m.M, .string sS, .string sT, vD, vL, vK, .bool m.yes] 28)).heap.size = pb + 1 := by rw [hpb]; simp [World.alloc, -World.alloc_eq]
  have hz2 : ((w.alloc (.cells #[.int .u8 mop, .int .i64 m.A, .int .i64 m.B, .int .i64 m.C, .int .i64 m.N, .int .i64 m.M, .string sS, .string sT, vD, vL, vK, .bool m.yes] 28)).alloc (.cells (zeroCmd 0) 28)).heap.size = pb + 1 + 1 := by rw [hpb]; simp [World.alloc, -World.alloc_eq]
  have X3 : Asd (W3.heap[pb]? = some (.cells #[.int .u8 mop, .int .i64 m.A, .int .i64 m.B, .int .i64 m.C, .int .i64 m.N, .int .i64 m.M, .string sS, .string sT, vD, vL, vK, .bool m.yes] 28 (0, 0))) := ⟨by rw [hW3, hpb]; exact bk_alloc (bk_alloc (bk_new w _) _) _⟩
  have R3 : Asd (W3.heap[pb + 1]? = some (.cells (zeroCmd 0) 28 (0, 0))) := ⟨by rw [hW3, ← hz1]; exact bk_alloc (bk_new _ _) _⟩
  have D4 : Asd (W3.heap[pb + 1 + 1]? = some (.cells (zeroCmd mop) 28 (0, 0))) := ⟨by rw [hW3, ← hz2]; exact bk_new _ _⟩
  have D3 : Asd (CmdIn W3 (fun _ => False) (pb + 1 + 1) (Cmd.zero mop)) := ⟨⟨_, by rw [hW3, ← hz2]; exact bk_new _ _, kv_zero _ _ _⟩⟩
  have B3 : Asd (Below w.heap.size w W3) := ⟨by rw [hW3]; exact bl_alloc (bl_alloc (bl_alloc (Below.refl _ _) _) _) _⟩
  have hw3 : ((w.alloc (.cells #[.int .u8 mop, .int .i64 m.A, .int .i64 m.B, .int .i64 m.C, .int .i64 m.N, .int .i64 m.M, .string sS, .string sT, vD, vL, vK, .bool m.yes] 28)).alloc (.cells #[.int .u8 0, .int .i64 0, .int .i64 0, .int .i64 0, .int .i64 0, .int .i64 0, .string ⟨#[]⟩, .string ⟨#[]⟩, .slice none 0 0, .slice none 0 0, .slice none 0 0, .bool false] 28)).alloc (.cells #[.int .u8 mop, .int .i64 0, .int .i64 0, .int .i64 0, .int .i64 0, .int .i64 0, .string ⟨#[]⟩, .string ⟨#[]⟩, .slice none 0 0, .slice none 0 0, .slice none 0 0, .bool false] 28) = W3 := by rw [hW3, ZL, ZM]
  have Hw3 := Asd.mk hw3
  have Hpb := Asd.mk hpb
  have HD := Asd.mk (And.intro rD hd)
  have HL := Asd.mk (And.intro rL hl)
  have HK := Asd.mk (And.intro rK hn)
  clear hmop hS hT hpb hW3 hw3 hz1 hz2 ZL ZM rD rL rK hd hl hn
  go_enter Tryz.func20, Tryz.ntmps20
  go_wp2_with fail
  rw [Hw3.out, ← Hpb.out]
  clear Hw3
  refine (HKn.out _).mono ?_
  rintro e w3' ⟨rfl, rfl⟩
  clear HKn
  go_wp2_with (first | (refine wpList_load_row rfl 28 _ rfl (pb + 1 + 1) rfl 28 (zeroCmd mop) (0, 0) _ D4.out Tryz.underlying28 rfl (by rw [infoCmd]; rfl) ?_) | (refine wpList_store_rowK rfl 28 _ _ rfl (pb + 1) (zeroCmd mop) rfl rfl 28 (zeroCmd 0) R3.out (by rw [infoCmd]; rfl) rfl (zero_one mop) ?_; intro W9 hW9 hg9 hz9; clear hz9))
  refine bodyPost_ret (results_cell_row rfl _ _ (pb + 1) 28 (zeroCmd mop) (0, 0) _ rfl hW9 Tryz.underlying28 rfl (by rw [infoCmd]; rfl)) rfl ?_
  have hpw := Hpb.out
  refine ⟨_, rfl, ?_, bl_grown B3.out hg9 (fun g hg => by injection hg with hg; omega)⟩
  have e : plainD m = Cmd.zero mop := by unfold plainD; rw [Hfl0.out, ← Hmop.out]; rfl
  rw [e]
  exact kv_zero _ _ _
theorem rplain_calls {ok : Nat → Prop} (m : Cmd) (cs : Array Value) (w : World) (hd : m.data.length ≤ 70368744177664) (hl : m.list.length ≤ 17592186044416) (hn : m.names.length ≤ 8796093022208) (hkv : KV w ok cs m) :
    Calls Tryz.prog 20 #[.agg cs] w (PlainPost m w) := by
  by_cases h : m.op = 0 ∨ 45 ≤ m.op
  · exact rplain_none m h cs w hd hl hn hkv
  · exact rplain_some m (by omega) (by omega) cs w hd hl hn hkv
end Go.Proofs.YthclgijnfopikaaGreatDoor
