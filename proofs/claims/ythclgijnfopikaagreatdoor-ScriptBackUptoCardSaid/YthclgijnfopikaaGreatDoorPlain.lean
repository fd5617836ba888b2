/- The walk of script.Plain. (Printed by gen_plain.py.) -/
import Derived.Test.YthclgijnfopikaaGreatDoorRdr
import Derived.Test.YthclgijnfopikaaGreatDoorSpec6
import Derived.Test.YthclgijnfopikaaGreatDoorAppendRd
import Derived.Test.YthclgijnfopikaaGreatDoorSame
namespace Go.Proofs.YthclgijnfopikaaGreatDoor
open Go.RowKit

theorem encU_one (x : Nat) : (encU x).oneCell' = true := rfl
theorem encI_one (x : Int) : (encI x).oneCell' = true := rfl
theorem encS_one (x : List UInt8) : (encS x).oneCell' = true := rfl
/-- What Plain gives: the command without the fields that its op has not, its lists in rows of its own. -/
def PlainPost (m : Cmd) (w : World) (e : Ending) (w' : World) : Prop := ∃ cs, e = .returned (.agg cs) ∧ KV w' (w.heap.size ≤ ·) cs (plainD m) ∧ Below w.heap.size w w'
/-- Block g holds the command m; what it leads to is ok. -/
def CmdIn (W : World) (ok : Nat → Prop) (g : Nat) (m : Cmd) : Prop := ∃ cs, W.heap[g]? = some (.cells cs 28 (0, 0)) ∧ KV W ok cs m
theorem CmdIn.kept {W W1 : World} {ok ok1 : Nat → Prop} {g : Nat} {m : Cmd} (h : CmdIn W ok g m) (hg : W1.heap[g]? = W.heap[g]?) (hk : ∀ g c t f, ok g → W.heap[g]? = some (.cells c t f) → W1.heap[g]? = W.heap[g]? ∧ ok1 g) : CmdIn W1 ok1 g m := by
  obtain ⟨cs, e, h⟩ := h
  exact ⟨cs, hg.trans e, h.kept hk⟩

set_option maxHeartbeats 8000000 in
set_option maxRecDepth 100000 in
theorem plain_calls {ok : Nat → Prop} (m : Cmd) (cs : Array Value) (w : World) (hd : m.data.length ≤ 70368744177664) (hl : m.list.length ≤ 17592186044416) (hn : m.names.length ≤ 8796093022208) (hkv : KV w ok cs m) :
    Calls Tryz.prog 15 #[.agg cs] w (PlainPost m w) := by
  obtain ⟨vD, vL, vK, rfl, rD, rL, rK⟩ := hkv
  obtain ⟨mop, hmop⟩ : ∃ o, o = m.op := ⟨_, rfl⟩
  have HOf := Asd.mk (of_calls mop)
  obtain ⟨bw, hbw⟩ : ∃ b, b = str (word mop) := ⟨_, rfl⟩
  obtain ⟨b, hbf⟩ : ∃ b, b = str (flds mop) := ⟨_, rfl⟩
  rw [← hbw, ← hbf] at HOf
  have Hbf := Asd.mk hbf
  have Hbl := Asd.mk (show b.size = (flds mop).length by rw [hbf]; show (flds mop).toArray.size = _; simp)
  have Hmop := Asd.mk hmop
  obtain ⟨sS, hS⟩ : ∃ s, s = str m.S := ⟨_, rfl⟩
  obtain ⟨sT, hT⟩ : ∃ s, s = str m.T := ⟨_, rfl⟩
  have HS := Asd.mk hS
  have HT := Asd.mk hT
  simp only [cmdCells]
  rw [← hmop, ← hS, ← hT]
  obtain ⟨pb, hpb⟩ : ∃ p, p = w.heap.size := ⟨_, rfl⟩
  have ZL : zeroCmd 0 = #[.int .u8 0, .int .i64 0, .int .i64 0, .int .i64 0, .int .i64 0, .int .i64 0, .string ⟨#[]⟩, .string ⟨#[]⟩, .slice none 0 0, .slice none 0 0, .slice none 0 0, .bool false] := rfl
  have ZM : zeroCmd mop = #[.int .u8 mop, .int .i64 0, .int .i64 0, .int .i64 0, .int .i64 0, .int .i64 0, .string ⟨#[]⟩, .string ⟨#[]⟩, .slice none 0 0, .slice none 0 0, .slice none 0 0, .bool false] := rfl
  obtain ⟨W3, hW3⟩ : ∃ W, W = ((w.alloc (.cells #[.int .u8 mop, .int .i64 m.A, .int .i64 m.B, .int .i64 m.C, .int .i64 m.N, .int .i64 m.M, .string sS, .string sT, vD, vL, vK, .bool m.yes] 28)).alloc (.cells (zeroCmd 0) 28)).alloc (.cells (zeroCmd mop) 28) := ⟨_, rfl⟩
  have hz1 : (w.alloc (.cells #[.int .u8 mop, .int .i64 m.A, .int .i64 m.B, .int .i64 m.C, .int .i64 m.N, .int .i64 m.M, .string sS, .string sT, vD, vL, vK, .bool m.yes] 28)).heap.size = pb + 1 := by rw [hpb]; simp [World.alloc, -World.alloc_eq]
  have hz2 : ((w.alloc (.cells #[.int .u8 mop, .int .i64 m.A, .int .i64 m.B, .int .i64 m.C, .int .i64 m.N, .int .i64 m.M, .string sS, .string sT, vD, vL, vK, .bool m.yes] 28)).alloc (.cells (zeroCmd 0) 28)).heap.size = pb + 1 + 1 := by rw [hpb]; simp [World.alloc, -World.alloc_eq]
  have X3 : Asd (W3.heap[pb]? = some (.cells #[.int .u8 mop, .int .i64 m.A, .int .i64 m.B, .int .i64 m.C, .int .i64 m.N, .int .i64 m.M, .string sS, .string sT, vD, vL, vK, .bool m.yes] 28 (0, 0))) := ⟨by rw [hW3, hpb]; exact bk_alloc (bk_alloc (bk_new w _) _) _⟩
  have R3 : Asd (W3.heap[pb + 1]? = some (.cells (zeroCmd 0) 28 (0, 0))) := ⟨by rw [hW3, ← hz1]; exact bk_alloc (bk_new _ _) _⟩
  have D3 : Asd (CmdIn W3 (fun _ => False) (pb + 1 + 1) (Cmd.zero mop)) := ⟨⟨_, by rw [hW3, ← hz2]; exact bk_new _ _, kv_zero _ _ _⟩⟩
  have B3 : Asd (Below w.heap.size w W3) := ⟨by rw [hW3]; exact bl_alloc (bl_alloc (bl_alloc (Below.refl _ _) _) _) _⟩
  have hw3 : ((w.alloc (.cells #[.int .u8 mop, .int .i64 m.A, .int .i64 m.B, .int .i64 m.C, .int .i64 m.N, .int .i64 m.M, .string sS, .string sT, vD, vL, vK, .bool m.yes] 28)).alloc (.cells #[.int .u8 0, .int .i64 0, .int .i64 0, .int .i64 0, .int .i64 0, .int .i64 0, .string ⟨#[]⟩, .string ⟨#[]⟩, .slice none 0 0, .slice none 0 0, .slice none 0 0, .bool false] 28)).alloc (.cells #[.int .u8 mop, .int .i64 0, .int .i64 0, .int .i64 0, .int .i64 0, .int .i64 0, .string ⟨#[]⟩, .string ⟨#[]⟩, .slice none 0 0, .slice none 0 0, .slice none 0 0, .bool false] 28) = W3 := by rw [hW3, ZL, ZM]
  have Hw3 := Asd.mk hw3
  have Hpb := Asd.mk hpb
  have HD := Asd.mk (And.intro rD hd)
  have HL := Asd.mk (And.intro rL hl)
  have HK := Asd.mk (And.intro rK hn)
  clear hmop hbw hbf hS hT hpb hW3 hw3 hz1 hz2 ZL ZM rD rL rK hd hl hn
  go_enter Tryz.func15, Tryz.ntmps15
  go_wp2_with fail
  rw [Hw3.out, ← Hpb.out]
  clear Hw3
  refine (HOf.out _).mono ?_
  rintro e w4 ⟨rfl, hb4⟩
  have X4 := Asd.mk (bk_below X3.out hb4 (bk_lt X3.out))
  have R4 := Asd.mk (bk_below R3.out hb4 (bk_lt R3.out))
  have D4 : Asd (CmdIn w4 (fun _ => False) (pb + 1 + 1) (Cmd.zero mop)) := ⟨D3.out.kept (hb4.block _ (by obtain ⟨_, e, _⟩ := D3.out; exact bk_lt e)) fun g _ _ _ ho e => ⟨hb4.block g (bk_lt e), ho⟩⟩
  have B4 := Asd.mk (bl_trans B3.out hb4)
  clear hb4 X3 R3 D3 B3
  have hfl := fld_fields bw b
  go_wp2_with fail
  obtain ⟨it, hit⟩ : ∃ it, it = w4.heap.size := ⟨_, rfl⟩
  obtain ⟨w5, hw5⟩ : ∃ w5, w5 = w4.iter b 0 := ⟨_, rfl⟩
  have hbel : Below w4.heap.size w4 w5 := by rw [hw5]; exact bl_alloc (Below.refl _ _) _
  have I5 : Asd (w5.heap[it]? = some (.stringIter b 0)) := ⟨by rw [hit, hw5]; exact World.iter_heap _ _ _⟩
  have X5 := Asd.mk (bk_below X4.out hbel (bk_lt X4.out))
  have R5 := Asd.mk (bk_below R4.out hbel (bk_lt R4.out))
  have D5 : Asd (CmdIn w5 (fun _ => False) (pb + 1 + 1) (Cmd.zero mop)) := ⟨D4.out.kept (hbel.block _ (by obtain ⟨_, e, _⟩ := D4.out; exact bk_lt e)) fun g _ _ _ ho e => ⟨hbel.block g (bk_lt e), ho⟩⟩
  have B5 := Asd.mk (bl_trans B4.out hbel)
  have hit2 : pb + 1 + 1 < it := by rw [hit]; obtain ⟨_, e, _⟩ := D4.out; exact bk_lt e
  rw [← hit, ← hw5]
  have Hit2 := Asd.mk hit2
  clear hbel hit hw5 X4 R4 D4 B4 hfl HOf hit2
  have hfsz : b.size = (flds mop).length := Hbl.out
  go_loopw [5] (fun v5 wr => ∃ k : Nat, k ≤ b.size ∧ Asd (wr.heap[it]? = some (.stringIter b k)) ∧ Asd (CmdIn wr (fun g => pb + 1 + 1 < g ∧ g ≠ pb + 1 + 1 ∧ g ≠ it) (pb + 1 + 1) (((flds mop).take k).foldl (stepC m) (Cmd.zero mop))) ∧
      Asd (wr.heap[pb]? = some (.cells #[.int .u8 mop, .int .i64 m.A, .int .i64 m.B, .int .i64 m.C, .int .i64 m.N, .int .i64 m.M, .string sS, .string sT, vD, vL, vK, .bool m.yes] 28 (0, 0))) ∧ Asd (wr.heap[pb + 1]? = some (.cells (zeroCmd 0) 28 (0, 0))) ∧ Asd (Below w.heap.size w wr)) (fun _ wr => b.size - wr.iterPos it)
  case atStart => exact ⟨0, Nat.zero_le _, I5, ⟨D5.out.kept rfl fun g c t f ho e => ho.elim⟩, X5, R5, B5⟩
  case round =>
    obtain ⟨k, hk, hI, hD, hX, hR, hB⟩ := hrel
    obtain ⟨dm, hdm⟩ : ∃ d, d = ((flds mop).take k).foldl (stepC m) (Cmd.zero mop) := ⟨_, rfl⟩
    rw [← hdm] at hD
    by_cases hlt : k < b.size
    · obtain ⟨c, hc⟩ : ∃ c, c = b[k] := ⟨_, rfl⟩
      have hkl : k < (flds mop).length := by rw [← Hbl.out]; exact hlt
      have hcm : c = (flds mop)[k] := by rw [hc]; exact str_get Hbf.out hlt hkl
      have hcl : c ∈ letters := by rw [hcm]; exact flds_letter (List.getElem_mem _)
      have hst : ((flds mop).take (k + 1)).foldl (stepC m) (Cmd.zero mop) = stepC m dm c := by rw [foldl_take _ _ _ _ hkl, ← hdm, ← hcm]
      have hnext := fun (hc128 : c.toNat < 128) ty => Lib.run_next_ascii_at (P := Tryz.prog) wr it b k ty hI.out hlt (by rw [← hc]; exact hc128)
      rw [← hc] at hnext
      obtain ⟨w6, hw6⟩ : ∃ w6, w6 = wr.iterAt it b (k + 1) := ⟨_, rfl⟩
      rw [← hw6] at hnext
      have e6 : ∀ g, g ≠ it → w6.heap[g]? = wr.heap[g]? := fun g hg => by rw [hw6]; exact Lib.iterAt_other _ _ _ _ _ hg
      have I6 : Asd (w6.heap[it]? = some (.stringIter b (k + 1))) := ⟨by rw [hw6]; exact Lib.iterAt_heap _ _ _ _ _ hI.out⟩
      have hi2 := Hit2.out
      have hpw := Hpb.out
      obtain ⟨dcs, hde, dvD, dvL, dvK, rfl, dD, dL, dK⟩ := hD.out
      have hkd : ∀ g c t f, (pb + 1 + 1 < g ∧ g ≠ pb + 1 + 1 ∧ g ≠ it) → wr.heap[g]? = some (.cells c t f) → w6.heap[g]? = wr.heap[g]? ∧ (pb + 1 + 1 < g ∧ g ≠ pb + 1 + 1 ∧ g ≠ it) := fun g _ _ _ ho _ => ⟨e6 g ho.2.2, ho⟩
      have qD := Asd.mk (dD.kept hkd)
      have qL := Asd.mk (dL.kept hkd)
      have qK := Asd.mk (dK.kept hkd)
      have E6 : Asd (w6.heap[pb + 1 + 1]? = some (.cells (cmdCells dm dvD dvL dvK) 28 (0, 0))) := ⟨(e6 _ (by omega)).trans hde⟩
      have X6 := Asd.mk ((e6 pb (by omega)).trans hX.out)
      have R6 := Asd.mk ((e6 (pb + 1) (by omega)).trans hR.out)
      have B6 : Asd (Below w.heap.size w w6) := ⟨by rw [hw6]; exact Lib.below_iterAt hB.out (by omega) _ _⟩
      have hpos : Asd (wr.iterPos it = k) := ⟨by simp [World.iterPos, hI.out]⟩
      have Hst := Asd.mk hst
      clear hI hD hX hR hB hw6 e6 hc hcm hst hde dD dL dK hkd hi2 hpw hdm
      simp only [letters, List.mem_cons, List.not_mem_nil, or_false] at hcl
      rcases hcl with rfl | rfl | rfl | rfl | rfl | rfl | rfl | rfl | rfl | rfl | rfl
      · have hnx := hnext (by decide)
        clear hnext
        have x := bk_cell X6.out 1
        have d := bk_cell E6.out 1
        have f := bk_free E6.out 1
        simp only [cmdCells, List.getElem?_toArray, List.getElem?_cons_zero, List.getElem?_cons_succ] at x d
        go_wp2_with fail
        have hE7 : (w6.setCell ⟨pb + 1 + 1, 1, none⟩ (.int .i64 m.A)).heap[pb + 1 + 1]? = some (.cells (cmdCells (stepC m dm 65) dvD dvL dvK) 28 (0, 0)) := by
          exact bk_set E6.out 1 _
        have o7 : ∀ g, g ≠ pb + 1 + 1 → (w6.setCell ⟨pb + 1 + 1, 1, none⟩ (.int .i64 m.A)).heap[g]? = w6.heap[g]? := fun g hg => Below.heap_setCell w6 ⟨pb + 1 + 1, 1, none⟩ _ g hg
        have hi2 := Hit2.out
        have hpw := Hpb.out
        have hk7 : ∀ g c t f, (pb + 1 + 1 < g ∧ g ≠ pb + 1 + 1 ∧ g ≠ it) → w6.heap[g]? = some (.cells c t f) → (w6.setCell ⟨pb + 1 + 1, 1, none⟩ (.int .i64 m.A)).heap[g]? = w6.heap[g]? ∧ (pb + 1 + 1 < g ∧ g ≠ pb + 1 + 1 ∧ g ≠ it) := fun g _ _ _ ho _ => ⟨o7 g ho.2.1, ho⟩
        have I7 := (o7 it (by omega)).trans I6.out
        have hci : CmdIn (w6.setCell ⟨pb + 1 + 1, 1, none⟩ (.int .i64 m.A)) (fun g => pb + 1 + 1 < g ∧ g ≠ pb + 1 + 1 ∧ g ≠ it) (pb + 1 + 1) (stepC m dm 65) := ⟨_, hE7, dvD, dvL, dvK, rfl, qD.out.kept hk7, qL.out.kept hk7, qK.out.kept hk7⟩
        refine ⟨⟨k + 1, by omega, ⟨I7⟩, ⟨by rw [Hst.out]; exact hci⟩, ⟨(o7 pb (by omega)).trans X6.out⟩, ⟨(o7 (pb + 1) (by omega)).trans R6.out⟩, ⟨bl_set B6.out (by show w.heap.size ≤ pb + 1 + 1; omega) _⟩⟩, ?_⟩
        have hp8 : (w6.setCell ⟨pb + 1 + 1, 1, none⟩ (.int .i64 m.A)).iterPos it = k + 1 := by simp only [World.iterPos, I7]
        rw [hp8, hpos.out]; omega
      · have hnx := hnext (by decide)
        clear hnext
        have x := bk_cell X6.out 2
        have d := bk_cell E6.out 2
        have f := bk_free E6.out 2
        simp only [cmdCells, List.getElem?_toArray, List.getElem?_cons_zero, List.getElem?_cons_succ] at x d
        go_wp2_with fail
        have hE7 : (w6.setCell ⟨pb + 1 + 1, 2, none⟩ (.int .i64 m.B)).heap[pb + 1 + 1]? = some (.cells (cmdCells (stepC m dm 66) dvD dvL dvK) 28 (0, 0)) := by
          exact bk_set E6.out 2 _
        have o7 : ∀ g, g ≠ pb + 1 + 1 → (w6.setCell ⟨pb + 1 + 1, 2, none⟩ (.int .i64 m.B)).heap[g]? = w6.heap[g]? := fun g hg => Below.heap_setCell w6 ⟨pb + 1 + 1, 2, none⟩ _ g hg
        have hi2 := Hit2.out
        have hpw := Hpb.out
        have hk7 : ∀ g c t f, (pb + 1 + 1 < g ∧ g ≠ pb + 1 + 1 ∧ g ≠ it) → w6.heap[g]? = some (.cells c t f) → (w6.setCell ⟨pb + 1 + 1, 2, none⟩ (.int .i64 m.B)).heap[g]? = w6.heap[g]? ∧ (pb + 1 + 1 < g ∧ g ≠ pb + 1 + 1 ∧ g ≠ it) := fun g _ _ _ ho _ => ⟨o7 g ho.2.1, ho⟩
        have I7 := (o7 it (by omega)).trans I6.out
        have hci : CmdIn (w6.setCell ⟨pb + 1 + 1, 2, none⟩ (.int .i64 m.B)) (fun g => pb + 1 + 1 < g ∧ g ≠ pb + 1 + 1 ∧ g ≠ it) (pb + 1 + 1) (stepC m dm 66) := ⟨_, hE7, dvD, dvL, dvK, rfl, qD.out.kept hk7, qL.out.kept hk7, qK.out.kept hk7⟩
        refine ⟨⟨k + 1, by omega, ⟨I7⟩, ⟨by rw [Hst.out]; exact hci⟩, ⟨(o7 pb (by omega)).trans X6.out⟩, ⟨(o7 (pb + 1) (by omega)).trans R6.out⟩, ⟨bl_set B6.out (by show w.heap.size ≤ pb + 1 + 1; omega) _⟩⟩, ?_⟩
        have hp8 : (w6.setCell ⟨pb + 1 + 1, 2, none⟩ (.int .i64 m.B)).iterPos it = k + 1 := by simp only [World.iterPos, I7]
        rw [hp8, hpos.out]; omega
      · have hnx := hnext (by decide)
        clear hnext
        have x := bk_cell X6.out 3
        have d := bk_cell E6.out 3
        have f := bk_free E6.out 3
        simp only [cmdCells, List.getElem?_toArray, List.getElem?_cons_zero, List.getElem?_cons_succ] at x d
        go_wp2_with fail
        have hE7 : (w6.setCell ⟨pb + 1 + 1, 3, none⟩ (.int .i64 m.C)).heap[pb + 1 + 1]? = some (.cells (cmdCells (stepC m dm 67) dvD dvL dvK) 28 (0, 0)) := by
          exact bk_set E6.out 3 _
        have o7 : ∀ g, g ≠ pb + 1 + 1 → (w6.setCell ⟨pb + 1 + 1, 3, none⟩ (.int .i64 m.C)).heap[g]? = w6.heap[g]? := fun g hg => Below.heap_setCell w6 ⟨pb + 1 + 1, 3, none⟩ _ g hg
        have hi2 := Hit2.out
        have hpw := Hpb.out
        have hk7 : ∀ g c t f, (pb + 1 + 1 < g ∧ g ≠ pb + 1 + 1 ∧ g ≠ it) → w6.heap[g]? = some (.cells c t f) → (w6.setCell ⟨pb + 1 + 1, 3, none⟩ (.int .i64 m.C)).heap[g]? = w6.heap[g]? ∧ (pb + 1 + 1 < g ∧ g ≠ pb + 1 + 1 ∧ g ≠ it) := fun g _ _ _ ho _ => ⟨o7 g ho.2.1, ho⟩
        have I7 := (o7 it (by omega)).trans I6.out
        have hci : CmdIn (w6.setCell ⟨pb + 1 + 1, 3, none⟩ (.int .i64 m.C)) (fun g => pb + 1 + 1 < g ∧ g ≠ pb + 1 + 1 ∧ g ≠ it) (pb + 1 + 1) (stepC m dm 67) := ⟨_, hE7, dvD, dvL, dvK, rfl, qD.out.kept hk7, qL.out.kept hk7, qK.out.kept hk7⟩
        refine ⟨⟨k + 1, by omega, ⟨I7⟩, ⟨by rw [Hst.out]; exact hci⟩, ⟨(o7 pb (by omega)).trans X6.out⟩, ⟨(o7 (pb + 1) (by omega)).trans R6.out⟩, ⟨bl_set B6.out (by show w.heap.size ≤ pb + 1 + 1; omega) _⟩⟩, ?_⟩
        have hp8 : (w6.setCell ⟨pb + 1 + 1, 3, none⟩ (.int .i64 m.C)).iterPos it = k + 1 := by simp only [World.iterPos, I7]
        rw [hp8, hpos.out]; omega
      · have hnx := hnext (by decide)
        clear hnext
        have x := bk_cell X6.out 4
        have d := bk_cell E6.out 4
        have f := bk_free E6.out 4
        simp only [cmdCells, List.getElem?_toArray, List.getElem?_cons_zero, List.getElem?_cons_succ] at x d
        go_wp2_with fail
        have hE7 : (w6.setCell ⟨pb + 1 + 1, 4, none⟩ (.int .i64 m.N)).heap[pb + 1 + 1]? = some (.cells (cmdCells (stepC m dm 78) dvD dvL dvK) 28 (0, 0)) := by
          exact bk_set E6.out 4 _
        have o7 : ∀ g, g ≠ pb + 1 + 1 → (w6.setCell ⟨pb + 1 + 1, 4, none⟩ (.int .i64 m.N)).heap[g]? = w6.heap[g]? := fun g hg => Below.heap_setCell w6 ⟨pb + 1 + 1, 4, none⟩ _ g hg
        have hi2 := Hit2.out
        have hpw := Hpb.out
        have hk7 : ∀ g c t f, (pb + 1 + 1 < g ∧ g ≠ pb + 1 + 1 ∧ g ≠ it) → w6.heap[g]? = some (.cells c t f) → (w6.setCell ⟨pb + 1 + 1, 4, none⟩ (.int .i64 m.N)).heap[g]? = w6.heap[g]? ∧ (pb + 1 + 1 < g ∧ g ≠ pb + 1 + 1 ∧ g ≠ it) := fun g _ _ _ ho _ => ⟨o7 g ho.2.1, ho⟩
        have I7 := (o7 it (by omega)).trans I6.out
        have hci : CmdIn (w6.setCell ⟨pb + 1 + 1, 4, none⟩ (.int .i64 m.N)) (fun g => pb + 1 + 1 < g ∧ g ≠ pb + 1 + 1 ∧ g ≠ it) (pb + 1 + 1) (stepC m dm 78) := ⟨_, hE7, dvD, dvL, dvK, rfl, qD.out.kept hk7, qL.out.kept hk7, qK.out.kept hk7⟩
        refine ⟨⟨k + 1, by omega, ⟨I7⟩, ⟨by rw [Hst.out]; exact hci⟩, ⟨(o7 pb (by omega)).trans X6.out⟩, ⟨(o7 (pb + 1) (by omega)).trans R6.out⟩, ⟨bl_set B6.out (by show w.heap.size ≤ pb + 1 + 1; omega) _⟩⟩, ?_⟩
        have hp8 : (w6.setCell ⟨pb + 1 + 1, 4, none⟩ (.int .i64 m.N)).iterPos it = k + 1 := by simp only [World.iterPos, I7]
        rw [hp8, hpos.out]; omega
      · have hnx := hnext (by decide)
        clear hnext
        have x := bk_cell X6.out 5
        have d := bk_cell E6.out 5
        have f := bk_free E6.out 5
        simp only [cmdCells, List.getElem?_toArray, List.getElem?_cons_zero, List.getElem?_cons_succ] at x d
        go_wp2_with fail
        have hE7 : (w6.setCell ⟨pb + 1 + 1, 5, none⟩ (.int .i64 m.M)).heap[pb + 1 + 1]? = some (.cells (cmdCells (stepC m dm 77) dvD dvL dvK) 28 (0, 0)) := by
          exact bk_set E6.out 5 _
        have o7 : ∀ g, g ≠ pb + 1 + 1 → (w6.setCell ⟨pb + 1 + 1, 5, none⟩ (.int .i64 m.M)).heap[g]? = w6.heap[g]? := fun g hg => Below.heap_setCell w6 ⟨pb + 1 + 1, 5, none⟩ _ g hg
        have hi2 := Hit2.out
        have hpw := Hpb.out
        have hk7 : ∀ g c t f, (pb + 1 + 1 < g ∧ g ≠ pb + 1 + 1 ∧ g ≠ it) → w6.heap[g]? = some (.cells c t f) → (w6.setCell ⟨pb + 1 + 1, 5, none⟩ (.int .i64 m.M)).heap[g]? = w6.heap[g]? ∧ (pb + 1 + 1 < g ∧ g ≠ pb + 1 + 1 ∧ g ≠ it) := fun g _ _ _ ho _ => ⟨o7 g ho.2.1, ho⟩
        have I7 := (o7 it (by omega)).trans I6.out
        have hci : CmdIn (w6.setCell ⟨pb + 1 + 1, 5, none⟩ (.int .i64 m.M)) (fun g => pb + 1 + 1 < g ∧ g ≠ pb + 1 + 1 ∧ g ≠ it) (pb + 1 + 1) (stepC m dm 77) := ⟨_, hE7, dvD, dvL, dvK, rfl, qD.out.kept hk7, qL.out.kept hk7, qK.out.kept hk7⟩
        refine ⟨⟨k + 1, by omega, ⟨I7⟩, ⟨by rw [Hst.out]; exact hci⟩, ⟨(o7 pb (by omega)).trans X6.out⟩, ⟨(o7 (pb + 1) (by omega)).trans R6.out⟩, ⟨bl_set B6.out (by show w.heap.size ≤ pb + 1 + 1; omega) _⟩⟩, ?_⟩
        have hp8 : (w6.setCell ⟨pb + 1 + 1, 5, none⟩ (.int .i64 m.M)).iterPos it = k + 1 := by simp only [World.iterPos, I7]
        rw [hp8, hpos.out]; omega
      · have hnx := hnext (by decide)
        clear hnext
        have x := bk_cell X6.out 6
        have d := bk_cell E6.out 6
        have f := bk_free E6.out 6
        simp only [cmdCells, List.getElem?_toArray, List.getElem?_cons_zero, List.getElem?_cons_succ] at x d
        go_wp2_with fail
        have hE7 : (w6.setCell ⟨pb + 1 + 1, 6, none⟩ (.string sS)).heap[pb + 1 + 1]? = some (.cells (cmdCells (stepC m dm 83) dvD dvL dvK) 28 (0, 0)) := by
          rw [HS.out]; exact bk_set E6.out 6 _
        have o7 : ∀ g, g ≠ pb + 1 + 1 → (w6.setCell ⟨pb + 1 + 1, 6, none⟩ (.string sS)).heap[g]? = w6.heap[g]? := fun g hg => Below.heap_setCell w6 ⟨pb + 1 + 1, 6, none⟩ _ g hg
        have hi2 := Hit2.out
        have hpw := Hpb.out
        have hk7 : ∀ g c t f, (pb + 1 + 1 < g ∧ g ≠ pb + 1 + 1 ∧ g ≠ it) → w6.heap[g]? = some (.cells c t f) → (w6.setCell ⟨pb + 1 + 1, 6, none⟩ (.string sS)).heap[g]? = w6.heap[g]? ∧ (pb + 1 + 1 < g ∧ g ≠ pb + 1 + 1 ∧ g ≠ it) := fun g _ _ _ ho _ => ⟨o7 g ho.2.1, ho⟩
        have I7 := (o7 it (by omega)).trans I6.out
        have hci : CmdIn (w6.setCell ⟨pb + 1 + 1, 6, none⟩ (.string sS)) (fun g => pb + 1 + 1 < g ∧ g ≠ pb + 1 + 1 ∧ g ≠ it) (pb + 1 + 1) (stepC m dm 83) := ⟨_, hE7, dvD, dvL, dvK, rfl, qD.out.kept hk7, qL.out.kept hk7, qK.out.kept hk7⟩
        refine ⟨⟨k + 1, by omega, ⟨I7⟩, ⟨by rw [Hst.out]; exact hci⟩, ⟨(o7 pb (by omega)).trans X6.out⟩, ⟨(o7 (pb + 1) (by omega)).trans R6.out⟩, ⟨bl_set B6.out (by show w.heap.size ≤ pb + 1 + 1; omega) _⟩⟩, ?_⟩
        have hp8 : (w6.setCell ⟨pb + 1 + 1, 6, none⟩ (.string sS)).iterPos it = k + 1 := by simp only [World.iterPos, I7]
        rw [hp8, hpos.out]; omega
      · have hnx := hnext (by decide)
        clear hnext
        have x := bk_cell X6.out 7
        have d := bk_cell E6.out 7
        have f := bk_free E6.out 7
        simp only [cmdCells, List.getElem?_toArray, List.getElem?_cons_zero, List.getElem?_cons_succ] at x d
        go_wp2_with fail
        have hE7 : (w6.setCell ⟨pb + 1 + 1, 7, none⟩ (.string sT)).heap[pb + 1 + 1]? = some (.cells (cmdCells (stepC m dm 84) dvD dvL dvK) 28 (0, 0)) := by
          rw [HT.out]; exact bk_set E6.out 7 _
        have o7 : ∀ g, g ≠ pb + 1 + 1 → (w6.setCell ⟨pb + 1 + 1, 7, none⟩ (.string sT)).heap[g]? = w6.heap[g]? := fun g hg => Below.heap_setCell w6 ⟨pb + 1 + 1, 7, none⟩ _ g hg
        have hi2 := Hit2.out
        have hpw := Hpb.out
        have hk7 : ∀ g c t f, (pb + 1 + 1 < g ∧ g ≠ pb + 1 + 1 ∧ g ≠ it) → w6.heap[g]? = some (.cells c t f) → (w6.setCell ⟨pb + 1 + 1, 7, none⟩ (.string sT)).heap[g]? = w6.heap[g]? ∧ (pb + 1 + 1 < g ∧ g ≠ pb + 1 + 1 ∧ g ≠ it) := fun g _ _ _ ho _ => ⟨o7 g ho.2.1, ho⟩
        have I7 := (o7 it (by omega)).trans I6.out
        have hci : CmdIn (w6.setCell ⟨pb + 1 + 1, 7, none⟩ (.string sT)) (fun g => pb + 1 + 1 < g ∧ g ≠ pb + 1 + 1 ∧ g ≠ it) (pb + 1 + 1) (stepC m dm 84) := ⟨_, hE7, dvD, dvL, dvK, rfl, qD.out.kept hk7, qL.out.kept hk7, qK.out.kept hk7⟩
        refine ⟨⟨k + 1, by omega, ⟨I7⟩, ⟨by rw [Hst.out]; exact hci⟩, ⟨(o7 pb (by omega)).trans X6.out⟩, ⟨(o7 (pb + 1) (by omega)).trans R6.out⟩, ⟨bl_set B6.out (by show w.heap.size ≤ pb + 1 + 1; omega) _⟩⟩, ?_⟩
        have hp8 : (w6.setCell ⟨pb + 1 + 1, 7, none⟩ (.string sT)).iterPos it = k + 1 := by simp only [World.iterPos, I7]
        rw [hp8, hpos.out]; omega
      · have hnx := hnext (by decide)
        clear hnext
        have x := bk_cell X6.out 8
        have d := bk_cell E6.out 8
        have f := bk_free E6.out 8
        simp only [cmdCells, List.getElem?_toArray, List.getElem?_cons_zero, List.getElem?_cons_succ] at x d
        have rd6 : Asd (Rd w6 (fun _ => True) encU vD m.data) := ⟨HD.out.1.kept fun g _ _ _ _ e => ⟨B6.out.block g (bk_lt e), trivial⟩⟩
        have hbd := HD.out.2
        go_wp2_with (at_builtin; refine wpList_append_rd rfl _ _ 24 rfl encU_one 115 Tryz.underlying24 infoD w6.heap.size (Nat.le_refl _) (.slice none 0 0) rfl (World.ownsRow_nil _ _ _ _) vD rfl m.data rd6.out (by omega) (by simp only [maxLen]; omega) ?_; intro v7 w7 h7 g7; obtain ⟨n7, hn7⟩ : ∃ n, n = (m.data).length := ⟨_, rfl⟩; obtain ⟨A7, c7, hv7⟩ := h7.len; rw [← hn7] at hv7; have G7 := Asd.mk g7; have E7 := Asd.mk (bk_grown E6.out g7 (by simp [Value.ownBlock])); have d7 := bk_cell E7.out 8; have f7 := bk_free E7.out 8; simp only [cmdCells, List.getElem?_toArray, List.getElem?_cons_zero, List.getElem?_cons_succ] at d7; subst hv7; have H7 := Asd.mk h7; clear h7 g7 hn7 d f x)
        have hi2 := Hit2.out
        have hpw := Hpb.out
        have hs6 := bk_lt I6.out
        have hE8 : (w7.setCell ⟨pb + 1 + 1, 8, none⟩ (.slice A7 n7 c7)).heap[pb + 1 + 1]? = some (.cells (cmdCells (stepC m dm 68) (.slice A7 n7 c7) dvL dvK) 28 (0, 0)) := bk_set E7.out 8 _
        have o8 : ∀ g, g ≠ pb + 1 + 1 → (w7.setCell ⟨pb + 1 + 1, 8, none⟩ (.slice A7 n7 c7)).heap[g]? = w7.heap[g]? := fun g hg => Below.heap_setCell w7 ⟨pb + 1 + 1, 8, none⟩ _ g hg
        have o7 : ∀ g, g < w6.heap.size → w7.heap[g]? = w6.heap[g]? := fun g hg => G7.out.block g hg (by simp [Value.ownBlock])
        have hk8 : ∀ g c t f, (pb + 1 + 1 < g ∧ g ≠ pb + 1 + 1 ∧ g ≠ it) → w6.heap[g]? = some (.cells c t f) → (w7.setCell ⟨pb + 1 + 1, 8, none⟩ (.slice A7 n7 c7)).heap[g]? = w6.heap[g]? ∧ (pb + 1 + 1 < g ∧ g ≠ pb + 1 + 1 ∧ g ≠ it) := fun g _ _ _ ho e => ⟨(o8 g ho.2.1).trans (o7 g (bk_lt e)), ho⟩
        have hk7 : ∀ g c t f, w6.heap.size ≤ g → w7.heap[g]? = some (.cells c t f) → (w7.setCell ⟨pb + 1 + 1, 8, none⟩ (.slice A7 n7 c7)).heap[g]? = w7.heap[g]? ∧ (pb + 1 + 1 < g ∧ g ≠ pb + 1 + 1 ∧ g ≠ it) := fun g _ _ _ ho _ => ⟨o8 g (by omega), by omega, by omega, by omega⟩
        have I8 := (o8 it (by omega)).trans ((o7 it hs6).trans I6.out)
        have hci : CmdIn (w7.setCell ⟨pb + 1 + 1, 8, none⟩ (.slice A7 n7 c7)) (fun g => pb + 1 + 1 < g ∧ g ≠ pb + 1 + 1 ∧ g ≠ it) (pb + 1 + 1) (stepC m dm 68) := ⟨_, hE8, .slice A7 n7 c7, dvL, dvK, rfl, H7.out.kept hk7, qL.out.kept hk8, qK.out.kept hk8⟩
        refine ⟨⟨k + 1, by omega, ⟨I8⟩, ⟨by rw [Hst.out]; exact hci⟩, ⟨(o8 pb (by omega)).trans ((o7 pb (by omega)).trans X6.out)⟩, ⟨(o8 (pb + 1) (by omega)).trans ((o7 (pb + 1) (by omega)).trans R6.out)⟩, ⟨bl_set (bl_grown B6.out G7.out (fun g hg => by simp [Value.ownBlock] at hg)) (by show w.heap.size ≤ pb + 1 + 1; omega) _⟩⟩, ?_⟩
        have hp8 : (w7.setCell ⟨pb + 1 + 1, 8, none⟩ (.slice A7 n7 c7)).iterPos it = k + 1 := by simp only [World.iterPos, I8]
        rw [hp8, hpos.out]; omega
      · have hnx := hnext (by decide)
        clear hnext
        have x := bk_cell X6.out 9
        have d := bk_cell E6.out 9
        have f := bk_free E6.out 9
        simp only [cmdCells, List.getElem?_toArray, List.getElem?_cons_zero, List.getElem?_cons_succ] at x d
        have rd6 : Asd (Rd w6 (fun _ => True) encI vL m.list) := ⟨HL.out.1.kept fun g _ _ _ _ e => ⟨B6.out.block g (bk_lt e), trivial⟩⟩
        have hbd := HL.out.2
        go_wp2_with (at_builtin; refine wpList_append_rd rfl _ _ 25 rfl encI_one 3 Tryz.underlying25 infoL w6.heap.size (Nat.le_refl _) (.slice none 0 0) rfl (World.ownsRow_nil _ _ _ _) vL rfl m.list rd6.out (by omega) (by simp only [maxLen]; omega) ?_; intro v7 w7 h7 g7; obtain ⟨n7, hn7⟩ : ∃ n, n = (m.list).length := ⟨_, rfl⟩; obtain ⟨A7, c7, hv7⟩ := h7.len; rw [← hn7] at hv7; have G7 := Asd.mk g7; have E7 := Asd.mk (bk_grown E6.out g7 (by simp [Value.ownBlock])); have d7 := bk_cell E7.out 9; have f7 := bk_free E7.out 9; simp only [cmdCells, List.getElem?_toArray, List.getElem?_cons_zero, List.getElem?_cons_succ] at d7; subst hv7; have H7 := Asd.mk h7; clear h7 g7 hn7 d f x)
        have hi2 := Hit2.out
        have hpw := Hpb.out
        have hs6 := bk_lt I6.out
        have hE8 : (w7.setCell ⟨pb + 1 + 1, 9, none⟩ (.slice A7 n7 c7)).heap[pb + 1 + 1]? = some (.cells (cmdCells (stepC m dm 76) dvD (.slice A7 n7 c7) dvK) 28 (0, 0)) := bk_set E7.out 9 _
        have o8 : ∀ g, g ≠ pb + 1 + 1 → (w7.setCell ⟨pb + 1 + 1, 9, none⟩ (.slice A7 n7 c7)).heap[g]? = w7.heap[g]? := fun g hg => Below.heap_setCell w7 ⟨pb + 1 + 1, 9, none⟩ _ g hg
        have o7 : ∀ g, g < w6.heap.size → w7.heap[g]? = w6.heap[g]? := fun g hg => G7.out.block g hg (by simp [Value.ownBlock])
        have hk8 : ∀ g c t f, (pb + 1 + 1 < g ∧ g ≠ pb + 1 + 1 ∧ g ≠ it) → w6.heap[g]? = some (.cells c t f) → (w7.setCell ⟨pb + 1 + 1, 9, none⟩ (.slice A7 n7 c7)).heap[g]? = w6.heap[g]? ∧ (pb + 1 + 1 < g ∧ g ≠ pb + 1 + 1 ∧ g ≠ it) := fun g _ _ _ ho e => ⟨(o8 g ho.2.1).trans (o7 g (bk_lt e)), ho⟩
        have hk7 : ∀ g c t f, w6.heap.size ≤ g → w7.heap[g]? = some (.cells c t f) → (w7.setCell ⟨pb + 1 + 1, 9, none⟩ (.slice A7 n7 c7)).heap[g]? = w7.heap[g]? ∧ (pb + 1 + 1 < g ∧ g ≠ pb + 1 + 1 ∧ g ≠ it) := fun g _ _ _ ho _ => ⟨o8 g (by omega), by omega, by omega, by omega⟩
        have I8 := (o8 it (by omega)).trans ((o7 it hs6).trans I6.out)
        have hci : CmdIn (w7.setCell ⟨pb + 1 + 1, 9, none⟩ (.slice A7 n7 c7)) (fun g => pb + 1 + 1 < g ∧ g ≠ pb + 1 + 1 ∧ g ≠ it) (pb + 1 + 1) (stepC m dm 76) := ⟨_, hE8, dvD, .slice A7 n7 c7, dvK, rfl, qD.out.kept hk8, H7.out.kept hk7, qK.out.kept hk8⟩
        refine ⟨⟨k + 1, by omega, ⟨I8⟩, ⟨by rw [Hst.out]; exact hci⟩, ⟨(o8 pb (by omega)).trans ((o7 pb (by omega)).trans X6.out)⟩, ⟨(o8 (pb + 1) (by omega)).trans ((o7 (pb + 1) (by omega)).trans R6.out)⟩, ⟨bl_set (bl_grown B6.out G7.out (fun g hg => by simp [Value.ownBlock] at hg)) (by show w.heap.size ≤ pb + 1 + 1; omega) _⟩⟩, ?_⟩
        have hp8 : (w7.setCell ⟨pb + 1 + 1, 9, none⟩ (.slice A7 n7 c7)).iterPos it = k + 1 := by simp only [World.iterPos, I8]
        rw [hp8, hpos.out]; omega
      · have hnx := hnext (by decide)
        clear hnext
        have x := bk_cell X6.out 10
        have d := bk_cell E6.out 10
        have f := bk_free E6.out 10
        simp only [cmdCells, List.getElem?_toArray, List.getElem?_cons_zero, List.getElem?_cons_succ] at x d
        have rd6 : Asd (Rd w6 (fun _ => True) encS vK m.names) := ⟨HK.out.1.kept fun g _ _ _ _ e => ⟨B6.out.block g (bk_lt e), trivial⟩⟩
        have hbd := HK.out.2
        go_wp2_with (at_builtin; refine wpList_append_rd rfl _ _ 26 rfl encS_one 9 Tryz.underlying26 infoK w6.heap.size (Nat.le_refl _) (.slice none 0 0) rfl (World.ownsRow_nil _ _ _ _) vK rfl m.names rd6.out (by omega) (by simp only [maxLen]; omega) ?_; intro v7 w7 h7 g7; obtain ⟨n7, hn7⟩ : ∃ n, n = (m.names).length := ⟨_, rfl⟩; obtain ⟨A7, c7, hv7⟩ := h7.len; rw [← hn7] at hv7; have G7 := Asd.mk g7; have E7 := Asd.mk (bk_grown E6.out g7 (by simp [Value.ownBlock])); have d7 := bk_cell E7.out 10; have f7 := bk_free E7.out 10; simp only [cmdCells, List.getElem?_toArray, List.getElem?_cons_zero, List.getElem?_cons_succ] at d7; subst hv7; have H7 := Asd.mk h7; clear h7 g7 hn7 d f x)
        have hi2 := Hit2.out
        have hpw := Hpb.out
        have hs6 := bk_lt I6.out
        have hE8 : (w7.setCell ⟨pb + 1 + 1, 10, none⟩ (.slice A7 n7 c7)).heap[pb + 1 + 1]? = some (.cells (cmdCells (stepC m dm 75) dvD dvL (.slice A7 n7 c7)) 28 (0, 0)) := bk_set E7.out 10 _
        have o8 : ∀ g, g ≠ pb + 1 + 1 → (w7.setCell ⟨pb + 1 + 1, 10, none⟩ (.slice A7 n7 c7)).heap[g]? = w7.heap[g]? := fun g hg => Below.heap_setCell w7 ⟨pb + 1 + 1, 10, none⟩ _ g hg
        have o7 : ∀ g, g < w6.heap.size → w7.heap[g]? = w6.heap[g]? := fun g hg => G7.out.block g hg (by simp [Value.ownBlock])
        have hk8 : ∀ g c t f, (pb + 1 + 1 < g ∧ g ≠ pb + 1 + 1 ∧ g ≠ it) → w6.heap[g]? = some (.cells c t f) → (w7.setCell ⟨pb + 1 + 1, 10, none⟩ (.slice A7 n7 c7)).heap[g]? = w6.heap[g]? ∧ (pb + 1 + 1 < g ∧ g ≠ pb + 1 + 1 ∧ g ≠ it) := fun g _ _ _ ho e => ⟨(o8 g ho.2.1).trans (o7 g (bk_lt e)), ho⟩
        have hk7 : ∀ g c t f, w6.heap.size ≤ g → w7.heap[g]? = some (.cells c t f) → (w7.setCell ⟨pb + 1 + 1, 10, none⟩ (.slice A7 n7 c7)).heap[g]? = w7.heap[g]? ∧ (pb + 1 + 1 < g ∧ g ≠ pb + 1 + 1 ∧ g ≠ it) := fun g _ _ _ ho _ => ⟨o8 g (by omega), by omega, by omega, by omega⟩
        have I8 := (o8 it (by omega)).trans ((o7 it hs6).trans I6.out)
        have hci : CmdIn (w7.setCell ⟨pb + 1 + 1, 10, none⟩ (.slice A7 n7 c7)) (fun g => pb + 1 + 1 < g ∧ g ≠ pb + 1 + 1 ∧ g ≠ it) (pb + 1 + 1) (stepC m dm 75) := ⟨_, hE8, dvD, dvL, .slice A7 n7 c7, rfl, qD.out.kept hk8, qL.out.kept hk8, H7.out.kept hk7⟩
        refine ⟨⟨k + 1, by omega, ⟨I8⟩, ⟨by rw [Hst.out]; exact hci⟩, ⟨(o8 pb (by omega)).trans ((o7 pb (by omega)).trans X6.out)⟩, ⟨(o8 (pb + 1) (by omega)).trans ((o7 (pb + 1) (by omega)).trans R6.out)⟩, ⟨bl_set (bl_grown B6.out G7.out (fun g hg => by simp [Value.ownBlock] at hg)) (by show w.heap.size ≤ pb + 1 + 1; omega) _⟩⟩, ?_⟩
        have hp8 : (w7.setCell ⟨pb + 1 + 1, 10, none⟩ (.slice A7 n7 c7)).iterPos it = k + 1 := by simp only [World.iterPos, I8]
        rw [hp8, hpos.out]; omega
      · have hnx := hnext (by decide)
        clear hnext
        have x := bk_cell X6.out 11
        have d := bk_cell E6.out 11
        have f := bk_free E6.out 11
        simp only [cmdCells, List.getElem?_toArray, List.getElem?_cons_zero, List.getElem?_cons_succ] at x d
        go_wp2_with fail
        have hE7 : (w6.setCell ⟨pb + 1 + 1, 11, none⟩ (.bool m.yes)).heap[pb + 1 + 1]? = some (.cells (cmdCells (stepC m dm 89) dvD dvL dvK) 28 (0, 0)) := by
          exact bk_set E6.out 11 _
        have o7 : ∀ g, g ≠ pb + 1 + 1 → (w6.setCell ⟨pb + 1 + 1, 11, none⟩ (.bool m.yes)).heap[g]? = w6.heap[g]? := fun g hg => Below.heap_setCell w6 ⟨pb + 1 + 1, 11, none⟩ _ g hg
        have hi2 := Hit2.out
        have hpw := Hpb.out
        have hk7 : ∀ g c t f, (pb + 1 + 1 < g ∧ g ≠ pb + 1 + 1 ∧ g ≠ it) → w6.heap[g]? = some (.cells c t f) → (w6.setCell ⟨pb + 1 + 1, 11, none⟩ (.bool m.yes)).heap[g]? = w6.heap[g]? ∧ (pb + 1 + 1 < g ∧ g ≠ pb + 1 + 1 ∧ g ≠ it) := fun g _ _ _ ho _ => ⟨o7 g ho.2.1, ho⟩
        have I7 := (o7 it (by omega)).trans I6.out
        have hci : CmdIn (w6.setCell ⟨pb + 1 + 1, 11, none⟩ (.bool m.yes)) (fun g => pb + 1 + 1 < g ∧ g ≠ pb + 1 + 1 ∧ g ≠ it) (pb + 1 + 1) (stepC m dm 89) := ⟨_, hE7, dvD, dvL, dvK, rfl, qD.out.kept hk7, qL.out.kept hk7, qK.out.kept hk7⟩
        refine ⟨⟨k + 1, by omega, ⟨I7⟩, ⟨by rw [Hst.out]; exact hci⟩, ⟨(o7 pb (by omega)).trans X6.out⟩, ⟨(o7 (pb + 1) (by omega)).trans R6.out⟩, ⟨bl_set B6.out (by show w.heap.size ≤ pb + 1 + 1; omega) _⟩⟩, ?_⟩
        have hp8 : (w6.setCell ⟨pb + 1 + 1, 11, none⟩ (.bool m.yes)).iterPos it = k + 1 := by simp only [World.iterPos, I7]
        rw [hp8, hpos.out]; omega
    · have hnext := fun ty => Lib.run_next_end_at (P := Tryz.prog) wr it b k ty hI.out hlt
      have hkd : (flds mop).take k = flds mop := List.take_of_length_le (by rw [← Hbl.out]; omega)
      obtain ⟨dcs, hde, hkv⟩ := hD.out
      have h12 := Asd.mk (And.intro (kv_one hkv) (kv_size hkv))
      have HDE := Asd.mk hde
      have HKV := Asd.mk hkv
      have Hdm : Asd (dm = plainD m) := ⟨by rw [hdm, hkd, Hmop.out]; rfl⟩
      clear hde hkv hD hdm hkd hI hX
      go_wp2_with (first | (refine wpList_load_row rfl 28 _ rfl (pb + 1 + 1) rfl 28 dcs (0, 0) _ HDE.out Tryz.underlying28 rfl (by rw [infoCmd, h12.out.2]) ?_) | (refine wpList_store_rowK rfl 28 _ _ rfl (pb + 1) dcs rfl rfl 28 (zeroCmd 0) hR.out (by rw [infoCmd, h12.out.2]) (by rw [h12.out.2]; rfl) h12.out.1 ?_; intro W9 hW9 hg9 hz9; clear hz9))
      refine bodyPost_ret (results_cell_row rfl _ _ (pb + 1) 28 dcs (0, 0) _ rfl hW9 Tryz.underlying28 rfl (by rw [infoCmd, h12.out.2])) rfl ?_
      have hpw := Hpb.out
      refine ⟨dcs, rfl, ?_, bl_grown hB.out hg9 (fun g hg => by injection hg with hg; omega)⟩
      rw [← Hdm.out]
      exact HKV.out.kept fun g _ _ _ ho e => ⟨hg9.block g (bk_lt e) (by intro e; injection e with e; omega), by omega⟩
end Go.Proofs.YthclgijnfopikaaGreatDoor
