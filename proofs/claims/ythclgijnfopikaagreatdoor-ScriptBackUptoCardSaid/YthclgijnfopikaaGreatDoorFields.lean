/- The walk of script.fields: the map of the fields' closures. -/
import Derived.Test.YthclgijnfopikaaGreatDoorNum
import Derived.Test.YthclgijnfopikaaGreatDoorMaps
namespace Go.Proofs.YthclgijnfopikaaGreatDoor
open Go.RowKit

def numV (b : Nat) : Value := .agg #[.func (.func 82) #[] #[.pointer (some ⟨b, 0, none⟩)], .func (.func 83) #[] #[.pointer (some ⟨b, 0, none⟩)]]
def textV (b : Nat) : Value := .agg #[.func (.func 84) #[] #[.pointer (some ⟨b, 0, none⟩)], .func (.func 86) #[] #[.pointer (some ⟨b, 0, none⟩)]]
def plainV (f g : Nat) : Value := .agg #[.func (.func f) #[] #[], .func (.func g) #[] #[]]
def ents (b1 b2 b3 b4 b5 b6 b7 : Nat) : Array MapEntry :=
  #[⟨.int .i32 65, numV b1, 0⟩, ⟨.int .i32 66, numV b2, 1⟩, ⟨.int .i32 67, numV b3, 2⟩, ⟨.int .i32 78, numV b4, 3⟩, ⟨.int .i32 77, numV b5, 4⟩, ⟨.int .i32 83, textV b6, 5⟩, ⟨.int .i32 84, textV b7, 6⟩,
    ⟨.int .i32 68, plainV 61 62, 7⟩, ⟨.int .i32 76, plainV 63 64, 8⟩, ⟨.int .i32 75, plainV 65 66, 9⟩, ⟨.int .i32 89, plainV 67 68, 10⟩]
def nbox (g : Nat) : Obj := .cells #[.func (.func g) #[] #[]] 98 (0, 0)
def tbox (g : Nat) : Obj := .cells #[.func (.func g) #[] #[]] 101 (0, 0)
/-- Block r is the map of all fields; it and what it leads to lie from block lo on, below block hi. -/
structure IsFields (lo hi : Nat) (w : World) (r : Nat) : Prop where
  is : ∃ b1 b2 b3 b4 b5 b6 b7, w.heap[r]? = some (.map (ents b1 b2 b3 b4 b5 b6 b7) 11) ∧ (lo ≤ r ∧ r < hi) ∧
    (w.heap[b1]? = some (nbox 53) ∧ lo ≤ b1 ∧ b1 < hi) ∧ (w.heap[b2]? = some (nbox 54) ∧ lo ≤ b2 ∧ b2 < hi) ∧ (w.heap[b3]? = some (nbox 55) ∧ lo ≤ b3 ∧ b3 < hi) ∧
    (w.heap[b4]? = some (nbox 56) ∧ lo ≤ b4 ∧ b4 < hi) ∧ (w.heap[b5]? = some (nbox 57) ∧ lo ≤ b5 ∧ b5 < hi) ∧ (w.heap[b6]? = some (tbox 59) ∧ lo ≤ b6 ∧ b6 < hi) ∧ (w.heap[b7]? = some (tbox 60) ∧ lo ≤ b7 ∧ b7 < hi)
theorem IsFields.kept {lo hi : Nat} {w w1 : World} {r : Nat} (h : IsFields lo hi w r) (hk : ∀ b, lo ≤ b → b < hi → w1.heap[b]? = w.heap[b]?) : IsFields lo hi w1 r := by
  obtain ⟨b1, b2, b3, b4, b5, b6, b7, h0, hr, ⟨x1, l1, u1⟩, ⟨x2, l2, u2⟩, ⟨x3, l3, u3⟩, ⟨x4, l4, u4⟩, ⟨x5, l5, u5⟩, ⟨x6, l6, u6⟩, ⟨x7, l7, u7⟩⟩ := h.is
  refine ⟨b1, b2, b3, b4, b5, b6, b7, (hk _ hr.1 hr.2).trans h0, hr, ⟨(hk _ l1 u1).trans x1, l1, u1⟩, ⟨(hk _ l2 u2).trans x2, l2, u2⟩, ⟨(hk _ l3 u3).trans x3, l3, u3⟩, ⟨(hk _ l4 u4).trans x4, l4, u4⟩, ⟨(hk _ l5 u5).trans x5, l5, u5⟩, ⟨(hk _ l6 u6).trans x6, l6, u6⟩, ⟨(hk _ l7 u7).trans x7, l7, u7⟩⟩
def FieldsPost (w : World) (e : Ending) (w' : World) : Prop := ∃ r, e = .returned (.map (some r)) ∧ IsFields w.heap.size w'.heap.size w' r ∧ Below w.heap.size w w'

set_option maxHeartbeats 4000000 in
set_option maxRecDepth 100000 in
theorem fields_calls (w : World) : Calls Tryz.prog 30 #[] w (FieldsPost w) := by
  have hmm := @run_makeMap Tryz.prog
  go_enter Tryz.func30, Tryz.ntmps30
  go_wp2_with fail
  obtain ⟨r, hrr⟩ : ∃ r, r = w.heap.size := ⟨_, rfl⟩
  obtain ⟨v0, hv0⟩ : ∃ v0, v0 = w.alloc (.map #[] 0) := ⟨_, rfl⟩
  have M0 : Asd (v0.heap[r]? = some (.map #[] 0)) := ⟨by rw [hrr, hv0]; exact bk_new w _⟩
  have B0 : Asd (Below r w v0) := ⟨by rw [hrr, hv0]; exact bl_alloc (Below.refl _ _) _⟩
  have Z0 : Asd (r < v0.heap.size) := ⟨bk_lt M0.out⟩
  rw [← hrr, ← hv0]
  have Hr := Asd.mk hrr
  clear hrr hv0 hmm
  refine (num_calls 53 _).mono ?_
  rintro e v1 ⟨rfl, hb, hx⟩
  obtain ⟨b1, hbb⟩ : ∃ b, b = v0.heap.size := ⟨_, rfl⟩
  rw [← hbb] at hx ⊢
  have X1 : Asd (v1.heap[b1]? = some (nbox 53)) := ⟨hx⟩
  have L1 : Asd (r < b1) := ⟨by rw [hbb]; exact Z0.out⟩
  have M1 : Asd _ := ⟨bk_below M0.out hb Z0.out⟩
  have B1 : Asd (Below r w v1) := ⟨B0.out.trans (hb.mono (by have := Z0.out; omega))⟩
  have Z1 : Asd (r < v1.heap.size) := ⟨Nat.lt_of_lt_of_le Z0.out hb.size⟩
  clear M0 B0 Z0 hb hx hbb
  go_wp2_with (with_reducible refine wpList_insert_i32 rfl 58 _ _ _ rfl 21 63 Tryz.underlying58 Tryz.underlying21 r _ _ M1.out 65 (numV b1) rfl rfl rfl rfl ?_)
  intro v2 hg hs hm
  have M2 : Asd (v2.heap[r]? = some (.map #[⟨.int .i32 65, numV b1, 0⟩] 1)) := ⟨hm⟩
  have B2 : Asd (Below r w v2) := ⟨B1.out.grown hg (by have := Z1.out; omega) (fun k hk => by injection hk with hk; omega)⟩
  have Z2 : Asd (r < v2.heap.size) := ⟨by rw [hs]; exact Z1.out⟩
  have X1' : Asd _ := ⟨bk_grown X1.out hg (by intro e; injection e with e; have := L1.out; omega)⟩
  clear X1
  have X1 := X1'
  clear X1'
  clear M1 B1 Z1 hg hs hm
  go_wp2_with fail
  refine (num_calls 54 _).mono ?_
  rintro e v3 ⟨rfl, hb, hx⟩
  obtain ⟨b2, hbb⟩ : ∃ b, b = v2.heap.size := ⟨_, rfl⟩
  rw [← hbb] at hx ⊢
  have X2 : Asd (v3.heap[b2]? = some (nbox 54)) := ⟨hx⟩
  have L2 : Asd (r < b2) := ⟨by rw [hbb]; exact Z2.out⟩
  have M3 : Asd _ := ⟨bk_below M2.out hb Z2.out⟩
  have B3 : Asd (Below r w v3) := ⟨B2.out.trans (hb.mono (by have := Z2.out; omega))⟩
  have Z3 : Asd (r < v3.heap.size) := ⟨Nat.lt_of_lt_of_le Z2.out hb.size⟩
  have X1' : Asd _ := ⟨bk_below X1.out hb (bk_lt X1.out)⟩
  clear X1
  have X1 := X1'
  clear X1'
  clear M2 B2 Z2 hb hx hbb
  go_wp2_with (with_reducible refine wpList_insert_i32 rfl 58 _ _ _ rfl 21 63 Tryz.underlying58 Tryz.underlying21 r _ _ M3.out 66 (numV b2) rfl rfl rfl rfl ?_)
  intro v4 hg hs hm
  have M4 : Asd (v4.heap[r]? = some (.map #[⟨.int .i32 65, numV b1, 0⟩, ⟨.int .i32 66, numV b2, 1⟩] 2)) := ⟨hm⟩
  have B4 : Asd (Below r w v4) := ⟨B3.out.grown hg (by have := Z3.out; omega) (fun k hk => by injection hk with hk; omega)⟩
  have Z4 : Asd (r < v4.heap.size) := ⟨by rw [hs]; exact Z3.out⟩
  have X1' : Asd _ := ⟨bk_grown X1.out hg (by intro e; injection e with e; have := L1.out; omega)⟩
  clear X1
  have X1 := X1'
  clear X1'
  have X2' : Asd _ := ⟨bk_grown X2.out hg (by intro e; injection e with e; have := L2.out; omega)⟩
  clear X2
  have X2 := X2'
  clear X2'
  clear M3 B3 Z3 hg hs hm
  go_wp2_with fail
  refine (num_calls 55 _).mono ?_
  rintro e v5 ⟨rfl, hb, hx⟩
  obtain ⟨b3, hbb⟩ : ∃ b, b = v4.heap.size := ⟨_, rfl⟩
  rw [← hbb] at hx ⊢
  have X3 : Asd (v5.heap[b3]? = some (nbox 55)) := ⟨hx⟩
  have L3 : Asd (r < b3) := ⟨by rw [hbb]; exact Z4.out⟩
  have M5 : Asd _ := ⟨bk_below M4.out hb Z4.out⟩
  have B5 : Asd (Below r w v5) := ⟨B4.out.trans (hb.mono (by have := Z4.out; omega))⟩
  have Z5 : Asd (r < v5.heap.size) := ⟨Nat.lt_of_lt_of_le Z4.out hb.size⟩
  have X1' : Asd _ := ⟨bk_below X1.out hb (bk_lt X1.out)⟩
  clear X1
  have X1 := X1'
  clear X1'
  have X2' : Asd _ := ⟨bk_below X2.out hb (bk_lt X2.out)⟩
  clear X2
  have X2 := X2'
  clear X2'
  clear M4 B4 Z4 hb hx hbb
  go_wp2_with (with_reducible refine wpList_insert_i32 rfl 58 _ _ _ rfl 21 63 Tryz.underlying58 Tryz.underlying21 r _ _ M5.out 67 (numV b3) rfl rfl rfl rfl ?_)
  intro v6 hg hs hm
  have M6 : Asd (v6.heap[r]? = some (.map #[⟨.int .i32 65, numV b1, 0⟩, ⟨.int .i32 66, numV b2, 1⟩, ⟨.int .i32 67, numV b3, 2⟩] 3)) := ⟨hm⟩
  have B6 : Asd (Below r w v6) := ⟨B5.out.grown hg (by have := Z5.out; omega) (fun k hk => by injection hk with hk; omega)⟩
  have Z6 : Asd (r < v6.heap.size) := ⟨by rw [hs]; exact Z5.out⟩
  have X1' : Asd _ := ⟨bk_grown X1.out hg (by intro e; injection e with e; have := L1.out; omega)⟩
  clear X1
  have X1 := X1'
  clear X1'
  have X2' : Asd _ := ⟨bk_grown X2.out hg (by intro e; injection e with e; have := L2.out; omega)⟩
  clear X2
  have X2 := X2'
  clear X2'
  have X3' : Asd _ := ⟨bk_grown X3.out hg (by intro e; injection e with e; have := L3.out; omega)⟩
  clear X3
  have X3 := X3'
  clear X3'
  clear M5 B5 Z5 hg hs hm
  go_wp2_with fail
  refine (num_calls 56 _).mono ?_
  rintro e v7 ⟨rfl, hb, hx⟩
  obtain ⟨b4, hbb⟩ : ∃ b, b = v6.heap.size := ⟨_, rfl⟩
  rw [← hbb] at hx ⊢
  have X4 : Asd (v7.heap[b4]? = some (nbox 56)) := ⟨hx⟩
  have L4 : Asd (r < b4) := ⟨by rw [hbb]; exact Z6.out⟩
  have M7 : Asd _ := ⟨bk_below M6.out hb Z6.out⟩
  have B7 : Asd (Below r w v7) := ⟨B6.out.trans (hb.mono (by have := Z6.out; omega))⟩
  have Z7 : Asd (r < v7.heap.size) := ⟨Nat.lt_of_lt_of_le Z6.out hb.size⟩
  have X1' : Asd _ := ⟨bk_below X1.out hb (bk_lt X1.out)⟩
  clear X1
  have X1 := X1'
  clear X1'
  have X2' : Asd _ := ⟨bk_below X2.out hb (bk_lt X2.out)⟩
  clear X2
  have X2 := X2'
  clear X2'
  have X3' : Asd _ := ⟨bk_below X3.out hb (bk_lt X3.out)⟩
  clear X3
  have X3 := X3'
  clear X3'
  clear M6 B6 Z6 hb hx hbb
  go_wp2_with (with_reducible refine wpList_insert_i32 rfl 58 _ _ _ rfl 21 63 Tryz.underlying58 Tryz.underlying21 r _ _ M7.out 78 (numV b4) rfl rfl rfl rfl ?_)
  intro v8 hg hs hm
  have M8 : Asd (v8.heap[r]? = some (.map #[⟨.int .i32 65, numV b1, 0⟩, ⟨.int .i32 66, numV b2, 1⟩, ⟨.int .i32 67, numV b3, 2⟩, ⟨.int .i32 78, numV b4, 3⟩] 4)) := ⟨hm⟩
  have B8 : Asd (Below r w v8) := ⟨B7.out.grown hg (by have := Z7.out; omega) (fun k hk => by injection hk with hk; omega)⟩
  have Z8 : Asd (r < v8.heap.size) := ⟨by rw [hs]; exact Z7.out⟩
  have X1' : Asd _ := ⟨bk_grown X1.out hg (by intro e; injection e with e; have := L1.out; omega)⟩
  clear X1
  have X1 := X1'
  clear X1'
  have X2' : Asd _ := ⟨bk_grown X2.out hg (by intro e; injection e with e; have := L2.out; omega)⟩
  clear X2
  have X2 := X2'
  clear X2'
  have X3' : Asd _ := ⟨bk_grown X3.out hg (by intro e; injection e with e; have := L3.out; omega)⟩
  clear X3
  have X3 := X3'
  clear X3'
  have X4' : Asd _ := ⟨bk_grown X4.out hg (by intro e; injection e with e; have := L4.out; omega)⟩
  clear X4
  have X4 := X4'
  clear X4'
  clear M7 B7 Z7 hg hs hm
  go_wp2_with fail
  refine (num_calls 57 _).mono ?_
  rintro e v9 ⟨rfl, hb, hx⟩
  obtain ⟨b5, hbb⟩ : ∃ b, b = v8.heap.size := ⟨_, rfl⟩
  rw [← hbb] at hx ⊢
  have X5 : Asd (v9.heap[b5]? = some (nbox 57)) := ⟨hx⟩
  have L5 : Asd (r < b5) := ⟨by rw [hbb]; exact Z8.out⟩
  have M9 : Asd _ := ⟨bk_below M8.out hb Z8.out⟩
  have B9 : Asd (Below r w v9) := ⟨B8.out.trans (hb.mono (by have := Z8.out; omega))⟩
  have Z9 : Asd (r < v9.heap.size) := ⟨Nat.lt_of_lt_of_le Z8.out hb.size⟩
  have X1' : Asd _ := ⟨bk_below X1.out hb (bk_lt X1.out)⟩
  clear X1
  have X1 := X1'
  clear X1'
  have X2' : Asd _ := ⟨bk_below X2.out hb (bk_lt X2.out)⟩
  clear X2
  have X2 := X2'
  clear X2'
  have X3' : Asd _ := ⟨bk_below X3.out hb (bk_lt X3.out)⟩
  clear X3
  have X3 := X3'
  clear X3'
  have X4' : Asd _ := ⟨bk_below X4.out hb (bk_lt X4.out)⟩
  clear X4
  have X4 := X4'
  clear X4'
  clear M8 B8 Z8 hb hx hbb
  go_wp2_with (with_reducible refine wpList_insert_i32 rfl 58 _ _ _ rfl 21 63 Tryz.underlying58 Tryz.underlying21 r _ _ M9.out 77 (numV b5) rfl rfl rfl rfl ?_)
  intro v10 hg hs hm
  have M10 : Asd (v10.heap[r]? = some (.map #[⟨.int .i32 65, numV b1, 0⟩, ⟨.int .i32 66, numV b2, 1⟩, ⟨.int .i32 67, numV b3, 2⟩, ⟨.int .i32 78, numV b4, 3⟩, ⟨.int .i32 77, numV b5, 4⟩] 5)) := ⟨hm⟩
  have B10 : Asd (Below r w v10) := ⟨B9.out.grown hg (by have := Z9.out; omega) (fun k hk => by injection hk with hk; omega)⟩
  have Z10 : Asd (r < v10.heap.size) := ⟨by rw [hs]; exact Z9.out⟩
  have X1' : Asd _ := ⟨bk_grown X1.out hg (by intro e; injection e with e; have := L1.out; omega)⟩
  clear X1
  have X1 := X1'
  clear X1'
  have X2' : Asd _ := ⟨bk_grown X2.out hg (by intro e; injection e with e; have := L2.out; omega)⟩
  clear X2
  have X2 := X2'
  clear X2'
  have X3' : Asd _ := ⟨bk_grown X3.out hg (by intro e; injection e with e; have := L3.out; omega)⟩
  clear X3
  have X3 := X3'
  clear X3'
  have X4' : Asd _ := ⟨bk_grown X4.out hg (by intro e; injection e with e; have := L4.out; omega)⟩
  clear X4
  have X4 := X4'
  clear X4'
  have X5' : Asd _ := ⟨bk_grown X5.out hg (by intro e; injection e with e; have := L5.out; omega)⟩
  clear X5
  have X5 := X5'
  clear X5'
  clear M9 B9 Z9 hg hs hm
  go_wp2_with fail
  refine (text_calls 59 _).mono ?_
  rintro e v11 ⟨rfl, hb, hx⟩
  obtain ⟨b6, hbb⟩ : ∃ b, b = v10.heap.size := ⟨_, rfl⟩
  rw [← hbb] at hx ⊢
  have X6 : Asd (v11.heap[b6]? = some (tbox 59)) := ⟨hx⟩
  have L6 : Asd (r < b6) := ⟨by rw [hbb]; exact Z10.out⟩
  have M11 : Asd _ := ⟨bk_below M10.out hb Z10.out⟩
  have B11 : Asd (Below r w v11) := ⟨B10.out.trans (hb.mono (by have := Z10.out; omega))⟩
  have Z11 : Asd (r < v11.heap.size) := ⟨Nat.lt_of_lt_of_le Z10.out hb.size⟩
  have X1' : Asd _ := ⟨bk_below X1.out hb (bk_lt X1.out)⟩
  clear X1
  have X1 := X1'
  clear X1'
  have X2' : Asd _ := ⟨bk_below X2.out hb (bk_lt X2.out)⟩
  clear X2
  have X2 := X2'
  clear X2'
  have X3' : Asd _ := ⟨bk_below X3.out hb (bk_lt X3.out)⟩
  clear X3
  have X3 := X3'
  clear X3'
  have X4' : Asd _ := ⟨bk_below X4.out hb (bk_lt X4.out)⟩
  clear X4
  have X4 := X4'
  clear X4'
  have X5' : Asd _ := ⟨bk_below X5.out hb (bk_lt X5.out)⟩
  clear X5
  have X5 := X5'
  clear X5'
  clear M10 B10 Z10 hb hx hbb
  go_wp2_with (with_reducible refine wpList_insert_i32 rfl 58 _ _ _ rfl 21 63 Tryz.underlying58 Tryz.underlying21 r _ _ M11.out 83 (textV b6) rfl rfl rfl rfl ?_)
  intro v12 hg hs hm
  have M12 : Asd (v12.heap[r]? = some (.map #[⟨.int .i32 65, numV b1, 0⟩, ⟨.int .i32 66, numV b2, 1⟩, ⟨.int .i32 67, numV b3, 2⟩, ⟨.int .i32 78, numV b4, 3⟩, ⟨.int .i32 77, numV b5, 4⟩, ⟨.int .i32 83, textV b6, 5⟩] 6)) := ⟨hm⟩
  have B12 : Asd (Below r w v12) := ⟨B11.out.grown hg (by have := Z11.out; omega) (fun k hk => by injection hk with hk; omega)⟩
  have Z12 : Asd (r < v12.heap.size) := ⟨by rw [hs]; exact Z11.out⟩
  have X1' : Asd _ := ⟨bk_grown X1.out hg (by intro e; injection e with e; have := L1.out; omega)⟩
  clear X1
  have X1 := X1'
  clear X1'
  have X2' : Asd _ := ⟨bk_grown X2.out hg (by intro e; injection e with e; have := L2.out; omega)⟩
  clear X2
  have X2 := X2'
  clear X2'
  have X3' : Asd _ := ⟨bk_grown X3.out hg (by intro e; injection e with e; have := L3.out; omega)⟩
  clear X3
  have X3 := X3'
  clear X3'
  have X4' : Asd _ := ⟨bk_grown X4.out hg (by intro e; injection e with e; have := L4.out; omega)⟩
  clear X4
  have X4 := X4'
  clear X4'
  have X5' : Asd _ := ⟨bk_grown X5.out hg (by intro e; injection e with e; have := L5.out; omega)⟩
  clear X5
  have X5 := X5'
  clear X5'
  have X6' : Asd _ := ⟨bk_grown X6.out hg (by intro e; injection e with e; have := L6.out; omega)⟩
  clear X6
  have X6 := X6'
  clear X6'
  clear M11 B11 Z11 hg hs hm
  go_wp2_with fail
  refine (text_calls 60 _).mono ?_
  rintro e v13 ⟨rfl, hb, hx⟩
  obtain ⟨b7, hbb⟩ : ∃ b, b = v12.heap.size := ⟨_, rfl⟩
  rw [← hbb] at hx ⊢
  have X7 : Asd (v13.heap[b7]? = some (tbox 60)) := ⟨hx⟩
  have L7 : Asd (r < b7) := ⟨by rw [hbb]; exact Z12.out⟩
  have M13 : Asd _ := ⟨bk_below M12.out hb Z12.out⟩
  have B13 : Asd (Below r w v13) := ⟨B12.out.trans (hb.mono (by have := Z12.out; omega))⟩
  have Z13 : Asd (r < v13.heap.size) := ⟨Nat.lt_of_lt_of_le Z12.out hb.size⟩
  have X1' : Asd _ := ⟨bk_below X1.out hb (bk_lt X1.out)⟩
  clear X1
  have X1 := X1'
  clear X1'
  have X2' : Asd _ := ⟨bk_below X2.out hb (bk_lt X2.out)⟩
  clear X2
  have X2 := X2'
  clear X2'
  have X3' : Asd _ := ⟨bk_below X3.out hb (bk_lt X3.out)⟩
  clear X3
  have X3 := X3'
  clear X3'
  have X4' : Asd _ := ⟨bk_below X4.out hb (bk_lt X4.out)⟩
  clear X4
  have X4 := X4'
  clear X4'
  have X5' : Asd _ := ⟨bk_below X5.out hb (bk_lt X5.out)⟩
  clear X5
  have X5 := X5'
  clear X5'
  have X6' : Asd _ := ⟨bk_below X6.out hb (bk_lt X6.out)⟩
  clear X6
  have X6 := X6'
  clear X6'
  clear M12 B12 Z12 hb hx hbb
  go_wp2_with (with_reducible refine wpList_insert_i32 rfl 58 _ _ _ rfl 21 63 Tryz.underlying58 Tryz.underlying21 r _ _ M13.out 84 (textV b7) rfl rfl rfl rfl ?_)
  intro v14 hg hs hm
  have M14 : Asd (v14.heap[r]? = some (.map #[⟨.int .i32 65, numV b1, 0⟩, ⟨.int .i32 66, numV b2, 1⟩, ⟨.int .i32 67, numV b3, 2⟩, ⟨.int .i32 78, numV b4, 3⟩, ⟨.int .i32 77, numV b5, 4⟩, ⟨.int .i32 83, textV b6, 5⟩, ⟨.int .i32 84, textV b7, 6⟩] 7)) := ⟨hm⟩
  have B14 : Asd (Below r w v14) := ⟨B13.out.grown hg (by have := Z13.out; omega) (fun k hk => by injection hk with hk; omega)⟩
  have Z14 : Asd (r < v14.heap.size) := ⟨by rw [hs]; exact Z13.out⟩
  have X1' : Asd _ := ⟨bk_grown X1.out hg (by intro e; injection e with e; have := L1.out; omega)⟩
  clear X1
  have X1 := X1'
  clear X1'
  have X2' : Asd _ := ⟨bk_grown X2.out hg (by intro e; injection e with e; have := L2.out; omega)⟩
  clear X2
  have X2 := X2'
  clear X2'
  have X3' : Asd _ := ⟨bk_grown X3.out hg (by intro e; injection e with e; have := L3.out; omega)⟩
  clear X3
  have X3 := X3'
  clear X3'
  have X4' : Asd _ := ⟨bk_grown X4.out hg (by intro e; injection e with e; have := L4.out; omega)⟩
  clear X4
  have X4 := X4'
  clear X4'
  have X5' : Asd _ := ⟨bk_grown X5.out hg (by intro e; injection e with e; have := L5.out; omega)⟩
  clear X5
  have X5 := X5'
  clear X5'
  have X6' : Asd _ := ⟨bk_grown X6.out hg (by intro e; injection e with e; have := L6.out; omega)⟩
  clear X6
  have X6 := X6'
  clear X6'
  have X7' : Asd _ := ⟨bk_grown X7.out hg (by intro e; injection e with e; have := L7.out; omega)⟩
  clear X7
  have X7 := X7'
  clear X7'
  clear M13 B13 Z13 hg hs hm
  go_wp2_with (with_reducible refine wpList_insert_i32 rfl 58 _ _ _ rfl 21 63 Tryz.underlying58 Tryz.underlying21 r _ _ M14.out 68 (plainV 61 62) rfl rfl rfl rfl ?_)
  intro v15 hg hs hm
  have M15 : Asd (v15.heap[r]? = some (.map #[⟨.int .i32 65, numV b1, 0⟩, ⟨.int .i32 66, numV b2, 1⟩, ⟨.int .i32 67, numV b3, 2⟩, ⟨.int .i32 78, numV b4, 3⟩, ⟨.int .i32 77, numV b5, 4⟩, ⟨.int .i32 83, textV b6, 5⟩, ⟨.int .i32 84, textV b7, 6⟩, ⟨.int .i32 68, plainV 61 62, 7⟩] 8)) := ⟨hm⟩
  have B15 : Asd (Below r w v15) := ⟨B14.out.grown hg (by have := Z14.out; omega) (fun k hk => by injection hk with hk; omega)⟩
  have Z15 : Asd (r < v15.heap.size) := ⟨by rw [hs]; exact Z14.out⟩
  have X1' : Asd _ := ⟨bk_grown X1.out hg (by intro e; injection e with e; have := L1.out; omega)⟩
  clear X1
  have X1 := X1'
  clear X1'
  have X2' : Asd _ := ⟨bk_grown X2.out hg (by intro e; injection e with e; have := L2.out; omega)⟩
  clear X2
  have X2 := X2'
  clear X2'
  have X3' : Asd _ := ⟨bk_grown X3.out hg (by intro e; injection e with e; have := L3.out; omega)⟩
  clear X3
  have X3 := X3'
  clear X3'
  have X4' : Asd _ := ⟨bk_grown X4.out hg (by intro e; injection e with e; have := L4.out; omega)⟩
  clear X4
  have X4 := X4'
  clear X4'
  have X5' : Asd _ := ⟨bk_grown X5.out hg (by intro e; injection e with e; have := L5.out; omega)⟩
  clear X5
  have X5 := X5'
  clear X5'
  have X6' : Asd _ := ⟨bk_grown X6.out hg (by intro e; injection e with e; have := L6.out; omega)⟩
  clear X6
  have X6 := X6'
  clear X6'
  have X7' : Asd _ := ⟨bk_grown X7.out hg (by intro e; injection e with e; have := L7.out; omega)⟩
  clear X7
  have X7 := X7'
  clear X7'
  clear M14 B14 Z14 hg hs hm
  go_wp2_with (with_reducible refine wpList_insert_i32 rfl 58 _ _ _ rfl 21 63 Tryz.underlying58 Tryz.underlying21 r _ _ M15.out 76 (plainV 63 64) rfl rfl rfl rfl ?_)
  intro v16 hg hs hm
  have M16 : Asd (v16.heap[r]? = some (.map #[⟨.int .i32 65, numV b1, 0⟩, ⟨.int .i32 66, numV b2, 1⟩, ⟨.int .i32 67, numV b3, 2⟩, ⟨.int .i32 78, numV b4, 3⟩, ⟨.int .i32 77, numV b5, 4⟩, ⟨.int .i32 83, textV b6, 5⟩, ⟨.int .i32 84, textV b7, 6⟩, ⟨.int .i32 68, plainV 61 62, 7⟩, ⟨.int .i32 76, plainV 63 64, 8⟩] 9)) := ⟨hm⟩
  have B16 : Asd (Below r w v16) := ⟨B15.out.grown hg (by have := Z15.out; omega) (fun k hk => by injection hk with hk; omega)⟩
  have Z16 : Asd (r < v16.heap.size) := ⟨by rw [hs]; exact Z15.out⟩
  have X1' : Asd _ := ⟨bk_grown X1.out hg (by intro e; injection e with e; have := L1.out; omega)⟩
  clear X1
  have X1 := X1'
  clear X1'
  have X2' : Asd _ := ⟨bk_grown X2.out hg (by intro e; injection e with e; have := L2.out; omega)⟩
  clear X2
  have X2 := X2'
  clear X2'
  have X3' : Asd _ := ⟨bk_grown X3.out hg (by intro e; injection e with e; have := L3.out; omega)⟩
  clear X3
  have X3 := X3'
  clear X3'
  have X4' : Asd _ := ⟨bk_grown X4.out hg (by intro e; injection e with e; have := L4.out; omega)⟩
  clear X4
  have X4 := X4'
  clear X4'
  have X5' : Asd _ := ⟨bk_grown X5.out hg (by intro e; injection e with e; have := L5.out; omega)⟩
  clear X5
  have X5 := X5'
  clear X5'
  have X6' : Asd _ := ⟨bk_grown X6.out hg (by intro e; injection e with e; have := L6.out; omega)⟩
  clear X6
  have X6 := X6'
  clear X6'
  have X7' : Asd _ := ⟨bk_grown X7.out hg (by intro e; injection e with e; have := L7.out; omega)⟩
  clear X7
  have X7 := X7'
  clear X7'
  clear M15 B15 Z15 hg hs hm
  go_wp2_with (with_reducible refine wpList_insert_i32 rfl 58 _ _ _ rfl 21 63 Tryz.underlying58 Tryz.underlying21 r _ _ M16.out 75 (plainV 65 66) rfl rfl rfl rfl ?_)
  intro v17 hg hs hm
  have M17 : Asd (v17.heap[r]? = some (.map #[⟨.int .i32 65, numV b1, 0⟩, ⟨.int .i32 66, numV b2, 1⟩, ⟨.int .i32 67, numV b3, 2⟩, ⟨.int .i32 78, numV b4, 3⟩, ⟨.int .i32 77, numV b5, 4⟩, ⟨.int .i32 83, textV b6, 5⟩, ⟨.int .i32 84, textV b7, 6⟩, ⟨.int .i32 68, plainV 61 62, 7⟩, ⟨.int .i32 76, plainV 63 64, 8⟩, ⟨.int .i32 75, plainV 65 66, 9⟩] 10)) := ⟨hm⟩
  have B17 : Asd (Below r w v17) := ⟨B16.out.grown hg (by have := Z16.out; omega) (fun k hk => by injection hk with hk; omega)⟩
  have Z17 : Asd (r < v17.heap.size) := ⟨by rw [hs]; exact Z16.out⟩
  have X1' : Asd _ := ⟨bk_grown X1.out hg (by intro e; injection e with e; have := L1.out; omega)⟩
  clear X1
  have X1 := X1'
  clear X1'
  have X2' : Asd _ := ⟨bk_grown X2.out hg (by intro e; injection e with e; have := L2.out; omega)⟩
  clear X2
  have X2 := X2'
  clear X2'
  have X3' : Asd _ := ⟨bk_grown X3.out hg (by intro e; injection e with e; have := L3.out; omega)⟩
  clear X3
  have X3 := X3'
  clear X3'
  have X4' : Asd _ := ⟨bk_grown X4.out hg (by intro e; injection e with e; have := L4.out; omega)⟩
  clear X4
  have X4 := X4'
  clear X4'
  have X5' : Asd _ := ⟨bk_grown X5.out hg (by intro e; injection e with e; have := L5.out; omega)⟩
  clear X5
  have X5 := X5'
  clear X5'
  have X6' : Asd _ := ⟨bk_grown X6.out hg (by intro e; injection e with e; have := L6.out; omega)⟩
  clear X6
  have X6 := X6'
  clear X6'
  have X7' : Asd _ := ⟨bk_grown X7.out hg (by intro e; injection e with e; have := L7.out; omega)⟩
  clear X7
  have X7 := X7'
  clear X7'
  clear M16 B16 Z16 hg hs hm
  go_wp2_with (with_reducible refine wpList_insert_i32 rfl 58 _ _ _ rfl 21 63 Tryz.underlying58 Tryz.underlying21 r _ _ M17.out 89 (plainV 67 68) rfl rfl rfl rfl ?_)
  intro v18 hg hs hm
  have M18 : Asd (v18.heap[r]? = some (.map #[⟨.int .i32 65, numV b1, 0⟩, ⟨.int .i32 66, numV b2, 1⟩, ⟨.int .i32 67, numV b3, 2⟩, ⟨.int .i32 78, numV b4, 3⟩, ⟨.int .i32 77, numV b5, 4⟩, ⟨.int .i32 83, textV b6, 5⟩, ⟨.int .i32 84, textV b7, 6⟩, ⟨.int .i32 68, plainV 61 62, 7⟩, ⟨.int .i32 76, plainV 63 64, 8⟩, ⟨.int .i32 75, plainV 65 66, 9⟩, ⟨.int .i32 89, plainV 67 68, 10⟩] 11)) := ⟨hm⟩
  have B18 : Asd (Below r w v18) := ⟨B17.out.grown hg (by have := Z17.out; omega) (fun k hk => by injection hk with hk; omega)⟩
  have Z18 : Asd (r < v18.heap.size) := ⟨by rw [hs]; exact Z17.out⟩
  have X1' : Asd _ := ⟨bk_grown X1.out hg (by intro e; injection e with e; have := L1.out; omega)⟩
  clear X1
  have X1 := X1'
  clear X1'
  have X2' : Asd _ := ⟨bk_grown X2.out hg (by intro e; injection e with e; have := L2.out; omega)⟩
  clear X2
  have X2 := X2'
  clear X2'
  have X3' : Asd _ := ⟨bk_grown X3.out hg (by intro e; injection e with e; have := L3.out; omega)⟩
  clear X3
  have X3 := X3'
  clear X3'
  have X4' : Asd _ := ⟨bk_grown X4.out hg (by intro e; injection e with e; have := L4.out; omega)⟩
  clear X4
  have X4 := X4'
  clear X4'
  have X5' : Asd _ := ⟨bk_grown X5.out hg (by intro e; injection e with e; have := L5.out; omega)⟩
  clear X5
  have X5 := X5'
  clear X5'
  have X6' : Asd _ := ⟨bk_grown X6.out hg (by intro e; injection e with e; have := L6.out; omega)⟩
  clear X6
  have X6 := X6'
  clear X6'
  have X7' : Asd _ := ⟨bk_grown X7.out hg (by intro e; injection e with e; have := L7.out; omega)⟩
  clear X7
  have X7 := X7'
  clear X7'
  clear M17 B17 Z17 hg hs hm
  go_wp2_with fail
  go_ret
  refine ⟨r, rfl, ⟨b1, b2, b3, b4, b5, b6, b7, M18.out, ⟨by rw [Hr.out]; omega, Z18.out⟩, ?_, ?_, ?_, ?_, ?_, ?_, ?_⟩, ?_⟩
  · exact ⟨X1.out, by have := L1.out; have := Hr.out; omega, bk_lt X1.out⟩
  · exact ⟨X2.out, by have := L2.out; have := Hr.out; omega, bk_lt X2.out⟩
  · exact ⟨X3.out, by have := L3.out; have := Hr.out; omega, bk_lt X3.out⟩
  · exact ⟨X4.out, by have := L4.out; have := Hr.out; omega, bk_lt X4.out⟩
  · exact ⟨X5.out, by have := L5.out; have := Hr.out; omega, bk_lt X5.out⟩
  · exact ⟨X6.out, by have := L6.out; have := Hr.out; omega, bk_lt X6.out⟩
  · exact ⟨X7.out, by have := L7.out; have := Hr.out; omega, bk_lt X7.out⟩
  · have := B18.out; rw [Hr.out] at this; exact this
end Go.Proofs.YthclgijnfopikaaGreatDoor
