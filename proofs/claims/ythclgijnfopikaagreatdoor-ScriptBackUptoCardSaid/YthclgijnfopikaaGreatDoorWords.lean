/- The law ScriptWords: its walk. -/
import Derived.Test.YthclgijnfopikaaGreatDoorBegins
import Derived.Test.YthclgijnfopikaaGreatDoorPlain
import Derived.Test.YthclgijnfopikaaGreatDoorRefPlain
import Derived.Deep.RegionHeld3
namespace Go.Proofs.YthclgijnfopikaaGreatDoor
open Go.RowKit

/-- The block cb holds cs, and all that was there at w is as it was. -/
structure Held (w : World) (cb : Nat) (cs : Array Value) (W : World) : Prop where
  row : W.heap[cb]? = some (.cells cs 28 (0, 0))
  bel : Below w.heap.size w W
theorem Held.next {w W W' : World} {cb : Nat} {cs : Array Value} (h : Held w cb cs W) (hb : Below W.heap.size W W') : Held w cb cs W' := ⟨bk_below h.row hb (bk_lt h.row), bl_trans h.bel hb⟩
/-- What a walk of a region with loads of the command asks of a world. -/
def HeldC (w : World) (cb : Nat) (v0 v1 v2 v3 v4 v5 v6 v7 v8 v9 v10 v11 : Value) (W : World) : Prop := Held w cb #[v0, v1, v2, v3, v4, v5, v6, v7, v8, v9, v10, v11] W
theorem HeldC.next {w W W' : World} {cb : Nat} {v0 v1 v2 v3 v4 v5 v6 v7 v8 v9 v10 v11 : Value} (h : HeldC w cb v0 v1 v2 v3 v4 v5 v6 v7 v8 v9 v10 v11 W) (hb : Below W.heap.size W W') : HeldC w cb v0 v1 v2 v3 v4 v5 v6 v7 v8 v9 v10 v11 W' := Held.next h hb
theorem HeldC.cells {w W : World} {cb : Nat} {v0 v1 v2 v3 v4 v5 v6 v7 v8 v9 v10 v11 : Value} (h : HeldC w cb v0 v1 v2 v3 v4 v5 v6 v7 v8 v9 v10 v11 W) :
    W.cell? ⟨cb, 0, none⟩ = some v0 ∧ W.cell? ⟨cb, 1, none⟩ = some v1 ∧ W.cell? ⟨cb, 2, none⟩ = some v2 ∧ W.cell? ⟨cb, 3, none⟩ = some v3 ∧ W.cell? ⟨cb, 4, none⟩ = some v4 ∧ W.cell? ⟨cb, 5, none⟩ = some v5 ∧
    W.cell? ⟨cb, 6, none⟩ = some v6 ∧ W.cell? ⟨cb, 7, none⟩ = some v7 ∧ W.cell? ⟨cb, 8, none⟩ = some v8 ∧ W.cell? ⟨cb, 9, none⟩ = some v9 ∧ W.cell? ⟨cb, 10, none⟩ = some v10 ∧ W.cell? ⟨cb, 11, none⟩ = some v11 :=
  ⟨bk_cell h.row 0, bk_cell h.row 1, bk_cell h.row 2, bk_cell h.row 3, bk_cell h.row 4, bk_cell h.row 5, bk_cell h.row 6, bk_cell h.row 7, bk_cell h.row 8, bk_cell h.row 9, bk_cell h.row 10, bk_cell h.row 11⟩

theorem HeldC.bel {w W : World} {cb : Nat} {v0 v1 v2 v3 v4 v5 v6 v7 v8 v9 v10 v11 : Value} (h : HeldC w cb v0 v1 v2 v3 v4 v5 v6 v7 v8 v9 v10 v11 W) : Below w.heap.size w W := Held.bel h
theorem kv_later {W W' : World} {c : Array Value} {m : Cmd} (h : ∃ ok, KV W ok c m) (hb : Below W.heap.size W W') : ∃ ok, KV W' ok c m := by
  obtain ⟨ok, h⟩ := h
  exact ⟨fun _ => True, h.kept fun g _ _ _ _ e => ⟨hb.block g (bk_lt e), trivial⟩⟩
def LenOk (s d x : Cmd) : Prop := (x.data = d.data ∨ x.data = s.data) ∧ (x.list = d.list ∨ x.list = s.list) ∧ (x.names = d.names ∨ x.names = s.names)
theorem lenOk_ite {s d a b : Cmd} {p : Prop} [Decidable p] (ha : LenOk s d a) (hb : LenOk s d b) : LenOk s d (if p then a else b) := by split <;> assumption
theorem stepC_len (s d : Cmd) (c : UInt8) : LenOk s d (stepC s d c) := by
  unfold stepC
  repeat' (refine lenOk_ite ?_ ?_)
  all_goals (refine ⟨?_, ?_, ?_⟩ <;> first | exact .inl rfl | exact .inr rfl)
theorem plain_len (m : Cmd) : ((plainD m).data = [] ∨ (plainD m).data = m.data) ∧ ((plainD m).list = [] ∨ (plainD m).list = m.list) ∧ ((plainD m).names = [] ∨ (plainD m).names = m.names) := by
  unfold plainD
  have : ∀ (l : List UInt8) (d : Cmd), ((d.data = [] ∨ d.data = m.data) ∧ (d.list = [] ∨ d.list = m.list) ∧ (d.names = [] ∨ d.names = m.names)) →
      (((l.foldl (stepC m) d).data = [] ∨ (l.foldl (stepC m) d).data = m.data) ∧ ((l.foldl (stepC m) d).list = [] ∨ (l.foldl (stepC m) d).list = m.list) ∧ ((l.foldl (stepC m) d).names = [] ∨ (l.foldl (stepC m) d).names = m.names)) := by
    intro l
    induction l with
    | nil => intro d h; exact h
    | cons c r ih =>
      intro d h
      refine ih _ ?_
      obtain ⟨h1, h2, h3⟩ := h
      obtain ⟨g1, g2, g3⟩ := stepC_len m d c
      refine ⟨?_, ?_, ?_⟩
      · rcases g1 with g | g <;> rw [g]
        · exact h1
        · exact .inr rfl
      · rcases g2 with g | g <;> rw [g]
        · exact h2
        · exact .inr rfl
      · rcases g3 with g | g <;> rw [g]
        · exact h3
        · exact .inr rfl
  exact this _ _ ⟨.inl rfl, .inl rfl, .inl rfl⟩
theorem plain_small (m : Cmd) {n : Nat} (hd : m.data.length ≤ n) (hl : m.list.length ≤ n) (hn : m.names.length ≤ n) : (plainD m).data.length ≤ n ∧ (plainD m).list.length ≤ n ∧ (plainD m).names.length ≤ n := by
  obtain ⟨h1, h2, h3⟩ := plain_len m
  refine ⟨?_, ?_, ?_⟩
  · rcases h1 with h | h <;> rw [h]
    · exact Nat.zero_le _
    · exact hd
  · rcases h2 with h | h <;> rw [h]
    · exact Nat.zero_le _
    · exact hl
  · rcases h3 with h | h <;> rw [h]
    · exact Nat.zero_le _
    · exact hn

set_option maxHeartbeats 16000000 in
set_option maxRecDepth 100000 in
theorem words_calls {B : Nat} {ok : Nat → Prop} (op : Nat) (_hop : op < 256) (s : ByteArray) (m : Cmd) (cs : Array Value) (w : World) (hd : m.data.length ≤ 70368744177664) (hl : m.list.length ≤ 17592186044416) (hn : m.names.length ≤ 8796093022208) (hkv : KV w ok cs m) (hG : Glob B w) :
    Calls Tryz.prog 6 #[.int .u8 op, .string s, .agg cs] w fun e w' => e = .returned (.bool true) ∧ Below w.heap.size w w' := by
  have HB := Asd.mk (fun W (h : Below w.heap.size w W) => begins_calls W (hG.below h hG.le))
  have hkv' : ∀ W, Below w.heap.size w W → KV W (fun _ => True) cs m := fun W hb => hkv.kept fun g _ _ _ _ e => ⟨hb.block g (bk_lt e), trivial⟩
  have HP := Asd.mk (fun W (h : Below w.heap.size w W) => plain_calls m cs W hd hl hn (hkv' W h))
  have HR := Asd.mk (fun W (h : Below w.heap.size w W) => rplain_calls m cs W hd hl hn (hkv' W h))
  obtain ⟨vD, vL, vK, hcs, _⟩ := hkv
  obtain ⟨v0, hv0⟩ : ∃ v, v = Value.int .u8 m.op := ⟨_, rfl⟩
  obtain ⟨v1, hv1⟩ : ∃ v, v = Value.int .i64 m.A := ⟨_, rfl⟩
  obtain ⟨v2, hv2⟩ : ∃ v, v = Value.int .i64 m.B := ⟨_, rfl⟩
  obtain ⟨v3, hv3⟩ : ∃ v, v = Value.int .i64 m.C := ⟨_, rfl⟩
  obtain ⟨v4, hv4⟩ : ∃ v, v = Value.int .i64 m.N := ⟨_, rfl⟩
  obtain ⟨v5, hv5⟩ : ∃ v, v = Value.int .i64 m.M := ⟨_, rfl⟩
  obtain ⟨v6, hv6⟩ : ∃ v, v = Value.string (str m.S) := ⟨_, rfl⟩
  obtain ⟨v7, hv7⟩ : ∃ v, v = Value.string (str m.T) := ⟨_, rfl⟩
  obtain ⟨v11, hv11⟩ : ∃ v, v = Value.bool m.yes := ⟨_, rfl⟩
  unfold cmdCells at hcs
  rw [← hv0, ← hv1, ← hv2, ← hv3, ← hv4, ← hv5, ← hv6, ← hv7, ← hv11] at hcs
  subst hcs
  clear hv0 hv1 hv2 hv3 hv4 hv5 hv6 hv7 hv11 hkv'
  obtain ⟨s0, hs0⟩ : ∃ s, s = str (word op) := ⟨_, rfl⟩
  have HW : Asd (∀ W, Calls Tryz.prog 18 #[.int .u8 op] W fun e w' => e = .returned (.string s0) ∧ Below W.heap.size W w') := ⟨fun W => by rw [hs0]; exact word_calls op W⟩
  have HV : Asd (∀ W, Calls Tryz.prog 19 #[.int .u8 op] W fun e w' => e = .returned (.string s0) ∧ Below W.heap.size W w') := ⟨fun W => by rw [hs0]; exact rword_calls op W⟩
  obtain ⟨k, hk⟩ : ∃ k, k = findOp s := ⟨_, rfl⟩
  obtain ⟨b, hb⟩ : ∃ b, b = decide (0 < findOp s) := ⟨_, rfl⟩
  have HF : Asd (∀ W, Calls Tryz.prog 16 #[.string s] W fun e w' => e = .returned (.tuple #[.int .u8 k, .bool b]) ∧ Below W.heap.size W w') := ⟨fun W => by rw [hk, hb]; exact find_calls s W⟩
  have HFr : Asd (∀ W, Calls Tryz.prog 17 #[.string s] W fun e w' => e = .returned (.tuple #[.int .u8 k, .bool b]) ∧ Below W.heap.size W w') := ⟨fun W => by rw [hk, hb]; exact rfind_calls s W⟩
  have heq : (s0.toList == s0.toList) = true := by simp
  have hkk : ((k : Int) == (k : Int)) = true := by simp
  have hbb : (b == b) = true := by simp
  clear hs0 hk hb hG
  have hsm := plain_small m (n := 4611686018427387904) (by omega) (by omega) (by omega)
  have HS := Asd.mk (fun (W : World) (c1 c2 : Array Value) (h1 : ∃ ok, KV W ok c1 (plainD m)) (h2 : ∃ ok, KV W ok c2 (plainD m)) => same_calls (plainD m) c1 c2 W hsm.1 hsm.2.1 hsm.2.2 h1.choose_spec h2.choose_spec)
  clear hsm hd hl hn
  go_enter Tryz.func6, Tryz.ntmps6
  go_wp2_with fail
  refine (HF.out _).mono ?_
  rintro e w1 ⟨rfl, hb1⟩
  have B1 := Asd.mk (bl_trans (bl_alloc (Below.refl _ w) _) hb1)
  have hrow := bk_below (bk_new w (.cells #[v0, v1, v2, v3, v4, v5, v6, v7, vD, vL, vK, v11] 28)) hb1 (by simp)
  obtain ⟨cb, hcb⟩ : ∃ cb, cb = w.heap.size := ⟨_, rfl⟩
  rw [← hcb] at hrow ⊢
  have R1 := Asd.mk hrow
  have Hcb := Asd.mk hcb
  clear hb1 hrow hcb
  go_wp2_with fail
  refine (HFr.out _).mono ?_
  rintro e w2 ⟨rfl, hb2⟩
  have hrow2 := bk_below R1.out hb2 (bk_lt R1.out)
  have hh : HeldC w cb v0 v1 v2 v3 v4 v5 v6 v7 vD vL vK v11 w2.drew := ⟨hrow2, below_drewN (bl_trans B1.out hb2) 1⟩
  clear hb2 B1 R1 hrow2
  have hcells := hh.cells
  go_wp2_with fail
  go_region_held3 (fun W => HeldC w cb v0 v1 v2 v3 v4 v5 v6 v7 vD vL vK v11 W ∧ (W.cell? ⟨cb, 0, none⟩ = some v0 ∧ W.cell? ⟨cb, 1, none⟩ = some v1 ∧ W.cell? ⟨cb, 2, none⟩ = some v2 ∧ W.cell? ⟨cb, 3, none⟩ = some v3 ∧ W.cell? ⟨cb, 4, none⟩ = some v4 ∧ W.cell? ⟨cb, 5, none⟩ = some v5 ∧
    W.cell? ⟨cb, 6, none⟩ = some v6 ∧ W.cell? ⟨cb, 7, none⟩ = some v7 ∧ W.cell? ⟨cb, 8, none⟩ = some vD ∧ W.cell? ⟨cb, 9, none⟩ = some vL ∧ W.cell? ⟨cb, 10, none⟩ = some vK ∧ W.cell? ⟨cb, 11, none⟩ = some v11))
    (exact ⟨by assumption, HeldC.cells (by assumption)⟩)
    (first
      | (go_at_call 18; refine (HW.out _).mono ?_; rintro e w3 ⟨rfl, hb3⟩; have KS3 := HeldC.next (And.left (by assumption)) hb3; clear hb3)
      | (go_at_call 19; refine (HV.out _).mono ?_; rintro e w4 ⟨rfl, hb4⟩; have KS4 := HeldC.next (And.left (by assumption)) hb4; clear hb4)
      | (go_at_call 15; refine (HP.out _ (HeldC.bel (And.left (by assumption)))).mono ?_; rintro e w5 ⟨c1, rfl, hk5, hb5⟩; have KS5 := HeldC.next (And.left (by assumption)) hb5; have K5 : Asd (∃ ok, KV w5 ok c1 (plainD m)) := ⟨⟨_, hk5⟩⟩; clear hb5 hk5)
      | (go_at_call 20; refine (HR.out _ (HeldC.bel (And.left (by assumption)))).mono ?_; rintro e w6 ⟨c2, rfl, hk6, hb6⟩; have KS6 := HeldC.next (And.left (by assumption)) hb6; have J6 : Asd (∃ ok, KV w6 ok c2 (plainD m)) := ⟨⟨_, hk6⟩⟩; have K6 := Asd.mk (kv_later K5.out hb6); clear hb6 hk6)
      | (go_at_call 13; refine (HS.out _ _ _ K6.out J6.out).mono ?_; rintro e w7 ⟨rfl, hb7⟩; have KS7 := HeldC.next (And.left (by assumption)) hb7; clear hb7)
      | (go_at_call 14; refine (HB.out _ (HeldC.bel (And.left (by assumption)))).mono ?_; rintro e w8 ⟨rfl, hb8⟩; have KS8 := HeldC.next (And.left (by assumption)) hb8; clear hb8))
  go_wp2_with fail
  go_ret
  exact ⟨rfl, HeldC.bel (And.left (by assumption))⟩
end Go.Proofs.YthclgijnfopikaaGreatDoor
