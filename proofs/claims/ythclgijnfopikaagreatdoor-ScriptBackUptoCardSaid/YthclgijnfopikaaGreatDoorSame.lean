/- The walks of canopyref03.Units, canopyref04.Ints and canopyref28.Same, at equals. -/
import Derived.Test.YthclgijnfopikaaGreatDoorCmdAt
import Derived.Deep.QuietTactic
namespace Go.Proofs.YthclgijnfopikaaGreatDoor
open Go.RowKit

/-- The k-th cell of a slice that reads as xs. -/
theorem Rd.cell {α : Type} {W : World} {ok : Nat → Prop} {enc : α → Value} {A : Option Addr} {n c : Nat} {xs : List α} (h : Rd W ok enc (.slice A n c) xs) {k : Nat} (hk : k < n) :
    ∃ b o x, A = some ⟨b, o, none⟩ ∧ xs[k]? = some x ∧ W.cell? ⟨b, o + k, none⟩ = some (enc x) := by
  obtain ⟨A', c', hv, _, h⟩ := h
  injection hv with h1 h2 h3
  subst h1 h2 h3
  obtain ⟨b, o, rfl, _, hc⟩ := h (by omega)
  exact ⟨b, o, xs[k], rfl, by simp [hk], hc k _ (by simp [hk])⟩
theorem Rd.len {α : Type} {W : World} {ok : Nat → Prop} {enc : α → Value} {v : Value} {xs : List α} (h : Rd W ok enc v xs) : ∃ A c, v = .slice A xs.length c := by
  obtain ⟨A, c, hv, _⟩ := h; exact ⟨A, c, hv⟩

set_option maxHeartbeats 2000000 in
set_option maxRecDepth 100000 in
theorem units_calls {ok1 ok2 : Nat → Prop} (xs : List Nat) (v1 v2 : Value) (w : World) (hx : xs.length ≤ 4611686018427387904) (h1 : Rd w ok1 encU v1 xs) (h2 : Rd w ok2 encU v2 xs) : Calls Tryz.prog 37 #[v1, v2] w fun e w' => e = .returned (.bool true) ∧ Below w.heap.size w w' := by
  obtain ⟨A1, c1, rfl⟩ := h1.len
  obtain ⟨A2, c2, rfl⟩ := h2.len
  obtain ⟨n, hn⟩ : ∃ n, n = xs.length := ⟨_, rfl⟩
  rw [← hn] at h1 h2 hx ⊢
  have H1 := Asd.mk h1
  have H2 := Asd.mk h2
  clear h1 h2 hn
  go_enter Tryz.func37, Tryz.ntmps37
  go_wp2_with fail
  go_loopw [5, 13] (fun v5 v13 wr => ∃ k : Nat, k ≤ n ∧ v13 = .int .i64 k ∧ Asd (Below w.heap.size w wr)) (fun _ v13 _ => n - (intOf v13).toNat)
  case atStart => exact ⟨0, Nat.zero_le _, rfl, ⟨Below.refl _ _⟩⟩
  case round =>
    obtain ⟨k, hk, rfl, hB⟩ := hrel
    by_cases hlt : k < n
    · obtain ⟨b1, o1, x, e1, hx, hc1⟩ := H1.out.cell hlt
      obtain ⟨b2, o2, y, e2, hy, hc2⟩ := H2.out.cell hlt
      rw [hx] at hy
      injection hy with hy
      subst hy
      subst e1 e2
      have d1 := (hB.out.cell (p := ⟨b1, o1 + k, none⟩) (World.block_lt_of_cell? w _ hc1)).trans hc1
      have d2 := (hB.out.cell (p := ⟨b2, o2 + k, none⟩) (World.block_lt_of_cell? w _ hc2)).trans hc2
      have hk0 : (0 : Int) ≤ (k : Int) := by omega
      have hk1 : (k : Int) < (n : Int) := by omega
      simp only [encU] at d1 d2
      clear hx hc1 hc2
      go_wp2_with fail
      go_quiet (fail)
      have hB2 : Asd (∀ m, Below w.heap.size w (wr.drewN m)) := ⟨fun m => below_drewN hB.out m⟩
      clear hB d1 d2
      go_wp2_with fail
      refine ⟨⟨k + 1, by omega, by simp, ⟨hB2.out _⟩⟩, ?_⟩
      show n - ((k : Int) + 1).toNat < n - (k : Int).toNat
      omega
    · have hge : ¬ ((k : Int) < (n : Int)) := by omega
      go_wp2_with fail
      go_ret
      exact ⟨rfl, hB.out⟩
set_option maxHeartbeats 2000000 in
set_option maxRecDepth 100000 in
theorem ints_calls {ok1 ok2 : Nat → Prop} (xs : List Int) (v1 v2 : Value) (w : World) (hx : xs.length ≤ 4611686018427387904) (h1 : Rd w ok1 encI v1 xs) (h2 : Rd w ok2 encI v2 xs) : Calls Tryz.prog 38 #[v1, v2] w fun e w' => e = .returned (.bool true) ∧ Below w.heap.size w w' := by
  obtain ⟨A1, c1, rfl⟩ := h1.len
  obtain ⟨A2, c2, rfl⟩ := h2.len
  obtain ⟨n, hn⟩ : ∃ n, n = xs.length := ⟨_, rfl⟩
  rw [← hn] at h1 h2 hx ⊢
  have H1 := Asd.mk h1
  have H2 := Asd.mk h2
  clear h1 h2 hn
  go_enter Tryz.func38, Tryz.ntmps38
  go_wp2_with fail
  go_loopw [5] (fun v5 wr => ∃ k : Nat, k ≤ n ∧ v5 = .int .i64 k ∧ Asd (Below w.heap.size w wr)) (fun v5 _ => n - (intOf v5).toNat)
  case atStart => exact ⟨0, Nat.zero_le _, rfl, ⟨Below.refl _ _⟩⟩
  case round =>
    obtain ⟨k, hk, rfl, hB⟩ := hrel
    by_cases hlt : k < n
    · obtain ⟨b1, o1, x, e1, hx, hc1⟩ := H1.out.cell hlt
      obtain ⟨b2, o2, y, e2, hy, hc2⟩ := H2.out.cell hlt
      rw [hx] at hy
      injection hy with hy
      subst hy
      subst e1 e2
      have d1 := (hB.out.cell (p := ⟨b1, o1 + k, none⟩) (World.block_lt_of_cell? w _ hc1)).trans hc1
      have d2 := (hB.out.cell (p := ⟨b2, o2 + k, none⟩) (World.block_lt_of_cell? w _ hc2)).trans hc2
      have hk0 : (0 : Int) ≤ (k : Int) := by omega
      have hk1 : (k : Int) < (n : Int) := by omega
      simp only [encI] at d1 d2
      clear hx hc1 hc2
      go_wp2_with fail
      go_quiet (fail)
      have hB2 : Asd (∀ m, Below w.heap.size w (wr.drewN m)) := ⟨fun m => below_drewN hB.out m⟩
      clear hB d1 d2
      go_wp2_with fail
      refine ⟨⟨k + 1, by omega, by simp, ⟨hB2.out _⟩⟩, ?_⟩
      show n - ((k : Int) + 1).toNat < n - (k : Int).toNat
      omega
    · have hge : ¬ ((k : Int) < (n : Int)) := by omega
      go_wp2_with fail
      go_ret
      exact ⟨rfl, hB.out⟩
set_option maxHeartbeats 4000000 in
set_option maxRecDepth 100000 in
theorem same_calls {ok1 ok2 : Nat → Prop} (m : Cmd) (cs1 cs2 : Array Value) (w : World) (hd : m.data.length ≤ 4611686018427387904) (hl : m.list.length ≤ 4611686018427387904) (hk : m.names.length ≤ 4611686018427387904) (h1 : KV w ok1 cs1 m) (h2 : KV w ok2 cs2 m) :
    Calls Tryz.prog 13 #[.agg cs1, .agg cs2] w fun e w' => e = .returned (.bool true) ∧ Below w.heap.size w w' := by
  obtain ⟨vD1, vL1, vK1, rfl, d1, l1, k1⟩ := h1
  obtain ⟨vD2, vL2, vK2, rfl, d2, l2, k2⟩ := h2
  obtain ⟨op, mA, mB, mC, mN, mM, mS, mT, data, list, names, yes⟩ := m
  simp only at hd hl hk d1 l1 k1 d2 l2 k2
  have HD := Asd.mk (fun W (hb : Below w.heap.size w W) => units_calls data vD1 vD2 W hd (d1.kept (ok1 := fun _ => True) fun g _ _ _ _ e => ⟨hb.block g (bk_lt e), trivial⟩) (d2.kept (ok1 := fun _ => True) fun g _ _ _ _ e => ⟨hb.block g (bk_lt e), trivial⟩))
  have HL := Asd.mk (fun W (hb : Below w.heap.size w W) => ints_calls list vL1 vL2 W hl (l1.kept (ok1 := fun _ => True) fun g _ _ _ _ e => ⟨hb.block g (bk_lt e), trivial⟩) (l2.kept (ok1 := fun _ => True) fun g _ _ _ _ e => ⟨hb.block g (bk_lt e), trivial⟩))
  obtain ⟨A1, c1, rfl⟩ := k1.len
  obtain ⟨A2, c2, rfl⟩ := k2.len
  obtain ⟨n, hn⟩ : ∃ n, n = names.length := ⟨_, rfl⟩
  rw [← hn] at k1 k2 hk ⊢
  obtain ⟨sS, hS⟩ : ∃ s, s = str mS := ⟨_, rfl⟩
  obtain ⟨sT, hT⟩ : ∃ s, s = str mT := ⟨_, rfl⟩
  simp only [cmdCells]
  rw [← hS, ← hT]
  have K1 := Asd.mk k1
  have K2 := Asd.mk k2
  obtain ⟨AD1, cD1, eD1⟩ := d1.len
  obtain ⟨AD2, cD2, eD2⟩ := d2.len
  obtain ⟨AL1, cL1, eL1⟩ := l1.len
  obtain ⟨AL2, cL2, eL2⟩ := l2.len
  subst eD1 eD2 eL1 eL2
  clear d1 d2 l1 l2 k1 k2 hd hl hn hS hT
  go_enter Tryz.func13, Tryz.ntmps13
  go_wp2_with fail
  obtain ⟨b1, hb1⟩ : ∃ b, b = w.heap.size := ⟨_, rfl⟩
  obtain ⟨W1, hW1⟩ : ∃ W, W = (w.alloc (.cells #[.int .u8 op, .int .i64 mA, .int .i64 mB, .int .i64 mC, .int .i64 mN, .int .i64 mM, .string sS, .string sT, .slice AD1 data.length cD1, .slice AL1 list.length cL1, .slice A1 n c1, .bool yes] 28)).alloc (.cells #[.int .u8 op, .int .i64 mA, .int .i64 mB, .int .i64 mC, .int .i64 mN, .int .i64 mM, .string sS, .string sT, .slice AD2 data.length cD2, .slice AL2 list.length cL2, .slice A2 n c2, .bool yes] 28) := ⟨_, rfl⟩
  have hz0 : (w.alloc (.cells #[.int .u8 op, .int .i64 mA, .int .i64 mB, .int .i64 mC, .int .i64 mN, .int .i64 mM, .string sS, .string sT, .slice AD1 data.length cD1, .slice AL1 list.length cL1, .slice A1 n c1, .bool yes] 28)).heap.size = b1 + 1 := by rw [hb1]; simp [World.alloc, -World.alloc_eq]
  have X1 : W1.heap[b1]? = some (.cells #[.int .u8 op, .int .i64 mA, .int .i64 mB, .int .i64 mC, .int .i64 mN, .int .i64 mM, .string sS, .string sT, .slice AD1 data.length cD1, .slice AL1 list.length cL1, .slice A1 n c1, .bool yes] 28 (0, 0)) := by rw [hW1, hb1]; exact bk_alloc (bk_new w _) _
  have X2 : W1.heap[b1 + 1]? = some (.cells #[.int .u8 op, .int .i64 mA, .int .i64 mB, .int .i64 mC, .int .i64 mN, .int .i64 mM, .string sS, .string sT, .slice AD2 data.length cD2, .slice AL2 list.length cL2, .slice A2 n c2, .bool yes] 28 (0, 0)) := by rw [hW1, ← hz0]; exact bk_new _ _
  have B1 : Asd (Below w.heap.size w W1) := ⟨by rw [hW1]; exact bl_alloc (bl_alloc (Below.refl _ _) _) _⟩
  rw [← hW1, ← hb1]
  have x8 := bk_cell X1 8
  have x9 := bk_cell X1 9
  have x10 := bk_cell X1 10
  have y8 := bk_cell X2 8
  have y9 := bk_cell X2 9
  have y10 := bk_cell X2 10
  simp only [List.getElem?_toArray, List.getElem?_cons_zero, List.getElem?_cons_succ] at x8 x9 x10 y8 y9 y10
  clear hW1 hz0 X1 X2 hb1
  go_loopw [5] (fun v5 wr => ∃ k m : Nat, k ≤ n ∧ v5 = .int .i64 k ∧ Asd (wr = W1.drewN m)) (fun v5 _ => n - (intOf v5).toNat)
  case atStart => exact ⟨0, 0, Nat.zero_le _, rfl, ⟨rfl⟩⟩
  case round =>
    obtain ⟨k, m, hk', rfl, hW⟩ := hrel
    have hW := hW.out
    subst hW
    by_cases hlt : k < n
    · obtain ⟨p1, o1, x, e1, hx, hc1⟩ := K1.out.cell hlt
      obtain ⟨p2, o2, y, e2, hy, hc2⟩ := K2.out.cell hlt
      rw [hx] at hy
      injection hy with hy
      subst hy
      subst e1 e2
      have d1 := (B1.out.cell (p := ⟨p1, o1 + k, none⟩) (World.block_lt_of_cell? w _ hc1)).trans hc1
      have d2 := (B1.out.cell (p := ⟨p2, o2 + k, none⟩) (World.block_lt_of_cell? w _ hc2)).trans hc2
      have hk0 : (0 : Int) ≤ (k : Int) := by omega
      have hk1 : (k : Int) < (n : Int) := by omega
      obtain ⟨sx, hsx⟩ : ∃ s, s = str x := ⟨_, rfl⟩
      simp only [encS] at d1 d2
      rw [← hsx] at d1 d2
      clear hx hc1 hc2 hsx
      go_wp2_with fail
      go_quiet (fail)
      go_wp2_with fail
      refine ⟨⟨k + 1, _, by omega, by simp, ⟨rfl⟩⟩, ?_⟩
      show n - ((k : Int) + 1).toNat < n - (k : Int).toNat
      omega
    · have hge : ¬ ((k : Int) < (n : Int)) := by omega
      go_wp2_with fail
      refine (HD.out _ (below_drewN B1.out m)).mono ?_
      rintro e w2 ⟨rfl, hb2⟩
      have B2 := Asd.mk (bl_trans (below_drewN B1.out m) hb2)
      have z9 := (hb2.cell (p := ⟨b1, 9, none⟩) (World.block_lt_of_cell? W1 _ x9)).trans x9
      have z10 := (hb2.cell (p := ⟨b1 + 1, 9, none⟩) (World.block_lt_of_cell? W1 _ y9)).trans y9
      clear hb2
      go_wp2_with fail
      refine (HL.out _ B2.out).mono ?_
      rintro e w3 ⟨rfl, hb3⟩
      have B3 := Asd.mk (bl_trans B2.out hb3)
      clear hb3
      go_wp2_with fail
      go_ret
      exact ⟨rfl, B3.out⟩
end Go.Proofs.YthclgijnfopikaaGreatDoor
