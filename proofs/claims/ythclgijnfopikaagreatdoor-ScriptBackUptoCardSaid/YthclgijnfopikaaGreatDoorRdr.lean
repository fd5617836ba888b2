/- The walks of the reader's line and command. -/
import Derived.Test.YthclgijnfopikaaGreatDoorCommand
import Derived.Test.YthclgijnfopikaaGreatDoorSpec4
import Derived.Test.YthclgijnfopikaaGreatDoorStillRow
namespace Go.Proofs.YthclgijnfopikaaGreatDoor
open Go.RowKit

def rsCells (r : RS) : Array Value := #[.string (str r.left), .int .i64 r.at_, .int .i64 r.many, .int .i64 r.why]
theorem grown_fresh {w V W : World} {row : Option Nat} {g : Nat} (h : w.grownBy V row) (k : V.grownBy W (some g)) (hg : w.heap.size ≤ g) : w.grownBy W row :=
  ⟨k.os.trans h.os, k.tape.trans h.tape, k.output.trans h.output, Nat.le_trans h.size k.size, fun i hi hr => (k.block i (Nat.lt_of_lt_of_le hi h.size) (fun e => by injection e with e; omega)).trans (h.block i hi hr)⟩
def RdrAt (W : World) (p : Nat) (r : RS) : Prop := W.heap[p]? = some (.cells (rsCells r) 89 (0, 0))
/-- The numbers are small. -/
structure Small (r : RS) : Prop where
  left : r.left.length ≤ 1048576
  a0 : 0 ≤ r.at_
  a1 : r.at_ + r.left.length ≤ 1125899906842624
  m0 : 0 ≤ r.many
  m1 : r.many + r.left.length ≤ 1125899906842624
theorem Small.a {r : RS} (h : Small r) : 0 ≤ r.at_ ∧ r.at_ ≤ 1125899906842624 := ⟨h.a0, by have := h.a1; omega⟩
theorem Small.m {r : RS} (h : Small r) : 0 ≤ r.many ∧ r.many ≤ 1125899906842624 := ⟨h.m0, by have := h.m1; omega⟩
def LinePost2 (p : Nat) (r : RS) (w : World) (e : Ending) (w' : World) : Prop :=
  e = .returned (.tuple #[.string (str (r.lineD.1.getD [])), .bool r.lineD.1.isSome]) ∧ RdrAt w' p r.lineD.2 ∧ w.grownBy w' (some p)
theorem wpList_store_rowK {P : Program} {ops : Array Oper} {rest : List Oper} {o : Oper} {a : Act} {w : World} {Q : Exit → Act → World → Prop} (hgd : o.guard = none) (ty : TypeId) (x y : Operand) (ho : o.op = .store ty x y)
    (g : Nat) (cells : Array Value) (hx : a.eval x = .pointer (some ⟨g, 0, none⟩)) (hy : a.eval y = .agg cells)
    (t : TypeId) (old : Array Value) (hg : w.heap[g]? = some (.cells old t (0, 0))) (hi : (P.info? ty).map (·.size) = some cells.size)
    (hold : old.size = cells.size) (h1 : cells.all (·.oneCell') = true)
    (h : ∀ W, W.heap[g]? = some (.cells cells t (0, 0)) → w.grownBy W (some g) → W.heap.size = w.heap.size → wpList P ops Q rest (a.put o.dst undef) W) : wpList P ops Q (o :: rest) a w :=
  wpList_store_row hgd ty x y ho g cells hx hy t old hg hi hold h1 (h _ (setRow_heap _ _ _ _ _ _ hg) ⟨rfl, rfl, rfl, by simp, fun k _ hk => setRow_other _ _ _ _ (fun e => hk (by rw [e]))⟩ (by simp))
theorem below_fresh {w W : World} {o : Obj} (h : (w.alloc o).grownBy W (some w.heap.size)) : Below w.heap.size w W :=
  (bl_alloc (Below.refl _ _) o).trans ⟨h.os, h.tape, h.output, h.size, fun k hk => h.block k (by simp [World.alloc, -World.alloc_eq]; omega) (fun e => by injection e with e; omega)⟩
theorem grown_set {w W : World} {p : Nat} (h : w.grownBy W (some p)) (i : Nat) (u : Value) : w.grownBy (W.setCell ⟨p, i, none⟩ u) (some p) :=
  h.trans ⟨rfl, rfl, rfl, by simp [World.setCell], fun k _ hk => Below.heap_setCell W ⟨p, i, none⟩ u k (fun e => hk (by rw [e]))⟩

set_option maxHeartbeats 4000000 in
set_option maxRecDepth 100000 in
theorem rline_calls {B : Nat} (p : Nat) (r : RS) (hr : Small r) (w : World) (hG : Glob B w) (hB : B ≤ p) (hp : RdrAt w p r) : Calls Tryz.prog 78 #[.pointer (some ⟨p, 0, none⟩)] w (LinePost2 p r w) := by
  obtain ⟨left, at_, many, why⟩ := r
  obtain ⟨ha, hb⟩ := hr.a
  simp only at ha hb
  have c0 := bk_cell hp 0
  have c1 := bk_cell hp 1
  have f1 := bk_free hp 1
  simp only [rsCells, List.getElem?_toArray, List.getElem?_cons_zero, List.getElem?_cons_succ] at c0 c1
  have HP := Asd.mk hp
  have HR := Asd.mk hr
  have HG := Asd.mk hG
  obtain ⟨s0, hs0⟩ : ∃ s, s = str left := ⟨_, rfl⟩
  have hsz : Asd (s0.size ≤ 1048576) := ⟨by rw [hs0]; have := hr.left; show (List.toArray _).size ≤ _; simpa using this⟩
  have hsd : s0.data.toList = left := by rw [hs0]; rfl
  obtain ⟨cf, hcf⟩ : ∃ cf, cf = (Lib.cut left [10]).2.2 := ⟨_, rfl⟩
  obtain ⟨s1, hs1⟩ : ∃ s, s = str (Lib.cut left [10]).1 := ⟨_, rfl⟩
  obtain ⟨s2, hs2⟩ : ∃ s, s = str (Lib.cut left [10]).2.1 := ⟨_, rfl⟩
  have HC : Asd (∀ W, Glob B W → Calls Tryz.prog 71 #[.string s0, .string ⟨#[10]⟩] W fun e w' => e = .returned (.tuple #[.string s1, .string s2, .bool cf]) ∧ ∃ n, w' = W.drewN n) := ⟨fun W h => by
    have := cut_calls s0 ⟨#[10]⟩ hsz.out W h
    unfold CutPost at this
    rw [hsd] at this
    rw [hcf, hs1, hs2]; exact this⟩
  rw [← hs0] at c0
  have hw1 : (⟨p, 1, none⟩ : Addr).block = p := rfl
  have R1 : Asd (∀ n, ((w.setCell ⟨p, 1, none⟩ (.int .i64 (at_ + 1))).drewN n).heap[p]? = some (.cells #[.string s0, .int .i64 (at_ + 1), .int .i64 many, .int .i64 why] 89 (0, 0))) := ⟨fun n => by
    rw [hs0]; exact bk_drewN (bk_set hp 1 _) n⟩
  have G1 : Asd (∀ n, w.grownBy ((w.setCell ⟨p, 1, none⟩ (.int .i64 (at_ + 1))).drewN n) (some p)) := ⟨fun n => grown_trans (grown_set (World.grownBy.refl _ _) 1 _) (below_to_grown (below_drewN (Below.refl _ _) n) _)⟩
  have GG : Asd (Glob B (w.setCell ⟨p, 1, none⟩ (.int .i64 (at_ + 1)))) := ⟨hG.grown (grown_set (World.grownBy.refl _ _) 1 _) hB⟩
  have Hs0 := Asd.mk hs0
  clear hG hp hr hs0 hsd
  have Hcf := Asd.mk hcf
  have Hs1 := Asd.mk hs1
  have Hs2 := Asd.mk hs2
  clear hcf hs1 hs2
  go_enter Tryz.func78, Tryz.ntmps78
  go_wp2_with fail
  refine (HC.out _ GG.out).mono ?_
  rintro e w' ⟨rfl, n, rfl⟩
  obtain ⟨W2, hW2⟩ : ∃ W2, W2 = (w.setCell ⟨p, 1, none⟩ (.int .i64 (at_ + 1))).drewN n := ⟨_, rfl⟩
  have R2 := R1.out n
  have G2 := Asd.mk (G1.out n)
  rw [← hW2] at R2 G2 ⊢
  have d0 := bk_cell R2 0
  have d3 := bk_cell R2 3
  have e0 := bk_free R2 0
  have e3 := bk_free R2 3
  simp only [List.getElem?_toArray, List.getElem?_cons_zero, List.getElem?_cons_succ] at d0 d3
  have HR2 := Asd.mk R2
  clear hW2 R2 R1 G1 GG HG HC HP c0 c1 f1
  cases hcf : cf with
  | false =>
    rw [hcf] at Hcf
    clear hcf
    go_wp2_with fail
    go_ret2
    have hd : RS.lineD ⟨left, at_, many, why⟩ = (none, ⟨left, at_ + 1, many, 20⟩) := by unfold RS.lineD; rw [← Hcf.out]; rfl
    refine ⟨?_, ?_, grown_set G2.out _ _⟩
    · rw [hd]; rfl
    · rw [hd]; have := bk_set HR2.out 3 (.int .i64 20); rw [Hs0.out] at this; exact this
  | true =>
    rw [hcf] at Hcf
    clear hcf
    go_wp2_with fail
    go_ret2
    have hd : RS.lineD ⟨left, at_, many, why⟩ = (some (Lib.cut left [10]).1, ⟨(Lib.cut left [10]).2.1, at_ + 1, many, why⟩) := by unfold RS.lineD; rw [← Hcf.out]; rfl
    refine ⟨?_, ?_, grown_set G2.out _ _⟩
    · rw [hd, Hs1.out]; rfl
    · rw [hd, Hs2.out]; exact bk_set HR2.out 0 _

/-- All fields of the line's op are read as rd says. -/
def Covered (rd : Reader) (l : List UInt8) : Prop :=
  ∀ c, c ∈ flds (findOp (str (Lib.cut l [32]).1)) → c.toNat < 128 ∧ ReadOk rd c ∧ KeepsZ rd c
def CmdPost (rd : Reader) (p : Nat) (r : RS) (l : List UInt8) (w : World) (e : Ending) (w' : World) : Prop :=
  ∃ cs m, e = .returned (.tuple #[.agg cs, .bool (r.cmdD rd l).1.isSome]) ∧ KV w' (w.heap.size ≤ ·) cs m ∧ (∀ m2, (r.cmdD rd l).1 = some m2 → m = m2) ∧ RdrAt w' p (r.cmdD rd l).2 ∧ w.grownBy w' (some p)

set_option maxHeartbeats 4000000 in
set_option maxRecDepth 100000 in
theorem rcmd_calls {B : Nat} (rd : Reader) (p : Nat) (r : RS) (hr : Small r) (s : ByteArray) (hs : s.size ≤ 1048576) (hc : Covered rd s.data.toList) (w : World) (hG : Glob B w) (hB : B ≤ p) (hp : RdrAt w p r) :
    Calls Tryz.prog 101 #[.pointer (some ⟨p, 0, none⟩), .string s] w (CmdPost rd p r s.data.toList w) := by
  obtain ⟨left, at_, many, why⟩ := r
  obtain ⟨ha, hb⟩ := hr.m
  simp only at ha hb
  have hC := fun W (h : Glob B W) => command_calls rd s hs W h hc
  have HC := Asd.mk hC
  have HG := Asd.mk hG
  have HP := Asd.mk hp
  have HB := Asd.mk hB
  obtain ⟨od, hod⟩ : ∃ od, od = cmdD rd s.data.toList := ⟨_, rfl⟩
  have Hod := Asd.mk hod
  clear hr hG hp hC hc hB hod
  go_enter Tryz.func101, Tryz.ntmps101
  go_wp2_with fail
  refine (HC.out _ (HG.out.below (bl_alloc (Below.refl _ _) _) HG.out.le)).mono ?_
  rintro e w1 ⟨cs, m, ok, rfl, hkv, hb1, hsome, hnone⟩
  obtain ⟨rb, hrb⟩ : ∃ rb, rb = w.heap.size := ⟨_, rfl⟩
  have Z1 : Asd (rb < w1.heap.size) := ⟨by have := hb1.size; simp [World.alloc, -World.alloc_eq] at this; omega⟩
  have hpl := bk_lt HP.out
  have R1 : Asd (w1.heap[rb]? = some (.cells (zeroCmd 0) 28 (0, 0))) := ⟨by rw [hrb]; exact bk_below (bk_new w _) hb1 (by simp [World.alloc, -World.alloc_eq])⟩
  have P1 : Asd (RdrAt w1 p ⟨left, at_, many, why⟩) := ⟨bk_below (bk_alloc HP.out _) hb1 (by simp [World.alloc, -World.alloc_eq]; omega)⟩
  have B1 : Asd (Below w.heap.size w w1) := ⟨bl_trans (bl_alloc (Below.refl _ _) _) hb1⟩
  have K1 : Asd (KV w1 (fun g => rb < g) cs m) := ⟨hkv.kept fun g _ _ _ hg _ => ⟨rfl, by simp [World.alloc, -World.alloc_eq] at hg; omega⟩⟩
  have Hok : Asd ((∀ m2, od = some m2 → ok = true ∧ m = m2) ∧ (od = none → ok = false)) := ⟨by rw [Hod.out]; exact ⟨hsome, hnone⟩⟩
  have Hrb := Asd.mk hrb
  have Hpr : Asd (p < rb) := ⟨by rw [hrb]; exact hpl⟩
  rw [← hrb]
  have h12 := Asd.mk (And.intro (kv_one hkv) (kv_size hkv))
  clear hkv hb1 hsome hnone HP HC hpl hrb
  go_wp2_with (refine wpList_store_rowK rfl 28 _ _ rfl w1.heap.size cs rfl rfl 28 (zeroCmd 0) (bk_new w1 _) (by rw [infoCmd, h12.out.2]) (by rw [h12.out.2]; rfl) h12.out.1 ?_)
  intro W hW hgr hsz
  have hbW := below_fresh hgr
  obtain ⟨cb, hcb⟩ : ∃ cb, cb = w1.heap.size := ⟨_, rfl⟩
  have hz1 := Z1.out
  have hpr := Hpr.out
  have HW : Asd (W.heap[cb]? = some (.cells cs 28 (0, 0))) := ⟨by rw [hcb]; exact hW⟩
  have R2 : Asd (W.heap[rb]? = some (.cells (zeroCmd 0) 28 (0, 0))) := ⟨bk_below R1.out hbW hz1⟩
  have P2 : Asd (RdrAt W p ⟨left, at_, many, why⟩) := ⟨bk_below P1.out hbW (by omega)⟩
  have B2 : Asd (Below w.heap.size w W) := ⟨bl_trans B1.out hbW⟩
  have K2 : Asd (KV W (fun g => rb < g ∧ g ≠ p) cs m) := ⟨K1.out.kept fun g _ _ _ hg e => ⟨hbW.block g (bk_lt e), hg, by omega⟩⟩
  have hcbr : rb < cb := by omega
  rw [← hcb]
  have Hcbr := Asd.mk hcbr
  clear hW hgr hsz hbW hcb R1 P1 B1 K1 Z1 hcbr hz1 hpr
  have d2 := bk_cell P2.out 2
  have e2 := bk_free P2.out 2
  have d3 := bk_cell P2.out 3
  have e3 := bk_free P2.out 3
  simp only [rsCells, List.getElem?_toArray, List.getElem?_cons_zero, List.getElem?_cons_succ] at d2 d3
  have P3 : Asd (RdrAt (W.setCell ⟨p, 2, none⟩ (.int .i64 (many + 1))) p ⟨left, at_, many + 1, why⟩) := ⟨bk_set P2.out 2 _⟩
  have fin : Asd (∀ (V : World) (why' : Int), RdrAt V p ⟨left, at_, many + 1, why'⟩ → W.grownBy V (some p) →
    Asd (RdrAt V p ⟨left, at_, many + 1, why'⟩) ∧ Asd (V.heap[cb]? = some (.cells cs 28 (0, 0))) ∧ Asd (V.heap[rb]? = some (.cells (zeroCmd 0) 28 (0, 0))) ∧ Asd (w.grownBy V (some p)) ∧ Asd (KV V (rb < ·) cs m) ∧ V.cell? ⟨p, 3, none⟩ = some (.int .i64 why')) := ⟨fun V why' hR hg => by
      have hrc := Hcbr.out
      have hpr := Hpr.out
      refine ⟨⟨hR⟩, ⟨bk_grown HW.out hg (by intro e; injection e with e; omega)⟩, ⟨bk_grown R2.out hg (by intro e; injection e with e; omega)⟩, ⟨grown_trans (below_to_grown B2.out _) hg⟩, ⟨K2.out.kept fun g _ _ _ ho e => ⟨hg.block g (bk_lt e) (by intro e; injection e with e; omega), ho.1⟩⟩, ?_⟩
      exact bk_cell hR 3⟩
  obtain ⟨hok1, hok2⟩ := Hok.out
  have ends : Asd (∀ (V : World) (why' : Int) (bv : Value), RS.cmdD rd s.data.toList ⟨left, at_, many, why⟩ = (if why' = 0 then od else none, ⟨left, at_, many + 1, why'⟩) → (∀ m2, od = some m2 → m = m2) → bv = .bool (if why' = 0 then od else none).isSome →
      RdrAt V p ⟨left, at_, many + 1, why'⟩ → w.grownBy V (some p) → KV V (rb < ·) cs m → ∀ Wf : World, V.drew.grownBy Wf (some rb) → CmdPost rd p ⟨left, at_, many, why⟩ s.data.toList w (.returned (.tuple #[.agg cs, bv])) Wf) := ⟨by
    intro V why' bv hd hm hbv hR hG hK Wf hGf
    have hrb : w.heap.size = rb := Hrb.out.symm
    have hpr := Hpr.out
    refine ⟨cs, m, ?_, hK.kept fun g _ _ _ ho e => ⟨hGf.block g (bk_lt e) (by intro e; injection e with e; omega), by show w.heap.size ≤ g; omega⟩, ?_, ?_, ?_⟩
    · rw [hd, hbv]
    · intro m2 h
      rw [hd] at h
      split at h
      · exact hm m2 h
      · cases h
    · rw [hd]; exact (hGf.block p (bk_lt hR) (by intro e; injection e with e; omega)).trans hR
    · exact grown_fresh (V := V.drew) ⟨hG.os, hG.tape, hG.output, hG.size, hG.block⟩ hGf (by omega)⟩
  cases hod : od with
  | none =>
    have hok := hok2 hod
    subst hok
    have Hd : Asd (RS.cmdD rd s.data.toList ⟨left, at_, many, why⟩ = (none, ⟨left, at_, many + 1, 20⟩)) := ⟨by unfold RS.cmdD RS.after; rw [← Hod.out, hod]; simp⟩
    rw [hod] at ends
    clear hok1 hok2 hod Hok Hod
    go_wp2_with fail
    obtain ⟨V, hV⟩ : ∃ V, V = (W.setCell ⟨p, 2, none⟩ (.int .i64 (many + 1))).setCell ⟨p, 3, none⟩ (.int .i64 20) := ⟨_, rfl⟩
    have RR : RdrAt ((W.setCell ⟨p, 2, none⟩ (.int .i64 (many + 1))).setCell ⟨p, 3, none⟩ (.int .i64 20)) p ⟨left, at_, many + 1, 20⟩ := bk_set P3.out 3 _
    have GG := grown_set (grown_set (World.grownBy.refl W (some p)) 2 (.int .i64 (many + 1))) 3 (.int .i64 20)
    obtain ⟨PV, HV, RV, GV, KV', d3'⟩ := fin.out V _ (by rw [hV]; exact RR) (by rw [hV]; exact GG)
    rw [← hV]
    clear hV GG RR d2 e2 d3 e3
    refine wp_region_held_drew (S := fun W' => W'.heap[cb]? = some (.cells cs 28 (0, 0)) ∧ W'.cell? ⟨p, 3, none⟩ = some (.int .i64 (20))) (by kernel_rfl) ⟨HV.out, by simpa using d3'⟩ (fun hHeld => ?_)
    refine take_to (i := 0) (v := .agg cs) (some 35) rfl rfl (by kernel_rfl) (by kernel_rfl) (by kernel_rfl) (fun _ _ _ h => h) (yieldsIf_load_row (by rfl) 28 _ rfl cb rfl 28 cs (0, 0) _ (fun w h => h.1) Tryz.underlying28 rfl (by rw [infoCmd, h12.out.2])) hHeld ?_
    simp only [Act.put, List.setIfInBounds_toArray, List.set_cons_zero, List.set_cons_succ]
    refine take_to (i := 1) (v := .pointer (some ⟨p, 0, none⟩)) (some 36) rfl rfl (by kernel_rfl) (by kernel_rfl) (by kernel_rfl) (fun _ _ _ h => h) (Or.inl ⟨by rfl, fun w hSw => by obtain ⟨hS1, hS2⟩ := hSw; go_simp⟩) hHeld ?_
    simp only [Act.put, List.setIfInBounds_toArray, List.set_cons_zero, List.set_cons_succ]
    refine take_to (i := 2) (v := .pointer (some ⟨p, 0, none⟩)) (some 37) rfl rfl (by kernel_rfl) (by kernel_rfl) (by kernel_rfl) (fun _ _ _ h => h) (Or.inl ⟨by rfl, fun w hSw => by obtain ⟨hS1, hS2⟩ := hSw; go_simp⟩) hHeld ?_
    simp only [Act.put, List.setIfInBounds_toArray, List.set_cons_zero, List.set_cons_succ]
    refine take_to (i := 3) (v := .pointer (some ⟨p, 3, none⟩)) (some 38) rfl rfl (by kernel_rfl) (by kernel_rfl) (by kernel_rfl) (fun _ _ _ h => h) (Or.inl ⟨by rfl, fun w hSw => by obtain ⟨hS1, hS2⟩ := hSw; go_simp⟩) hHeld ?_
    simp only [Act.put, List.setIfInBounds_toArray, List.set_cons_zero, List.set_cons_succ]
    refine take_to (i := 4) (v := .int .i64 (20)) (some 39) rfl rfl (by kernel_rfl) (by kernel_rfl) (by kernel_rfl) (fun _ _ _ h => h) (Or.inl ⟨by rfl, fun w hSw => by obtain ⟨hS1, hS2⟩ := hSw; go_simp⟩) hHeld ?_
    simp only [Act.put, List.setIfInBounds_toArray, List.set_cons_zero, List.set_cons_succ]
    refine take_to (i := 5) (v := .bool (((20) : Int) == 0)) (some 40) rfl rfl (by kernel_rfl) (by kernel_rfl) (by kernel_rfl) (fun _ _ _ h => h) (Or.inl ⟨by rfl, fun w hSw => by obtain ⟨hS1, hS2⟩ := hSw; go_simp⟩) hHeld ?_
    simp only [Act.put, List.setIfInBounds_toArray, List.set_cons_zero, List.set_cons_succ]
    refine wpAnyH_ready (rs := [6]) (by kernel_rfl) (by simp) ?_
    refine AllReadyH.cons rfl (fun K hK => ?_) AllReadyH.nil
    rw [if_pos (by rfl)]
    refine wp_store_row 28 _ _ rfl rb cs rfl rfl 28 (zeroCmd 0) RV.out (by rw [infoCmd, h12.out.2]) (by rw [h12.out.2]; rfl) h12.out.1 ?_
    have hGf : V.drew.grownBy (V.drew.setRow rb cs) (some rb) := ⟨rfl, rfl, rfl, by simp, fun k _ hk => setRow_other _ _ _ _ (fun e => hk (by rw [e]))⟩
    refine hK.out _ _ ⟨(setRow_other _ _ _ _ (by have := Hcbr.out; omega)).trans hHeld.1, (World.cell?_of_block (setRow_other _ _ _ _ (by have := Hpr.out; show p ≠ rb; omega))).trans hHeld.2⟩ (fun hHeld2 => ?_)
    clear hK K
    refine wpAnyH_ready (rs := [7]) (by kernel_rfl) (by simp) ?_
    refine AllReadyH.cons rfl (fun K hK => ?_) AllReadyH.nil
    go_simp
    refine hK.out _ _ hHeld2 (fun _ => ?_)
    clear hK K
    refine wpAnyH_done (by kernel_rfl) ?_ _
    go_wp2_with fail
    refine bodyPost_ret (results_cell_tmp rfl _ _ rb 28 cs (0, 0) _ rfl (setRow_heap _ _ _ _ _ _ RV.out) Tryz.underlying28 rfl (by rw [infoCmd, h12.out.2])) rfl ?_
    exact ends.out V (20) _ (by rw [Hd.out]; rfl) (fun m2 h => by cases h) (by rfl) PV.out GV.out KV'.out _ hGf
  | some m2 =>
    obtain ⟨rfl, rfl⟩ := hok1 m2 hod
    rw [hod] at ends
    by_cases hmany : 8192 < many + 1
    · have Hd : Asd (RS.cmdD rd s.data.toList ⟨left, at_, many, why⟩ = (none, ⟨left, at_, many + 1, 3⟩)) := ⟨by unfold RS.cmdD RS.after; rw [← Hod.out, hod]; simp [hmany]⟩
      clear hok1 hok2 hod Hok Hod
      go_wp2_with fail
      obtain ⟨V, hV⟩ : ∃ V, V = (W.setCell ⟨p, 2, none⟩ (.int .i64 (many + 1))).setCell ⟨p, 3, none⟩ (.int .i64 3) := ⟨_, rfl⟩
      have RR : RdrAt ((W.setCell ⟨p, 2, none⟩ (.int .i64 (many + 1))).setCell ⟨p, 3, none⟩ (.int .i64 3)) p ⟨left, at_, many + 1, 3⟩ := bk_set P3.out 3 _
      have GG := grown_set (grown_set (World.grownBy.refl W (some p)) 2 (.int .i64 (many + 1))) 3 (.int .i64 3)
      obtain ⟨PV, HV, RV, GV, KV', d3'⟩ := fin.out V _ (by rw [hV]; exact RR) (by rw [hV]; exact GG)
      rw [← hV]
      clear hV GG RR d2 e2 d3 e3
      refine wp_region_held_drew (S := fun W' => W'.heap[cb]? = some (.cells cs 28 (0, 0)) ∧ W'.cell? ⟨p, 3, none⟩ = some (.int .i64 (3))) (by kernel_rfl) ⟨HV.out, by simpa using d3'⟩ (fun hHeld => ?_)
      refine take_to (i := 0) (v := .agg cs) (some 35) rfl rfl (by kernel_rfl) (by kernel_rfl) (by kernel_rfl) (fun _ _ _ h => h) (yieldsIf_load_row (by rfl) 28 _ rfl cb rfl 28 cs (0, 0) _ (fun w h => h.1) Tryz.underlying28 rfl (by rw [infoCmd, h12.out.2])) hHeld ?_
      simp only [Act.put, List.setIfInBounds_toArray, List.set_cons_zero, List.set_cons_succ]
      refine take_to (i := 1) (v := .pointer (some ⟨p, 0, none⟩)) (some 36) rfl rfl (by kernel_rfl) (by kernel_rfl) (by kernel_rfl) (fun _ _ _ h => h) (Or.inl ⟨by rfl, fun w hSw => by obtain ⟨hS1, hS2⟩ := hSw; go_simp⟩) hHeld ?_
      simp only [Act.put, List.setIfInBounds_toArray, List.set_cons_zero, List.set_cons_succ]
      refine take_to (i := 2) (v := .pointer (some ⟨p, 0, none⟩)) (some 37) rfl rfl (by kernel_rfl) (by kernel_rfl) (by kernel_rfl) (fun _ _ _ h => h) (Or.inl ⟨by rfl, fun w hSw => by obtain ⟨hS1, hS2⟩ := hSw; go_simp⟩) hHeld ?_
      simp only [Act.put, List.setIfInBounds_toArray, List.set_cons_zero, List.set_cons_succ]
      refine take_to (i := 3) (v := .pointer (some ⟨p, 3, none⟩)) (some 38) rfl rfl (by kernel_rfl) (by kernel_rfl) (by kernel_rfl) (fun _ _ _ h => h) (Or.inl ⟨by rfl, fun w hSw => by obtain ⟨hS1, hS2⟩ := hSw; go_simp⟩) hHeld ?_
      simp only [Act.put, List.setIfInBounds_toArray, List.set_cons_zero, List.set_cons_succ]
      refine take_to (i := 4) (v := .int .i64 (3)) (some 39) rfl rfl (by kernel_rfl) (by kernel_rfl) (by kernel_rfl) (fun _ _ _ h => h) (Or.inl ⟨by rfl, fun w hSw => by obtain ⟨hS1, hS2⟩ := hSw; go_simp⟩) hHeld ?_
      simp only [Act.put, List.setIfInBounds_toArray, List.set_cons_zero, List.set_cons_succ]
      refine take_to (i := 5) (v := .bool (((3) : Int) == 0)) (some 40) rfl rfl (by kernel_rfl) (by kernel_rfl) (by kernel_rfl) (fun _ _ _ h => h) (Or.inl ⟨by rfl, fun w hSw => by obtain ⟨hS1, hS2⟩ := hSw; go_simp⟩) hHeld ?_
      simp only [Act.put, List.setIfInBounds_toArray, List.set_cons_zero, List.set_cons_succ]
      refine wpAnyH_ready (rs := [6]) (by kernel_rfl) (by simp) ?_
      refine AllReadyH.cons rfl (fun K hK => ?_) AllReadyH.nil
      rw [if_pos (by rfl)]
      refine wp_store_row 28 _ _ rfl rb cs rfl rfl 28 (zeroCmd 0) RV.out (by rw [infoCmd, h12.out.2]) (by rw [h12.out.2]; rfl) h12.out.1 ?_
      have hGf : V.drew.grownBy (V.drew.setRow rb cs) (some rb) := ⟨rfl, rfl, rfl, by simp, fun k _ hk => setRow_other _ _ _ _ (fun e => hk (by rw [e]))⟩
      refine hK.out _ _ ⟨(setRow_other _ _ _ _ (by have := Hcbr.out; omega)).trans hHeld.1, (World.cell?_of_block (setRow_other _ _ _ _ (by have := Hpr.out; show p ≠ rb; omega))).trans hHeld.2⟩ (fun hHeld2 => ?_)
      clear hK K
      refine wpAnyH_ready (rs := [7]) (by kernel_rfl) (by simp) ?_
      refine AllReadyH.cons rfl (fun K hK => ?_) AllReadyH.nil
      go_simp
      refine hK.out _ _ hHeld2 (fun _ => ?_)
      clear hK K
      refine wpAnyH_done (by kernel_rfl) ?_ _
      go_wp2_with fail
      refine bodyPost_ret (results_cell_tmp rfl _ _ rb 28 cs (0, 0) _ rfl (setRow_heap _ _ _ _ _ _ RV.out) Tryz.underlying28 rfl (by rw [infoCmd, h12.out.2])) rfl ?_
      exact ends.out V (3) _ (by rw [Hd.out]; rfl) (fun m2 h => by injection h) (by rfl) PV.out GV.out KV'.out _ hGf
    · have Hd : Asd (RS.cmdD rd s.data.toList ⟨left, at_, many, why⟩ = (if why = 0 then some m else none, ⟨left, at_, many + 1, why⟩)) := ⟨by unfold RS.cmdD RS.after; rw [← Hod.out, hod]; simp [hmany]⟩
      clear hok1 hok2 hod Hok Hod
      go_wp2_with fail
      obtain ⟨V, hV⟩ : ∃ V, V = W.setCell ⟨p, 2, none⟩ (.int .i64 (many + 1)) := ⟨_, rfl⟩
      have RR : RdrAt (W.setCell ⟨p, 2, none⟩ (.int .i64 (many + 1))) p ⟨left, at_, many + 1, why⟩ := P3.out
      have GG := grown_set (World.grownBy.refl W (some p)) 2 (.int .i64 (many + 1))
      obtain ⟨PV, HV, RV, GV, KV', d3'⟩ := fin.out V _ (by rw [hV]; exact RR) (by rw [hV]; exact GG)
      rw [← hV]
      clear hV GG RR d2 e2 d3 e3
      refine wp_region_held_drew (S := fun W' => W'.heap[cb]? = some (.cells cs 28 (0, 0)) ∧ W'.cell? ⟨p, 3, none⟩ = some (.int .i64 (why))) (by kernel_rfl) ⟨HV.out, by simpa using d3'⟩ (fun hHeld => ?_)
      refine take_to (i := 0) (v := .agg cs) (some 35) rfl rfl (by kernel_rfl) (by kernel_rfl) (by kernel_rfl) (fun _ _ _ h => h) (yieldsIf_load_row (by rfl) 28 _ rfl cb rfl 28 cs (0, 0) _ (fun w h => h.1) Tryz.underlying28 rfl (by rw [infoCmd, h12.out.2])) hHeld ?_
      simp only [Act.put, List.setIfInBounds_toArray, List.set_cons_zero, List.set_cons_succ]
      refine take_to (i := 1) (v := .pointer (some ⟨p, 0, none⟩)) (some 36) rfl rfl (by kernel_rfl) (by kernel_rfl) (by kernel_rfl) (fun _ _ _ h => h) (Or.inl ⟨by rfl, fun w hSw => by obtain ⟨hS1, hS2⟩ := hSw; go_simp⟩) hHeld ?_
      simp only [Act.put, List.setIfInBounds_toArray, List.set_cons_zero, List.set_cons_succ]
      refine take_to (i := 2) (v := .pointer (some ⟨p, 0, none⟩)) (some 37) rfl rfl (by kernel_rfl) (by kernel_rfl) (by kernel_rfl) (fun _ _ _ h => h) (Or.inl ⟨by rfl, fun w hSw => by obtain ⟨hS1, hS2⟩ := hSw; go_simp⟩) hHeld ?_
      simp only [Act.put, List.setIfInBounds_toArray, List.set_cons_zero, List.set_cons_succ]
      refine take_to (i := 3) (v := .pointer (some ⟨p, 3, none⟩)) (some 38) rfl rfl (by kernel_rfl) (by kernel_rfl) (by kernel_rfl) (fun _ _ _ h => h) (Or.inl ⟨by rfl, fun w hSw => by obtain ⟨hS1, hS2⟩ := hSw; go_simp⟩) hHeld ?_
      simp only [Act.put, List.setIfInBounds_toArray, List.set_cons_zero, List.set_cons_succ]
      refine take_to (i := 4) (v := .int .i64 (why)) (some 39) rfl rfl (by kernel_rfl) (by kernel_rfl) (by kernel_rfl) (fun _ _ _ h => h) (Or.inl ⟨by rfl, fun w hSw => by obtain ⟨hS1, hS2⟩ := hSw; go_simp⟩) hHeld ?_
      simp only [Act.put, List.setIfInBounds_toArray, List.set_cons_zero, List.set_cons_succ]
      refine take_to (i := 5) (v := .bool (((why) : Int) == 0)) (some 40) rfl rfl (by kernel_rfl) (by kernel_rfl) (by kernel_rfl) (fun _ _ _ h => h) (Or.inl ⟨by rfl, fun w hSw => by obtain ⟨hS1, hS2⟩ := hSw; go_simp⟩) hHeld ?_
      simp only [Act.put, List.setIfInBounds_toArray, List.set_cons_zero, List.set_cons_succ]
      refine wpAnyH_ready (rs := [6]) (by kernel_rfl) (by simp) ?_
      refine AllReadyH.cons rfl (fun K hK => ?_) AllReadyH.nil
      rw [if_pos (by rfl)]
      refine wp_store_row 28 _ _ rfl rb cs rfl rfl 28 (zeroCmd 0) RV.out (by rw [infoCmd, h12.out.2]) (by rw [h12.out.2]; rfl) h12.out.1 ?_
      have hGf : V.drew.grownBy (V.drew.setRow rb cs) (some rb) := ⟨rfl, rfl, rfl, by simp, fun k _ hk => setRow_other _ _ _ _ (fun e => hk (by rw [e]))⟩
      refine hK.out _ _ ⟨(setRow_other _ _ _ _ (by have := Hcbr.out; omega)).trans hHeld.1, (World.cell?_of_block (setRow_other _ _ _ _ (by have := Hpr.out; show p ≠ rb; omega))).trans hHeld.2⟩ (fun hHeld2 => ?_)
      clear hK K
      refine wpAnyH_ready (rs := [7]) (by kernel_rfl) (by simp) ?_
      refine AllReadyH.cons rfl (fun K hK => ?_) AllReadyH.nil
      go_simp
      refine hK.out _ _ hHeld2 (fun _ => ?_)
      clear hK K
      refine wpAnyH_done (by kernel_rfl) ?_ _
      go_wp2_with fail
      refine bodyPost_ret (results_cell_tmp rfl _ _ rb 28 cs (0, 0) _ rfl (setRow_heap _ _ _ _ _ _ RV.out) Tryz.underlying28 rfl (by rw [infoCmd, h12.out.2])) rfl ?_
      exact ends.out V (why) _ (by rw [Hd.out]) (fun m2 h => by injection h) (by show Value.bool (why == 0) = _; by_cases hq : why = 0 <;> simp [hq]) PV.out GV.out KV'.out _ hGf
end Go.Proofs.YthclgijnfopikaaGreatDoor
