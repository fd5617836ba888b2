/- Words shared by the walks of chapter 28: what the package-level variables hold, blocks of cells, the table of forms. -/
import Derived.Test.YthclgijnfopikaaGreatDoorProg
import Derived.Test.YthclgijnfopikaaGreatDoorSpec
import Derived.Test.YthclgijnfopikaaGreatDoorShelf
import Derived.WalkKit
import Derived.WalkLawsBesides
import Derived.Deep.Draws
import Derived.Below
import Derived.Lib.LaidTab
import Derived.Outline
import Derived.OwnWalk
import Derived.Maps.AppendAt
import Derived.Laws.Rows
namespace Go.Proofs.YthclgijnfopikaaGreatDoor
open Go.RowKit

/-- A fact that the walk's simp does not look into. -/
structure Asd (p : Prop) : Prop where mk :: (out : p)

/-! ### blocks -/
theorem bk_lt {w : World} {g : Nat} {o : Obj} (h : w.heap[g]? = some o) : g < w.heap.size := (Array.getElem?_eq_some_iff.1 h).1
theorem bk_cell {w : World} {g : Nat} {t : TypeId} {cs : Array Value} (h : w.heap[g]? = some (.cells cs t (0, 0))) (i : Nat) : w.cell? ⟨g, i, none⟩ = cs[i]? := by
  simp [World.cell?, h]
theorem bk_free {w : World} {g : Nat} {t : TypeId} {cs : Array Value} (h : w.heap[g]? = some (.cells cs t (0, 0))) (i : Nat) : w.frozen? ⟨g, i, none⟩ = false := by
  simp [World.frozen?, h]
theorem bk_set {w : World} {g : Nat} {t : TypeId} {cs : Array Value} (h : w.heap[g]? = some (.cells cs t (0, 0))) (i : Nat) (u : Value) : (w.setCell ⟨g, i, none⟩ u).heap[g]? = some (.cells (cs.setIfInBounds i u) t (0, 0)) := by
  simp [World.setCell, Array.getElem?_modify, h]
theorem bk_new (w : World) (o : Obj) : (w.alloc o).heap[w.heap.size]? = some o := heap_alloc_new w o
theorem bk_alloc {w : World} {g : Nat} {o : Obj} (h : w.heap[g]? = some o) (o' : Obj) : (w.alloc o').heap[g]? = some o := (Below.heap_alloc w o' g (bk_lt h)).trans h
theorem bk_below {B : Nat} {w w1 : World} {g : Nat} {o : Obj} (h : w.heap[g]? = some o) (hb : Below B w w1) (hg : g < B) : w1.heap[g]? = some o := (hb.block g hg).trans h
theorem bk_grown {w w1 : World} {g : Nat} {o : Obj} {row : Option Nat} (h : w.heap[g]? = some o) (hg : w.grownBy w1 row) (hne : some g ≠ row) : w1.heap[g]? = some o := (hg.block g (bk_lt h) hne).trans h
theorem bk_drewN {w : World} {g : Nat} {o : Obj} (h : w.heap[g]? = some o) (n : Nat) : (w.drewN n).heap[g]? = some o := h
theorem below_drewN {B : Nat} {w0 w : World} (h : Below B w0 w) (n : Nat) : Below B w0 (w.drewN n) := ⟨h.os, h.tape, h.output, h.size, h.block⟩
theorem below_to_grown {w w1 : World} (h : Below w.heap.size w w1) (row : Option Nat) : w.grownBy w1 row := ⟨h.os, h.tape, h.output, h.size, fun i hi _ => h.block i hi⟩
theorem grown_trans {w w1 w2 : World} {row : Option Nat} (h : w.grownBy w1 row) (k : w1.grownBy w2 row) : w.grownBy w2 row := h.trans k

theorem bl_alloc {w W : World} (h : Below w.heap.size w W) (o : Obj) : Below w.heap.size w (W.alloc o) := h.alloc h.size o
theorem bl_then {B : Nat} {w w1 w2 : World} (h : Below B w w1) (hB : B ≤ w1.heap.size) (k : Below w1.heap.size w1 w2) : Below B w w2 := h.trans (k.mono hB)
theorem bl_trans {w w1 w2 : World} (h : Below w.heap.size w w1) (k : Below w1.heap.size w1 w2) : Below w.heap.size w w2 := h.trans (k.mono h.size)
theorem bl_set {w W : World} (h : Below w.heap.size w W) {p : Addr} (hp : w.heap.size ≤ p.block) (u : Value) : Below w.heap.size w (W.setCell p u) := h.setCell hp u
theorem bl_grown {w W W1 : World} (h : Below w.heap.size w W) {row : Option Nat} (hg : W.grownBy W1 row) (hr : ∀ k, row = some k → w.heap.size ≤ k) : Below w.heap.size w W1 := h.grown hg h.size hr

/-! ### the package-level variables -/
/-- What the walks ask of the library's variables; they lie below block B. -/
structure Glob (B : Nat) (w : World) : Prop where
  le : B ≤ w.heap.size
  lo : 0 < B ∧ 2 < B ∧ 3 < B ∧ 1 < B
  mx : ∃ m, w.cell? ⟨0, 0, none⟩ = some (.int .i64 m)
  syn : ∃ tp p, w.var? Tryz.prog "strconv.ErrSyntax" = some #[.iface tp p]
  rng : ∃ tp p, w.var? Tryz.prog "strconv.ErrRange" = some #[.iface tp p]
  tab : Lib.TabIs Tryz.prog w "internal/strconv.uint64pow10" .u64 Lib.pow10Tab
theorem gSyn : Tryz.prog.globalNamed "strconv.ErrSyntax" = some 2 := by kernel_rfl
theorem gRng : Tryz.prog.globalNamed "strconv.ErrRange" = some 3 := by kernel_rfl
theorem gTab : Tryz.prog.globalNamed "internal/strconv.uint64pow10" = some 1 := by kernel_rfl
theorem var_same {P : Program} {w w1 : World} {n : String} {g : Nat} (hg : P.globalNamed n = some g) (h : w1.heap[g]? = w.heap[g]?) : w1.var? P n = w.var? P n := by
  simp [World.var?, hg, h]
theorem Glob.below {B : Nat} {w w1 : World} (h : Glob B w) {B' : Nat} (hb : Below B' w w1) (hB : B ≤ B') : Glob B w1 := by
  have e : ∀ g, g < B → w1.heap[g]? = w.heap[g]? := fun g hg => hb.block g (by omega)
  refine ⟨Nat.le_trans h.le hb.size, h.lo, ?_, ?_, ?_, ?_⟩
  · obtain ⟨m, hm⟩ := h.mx
    exact ⟨m, (World.cell?_of_block (w := w) (e _ h.lo.1)).trans hm⟩
  · rw [var_same gSyn (e _ h.lo.2.1)]; exact h.syn
  · rw [var_same gRng (e _ h.lo.2.2.1)]; exact h.rng
  · unfold Lib.TabIs
    rw [var_same gTab (e _ h.lo.2.2.2)]; exact h.tab
theorem Glob.grown {B : Nat} {w w1 : World} (h : Glob B w) {g : Nat} (hg : w.grownBy w1 (some g)) (hB : B ≤ g) : Glob B w1 :=
  h.below (B' := B) ⟨hg.os, hg.tape, hg.output, hg.size, fun k hk => hg.block k (Nat.lt_of_lt_of_le hk h.le) (by intro e; injection e with e; omega)⟩ (Nat.le_refl _)

theorem Glob.again {B : Nat} {w w1 : World} (h : Glob B w) (e : w1.heap = w.heap) : Glob B w1 := by
  refine ⟨by rw [e]; exact h.le, h.lo, ?_, ?_, ?_, ?_⟩
  · obtain ⟨m, hm⟩ := h.mx
    exact ⟨m, by simpa [World.cell?, e] using hm⟩
  · have := h.syn; simpa [World.var?, e] using this
  · have := h.rng; simpa [World.var?, e] using this
  · have := h.tab; unfold Lib.TabIs at this ⊢; simpa [World.var?, e] using this

/-! ### the forms' cells -/
def formsCells : Array Value := (formsL.flatMap fun p => [Value.string (str p.1), Value.string (str p.2)]).toArray
theorem formsCells_at : ∀ i : Nat, i < 45 → formsCells[i * 2]? = some (.string (str (word i))) ∧ formsCells[i * 2 + 1]? = some (.string (str (flds i))) := by
  have h : ((List.range 45).all fun i => match formsCells[i * 2]?, formsCells[i * 2 + 1]? with
      | some (.string a), some (.string b) => a.data.toList == word i && b.data.toList == flds i
      | _, _ => false) = true := by decide +kernel
  intro i hi
  have := List.all_eq_true.1 h i (List.mem_range.2 hi)
  split at this
  · rename_i a b e1 e2
    simp only [Bool.and_eq_true, beq_iff_eq] at this
    rw [← this.1, ← this.2]
    exact ⟨e1, e2⟩
  · cases this
end Go.Proofs.YthclgijnfopikaaGreatDoor
