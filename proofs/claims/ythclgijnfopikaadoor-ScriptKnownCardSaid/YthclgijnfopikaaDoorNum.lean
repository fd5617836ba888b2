/- The walks of script.num and text, of their closures that write, and of script.fields. -/
import Derived.Test.YthclgijnfopikaaDoorLib
import Derived.Laws.EntriesVeiled
namespace Go.Proofs.YthclgijnfopikaaDoor
open Go.RowKit

theorem hmf : ∀ (fn : Fn) (first cap : Array Value) (w : World), (Instr.makeFunc fn first cap).run Tryd.prog w = .ok (.func fn first cap) w := fun _ _ _ _ => rfl

theorem num_calls (g : Nat) (w : World) : Calls Tryd.prog 15 #[.func (.func g) #[] #[]] w fun e w' =>
    e = .returned (.agg #[.func (.func 38) #[] #[.pointer (some ⟨w.heap.size, 0, none⟩)], .func (.func 40) #[] #[.pointer (some ⟨w.heap.size, 0, none⟩)]]) ∧
    Below w.heap.size w w' ∧ w'.heap[w.heap.size]? = some (.cells #[.func (.func g) #[] #[]] 66 (0, 0)) := by
  have hm := hmf
  go_enter Tryd.func15, Tryd.ntmps15
  go_wp2
  exact bodyPost_ret (v := .agg #[.func (.func 38) #[] #[.pointer (some ⟨w.heap.size, 0, none⟩)], .func (.func 40) #[] #[.pointer (some ⟨w.heap.size, 0, none⟩)]]) (by simp [results, Tryd.results15, go_sem]) rfl
    ⟨rfl, bl_alloc (bl_alloc (Below.refl _ _) _) _, bk_alloc (bk_new _ _) _⟩
theorem text_calls (g : Nat) (w : World) : Calls Tryd.prog 21 #[.func (.func g) #[] #[]] w fun e w' =>
    e = .returned (.agg #[.func (.func 41) #[] #[.pointer (some ⟨w.heap.size, 0, none⟩)], .func (.func 43) #[] #[.pointer (some ⟨w.heap.size, 0, none⟩)]]) ∧
    Below w.heap.size w w' ∧ w'.heap[w.heap.size]? = some (.cells #[.func (.func g) #[] #[]] 69 (0, 0)) := by
  have hm := hmf
  go_enter Tryd.func21, Tryd.ntmps21
  go_wp2
  exact bodyPost_ret (v := .agg #[.func (.func 41) #[] #[.pointer (some ⟨w.heap.size, 0, none⟩)], .func (.func 43) #[] #[.pointer (some ⟨w.heap.size, 0, none⟩)]]) (by simp [results, Tryd.results21, go_sem]) rfl
    ⟨rfl, bl_alloc (bl_alloc (Below.refl _ _) _) _, bk_alloc (bk_new _ _) _⟩
end Go.Proofs.YthclgijnfopikaaDoor
