/- The walks of script.num and text, of their closures that write, and of script.fields. -/
import Derived.Test.YthclgijnfopikaaGreatDoorLib
import Derived.Laws.EntriesVeiled
namespace Go.Proofs.YthclgijnfopikaaGreatDoor
open Go.RowKit

theorem hmf : ∀ (fn : Fn) (first cap : Array Value) (w : World), (Instr.makeFunc fn first cap).run Tryz.prog w = .ok (.func fn first cap) w := fun _ _ _ _ => rfl

theorem num_calls (g : Nat) (w : World) : Calls Tryz.prog 52 #[.func (.func g) #[] #[]] w fun e w' =>
    e = .returned (.agg #[.func (.func 82) #[] #[.pointer (some ⟨w.heap.size, 0, none⟩)], .func (.func 83) #[] #[.pointer (some ⟨w.heap.size, 0, none⟩)]]) ∧
    Below w.heap.size w w' ∧ w'.heap[w.heap.size]? = some (.cells #[.func (.func g) #[] #[]] 98 (0, 0)) := by
  have hm := hmf
  go_enter Tryz.func52, Tryz.ntmps52
  go_wp2
  exact bodyPost_ret (v := .agg #[.func (.func 82) #[] #[.pointer (some ⟨w.heap.size, 0, none⟩)], .func (.func 83) #[] #[.pointer (some ⟨w.heap.size, 0, none⟩)]]) (by simp [results, Tryz.results52, go_sem]) rfl
    ⟨rfl, bl_alloc (bl_alloc (Below.refl _ _) _) _, bk_alloc (bk_new _ _) _⟩
theorem text_calls (g : Nat) (w : World) : Calls Tryz.prog 58 #[.func (.func g) #[] #[]] w fun e w' =>
    e = .returned (.agg #[.func (.func 84) #[] #[.pointer (some ⟨w.heap.size, 0, none⟩)], .func (.func 86) #[] #[.pointer (some ⟨w.heap.size, 0, none⟩)]]) ∧
    Below w.heap.size w w' ∧ w'.heap[w.heap.size]? = some (.cells #[.func (.func g) #[] #[]] 101 (0, 0)) := by
  have hm := hmf
  go_enter Tryz.func58, Tryz.ntmps58
  go_wp2
  exact bodyPost_ret (v := .agg #[.func (.func 84) #[] #[.pointer (some ⟨w.heap.size, 0, none⟩)], .func (.func 86) #[] #[.pointer (some ⟨w.heap.size, 0, none⟩)]]) (by simp [results, Tryz.results58, go_sem]) rfl
    ⟨rfl, bl_alloc (bl_alloc (Below.refl _ _) _) _, bk_alloc (bk_new _ _) _⟩
end Go.Proofs.YthclgijnfopikaaGreatDoor
