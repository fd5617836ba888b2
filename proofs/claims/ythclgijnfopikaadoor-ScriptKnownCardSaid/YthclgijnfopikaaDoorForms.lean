/- The walks of script.forms, of, Word and Find. -/
import Derived.Test.YthclgijnfopikaaDoorBase
namespace Go.Proofs.YthclgijnfopikaaDoor
open Go.RowKit

set_option maxHeartbeats 8000000 in
set_option maxRecDepth 100000 in
theorem forms_calls (w : World) : Calls Tryd.prog 11 #[] w fun e w' => e = .returned (.slice (some ⟨w.heap.size, 0, none⟩) 45 45) ∧ w' = w.alloc (.cells formsCells 46) := by
  go_enter Tryd.func11, Tryd.ntmps11
  go_wp2
  go_ret
  exact ⟨rfl, rfl⟩
end Go.Proofs.YthclgijnfopikaaDoor
