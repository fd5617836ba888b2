/- The walks of script.forms, of, Word and Find. -/
import Derived.Test.YthclgijnfopikaaGreatDoorBase
namespace Go.Proofs.YthclgijnfopikaaGreatDoor
open Go.RowKit

set_option maxHeartbeats 8000000 in
set_option maxRecDepth 100000 in
theorem forms_calls (w : World) : Calls Tryz.prog 39 #[] w fun e w' => e = .returned (.slice (some ⟨w.heap.size, 0, none⟩) 45 45) ∧ w' = w.alloc (.cells formsCells 55) := by
  go_enter Tryz.func39, Tryz.ntmps39
  go_wp2
  go_ret
  exact ⟨rfl, rfl⟩
end Go.Proofs.YthclgijnfopikaaGreatDoor
