/- A map literal with int32 keys and a look-up in it, over whatever elements: laws of no program. -/
import Derived.WalkKit
import Derived.ChangeMaps4
import Derived.Maps.OwnOps
namespace Go.Proofs.YthclgijnfopikaaGreatDoor
open Go.RowKit
variable {P : Program}

theorem run_checkKey_i32' {K : TypeId} (hK : P.underlying K = some (.int .i32)) (e : Bool) (n : Int) (W : World) (m : Nat) : (Instr.checkKey e (m + 1) K (.int .i32 n)).run P W = .ok () W := by
  simp [Instr.checkKey, run_underlying hK, Result.andThen]
theorem run_checkKey_i32 {K : TypeId} (hK : P.underlying K = some (.int .i32)) (e : Bool) (n : Int) (W : World) : (Instr.checkKey e 10000 K (.int .i32 n)).run P W = .ok () W := run_checkKey_i32' hK e n W 9999
theorem run_findKey_i32 {K : TypeId} (hK : P.underlying K = some (.int .i32)) (n : Int) (es : List MapEntry) (r : Option (Nat × Value)) (h : Instr.findNow (.int .i32) (.int .i32 n) es 0 = some r) (W : World) :
    (Instr.findKey K (.int .i32 n) es).run P W = .ok r W := by
  simp [Instr.findKey, run_underlying hK, Result.andThen, h]
theorem run_insert_i32 {T K E : TypeId} (hT : P.underlying T = some (.map K E)) (hK : P.underlying K = some (.int .i32)) {r : Nat} {es : Array MapEntry} {clock : Nat} {W : World} (hr : W.heap[r]? = some (.map es clock)) (n : Int) (v : Value)
    (hn : Instr.findNow (.int .i32) (.int .i32 n) es.toList 0 = some none) :
    (Instr.mapUpdate T (.map (some r)) (.int .i32 n) v).run P W = .ok () { W with heap := W.heap.setIfInBounds r (.map (es.push { key := .int .i32 n, val := v, born := clock }) (clock + 1)) } := by
  simp [Instr.mapUpdate, run_underlying hT, MapKept.run_getObj_map hr, run_checkKey_i32 hK, run_findKey_i32 hK _ _ _ hn, MapKept.run_setObj_map _ hr, Result.andThen]
theorem run_lookup_i32 {T K E : TypeId} (hT : P.underlying T = some (.map K E)) (hK : P.underlying K = some (.int .i32)) {r : Nat} {es : Array MapEntry} {clock : Nat} {W : World} (hr : W.heap[r]? = some (.map es clock)) (n : Int) (i : Nat) (v : Value)
    (hn : Instr.findNow (.int .i32) (.int .i32 n) es.toList 0 = some (some (i, v))) :
    (Instr.lookup T (.map (some r)) (.int .i32 n) false).run P W = .ok v W := by
  simp [Instr.lookup, run_underlying hT, MapKept.run_getObj_map hr, run_checkKey_i32 hK, run_findKey_i32 hK _ _ _ hn, Result.andThen]

theorem wpList_insert_i32 {W : World} {ops : Array Oper} {rest : List Oper} {o : Oper} {a : Act} {Q : Exit → Act → World → Prop} (hg : o.guard = none) (T : TypeId) (m k x : Operand) (hop : o.op = Op.insert T m k x)
    (K E : TypeId) (hT : P.underlying T = some (.map K E)) (hK : P.underlying K = some (.int .i32)) (r : Nat) (es : Array MapEntry) (clock : Nat) (hr : W.heap[r]? = some (.map es clock)) (n : Int) (v : Value)
    (hm : a.eval m = .map (some r)) (hk : a.eval k = .int .i32 n) (hv : a.eval x = v) (hn : Instr.findNow (.int .i32) (.int .i32 n) es.toList 0 = some none)
    (h : ∀ W1, W.grownBy W1 (some r) → W1.heap.size = W.heap.size → W1.heap[r]? = some (.map (es.push { key := .int .i32 n, val := v, born := clock }) (clock + 1)) → wpList P ops Q rest (a.put o.dst undef) W1) :
    wpList P ops Q (o :: rest) a W := by
  refine wpList_plain hg fun K' hK' => ?_
  unfold Oper.wp
  have hrun := run_insert_i32 hT hK hr n v hn
  simp [execOp, hop, hm, hk, hv, hrun, Result.andThen]
  refine hK' _ _ (h _ ⟨rfl, rfl, rfl, by simp, fun i hi hne => ?_⟩ (by simp) ?_)
  · show (W.heap.setIfInBounds r _)[i]? = _
    rw [Array.getElem?_setIfInBounds, if_neg (fun e => hne (by rw [e]))]
  · show (W.heap.setIfInBounds r _)[r]? = _
    have := (Array.getElem?_eq_some_iff.1 hr).1
    rw [Array.getElem?_setIfInBounds, if_pos rfl, if_pos this]
end Go.Proofs.YthclgijnfopikaaGreatDoor
