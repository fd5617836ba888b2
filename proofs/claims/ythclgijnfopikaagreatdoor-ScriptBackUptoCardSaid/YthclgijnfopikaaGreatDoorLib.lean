/- The library's calls, in this chapter's words: strconv.Itoa, Atoi, strings.Cut, CutPrefix, IndexByte. -/
import Derived.Test.YthclgijnfopikaaGreatDoorBase
import Derived.Lib.SmallJoins
import Derived.Lib.AtoiAll
import Derived.Lib.AtoiErrMem
namespace Go.Proofs.YthclgijnfopikaaGreatDoor
open Go.RowKit

theorem below_grow (w : World) (k : Nat) (os : Array Obj) : Below w.heap.size w (Go.Sort.grow (w.drewN k) os) := by
  refine ⟨rfl, rfl, rfl, ?_, fun i hi => ?_⟩
  · show w.heap.size ≤ (w.heap ++ os).size
    rw [Array.size_append]; omega
  · show (w.heap ++ os)[i]? = w.heap[i]?
    rw [Array.getElem?_append_left hi]

theorem itoa_calls {B : Nat} (n : Int) (h0 : -9223372036854775808 ≤ n) (h1 : n ≤ 9223372036854775807) (w : World) (hG : Glob B w) :
    Calls Tryz.prog 43 #[.int .i64 n] w fun e w' => e = .returned (.string (str (Lib.itoa n))) ∧ Below w.heap.size w w' :=
  (Tryz.strconv_Itoa n h0 h1 w hG.tab).mono fun _ _ ⟨he, k, os, hw⟩ => ⟨he, hw ▸ below_grow w k os⟩

theorem atoi_ok (s : ByteArray) (hs : s.size ≤ 1048576) (v : Int) (h : Lib.atoiAll s.data.toList = .ok v) (w : World) :
    Calls Tryz.prog 100 #[.string s] w fun e w' => e = .returned (.tuple #[.int .i64 v, .nilIface]) ∧ Below w.heap.size w w' :=
  (Tryz.strconv_Atoi_ok s (by omega) v h w).mono fun _ _ ⟨he, hw⟩ => ⟨he, by
    rcases hw with rfl | ⟨t, rfl⟩
    · exact Below.refl _ _
    · exact Lib.bytesWorld_below _ _ _⟩

def AtoiBad (w : World) (e : Ending) (w' : World) : Prop := ∃ v a, e = .returned (.tuple #[.int .i64 v, .iface 165 (.pointer (some a))]) ∧ Below w.heap.size w w'
theorem atoi_bad {B : Nat} (s : ByteArray) (hs : s.size ≤ 1048576) (h : ∀ v, Lib.atoiAll s.data.toList ≠ .ok v) (w : World) (hG : Glob B w) :
    Calls Tryz.prog 100 #[.string s] w (AtoiBad w) := by
  have h3 : ∀ x : Lib.NumEnd Int, (∃ v, x = .ok v) ∨ x = Lib.NumEnd.syntax ∨ x = .range := fun x => by cases x <;> simp
  rcases h3 (Lib.atoiAll s.data.toList) with ⟨v, hc⟩ | hc | hc
  · exact absurd hc (h v)
  · obtain ⟨tp, p, hv⟩ := hG.syn
    exact (Tryz.strconv_Atoi_syntax_var s (by omega) hc tp p w hv).mono fun _ _ ⟨N, he, _, _, hb⟩ => ⟨_, _, he, hb⟩
  · obtain ⟨tp, p, hv⟩ := hG.rng
    exact (Tryz.strconv_Atoi_range_var s (by omega) hc tp p w hv).mono fun _ _ ⟨N, he, _, _, hb⟩ => ⟨_, _, he, hb⟩

def CutPost (s p : ByteArray) (w : World) (e : Ending) (w' : World) : Prop :=
  e = .returned (.tuple #[.string (str (Lib.cut s.data.toList p.data.toList).1), .string (str (Lib.cut s.data.toList p.data.toList).2.1), .bool (Lib.cut s.data.toList p.data.toList).2.2]) ∧ ∃ n, w' = w.drewN n
theorem cut_calls {B : Nat} (s p : ByteArray) (hs : s.size ≤ 1048576) (w : World) (hG : Glob B w) : Calls Tryz.prog 71 #[.string s, .string p] w (CutPost s p w) := by
  obtain ⟨m, hm⟩ := hG.mx
  exact Tryz.strings_Cut s p m w (by omega) hm
theorem cutPrefix_calls (s p : ByteArray) (w : World) : Calls Tryz.prog 72 #[.string s, .string p] w fun e w' =>
    e = .returned (.tuple #[.string (str (Lib.trimPrefix s.data.toList p.data.toList)), .bool (Lib.hasPrefix s.data.toList p.data.toList)]) ∧ w = w' :=
  (Tryz.strings_CutPrefix s p w).mono fun _ _ ⟨he, hw⟩ => ⟨he, hw.symm⟩
end Go.Proofs.YthclgijnfopikaaGreatDoor
