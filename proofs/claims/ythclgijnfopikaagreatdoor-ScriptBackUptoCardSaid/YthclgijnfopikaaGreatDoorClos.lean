/- The walks of the closures that lead to a command's numbers and texts, and of those that write and read numbers. -/
import Derived.Test.YthclgijnfopikaaGreatDoorNum
import Derived.Test.YthclgijnfopikaaGreatDoorNumber
namespace Go.Proofs.YthclgijnfopikaaGreatDoor
open Go.RowKit

theorem at1_calls (c : Nat) (w : World) : Calls Tryz.prog 53 #[.pointer (some ⟨c, 0, none⟩)] w fun e w' => e = .returned (.pointer (some ⟨c, 1, none⟩)) ∧ w = w' := by
  go_enter Tryz.func53, Tryz.ntmps53
  go_wp2
  go_ret
  exact ⟨rfl, rfl⟩
theorem at2_calls (c : Nat) (w : World) : Calls Tryz.prog 54 #[.pointer (some ⟨c, 0, none⟩)] w fun e w' => e = .returned (.pointer (some ⟨c, 2, none⟩)) ∧ w = w' := by
  go_enter Tryz.func54, Tryz.ntmps54
  go_wp2
  go_ret
  exact ⟨rfl, rfl⟩
theorem at3_calls (c : Nat) (w : World) : Calls Tryz.prog 55 #[.pointer (some ⟨c, 0, none⟩)] w fun e w' => e = .returned (.pointer (some ⟨c, 3, none⟩)) ∧ w = w' := by
  go_enter Tryz.func55, Tryz.ntmps55
  go_wp2
  go_ret
  exact ⟨rfl, rfl⟩
theorem at4_calls (c : Nat) (w : World) : Calls Tryz.prog 56 #[.pointer (some ⟨c, 0, none⟩)] w fun e w' => e = .returned (.pointer (some ⟨c, 4, none⟩)) ∧ w = w' := by
  go_enter Tryz.func56, Tryz.ntmps56
  go_wp2
  go_ret
  exact ⟨rfl, rfl⟩
theorem at5_calls (c : Nat) (w : World) : Calls Tryz.prog 57 #[.pointer (some ⟨c, 0, none⟩)] w fun e w' => e = .returned (.pointer (some ⟨c, 5, none⟩)) ∧ w = w' := by
  go_enter Tryz.func57, Tryz.ntmps57
  go_wp2
  go_ret
  exact ⟨rfl, rfl⟩
theorem at6_calls (c : Nat) (w : World) : Calls Tryz.prog 59 #[.pointer (some ⟨c, 0, none⟩)] w fun e w' => e = .returned (.pointer (some ⟨c, 6, none⟩)) ∧ w = w' := by
  go_enter Tryz.func59, Tryz.ntmps59
  go_wp2
  go_ret
  exact ⟨rfl, rfl⟩
theorem at7_calls (c : Nat) (w : World) : Calls Tryz.prog 60 #[.pointer (some ⟨c, 0, none⟩)] w fun e w' => e = .returned (.pointer (some ⟨c, 7, none⟩)) ∧ w = w' := by
  go_enter Tryz.func60, Tryz.ntmps60
  go_wp2
  go_ret
  exact ⟨rfl, rfl⟩

/-- Function g leads to cell i of a command. -/
theorem bk_lt_cell {w : World} {g i : Nat} {v : Value} (h : w.cell? ⟨g, i, none⟩ = some v) : g < w.heap.size := World.block_lt_of_cell? w _ h
def Leads (g i : Nat) : Prop := ∀ (c : Nat) (w : World), Calls Tryz.prog g #[.pointer (some ⟨c, 0, none⟩)] w fun e w' => e = .returned (.pointer (some ⟨c, i, none⟩)) ∧ w = w'
theorem enters_at (g : Nat) (hg : g ∈ [53, 54, 55, 56, 57, 59, 60]) : ∀ args w, (callFunc g args).run Tryz.prog w = .ok (.enter g args) w := by
  simp only [List.mem_cons, List.not_mem_nil, or_false] at hg
  rcases hg with rfl | rfl | rfl | rfl | rfl | rfl | rfl
  · exact enters_of Tryz.func53 (by kernel_rfl) rfl
  · exact enters_of Tryz.func54 (by kernel_rfl) rfl
  · exact enters_of Tryz.func55 (by kernel_rfl) rfl
  · exact enters_of Tryz.func56 (by kernel_rfl) rfl
  · exact enters_of Tryz.func57 (by kernel_rfl) rfl
  · exact enters_of Tryz.func59 (by kernel_rfl) rfl
  · exact enters_of Tryz.func60 (by kernel_rfl) rfl

theorem num1_calls {B : Nat} {g i : Nat} (hL : Leads g i) (he : ∀ args w, (callFunc g args).run Tryz.prog w = .ok (.enter g args) w) (c b : Nat) (n : Int) (h0 : -9223372036854775808 ≤ n) (h1 : n ≤ 9223372036854775807) (w : World) (hG : Glob B w)
    (hb : w.cell? ⟨b, 0, none⟩ = some (.func (.func g) #[] #[])) (hc : w.cell? ⟨c, i, none⟩ = some (.int .i64 n)) :
    Calls Tryz.prog 82 #[.pointer (some ⟨c, 0, none⟩), .pointer (some ⟨b, 0, none⟩)] w fun e w' => e = .returned (.string (str (Lib.itoa n))) ∧ Below w.heap.size w w' := by
  have HG := Asd.mk hG
  have HL := Asd.mk hL
  clear hL hG
  go_enter Tryz.func82, Tryz.ntmps82
  go_wp2_with fail
  refine (HL.out c _).mono ?_
  rintro e w' ⟨rfl, rfl⟩
  go_wp2_with fail
  refine (itoa_calls n h0 h1 _ HG.out).mono ?_
  rintro e w' ⟨rfl, hb⟩
  go_wp2_with fail
  go_ret
  exact ⟨rfl, hb⟩

def Num2Post (c i : Nat) (l : List UInt8) (w : World) (e : Ending) (w' : World) : Prop :=
  e = .returned (.tuple #[.string (str (((numD l).map (·.2)).getD [])), .bool (numD l).isSome]) ∧ ∃ w1, Below w.heap.size w w1 ∧ w' = w1.setCell ⟨c, i, none⟩ (.int .i64 (((numD l).map (·.1)).getD 0))
theorem num2_calls {B : Nat} {g i : Nat} (hL : Leads g i) (he : ∀ args w, (callFunc g args).run Tryz.prog w = .ok (.enter g args) w) (c b : Nat) (n : Int) (s : ByteArray) (hs : s.size ≤ 1048576) (w : World) (hG : Glob B w)
    (hb : w.cell? ⟨b, 0, none⟩ = some (.func (.func g) #[] #[])) (hc : w.cell? ⟨c, i, none⟩ = some (.int .i64 n)) (hf : w.frozen? ⟨c, i, none⟩ = false) :
    Calls Tryz.prog 83 #[.pointer (some ⟨c, 0, none⟩), .string s, .pointer (some ⟨b, 0, none⟩)] w (Num2Post c i s.data.toList w) := by
  have HG := Asd.mk hG
  have HL := Asd.mk hL
  have hlt := bk_lt_cell hc
  clear hL hG
  go_enter Tryz.func83, Tryz.ntmps83
  go_wp2_with fail
  refine (HL.out c _).mono ?_
  rintro e w' ⟨rfl, rfl⟩
  go_wp2_with fail
  refine (number_calls B s hs _ HG.out).mono ?_
  rintro e w1 ⟨rfl, hb1⟩
  have hc1 := (hb1.cell (p := ⟨c, i, none⟩) hlt).trans hc
  have hf1 := (hb1.frozen (p := ⟨c, i, none⟩) hlt).trans hf
  have Hb1 := Asd.mk hb1
  clear hb1 hc hf
  generalize hv : ((numD s.data.toList).map (·.1)).getD 0 = v
  generalize hr : str (((numD s.data.toList).map (·.2)).getD []) = r
  generalize hk : (numD s.data.toList).isSome = k
  have Hv := Asd.mk hv
  have Hr := Asd.mk hr
  have Hk := Asd.mk hk
  clear hv hr hk
  go_wp2
  go_ret2
  exact ⟨by rw [Hr.out, Hk.out]; rfl, _, Hb1.out, by rw [Hv.out]⟩
end Go.Proofs.YthclgijnfopikaaGreatDoor
