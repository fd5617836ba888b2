/- A command without the fields that its op has not. -/
import Derived.Test.YthclgijnfopikaaGreatDoorSpec3
namespace Go.Proofs.YthclgijnfopikaaGreatDoor
/-- The field c of s in d. -/
def stepC (s : Cmd) (d : Cmd) (c : UInt8) : Cmd :=
  if c = 65 then { d with A := s.A } else if c = 66 then { d with B := s.B } else if c = 67 then { d with C := s.C } else if c = 78 then { d with N := s.N } else if c = 77 then { d with M := s.M }
  else if c = 83 then { d with S := s.S } else if c = 84 then { d with T := s.T } else if c = 68 then { d with data := s.data } else if c = 76 then { d with list := s.list } else if c = 75 then { d with names := s.names }
  else if c = 89 then { d with yes := s.yes } else d
/-- script.Plain. -/
def plainD (m : Cmd) : Cmd := (flds m.op).foldl (stepC m) (Cmd.zero m.op)
def letters : List UInt8 := [65, 66, 67, 78, 77, 83, 84, 68, 76, 75, 89]
theorem flds_letters : ∀ op : Nat, op < 45 → ∀ c ∈ flds op, c ∈ letters := by decide +kernel
theorem flds_letter {op : Nat} {c : UInt8} (h : c ∈ flds op) : c ∈ letters := by
  by_cases ho : op < 45
  · exact flds_letters op ho c h
  · rw [(word_out op (by omega)).2] at h; cases h
theorem foldl_take {α β : Type} (f : β → α → β) (b : β) (l : List α) (k : Nat) (h : k < l.length) : (l.take (k + 1)).foldl f b = f ((l.take k).foldl f b) l[k] := by
  rw [List.take_succ_eq_append_getElem h, List.foldl_append]; rfl
end Go.Proofs.YthclgijnfopikaaGreatDoor
