/- Commands, and how a line is read. -/
import Derived.Test.YthclgijnfopikaaGreatDoorSpec2
import Derived.Lib.IndexMore
namespace Go.Proofs.YthclgijnfopikaaGreatDoor
structure Cmd where
  op : Nat
  A : Int
  B : Int
  C : Int
  N : Int
  M : Int
  S : List UInt8
  T : List UInt8
  data : List Nat
  list : List Int
  names : List (List UInt8)
  yes : Bool
def Cmd.zero (op : Nat) : Cmd := ⟨op, 0, 0, 0, 0, 0, [], [], [], [], [], false⟩
/-- A field's reader: the command and what is behind the field. -/
abbrev Reader := UInt8 → List UInt8 → Cmd → Option (Cmd × List UInt8)
def cmdLoop (rd : Reader) : List UInt8 → List UInt8 → Cmd → Option (Cmd × List UInt8)
  | [], s, m => some (m, s)
  | c :: cs, s, m =>
    if Lib.hasPrefix s [32] = true then
      match rd c (Lib.trimPrefix s [32]) m with
      | some (m', s') => cmdLoop rd cs s' m'
      | none => none
    else none
/-- script.command. -/
def cmdD (rd : Reader) (s : List UInt8) : Option Cmd :=
  if findOp (str (Lib.cut s [32]).1) = 0 then none
  else match cmdLoop rd (flds (findOp (str (Lib.cut s [32]).1))) (s.drop (Lib.cut s [32]).1.length) (Cmd.zero (findOp (str (Lib.cut s [32]).1))) with
    | some (m, []) => some m
    | _ => none
/-- The numbers' reader. -/
def setNum (c : UInt8) (n : Int) (m : Cmd) : Cmd :=
  if c = 65 then { m with A := n } else if c = 66 then { m with B := n } else if c = 67 then { m with C := n } else if c = 78 then { m with N := n } else if c = 77 then { m with M := n } else m
def numOf (c : UInt8) (m : Cmd) : Int := if c = 65 then m.A else if c = 66 then m.B else if c = 67 then m.C else if c = 78 then m.N else if c = 77 then m.M else 0
def rdNum : Reader := fun c l m => (numD l).map fun x => (setNum c x.1 m, x.2)
end Go.Proofs.YthclgijnfopikaaGreatDoor
