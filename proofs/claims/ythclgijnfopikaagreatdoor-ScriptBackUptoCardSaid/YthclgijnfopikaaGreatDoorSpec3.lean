/- Commands, and how a line is read. -/
import Derived.Test.YthclgijnfopikaaGreatDoorSpec2
import Derived.Lib.IndexMore
namespace Go.Proofs.YthclgijnfopikaaGreatDoor
structure Cmd where
  op : Nat
  A : Int
  B : Int
  C : Int
  N : Int
  M : Int
  S : List UInt8
  T : List UInt8
  data : List Nat
  list : List Int
  names : List (List UInt8)
  yes : Bool
def Cmd.zero (op : Nat) : Cmd := ⟨op, 0, 0, 0, 0, 0, [], [], [], [], [], false⟩
def inI64 (n : Int) : Prop := -9223372036854775808 ≤ n ∧ n ≤ 9223372036854775807
/-- A command that is not too large. -/
structure Fine (m : Cmd) : Prop where
  op : m.op < 256
  A : inI64 m.A
  B : inI64 m.B
  C : inI64 m.C
  N : inI64 m.N
  M : inI64 m.M
  S : m.S.length ≤ 1048576
  T : m.T.length ≤ 1048576
  data : m.data.length ≤ 1048576
  list : m.list.length ≤ 1048576
  names : m.names.length ≤ 1048576
  units : ∀ x ∈ m.data, x < 65536
  ints : ∀ x ∈ m.list, inI64 x
  texts : ∀ x ∈ m.names, x.length ≤ 1048576
  total : (m.names.map List.length).sum ≤ 1048576

/-- A field's reader: the command and what is behind the field. -/
abbrev Reader := UInt8 → List UInt8 → Cmd → Option (Cmd × List UInt8)
def cmdLoop (rd : Reader) : List UInt8 → List UInt8 → Cmd → Option (Cmd × List UInt8)
  | [], s, m => some (m, s)
  | c :: cs, s, m =>
    if Lib.hasPrefix s [32] = true then
      match rd c (Lib.trimPrefix s [32]) m with
      | some (m', s') => cmdLoop rd cs s' m'
      | none => none
    else none
/-- script.command. -/
def cmdD (rd : Reader) (s : List UInt8) : Option Cmd :=
  if findOp (str (Lib.cut s [32]).1) = 0 then none
  else match cmdLoop rd (flds (findOp (str (Lib.cut s [32]).1))) (s.drop (Lib.cut s [32]).1.length) (Cmd.zero (findOp (str (Lib.cut s [32]).1))) with
    | some (m, []) => some m
    | _ => none
/-- The numbers' reader. -/
def setNum (c : UInt8) (n : Int) (m : Cmd) : Cmd :=
  if c = 65 then { m with A := n } else if c = 66 then { m with B := n } else if c = 67 then { m with C := n } else if c = 78 then { m with N := n } else if c = 77 then { m with M := n } else m
def numOf (c : UInt8) (m : Cmd) : Int := if c = 65 then m.A else if c = 66 then m.B else if c = 67 then m.C else if c = 78 then m.N else if c = 77 then m.M else 0
def rdNum : Reader := fun c l m => (numD l).map fun x => (setNum c x.1 m, x.2)
/-- The field c of m0 is as it was at the start. -/
def ZeroF (m0 : Cmd) (c : UInt8) : Prop := (c = 76 → m0.list = []) ∧ (c = 75 → m0.names = []) ∧ (c = 89 → m0.yes = false)
theorem zeroF_zero (op : Nat) (c : UInt8) : ZeroF (Cmd.zero op) c := ⟨fun _ => rfl, fun _ => rfl, fun _ => rfl⟩
theorem flds_nodup : ∀ op : Nat, op < 45 → (flds op).Nodup := by decide +kernel
theorem flds_nodup' (op : Nat) : (flds op).Nodup := by
  rcases Nat.lt_or_ge op 45 with e | e
  · exact flds_nodup op e
  · rw [(word_out op e).2]; exact List.nodup_nil
/-- A reader of the field c leaves no more than it was given, and other fields as they were. -/
def KeepsZ (rd : Reader) (c : UInt8) : Prop := ∀ l m m2 r2, rd c l m = some (m2, r2) → r2.length ≤ l.length ∧ ∀ c', c' ≠ c → ZeroF m c' → ZeroF m2 c'
end Go.Proofs.YthclgijnfopikaaGreatDoor
