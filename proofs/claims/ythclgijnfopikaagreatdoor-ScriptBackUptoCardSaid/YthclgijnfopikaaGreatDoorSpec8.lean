/- How fields are read. -/
import Derived.Test.YthclgijnfopikaaGreatDoorSpec7
namespace Go.Proofs.YthclgijnfopikaaGreatDoor
/-- What hexadecimal digits say behind u; none: one is none. -/
def hexsD : List UInt8 → Nat → Option Nat
  | [], u => some u
  | c :: r, u => if Lib.indexByte hexL c < 0 then none else hexsD r (u * 16 + (Lib.indexByte hexL c).toNat)
/-- script.unquote behind the first mark: the units, and what is behind. -/
def unqD (dg : Nat) (lt : UInt8) : List UInt8 → List Nat → Option (List Nat × List UInt8)
  | [], _ => none
  | c :: r, acc =>
    if c = 34 then some (acc, r)
    else if bareU c.toNat = true then unqD dg lt r (acc ++ [c.toNat])
    else if c ≠ 92 then none
    else match r with
      | [] => none
      | e :: r2 =>
        if e = 34 ∨ e = 92 then unqD dg lt r2 (acc ++ [e.toNat])
        else if e ≠ lt ∨ r2.length < dg then none
        else match hexsD (r2.take dg) 0 with
          | none => none
          | some u => if plainU u = true then none else unqD dg lt (r2.drop dg) (acc ++ [u])
termination_by s => s.length
decreasing_by all_goals (simp only [List.length_cons, List.length_drop]; omega)
/-- script.unquote. -/
def unquoteD (dg : Nat) (lt : UInt8) : List UInt8 → Option (List Nat × List UInt8)
  | [] => none
  | c :: r => if c = 34 then unqD dg lt r [] else none
/-- script.items behind the bracket and the first item's begin. -/
def itemsL {α : Type} (one : List UInt8 → Option (α × List UInt8)) (s : List UInt8) (acc : List α) : Option (List α × List UInt8) :=
  match one s with
  | none => none
  | some (x, r) => match r with
    | [] => none
    | c :: t => if c = 93 then some (acc ++ [x], t) else if c = 32 then (if t.length < s.length then itemsL one t (acc ++ [x]) else none) else none
termination_by s.length
/-- script.items. -/
def itemsD {α : Type} (one : List UInt8 → Option (α × List UInt8)) (s : List UInt8) : Option (List α × List UInt8) :=
  match s with
  | [] => none
  | c :: r => if c = 91 then (match r with
    | [] => itemsL one [] []
    | e :: t => if e = 93 then some ([], t) else itemsL one (e :: t) []) else none
def bytesOf (l : List Nat) : List UInt8 := l.map UInt8.ofNat
def textD (s : List UInt8) : Option (List UInt8 × List UInt8) := (unquoteD 2 120 s).map fun x => (bytesOf x.1, x.2)
def yesD (s : List UInt8) : Option (Bool × List UInt8) :=
  if Lib.hasPrefix s [121, 101, 115] = true then some (true, Lib.trimPrefix s [121, 101, 115]) else if Lib.hasPrefix s [110, 111] = true then some (false, Lib.trimPrefix s [110, 111]) else none
/-- How the field c is read. -/
def rdD : Reader := fun c s m =>
  if c = 83 then (textD s).map fun x => ({ m with S := x.1 }, x.2)
  else if c = 84 then (textD s).map fun x => ({ m with T := x.1 }, x.2)
  else if c = 68 then (unquoteD 4 117 s).map fun x => ({ m with data := x.1 }, x.2)
  else if c = 76 then (itemsD numD s).map fun x => ({ m with list := m.list ++ x.1 }, x.2)
  else if c = 75 then (itemsD textD s).map fun x => ({ m with names := m.names ++ x.1 }, x.2)
  else if c = 89 then (yesD s).map fun x => ({ m with yes := m.yes || x.1 }, x.2)
  else (numD s).map fun x => (setNum c x.1 m, x.2)
end Go.Proofs.YthclgijnfopikaaGreatDoor
