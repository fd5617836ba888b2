/- The reader of a script. -/
import Derived.Test.YthclgijnfopikaaGreatDoorSpec3
namespace Go.Proofs.YthclgijnfopikaaGreatDoor
structure RS where
  left : List UInt8
  at_ : Int
  many : Int
  why : Int
/-- What is left behind a line. -/
def RS.lineD (r : RS) : Option (List UInt8) × RS :=
  if (Lib.cut r.left [10]).2.2 = true then (some (Lib.cut r.left [10]).1, ⟨(Lib.cut r.left [10]).2.1, r.at_ + 1, r.many, r.why⟩) else (none, ⟨r.left, r.at_ + 1, r.many, 20⟩)
def RS.after (r : RS) (o : Option Cmd) : RS :=
  ⟨r.left, r.at_, r.many + 1, if o = none then 20 else if 8192 < r.many + 1 then 3 else r.why⟩
/-- The reader reads a command. -/
def RS.cmdD (rd : Reader) (l : List UInt8) (r : RS) : Option Cmd × RS :=
  (if (r.after (Proofs.YthclgijnfopikaaGreatDoor.cmdD rd l)).why = 0 then Proofs.YthclgijnfopikaaGreatDoor.cmdD rd l else none, r.after (Proofs.YthclgijnfopikaaGreatDoor.cmdD rd l))
/-- The commands up to the end; n: at least as many lines as are left. -/
def mainD (rd : Reader) : Nat → List Cmd → RS → List Cmd × RS
  | 0, acc, r => (acc, r)
  | n + 1, acc, r =>
    if r.left = [] then (acc, r)
    else match r.lineD with
      | (none, r1) => ([], r1)
      | (some l, r1) => match r1.cmdD rd l with
        | (none, r2) => ([], r2)
        | (some m, r2) => mainD rd n (acc ++ [m]) r2
def progD (rd : Reader) : Nat → List Cmd → RS → List Cmd × RS
  | 0, acc, r => (acc, r)
  | n + 1, acc, r =>
    match r.lineD with
      | (none, r1) => (acc, r1)
      | (some l, r1) => if l = [101, 110, 100] then (acc, r1) else match r1.cmdD rd l with
        | (none, r2) => ([], r2)
        | (some m, r2) => progD rd n (acc ++ [m]) r2
structure Script where
  cmds : List Cmd
  progs : List (List Cmd)
  fuel : Int
def Script.zero : Script := ⟨[], [], 0⟩
def loopD (rd : Reader) : Nat → List (List Cmd) → RS → List (List Cmd) × List Cmd × RS
  | 0, ps, r => (ps, [], r)
  | n + 1, ps, r =>
    if r.why ≠ 0 then (ps, [], r)
    else match r.lineD with
      | (none, r1) => (ps, [], r1)
      | (some l, r1) =>
        if l = [109, 97, 105, 110] then (ps, mainD rd r1.left.length [] r1)
        else if l ≠ [112, 114, 111, 103, 114, 97, 109] then (ps, [], ⟨r1.left, r1.at_, r1.many, 20⟩)
        else if ps.length = 256 then (ps, [], ⟨r1.left, r1.at_, r1.many, 3⟩)
        else loopD rd n (ps ++ [(progD rd (r1.left.length + 1) [] r1).1]) (progD rd (r1.left.length + 1) [] r1).2
def fuelD (l : List UInt8) (r : RS) : Int × RS :=
  (((numD (Lib.trimPrefix l [102, 117, 101, 108, 32])).map (·.1)).getD 0,
    if Lib.hasPrefix l [102, 117, 101, 108, 32] = true ∧ (numD (Lib.trimPrefix l [102, 117, 101, 108, 32])).isSome = true ∧ ((numD (Lib.trimPrefix l [102, 117, 101, 108, 32])).map (·.2)).getD [] = [] then r else ⟨r.left, r.at_, r.many, 20⟩)
def scriptD (rd : Reader) (r : RS) : Script × RS :=
  let (o, r1) := r.lineD
  let (f, r2) := fuelD (o.getD []) r1
  let (ps, cs, r3) := loopD rd (r2.left.length + 1) [] r2
  (⟨cs, ps, f⟩, r3)
/-- script.Parse. -/
def parseD (rd : Reader) (t : List UInt8) : Script × Int × Int :=
  if 1048576 < t.length then (Script.zero, 4, 0)
  else let (s, r) := scriptD rd ⟨t, 0, 0, 0⟩
    if r.why ≠ 0 then (Script.zero, r.why, r.at_) else (s, 0, 0)
end Go.Proofs.YthclgijnfopikaaGreatDoor
