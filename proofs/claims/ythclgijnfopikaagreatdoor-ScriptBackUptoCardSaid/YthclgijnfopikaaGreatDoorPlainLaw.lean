/- Plain laws: a command without the fields that its op has not. -/
import Derived.Test.YthclgijnfopikaaGreatDoorSpec8
namespace Go.Proofs.YthclgijnfopikaaGreatDoor
theorem op_ite {a b : Cmd} {n : Nat} {p : Prop} [Decidable p] (ha : a.op = n) (hb : b.op = n) : (if p then a else b).op = n := by split <;> assumption
theorem step_op (s d : Cmd) (c : UInt8) : (stepC s d c).op = d.op := by
  unfold stepC
  repeat' (refine op_ite rfl ?_)
  rfl
theorem fold_op (s : Cmd) : ∀ (l : List UInt8) (d : Cmd), (l.foldl (stepC s) d).op = d.op
  | [], _ => rfl
  | c :: r, d => by rw [List.foldl_cons, fold_op s r, step_op]
theorem plainD_op (m : Cmd) : (plainD m).op = m.op := fold_op m _ _
theorem step_same (m d z : Cmd) {c : UInt8} (hc : c ∈ letters) : stepC (stepC m d c) z c = stepC m z c := by
  simp only [letters, List.mem_cons, List.not_mem_nil, or_false] at hc
  rcases hc with rfl | rfl | rfl | rfl | rfl | rfl | rfl | rfl | rfl | rfl | rfl <;> rfl
theorem step_other (m d z : Cmd) {c c' : UInt8} (hc : c ∈ letters) (hc' : c' ∈ letters) (hne : c' ≠ c) : stepC (stepC m d c') z c = stepC d z c := by
  simp only [letters, List.mem_cons, List.not_mem_nil, or_false] at hc hc'
  rcases hc with rfl | rfl | rfl | rfl | rfl | rfl | rfl | rfl | rfl | rfl | rfl <;> rcases hc' with rfl | rfl | rfl | rfl | rfl | rfl | rfl | rfl | rfl | rfl | rfl <;> first | rfl | exact absurd rfl hne
theorem fold_no (m z : Cmd) {c : UInt8} (hc : c ∈ letters) : ∀ (l : List UInt8) (d : Cmd), (∀ x ∈ l, x ∈ letters) → c ∉ l → stepC (l.foldl (stepC m) d) z c = stepC d z c
  | [], _, _, _ => rfl
  | x :: r, d, hl, hn => by
    rw [List.foldl_cons, fold_no m z hc r _ (fun y hy => hl y (List.mem_cons_of_mem _ hy)) (fun h => hn (List.mem_cons_of_mem _ h))]
    exact step_other m d z hc (hl x (List.mem_cons_self ..)) (fun e => hn (by rw [e]; exact List.mem_cons_self ..))
theorem fold_yes (m z : Cmd) {c : UInt8} (hc : c ∈ letters) : ∀ (l : List UInt8) (d : Cmd), (∀ x ∈ l, x ∈ letters) → c ∈ l → stepC (l.foldl (stepC m) d) z c = stepC m z c
  | x :: r, d, hl, hi => by
    rw [List.foldl_cons]
    have hr : ∀ y ∈ r, y ∈ letters := fun y hy => hl y (List.mem_cons_of_mem _ hy)
    by_cases h : c ∈ r
    · exact fold_yes m z hc r _ hr h
    · rw [fold_no m z hc r _ hr h]
      rcases List.mem_cons.1 hi with rfl | h'
      · exact step_same m d z hc
      · exact absurd h' h
theorem plainD_field (m z : Cmd) {c : UInt8} (hc : c ∈ flds m.op) : stepC (plainD m) z c = stepC m z c :=
  fold_yes m z (flds_letter hc) _ _ (fun _ h => flds_letter h) hc
theorem fold_congr {a b : Cmd} : ∀ (l : List UInt8) (d : Cmd), (∀ c ∈ l, ∀ z, stepC a z c = stepC b z c) → l.foldl (stepC a) d = l.foldl (stepC b) d
  | [], _, _ => rfl
  | c :: r, d, h => by
    rw [List.foldl_cons, List.foldl_cons, h c (List.mem_cons_self ..), fold_congr r _ fun x hx => h x (List.mem_cons_of_mem _ hx)]
theorem plainD_plainD (m : Cmd) : plainD (plainD m) = plainD m := by
  unfold plainD
  have e := plainD_op m
  unfold plainD at e
  rw [e]
  exact fold_congr _ _ fun c hc z => plainD_field m z hc
theorem wrD_step (m d : Cmd) {c : UInt8} (hc : c ∈ letters) : wrD (stepC m d c) c = wrD m c := by
  simp only [letters, List.mem_cons, List.not_mem_nil, or_false] at hc
  rcases hc with rfl | rfl | rfl | rfl | rfl | rfl | rfl | rfl | rfl | rfl | rfl <;> rfl
theorem wrD_plain (m : Cmd) {c : UInt8} (hc : c ∈ flds m.op) : wrD (plainD m) c = wrD m c := by
  rw [← wrD_step (plainD m) m (flds_letter hc), plainD_field m m hc, wrD_step m m (flds_letter hc)]
theorem lineFold_congr {f g : UInt8 → List UInt8} {cs : List UInt8} (h : ∀ c ∈ cs, f c = g c) : lineFold f cs = lineFold g cs := by
  unfold lineFold
  induction cs with
  | nil => rfl
  | cons c r ih =>
    rw [List.flatMap_cons, List.flatMap_cons, h c (List.mem_cons_self ..), ih fun x hx => h x (List.mem_cons_of_mem _ hx)]
theorem lineD_congr {op : Nat} {f g : UInt8 → List UInt8} (h : ∀ c ∈ flds op, f c = g c) : lineD op f = lineD op g := by
  unfold lineD lineOut
  rw [lineFold_congr h]
theorem lineD_plain (m : Cmd) : lineD (plainD m).op (wrD (plainD m)) = lineD m.op (wrD m) := by
  rw [plainD_op]
  exact lineD_congr fun c hc => wrD_plain m hc
theorem fine_step (s d : Cmd) (c : UInt8) (hs : Fine s) (hd : Fine d) : Fine (stepC s d c) := by
  have ite : ∀ {a b : Cmd} {p : Prop} [Decidable p], Fine a → Fine b → Fine (if p then a else b) := fun ha hb => by split <;> assumption
  unfold stepC
  refine ite ⟨hd.op, hs.A, hd.B, hd.C, hd.N, hd.M, hd.S, hd.T, hd.data, hd.list, hd.names, hd.units, hd.ints, hd.texts, hd.total⟩ ?_
  refine ite ⟨hd.op, hd.A, hs.B, hd.C, hd.N, hd.M, hd.S, hd.T, hd.data, hd.list, hd.names, hd.units, hd.ints, hd.texts, hd.total⟩ ?_
  refine ite ⟨hd.op, hd.A, hd.B, hs.C, hd.N, hd.M, hd.S, hd.T, hd.data, hd.list, hd.names, hd.units, hd.ints, hd.texts, hd.total⟩ ?_
  refine ite ⟨hd.op, hd.A, hd.B, hd.C, hs.N, hd.M, hd.S, hd.T, hd.data, hd.list, hd.names, hd.units, hd.ints, hd.texts, hd.total⟩ ?_
  refine ite ⟨hd.op, hd.A, hd.B, hd.C, hd.N, hs.M, hd.S, hd.T, hd.data, hd.list, hd.names, hd.units, hd.ints, hd.texts, hd.total⟩ ?_
  refine ite ⟨hd.op, hd.A, hd.B, hd.C, hd.N, hd.M, hs.S, hd.T, hd.data, hd.list, hd.names, hd.units, hd.ints, hd.texts, hd.total⟩ ?_
  refine ite ⟨hd.op, hd.A, hd.B, hd.C, hd.N, hd.M, hd.S, hs.T, hd.data, hd.list, hd.names, hd.units, hd.ints, hd.texts, hd.total⟩ ?_
  refine ite ⟨hd.op, hd.A, hd.B, hd.C, hd.N, hd.M, hd.S, hd.T, hs.data, hd.list, hd.names, hs.units, hd.ints, hd.texts, hd.total⟩ ?_
  refine ite ⟨hd.op, hd.A, hd.B, hd.C, hd.N, hd.M, hd.S, hd.T, hd.data, hs.list, hd.names, hd.units, hs.ints, hd.texts, hd.total⟩ ?_
  refine ite ⟨hd.op, hd.A, hd.B, hd.C, hd.N, hd.M, hd.S, hd.T, hd.data, hd.list, hs.names, hd.units, hd.ints, hs.texts, hs.total⟩ ?_
  exact ite ⟨hd.op, hd.A, hd.B, hd.C, hd.N, hd.M, hd.S, hd.T, hd.data, hd.list, hd.names, hd.units, hd.ints, hd.texts, hd.total⟩ hd
theorem fine_zero (op : Nat) (h : op < 256) : Fine (Cmd.zero op) := by
  have z : inI64 0 := ⟨by decide, by decide⟩
  exact ⟨h, z, z, z, z, z, by simp [Cmd.zero], by simp [Cmd.zero], by simp [Cmd.zero], by simp [Cmd.zero], by simp [Cmd.zero], fun x hx => by simp [Cmd.zero] at hx, fun x hx => by simp [Cmd.zero] at hx, fun x hx => by simp [Cmd.zero] at hx, by simp [Cmd.zero]⟩
theorem fine_plain (m : Cmd) (h : Fine m) : Fine (plainD m) := by
  unfold plainD
  have : ∀ (l : List UInt8) (d : Cmd), Fine d → Fine (l.foldl (stepC m) d) := by
    intro l
    induction l with
    | nil => intro d hd; exact hd
    | cons c r ih => intro d hd; exact ih _ (fine_step m d c h hd)
  exact this _ _ (fine_zero _ h.op)
end Go.Proofs.YthclgijnfopikaaGreatDoor
