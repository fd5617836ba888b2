/- Plain laws: a command's line is read back, and only it is. -/
import Derived.Test.YthclgijnfopikaaGreatDoorFieldLaw
import Derived.Lib.IndexMore
namespace Go.Proofs.YthclgijnfopikaaGreatDoor
theorem cut_fst : ∀ s : List UInt8, (Lib.cut s [32]).1 = s.takeWhile fun b => !(b == 32)
  | [] => rfl
  | b :: l => by
    have ih := cut_fst l
    by_cases hb : b = 32
    · subst hb; rfl
    · have hp : ([32] : List UInt8).isPrefixOf (b :: l) = false := by simp [List.isPrefixOf]; exact fun h => hb h.symm
      have hne : (!(b == 32)) = true := by simp [hb]
      rw [List.takeWhile_cons, if_pos hne, ← ih]
      unfold Lib.cut
      rw [Lib.index, hp]
      simp only [Bool.false_eq_true, if_false]
      by_cases hi : Lib.index l [32] = -1
      · have h1 : (Lib.index l [32] == -1) = true := by simp [hi]
        rw [h1, hi]
        rfl
      · have h1 : (Lib.index l [32] == -1) = false := by simpa using hi
        have hge : 0 ≤ Lib.index l [32] ∨ Lib.index l [32] = -1 := by
          clear ih h1 hi hp
          induction l with
          | nil => right; rfl
          | cons c r ih =>
            rw [Lib.index]
            split
            · left; decide
            · split
              · right; rfl
              · rename_i h
                rcases ih with h2 | h2
                · left; omega
                · rw [h2] at h; exact absurd rfl h
        have h0 : 0 ≤ Lib.index l [32] := by rcases hge with h | h; exact h; exact absurd h hi
        rw [h1]
        simp only [Bool.false_eq_true, if_false]
        rw [if_pos (by omega), if_pos h0]
        show (b :: l).take (Lib.index l [32] + 1).toNat = b :: l.take (Lib.index l [32]).toNat
        rw [show (Lib.index l [32] + 1).toNat = (Lib.index l [32]).toNat + 1 by omega]
        rfl
theorem word_no32 : ∀ op : Nat, op < 45 → ∀ c ∈ word op, (!(c == 32)) = true := by decide +kernel
theorem take_word {op : Nat} (h : op < 45) {t : List UInt8} (ht : t = [] ∨ ∃ r, t = 32 :: r) : (word op ++ t).takeWhile (fun b => !(b == 32)) = word op := by
  have : ∀ (w : List UInt8), (∀ c ∈ w, (!(c == 32)) = true) → (w ++ t).takeWhile (fun b => !(b == 32)) = w := by
    intro w
    induction w with
    | nil => intro _; rcases ht with rfl | ⟨r, rfl⟩ <;> rfl
    | cons c r ih =>
      intro h
      rw [List.cons_append, List.takeWhile_cons, if_pos (h c (List.mem_cons_self ..)), ih fun x hx => h x (List.mem_cons_of_mem _ hx)]
  exact this _ (word_no32 op h)
theorem take_while_split (p : UInt8 → Bool) : ∀ s : List UInt8, s = s.takeWhile p ++ s.drop (s.takeWhile p).length
  | [] => rfl
  | c :: r => by
    rw [List.takeWhile_cons]
    split
    · have := take_while_split p r
      simp only [List.length_cons, List.drop_succ_cons, List.cons_append]
      rw [← this]
    · rfl
theorem word_ne0 : ∀ c : Nat, c < 45 → 0 < c → word c ≠ [] := by decide +kernel
theorem word_inj0 : ∀ a : Nat, a < 45 → ∀ b : Nat, b < 45 → 0 < a → 0 < b → word a = word b → a = b := by decide +kernel
theorem word_zero0 : word 0 = [] := by decide +kernel
theorem str_eq0 {a b : List UInt8} (h : str a = str b) : a = b := by
  have := congrArg (fun s : ByteArray => s.data.toList) h
  simpa [str] using this
theorem word_some {op : Nat} (h : word op ≠ []) : 0 < op ∧ op < 45 := by
  refine ⟨?_, ?_⟩
  · rcases Nat.eq_zero_or_pos op with e | e
    · subst e; exact absurd word_zero0 h
    · exact e
  · rcases Nat.lt_or_ge op 45 with e | e
    · exact e
    · exact absurd (word_out op e).1 h
theorem find_word0 {a : Nat} (h0 : 0 < a) (h1 : a < 45) : findOp (str (word a)) = a :=
  findOp_at h0 h1 rfl (fun c hc h0' e => by have := word_inj0 c (by omega) a h1 h0' h0 (str_eq0 e); omega)
theorem word_find {s : ByteArray} (h : findOp s ≠ 0) : str (word (findOp s)) = s := by
  unfold findOp at h ⊢
  cases hf : (List.range 45).find? fun i => decide (0 < i) && decide (str (word i) = s) with
  | none => rw [hf] at h; exact absurd rfl h
  | some i =>
    have := List.find?_some hf
    simp only [Bool.and_eq_true, decide_eq_true_eq] at this
    exact this.2
theorem zeroF_step (m m0 : Cmd) {c c' : UInt8} (hc : c ∈ letters) (hne : c ≠ c') (h : ZeroF m0 c') : ZeroF (stepC m m0 c) c' := by
  obtain ⟨h1, h2, h3⟩ := h
  simp only [letters, List.mem_cons, List.not_mem_nil, or_false] at hc
  refine ⟨fun e => ?_, fun e => ?_, fun e => ?_⟩
  · subst e; rcases hc with rfl | rfl | rfl | rfl | rfl | rfl | rfl | rfl | rfl | rfl | rfl <;> first | exact absurd rfl hne | exact h1 rfl
  · subst e; rcases hc with rfl | rfl | rfl | rfl | rfl | rfl | rfl | rfl | rfl | rfl | rfl <;> first | exact absurd rfl hne | exact h2 rfl
  · subst e; rcases hc with rfl | rfl | rfl | rfl | rfl | rfl | rfl | rfl | rfl | rfl | rfl <;> first | exact absurd rfl hne | exact h3 rfl
theorem loop_yes {rd : Reader} {c : UInt8} {cs s : List UInt8} {m : Cmd} : cmdLoop rd (c :: cs) (32 :: s) m = match rd c s m with | some (m', s') => cmdLoop rd cs s' m' | none => none := by
  have h1 : Lib.hasPrefix (32 :: s) [32] = true := has_append [32] s
  have h2 : Lib.trimPrefix (32 :: s) [32] = s := trim_append [32] s
  rw [cmdLoop, if_pos h1, h2]
  rfl
theorem fold_ends (f : UInt8 → List UInt8) : ∀ cs : List UInt8, lineFold f cs = [] ∨ ∃ r, lineFold f cs = 32 :: r
  | [] => .inl rfl
  | c :: r => .inr ⟨_, rfl⟩
theorem loop_fold (m : Cmd) (hm : Fine m) : ∀ (cs : List UInt8) (m0 : Cmd), (∀ c ∈ cs, c ∈ letters) → cs.Nodup → (∀ c ∈ cs, ZeroF m0 c) → cmdLoop rdD cs (lineFold (wrD m) cs) m0 = some (cs.foldl (stepC m) m0, [])
  | [], m0, _, _, _ => rfl
  | c :: cs, m0, hl, hn, hz => by
    have hc := hl c (List.mem_cons_self ..)
    obtain ⟨hn1, hn2⟩ := List.nodup_cons.1 hn
    show cmdLoop rdD (c :: cs) (32 :: (wrD m c ++ lineFold (wrD m) cs)) m0 = _
    have he : Ends (lineFold (wrD m) cs) := by
      rcases fold_ends (wrD m) cs with h | ⟨r, h⟩ <;> rw [h]
      · exact ends_nil
      · exact ends_32 r
    rw [loop_yes, rd_wr m m0 hm hc (hz c (List.mem_cons_self ..)) _ he]
    simp only []
    rw [loop_fold m hm cs _ (fun x hx => hl x (List.mem_cons_of_mem _ hx)) hn2 fun x hx => zeroF_step m m0 hc (fun e => hn1 (by rw [e]; exact hx)) (hz x (List.mem_cons_of_mem _ hx))]
    rfl
theorem cmd_of_line (m : Cmd) (hm : Fine m) (h : word m.op ≠ []) : cmdD rdD (lineOut m.op (wrD m)) = some (plainD m) := by
  obtain ⟨h0, h1⟩ := word_some h
  have hw : (Lib.cut (lineOut m.op (wrD m)) [32]).1 = word m.op := by
    rw [cut_fst]
    unfold lineOut
    exact take_word h1 (fold_ends _ _)
  have hd : (lineOut m.op (wrD m)).drop (word m.op).length = lineFold (wrD m) (flds m.op) := by unfold lineOut; simp
  unfold cmdD
  rw [hw, find_word0 h0 h1, if_neg (by omega), hd, loop_fold m hm _ _ (fun _ h => flds_letter h) (flds_nodup' _) fun c _ => zeroF_zero _ c]
  rfl
theorem loop_back : ∀ (cs s : List UInt8) (m0 d : Cmd) (rest : List UInt8), (∀ c ∈ cs, c ∈ letters) → cs.Nodup → (∀ c ∈ cs, ZeroF m0 c) → s.length ≤ 1048576 → cmdLoop rdD cs s m0 = some (d, rest) →
    s = lineFold (wrD d) cs ++ rest ∧ cs.foldl (stepC d) m0 = d ∧ ∀ c ∈ cs, FineF d c
  | [], s, m0, d, rest, _, _, _, _, h => by
    simp only [cmdLoop, Option.some.injEq, Prod.mk.injEq] at h
    obtain ⟨rfl, rfl⟩ := h
    exact ⟨rfl, rfl, fun c hc => by cases hc⟩
  | c :: cs, s, m0, d, rest, hl, hn, hz, hs, h => by
    have hc := hl c (List.mem_cons_self ..)
    obtain ⟨hn1, hn2⟩ := List.nodup_cons.1 hn
    have hp : Lib.hasPrefix s [32] = true := by
      cases hp : Lib.hasPrefix s [32] with
      | true => rfl
      | false => rw [cmdLoop, hp] at h; cases h
    have hs' := trim_of hp
    obtain ⟨t, ht⟩ : ∃ t, t = Lib.trimPrefix s [32] := ⟨_, rfl⟩
    rw [← ht] at hs'
    subst hs'
    have h : cmdLoop rdD (c :: cs) (32 :: t) m0 = some (d, rest) := h
    rw [loop_yes] at h
    have htl : t.length ≤ 1048576 := by simp at hs; omega
    cases hr : rdD c t m0 with
    | none => rw [hr] at h; cases h
    | some x =>
      obtain ⟨m1, s2⟩ := x
      rw [hr] at h
      obtain ⟨e1, e2, e3⟩ := wr_rd hc (hz c (List.mem_cons_self ..)) htl hr
      have hs2 : s2.length ≤ 1048576 := by rw [e1] at htl; simp at htl; omega
      have hz1 : ∀ x ∈ cs, ZeroF m1 x := fun x hx => by
        rw [← e2]
        exact zeroF_step m1 m0 hc (fun e => hn1 (by rw [e]; exact hx)) (hz x (List.mem_cons_of_mem _ hx))
      obtain ⟨i1, i2, i3⟩ := loop_back cs s2 m1 d rest (fun x hx => hl x (List.mem_cons_of_mem _ hx)) hn2 hz1 hs2 h
      have hf : ∀ z, stepC d z c = stepC m1 z c := fun z => by
        conv => lhs; rw [← i2]
        exact fold_no d z hc cs m1 (fun x hx => hl x (List.mem_cons_of_mem _ hx)) hn1
      have hw : wrD d c = wrD m1 c := by rw [← wrD_step d d hc, hf, wrD_step m1 d hc]
      refine ⟨?_, ?_, ?_⟩
      · show [32] ++ t = 32 :: (wrD d c ++ lineFold (wrD d) cs) ++ rest
        rw [e1, i1, hw]
        simp
      · rw [List.foldl_cons, hf, e2, i2]
      · intro x hx
        rcases List.mem_cons.1 hx with rfl | hx
        · unfold FineF; rw [hf]; exact e3
        · exact i3 x hx
theorem fine_fold (d : Cmd) : ∀ (l : List UInt8) (d0 : Cmd), (∀ c ∈ l, c ∈ letters) → (∀ c ∈ l, FineF d c) → Fine d0 → Fine (l.foldl (stepC d) d0)
  | [], _, _, _, h => h
  | c :: r, d0, hl, hf, h => by
    rw [List.foldl_cons]
    refine fine_fold d r _ (fun x hx => hl x (List.mem_cons_of_mem _ hx)) (fun x hx => hf x (List.mem_cons_of_mem _ hx)) ?_
    rw [← step_same d (Cmd.zero 0) d0 (hl c (List.mem_cons_self ..))]
    exact fine_step _ d0 c (hf c (List.mem_cons_self ..)) h
theorem line_of_cmd {s : List UInt8} {d : Cmd} (hs : s.length ≤ 1048576) (h : cmdD rdD s = some d) : s = lineOut d.op (wrD d) ∧ plainD d = d ∧ Fine d ∧ word d.op ≠ [] := by
  unfold cmdD at h
  rw [cut_fst] at h
  obtain ⟨w, hw⟩ : ∃ w, w = s.takeWhile fun b => !(b == 32) := ⟨_, rfl⟩
  have hsp := take_while_split (fun b => !(b == 32)) s
  rw [← hw] at h hsp
  split at h
  · cases h
  · rename_i h0
    have hwd := str_eq0 (word_find h0)
    have hlt := findOp_lt (str w)
    obtain ⟨op, hop⟩ : ∃ op, op = findOp (str w) := ⟨_, rfl⟩
    rw [← hop] at h h0 hwd hlt
    split at h
    · rename_i m hl
      injection h with h
      subst h
      obtain ⟨i1, i2, i3⟩ := loop_back _ _ _ _ _ (fun _ h => flds_letter h) (flds_nodup' op) (fun c _ => zeroF_zero _ c) (by simp; omega) hl
      have ho : m.op = op := by rw [← i2, fold_op]; rfl
      refine ⟨?_, ?_, ?_, ?_⟩
      · rw [hsp]
        unfold lineOut
        rw [ho, hwd, i1]
        simp
      · unfold plainD; rw [ho]; exact i2
      · rw [← i2]
        exact fine_fold m _ _ (fun _ h => flds_letter h) i3 (fine_zero op (by omega))
      · rw [ho]; exact word_ne0 op hlt (by omega)
    · cases h
end Go.Proofs.YthclgijnfopikaaGreatDoor
