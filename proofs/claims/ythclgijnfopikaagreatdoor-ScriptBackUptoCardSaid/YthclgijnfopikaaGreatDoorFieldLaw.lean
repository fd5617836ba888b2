/- Plain laws: what a field is written as is read back, and only it is. -/
import Derived.Test.YthclgijnfopikaaGreatDoorUnqLaw
import Derived.Test.YthclgijnfopikaaGreatDoorNumLaw
import Derived.Test.YthclgijnfopikaaGreatDoorPlainLaw
import Derived.Lib.ItoaLen
namespace Go.Proofs.YthclgijnfopikaaGreatDoor
/-! ### lists -/
theorem itemsL_all {α : Type} (one : List UInt8 → Option (α × List UInt8)) (w : α → List UInt8) (rest : List UInt8) : ∀ (l : List α) (acc : List α), l ≠ [] →
    (∀ x ∈ l, ∀ r, (∃ t, r = 93 :: t) ∨ (∃ t, r = 32 :: t) → one (w x ++ r) = some (x, r)) → itemsL one (joinD (l.map w) ++ 93 :: rest) acc = some (acc ++ l, rest)
  | [], _, h, _ => absurd rfl h
  | [x], acc, _, h => by
    have h1 := h x (List.mem_cons_self ..) (93 :: rest) (.inl ⟨_, rfl⟩)
    show itemsL one (w x ++ 93 :: rest) acc = _
    rw [itemsL.eq_def, h1]
    simp only [if_true]
  | x :: y :: r, acc, _, h => by
    have ih := itemsL_all one w rest (y :: r) (acc ++ [x]) (by simp) fun z hz => h z (List.mem_cons_of_mem _ hz)
    have e : joinD ((x :: y :: r).map w) ++ 93 :: rest = w x ++ 32 :: (joinD ((y :: r).map w) ++ 93 :: rest) := by simp [joinD]
    have h1 := h x (List.mem_cons_self ..) (32 :: (joinD ((y :: r).map w) ++ 93 :: rest)) (.inr ⟨_, rfl⟩)
    rw [e, itemsL.eq_def, h1]
    simp only [show ((32 : UInt8) = 93) = False by simp, if_false, if_true]
    rw [if_pos (by simp; omega), ih]
    simp
theorem itemsL_back {α : Type} (one : List UInt8 → Option (α × List UInt8)) (w : α → List UInt8) (P : α → Prop) (h1 : ∀ s x r, one s = some (x, r) → s = w x ++ r ∧ P x) : ∀ (n : Nat) (s : List UInt8) (acc l : List α) (rest : List UInt8), s.length ≤ n →
    itemsL one s acc = some (l, rest) → ∃ l', l' ≠ [] ∧ l = acc ++ l' ∧ s = joinD (l'.map w) ++ 93 :: rest ∧ ∀ x ∈ l', P x
  | n, s, acc, l, rest, hn, h => by
    rw [itemsL.eq_def] at h
    cases ho : one s with
    | none => rw [ho] at h; cases h
    | some xr =>
      obtain ⟨x, r⟩ := xr
      rw [ho] at h
      obtain ⟨rfl, hp⟩ := h1 s x r ho
      cases r with
      | nil => cases h
      | cons c t =>
        simp only [] at h
        by_cases h93 : c = 93
        · subst h93
          simp only [if_true, Option.some.injEq, Prod.mk.injEq] at h
          obtain ⟨rfl, rfl⟩ := h
          exact ⟨[x], by simp, rfl, by simp [joinD], fun y hy => by simp at hy; subst hy; exact hp⟩
        · rw [if_neg h93] at h
          by_cases h32 : c = 32
          · subst h32
            rw [if_pos rfl] at h
            split at h
            · rename_i hlt
              cases n with
              | zero => omega
              | succ n =>
                obtain ⟨l', hne, rfl, rfl, hl⟩ := itemsL_back one w P h1 n t _ _ _ (by omega) h
                refine ⟨x :: l', by simp, by simp, ?_, ?_⟩
                · cases l' with
                  | nil => exact absurd rfl hne
                  | cons y r => simp [joinD]
                · intro z hz
                  rcases List.mem_cons.1 hz with rfl | hz
                  · exact hp
                  · exact hl z hz
            · cases h
          · rw [if_neg h32] at h; cases h
theorem items_all {α : Type} (one : List UInt8 → Option (α × List UInt8)) (w : α → List UInt8) (rest : List UInt8) (l : List α) (hw : ∀ x ∈ l, ∃ c t, w x = c :: t ∧ c ≠ 93)
    (h : ∀ x ∈ l, ∀ r, (∃ t, r = 93 :: t) ∨ (∃ t, r = 32 :: t) → one (w x ++ r) = some (x, r)) : itemsD one (91 :: joinD (l.map w) ++ [93] ++ rest) = some (l, rest) := by
  cases l with
  | nil => rfl
  | cons x r =>
    obtain ⟨c, t, hc, h93⟩ := hw x (List.mem_cons_self ..)
    have hj : ∃ t', joinD ((x :: r).map w) ++ 93 :: rest = c :: t' := by
      cases r with
      | nil => exact ⟨t ++ 93 :: rest, by simp [joinD, hc]⟩
      | cons y r => exact ⟨_, by simp only [List.map_cons, joinD, hc, List.cons_append]; rfl⟩
    obtain ⟨t', ht'⟩ := hj
    have e : 91 :: joinD ((x :: r).map w) ++ [93] ++ rest = 91 :: (c :: t') := by rw [← ht']; simp
    have hl := itemsL_all one w rest (x :: r) [] (by simp) h
    rw [ht'] at hl
    rw [e]
    show (if (91 : UInt8) = 91 then (if c = 93 then some ([], t') else itemsL one (c :: t') []) else none) = _
    rw [if_pos rfl, if_neg h93, hl]
    rfl
theorem items_back {α : Type} (one : List UInt8 → Option (α × List UInt8)) (w : α → List UInt8) (P : α → Prop) (h1 : ∀ s x r, one s = some (x, r) → s = w x ++ r ∧ P x) {s : List UInt8} {l : List α} {rest : List UInt8} (h : itemsD one s = some (l, rest)) :
    s = 91 :: joinD (l.map w) ++ [93] ++ rest ∧ ∀ x ∈ l, P x := by
  unfold itemsD at h
  split at h
  · cases h
  · rename_i c r
    split at h
    · rename_i hc
      subst hc
      split at h
      · rename_i hr
        obtain ⟨l', hne, rfl, hs, hl⟩ := itemsL_back one w P h1 _ _ _ _ _ (Nat.le_refl _) h
        exact absurd (congrArg List.length hs) (by simp)
      · rename_i e t
        split at h
        · rename_i he
          subst he
          simp only [Option.some.injEq, Prod.mk.injEq] at h
          obtain ⟨rfl, rfl⟩ := h
          exact ⟨by simp [joinD], fun x hx => by cases hx⟩
        · obtain ⟨l', hne, rfl, hs, hl⟩ := itemsL_back one w P h1 _ _ _ _ _ (Nat.le_refl _) h
          exact ⟨by rw [hs]; simp, by simpa using hl⟩
    · cases h

/-! ### texts -/
theorem nums_of_bytes {l : List Nat} (h : ∀ x ∈ l, x < 256) : nums (bytesOf l) = l := by
  unfold nums bytesOf
  rw [List.map_map]
  refine (List.map_congr_left fun x hx => ?_).trans (List.map_id _)
  exact toNat_ofNat8 (h x hx)
theorem bytes_of_nums (l : List UInt8) : bytesOf (nums l) = l := by
  unfold nums bytesOf
  rw [List.map_map]
  exact (List.map_congr_left fun x _ => by simp).trans (List.map_id _)
theorem text_txt (s rest : List UInt8) : textD (txtD s ++ rest) = some (s, rest) := by
  unfold textD txtD
  rw [unquote_quote (by decide) _ _ fun x hx => by
    obtain ⟨c, _, rfl⟩ := List.mem_map.1 hx
    exact Nat.lt_of_lt_of_le c.toNat_lt (by decide)]
  simp [bytes_of_nums]
theorem txt_text {s t rest : List UInt8} (h : textD s = some (t, rest)) : s = txtD t ++ rest := by
  unfold textD at h
  rw [Option.map_eq_some_iff] at h
  obtain ⟨⟨l, r⟩, h1, h2⟩ := h
  simp only [Prod.mk.injEq] at h2
  obtain ⟨rfl, rfl⟩ := h2
  obtain ⟨h3, h4⟩ := quote_unquote (by decide) h1
  unfold txtD
  rw [nums_of_bytes h4]
  exact h3
theorem trim_of {s p : List UInt8} (h : Lib.hasPrefix s p = true) : s = p ++ Lib.trimPrefix s p := by
  unfold Lib.trimPrefix
  rw [if_pos h]
  unfold Lib.hasPrefix at h
  obtain ⟨t, rfl⟩ := List.isPrefixOf_iff_prefix.1 h
  simp
theorem has_append (p r : List UInt8) : Lib.hasPrefix (p ++ r) p = true := List.isPrefixOf_iff_prefix.2 ⟨r, rfl⟩
theorem trim_append (p r : List UInt8) : Lib.trimPrefix (p ++ r) p = r := by unfold Lib.trimPrefix; rw [if_pos (has_append p r)]; simp

/-! ### fields -/
theorem txtD_head (x : List UInt8) : ∃ c t, txtD x = c :: t ∧ c ≠ 93 := ⟨34, _, rfl, by decide⟩
theorem itoa_head (n : Int) : ∃ c t, Lib.itoa n = c :: t ∧ c ≠ 93 := by
  have hp := itoa_pos n
  cases h : Lib.itoa n with
  | nil => rw [h] at hp; simp at hp
  | cons c t =>
    refine ⟨c, t, rfl, ?_⟩
    rintro rfl
    have := itoa_at n 0 hp
    simp only [h, List.getElem_cons_zero] at this
    revert this; decide
theorem rd_wr (m m0 : Cmd) (hm : Fine m) {c : UInt8} (hc : c ∈ letters) (hz : ZeroF m0 c) (rest : List UInt8) (hr : Ends rest) : rdD c (wrD m c ++ rest) m0 = some (stepC m m0 c, rest) := by
  obtain ⟨hz1, hz2, hz3⟩ := hz
  simp only [letters, List.mem_cons, List.not_mem_nil, or_false] at hc
  rcases hc with rfl | rfl | rfl | rfl | rfl | rfl | rfl | rfl | rfl | rfl | rfl
  · show (numD (Lib.itoa m.A ++ rest)).map (fun x => (setNum 65 x.1 m0, x.2)) = _
    rw [numD_itoa m.A hm.A.1 hm.A.2 rest hr]; rfl
  · show (numD (Lib.itoa m.B ++ rest)).map (fun x => (setNum 66 x.1 m0, x.2)) = _
    rw [numD_itoa m.B hm.B.1 hm.B.2 rest hr]; rfl
  · show (numD (Lib.itoa m.C ++ rest)).map (fun x => (setNum 67 x.1 m0, x.2)) = _
    rw [numD_itoa m.C hm.C.1 hm.C.2 rest hr]; rfl
  · show (numD (Lib.itoa m.N ++ rest)).map (fun x => (setNum 78 x.1 m0, x.2)) = _
    rw [numD_itoa m.N hm.N.1 hm.N.2 rest hr]; rfl
  · show (numD (Lib.itoa m.M ++ rest)).map (fun x => (setNum 77 x.1 m0, x.2)) = _
    rw [numD_itoa m.M hm.M.1 hm.M.2 rest hr]; rfl
  · show (textD (txtD m.S ++ rest)).map (fun x => ({ m0 with S := x.1 }, x.2)) = _
    rw [text_txt]; rfl
  · show (textD (txtD m.T ++ rest)).map (fun x => ({ m0 with T := x.1 }, x.2)) = _
    rw [text_txt]; rfl
  · show (unquoteD 4 117 (quoteD 4 117 m.data ++ rest)).map (fun x => ({ m0 with data := x.1 }, x.2)) = _
    rw [unquote_quote (by decide) _ _ fun x hx => hm.units x hx]; rfl
  · show (itemsD numD (91 :: joinD (m.list.map Lib.itoa) ++ [93] ++ rest)).map (fun x => ({ m0 with list := m0.list ++ x.1 }, x.2)) = _
    rw [items_all numD Lib.itoa rest m.list (fun x _ => itoa_head x) fun x hx r h => numD_itoa x (hm.ints x hx).1 (hm.ints x hx).2 r (by rcases h with ⟨t, rfl⟩ | ⟨t, rfl⟩; exact ends_93 t; exact ends_32 t), hz1 rfl]
    rfl
  · show (itemsD textD (91 :: joinD (m.names.map txtD) ++ [93] ++ rest)).map (fun x => ({ m0 with names := m0.names ++ x.1 }, x.2)) = _
    rw [items_all textD txtD rest m.names (fun x _ => txtD_head x) fun x hx r h => text_txt x r, hz2 rfl]
    rfl
  · show (yesD ((if m.yes then [121, 101, 115] else [110, 111]) ++ rest)).map (fun x => ({ m0 with yes := m0.yes || x.1 }, x.2)) = _
    rw [hz3 rfl]
    cases hy : m.yes with
    | true =>
      have e : yesD ([121, 101, 115] ++ rest) = some (true, rest) := by unfold yesD; rw [if_pos (has_append _ _), trim_append]
      rw [if_pos rfl, e]
      show some ({ m0 with yes := false || true }, rest) = some ({ m0 with yes := m.yes }, rest)
      rw [hy]; rfl
    | false =>
      have e : yesD ([110, 111] ++ rest) = some (false, rest) := by
        unfold yesD
        rw [if_neg (by simp [Lib.hasPrefix, List.isPrefixOf]), if_pos (has_append _ _), trim_append]
      rw [if_neg (by simp), e]
      show some ({ m0 with yes := false || false }, rest) = some ({ m0 with yes := m.yes }, rest)
      rw [hy]; rfl
/-- What a field that was read is. -/
def FineF (m : Cmd) (c : UInt8) : Prop := Fine (stepC m (Cmd.zero 0) c)
theorem flat_ge {α : Type} (f : α → List UInt8) (h : ∀ x, 1 ≤ (f x).length) : ∀ l : List α, l.length ≤ (l.flatMap f).length
  | [] => by simp
  | x :: r => by
    have := flat_ge f h r
    have := h x
    simp only [List.flatMap_cons, List.length_append, List.length_cons]
    omega
theorem quoteD_ge (dg : Nat) (lt : UInt8) (l : List Nat) : l.length + 2 ≤ (quoteD dg lt l).length := by
  have := flat_ge (escD dg lt) (fun x => by unfold escD; split; simp; split; simp; simp) l
  unfold quoteD
  simp only [List.length_append, List.length_cons, List.length_nil]
  omega
theorem joinD_ge {α : Type} (w : α → List UInt8) (k : α → Nat) (h : ∀ x, k x + 1 ≤ (w x).length) : ∀ l : List α, (l.map k).sum + l.length ≤ (joinD (l.map w)).length
  | [] => by simp [joinD]
  | [x] => by have := h x; simp [joinD]; omega
  | x :: y :: r => by
    have ih := joinD_ge w k h (y :: r)
    have := h x
    simp only [List.map_cons, joinD, List.length_append, List.length_cons, List.sum_cons] at ih ⊢
    omega
theorem atoi_in {v : Int} (h : Lib.atoiAll (Lib.itoa v) = .ok v) : inI64 v := by
  unfold Lib.atoiAll at h
  split at h
  · cases h
  · rename_i c r
    simp only [] at h
    split at h
    · cases h
    · cases h
    · rename_i u hu
      have := Lib.parseMag_lt hu
      split at h
      · cases h
      · split at h
        · cases h
        · rename_i h1 h2
          injection h with h
          split at h
          · exact ⟨by omega, by omega⟩
          · exact ⟨by omega, by omega⟩
theorem wr_rd {s rest : List UInt8} {m0 m1 : Cmd} {c : UInt8} (hc : c ∈ letters) (hz : ZeroF m0 c) (hs : s.length ≤ 1048576) (h : rdD c s m0 = some (m1, rest)) : s = wrD m1 c ++ rest ∧ stepC m1 m0 c = m1 ∧ FineF m1 c := by
  obtain ⟨hz1, hz2, hz3⟩ := hz
  have f0 := fine_zero 0 (by decide)
  have num : ∀ (c : UInt8), (c = 65 ∨ c = 66 ∨ c = 67 ∨ c = 78 ∨ c = 77) → (numD s).map (fun x => (setNum c x.1 m0, x.2)) = some (m1, rest) → s = wrD m1 c ++ rest ∧ stepC m1 m0 c = m1 ∧ FineF m1 c := by
    intro c hc h
    rw [Option.map_eq_some_iff] at h
    obtain ⟨⟨v, r⟩, h1, h2⟩ := h
    simp only [Prod.mk.injEq] at h2
    obtain ⟨rfl, rfl⟩ := h2
    obtain ⟨h3, h4⟩ := itoa_numD h1
    have hi := atoi_in h4
    rcases hc with rfl | rfl | rfl | rfl | rfl
    · exact ⟨h3, rfl, f0.op, hi, f0.B, f0.C, f0.N, f0.M, f0.S, f0.T, f0.data, f0.list, f0.names, f0.units, f0.ints, f0.texts, f0.total⟩
    · exact ⟨h3, rfl, f0.op, f0.A, hi, f0.C, f0.N, f0.M, f0.S, f0.T, f0.data, f0.list, f0.names, f0.units, f0.ints, f0.texts, f0.total⟩
    · exact ⟨h3, rfl, f0.op, f0.A, f0.B, hi, f0.N, f0.M, f0.S, f0.T, f0.data, f0.list, f0.names, f0.units, f0.ints, f0.texts, f0.total⟩
    · exact ⟨h3, rfl, f0.op, f0.A, f0.B, f0.C, hi, f0.M, f0.S, f0.T, f0.data, f0.list, f0.names, f0.units, f0.ints, f0.texts, f0.total⟩
    · exact ⟨h3, rfl, f0.op, f0.A, f0.B, f0.C, f0.N, hi, f0.S, f0.T, f0.data, f0.list, f0.names, f0.units, f0.ints, f0.texts, f0.total⟩
  simp only [letters, List.mem_cons, List.not_mem_nil, or_false] at hc
  rcases hc with rfl | rfl | rfl | rfl | rfl | rfl | rfl | rfl | rfl | rfl | rfl
  · exact num 65 (by simp) h
  · exact num 66 (by simp) h
  · exact num 67 (by simp) h
  · exact num 78 (by simp) h
  · exact num 77 (by simp) h
  · have h : (textD s).map (fun x => ({ m0 with S := x.1 }, x.2)) = some (m1, rest) := h
    rw [Option.map_eq_some_iff] at h
    obtain ⟨⟨v, r⟩, h1, h2⟩ := h
    simp only [Prod.mk.injEq] at h2
    obtain ⟨rfl, rfl⟩ := h2
    have h3 := txt_text h1
    have hg := quoteD_ge 2 120 (nums v)
    have hl : v.length ≤ 1048576 := by rw [h3] at hs; simp only [List.length_append, txtD] at hs; have : (nums v).length = v.length := by simp [nums]
                                       omega
    exact ⟨h3, rfl, f0.op, f0.A, f0.B, f0.C, f0.N, f0.M, hl, f0.T, f0.data, f0.list, f0.names, f0.units, f0.ints, f0.texts, f0.total⟩
  · have h : (textD s).map (fun x => ({ m0 with T := x.1 }, x.2)) = some (m1, rest) := h
    rw [Option.map_eq_some_iff] at h
    obtain ⟨⟨v, r⟩, h1, h2⟩ := h
    simp only [Prod.mk.injEq] at h2
    obtain ⟨rfl, rfl⟩ := h2
    have h3 := txt_text h1
    have hg := quoteD_ge 2 120 (nums v)
    have hl : v.length ≤ 1048576 := by rw [h3] at hs; simp only [List.length_append, txtD] at hs; have : (nums v).length = v.length := by simp [nums]
                                       omega
    exact ⟨h3, rfl, f0.op, f0.A, f0.B, f0.C, f0.N, f0.M, f0.S, hl, f0.data, f0.list, f0.names, f0.units, f0.ints, f0.texts, f0.total⟩
  · have h : (unquoteD 4 117 s).map (fun x => ({ m0 with data := x.1 }, x.2)) = some (m1, rest) := h
    rw [Option.map_eq_some_iff] at h
    obtain ⟨⟨v, r⟩, h1, h2⟩ := h
    simp only [Prod.mk.injEq] at h2
    obtain ⟨rfl, rfl⟩ := h2
    obtain ⟨h3, h4⟩ := quote_unquote (by decide) h1
    have hg := quoteD_ge 4 117 v
    have hl : v.length ≤ 1048576 := by rw [h3] at hs; simp only [List.length_append] at hs; omega
    exact ⟨h3, rfl, f0.op, f0.A, f0.B, f0.C, f0.N, f0.M, f0.S, f0.T, hl, f0.list, f0.names, fun x hx => h4 x hx, f0.ints, f0.texts, f0.total⟩
  · have h : (itemsD numD s).map (fun x => ({ m0 with list := m0.list ++ x.1 }, x.2)) = some (m1, rest) := h
    rw [Option.map_eq_some_iff, hz1 rfl] at h
    obtain ⟨⟨v, r⟩, h1, h2⟩ := h
    simp only [Prod.mk.injEq, List.nil_append] at h2
    obtain ⟨rfl, rfl⟩ := h2
    obtain ⟨h3, h4⟩ := items_back numD Lib.itoa inI64 (fun s x r h => ⟨(itoa_numD h).1, atoi_in (itoa_numD h).2⟩) h1
    have hg := joinD_ge Lib.itoa (fun _ => 0) (fun x => by have := itoa_pos x; omega) v
    have hl : v.length ≤ 1048576 := by rw [h3] at hs; simp only [List.length_append, List.length_cons] at hs; omega
    exact ⟨h3, rfl, f0.op, f0.A, f0.B, f0.C, f0.N, f0.M, f0.S, f0.T, f0.data, hl, f0.names, f0.units, h4, f0.texts, f0.total⟩
  · have h : (itemsD textD s).map (fun x => ({ m0 with names := m0.names ++ x.1 }, x.2)) = some (m1, rest) := h
    rw [Option.map_eq_some_iff, hz2 rfl] at h
    obtain ⟨⟨v, r⟩, h1, h2⟩ := h
    simp only [Prod.mk.injEq, List.nil_append] at h2
    obtain ⟨rfl, rfl⟩ := h2
    obtain ⟨h3, h4⟩ := items_back textD txtD (fun _ => True) (fun s x r h => ⟨txt_text h, trivial⟩) h1
    have hg := joinD_ge txtD List.length (fun x => by
      have := quoteD_ge 2 120 (nums x)
      have e : (nums x).length = x.length := by simp [nums]
      unfold txtD; omega) v
    have hl : (v.map List.length).sum + v.length ≤ 1048576 := by rw [h3] at hs; simp only [List.length_append, List.length_cons] at hs; omega
    have hx : ∀ x ∈ v, x.length ≤ 1048576 := fun x hx => by
      have : ∀ (l : List (List UInt8)), x ∈ l → x.length ≤ (l.map List.length).sum := by
        intro l
        induction l with
        | nil => intro h; cases h
        | cons a r ih =>
          intro h
          simp only [List.map_cons, List.sum_cons]
          rcases List.mem_cons.1 h with rfl | h
          · omega
          · have := ih h; omega
      have := this v hx
      omega
    exact ⟨h3, rfl, f0.op, f0.A, f0.B, f0.C, f0.N, f0.M, f0.S, f0.T, f0.data, f0.list, (by show v.length ≤ _; omega), f0.units, f0.ints, hx, (by show (v.map List.length).sum ≤ _; omega)⟩
  · have h : (yesD s).map (fun x => ({ m0 with yes := m0.yes || x.1 }, x.2)) = some (m1, rest) := h
    rw [Option.map_eq_some_iff, hz3 rfl] at h
    obtain ⟨⟨v, r⟩, h1, h2⟩ := h
    simp only [Prod.mk.injEq, Bool.false_or] at h2
    obtain ⟨rfl, rfl⟩ := h2
    refine ⟨?_, rfl, f0.op, f0.A, f0.B, f0.C, f0.N, f0.M, f0.S, f0.T, f0.data, f0.list, f0.names, f0.units, f0.ints, f0.texts, f0.total⟩
    show s = (if v then [121, 101, 115] else [110, 111]) ++ r
    unfold yesD at h1
    split at h1
    · rename_i hp
      simp only [Option.some.injEq, Prod.mk.injEq] at h1
      obtain ⟨rfl, rfl⟩ := h1
      exact trim_of hp
    · split at h1
      · rename_i hp
        simp only [Option.some.injEq, Prod.mk.injEq] at h1
        obtain ⟨rfl, rfl⟩ := h1
        exact trim_of hp
      · cases h1
end Go.Proofs.YthclgijnfopikaaGreatDoor
