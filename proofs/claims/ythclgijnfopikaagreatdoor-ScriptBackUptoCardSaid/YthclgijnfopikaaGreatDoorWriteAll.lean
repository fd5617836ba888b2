/- All fields are written as wrD says. -/
import Derived.Test.YthclgijnfopikaaGreatDoorWriters
namespace Go.Proofs.YthclgijnfopikaaGreatDoor
open Go.RowKit

theorem fw_text (b : Nat) (v : Value) (w : World) : (Instr.field 63 (.agg #[.func (.func 84) #[] #[.pointer (some ⟨b, 0, none⟩)], v]) 0).run Tryz.prog w = .ok (.func (.func 84) #[] #[.pointer (some ⟨b, 0, none⟩)]) w := by kernel_rfl
theorem fr_text (b : Nat) (v : Value) (w : World) : (Instr.field 63 (.agg #[v, .func (.func 86) #[] #[.pointer (some ⟨b, 0, none⟩)]]) 1).run Tryz.prog w = .ok (.func (.func 86) #[] #[.pointer (some ⟨b, 0, none⟩)]) w := by kernel_rfl
theorem fw_plain (f : Nat) (v : Value) (w : World) : (Instr.field 63 (.agg #[.func (.func f) #[] #[], v]) 0).run Tryz.prog w = .ok (.func (.func f) #[] #[]) w := by kernel_rfl
theorem fr_plain (f : Nat) (v : Value) (w : World) : (Instr.field 63 (.agg #[v, .func (.func f) #[] #[]]) 1).run Tryz.prog w = .ok (.func (.func f) #[] #[]) w := by kernel_rfl
theorem leads6 : Leads 59 6 := at6_calls
theorem leads7 : Leads 60 7 := at7_calls
/-- The text fields' place. -/
theorem text_place {lo hi r : Nat} {W : World} (hF : IsFields lo hi W r) {c : UInt8} (hc : c = 83 ∨ c = 84) (m : Cmd) (vD vL vK : Value) :
    ∃ b g i, (Instr.lookup 58 (.map (some r)) (.int .i32 c.toNat) false).run Tryz.prog W = .ok (textV b) W ∧ W.heap[b]? = some (tbox g) ∧ Leads g i ∧ (∀ args w, (callFunc g args).run Tryz.prog w = .ok (.enter g args) w) ∧
      (cmdCells m vD vL vK)[i]? = some (.string (str (if c = 83 then m.S else m.T))) ∧ (∀ s, (cmdCells m vD vL vK).setIfInBounds i (.string (str s)) = cmdCells (if c = 83 then { m with S := s } else { m with T := s }) vD vL vK) := by
  obtain ⟨b1, b2, b3, b4, b5, b6, b7, h0, hr, ⟨x1, _⟩, ⟨x2, _⟩, ⟨x3, _⟩, ⟨x4, _⟩, ⟨x5, _⟩, ⟨x6, _⟩, ⟨x7, _⟩⟩ := hF.is
  rcases hc with rfl | rfl
  · exact ⟨b6, _, 6, run_lookup_i32 Tryz.underlying58 Tryz.underlying21 h0 83 5 (textV b6) rfl, x6, leads6, enters_at _ (by simp), rfl, fun s => rfl⟩
  · exact ⟨b7, _, 7, run_lookup_i32 Tryz.underlying58 Tryz.underlying21 h0 84 6 (textV b7) rfl, x7, leads7, enters_at _ (by simp), rfl, fun s => rfl⟩
theorem plain_place {lo hi r : Nat} {W : World} (hF : IsFields lo hi W r) :
    (Instr.lookup 58 (.map (some r)) (.int .i32 68) false).run Tryz.prog W = .ok (plainV 61 62) W ∧
    (Instr.lookup 58 (.map (some r)) (.int .i32 76) false).run Tryz.prog W = .ok (plainV 63 64) W ∧
    (Instr.lookup 58 (.map (some r)) (.int .i32 75) false).run Tryz.prog W = .ok (plainV 65 66) W ∧
    (Instr.lookup 58 (.map (some r)) (.int .i32 89) false).run Tryz.prog W = .ok (plainV 67 68) W := by
  obtain ⟨b1, b2, b3, b4, b5, b6, b7, h0, hr, _⟩ := hF.is
  exact ⟨run_lookup_i32 Tryz.underlying58 Tryz.underlying21 h0 68 7 _ rfl, run_lookup_i32 Tryz.underlying58 Tryz.underlying21 h0 76 8 _ rfl,
    run_lookup_i32 Tryz.underlying58 Tryz.underlying21 h0 75 9 _ rfl, run_lookup_i32 Tryz.underlying58 Tryz.underlying21 h0 89 10 _ rfl⟩
theorem numOf_in {m : Cmd} (hm : Fine m) {c : UInt8} (hc : isNum c) : inI64 (numOf c m) := by
  rcases hc with rfl | rfl | rfl | rfl | rfl
  · exact hm.A
  · exact hm.B
  · exact hm.C
  · exact hm.N
  · exact hm.M
theorem wrD_num (m : Cmd) {c : UInt8} (hc : isNum c) : wrD m c = Lib.itoa (numOf c m) := by rcases hc with rfl | rfl | rfl | rfl | rfl <;> rfl
theorem writeOk_all {ok : Nat → Prop} (m : Cmd) (hm : Fine m) (cv : Array Value) (w0 : World) (hkv : KV w0 ok cv m) {c : UInt8} (hc : c ∈ letters) : WriteOk w0 cv (wrD m) c := by
  obtain ⟨vD, vL, vK, rfl, d1, d2, d3⟩ := hkv
  by_cases hn : isNum c
  · exact write_num w0 m vD vL vK (wrD m) c hn (wrD_num m hn) (numOf_in hm hn)
  · simp only [letters, List.mem_cons, List.not_mem_nil, or_false] at hc
    have hc' : (c = 83 ∨ c = 84) ∨ c = 68 ∨ c = 76 ∨ c = 75 ∨ c = 89 := by
      simp only [isNum, not_or] at hn
      rcases hc with h | h | h | h | h | h | h | h | h | h | h
      · exact absurd h hn.1
      · exact absurd h hn.2.1
      · exact absurd h hn.2.2.1
      · exact absurd h hn.2.2.2.1
      · exact absurd h hn.2.2.2.2
      · exact .inl (.inl h)
      · exact .inl (.inr h)
      · exact .inr (.inl h)
      · exact .inr (.inr (.inl h))
      · exact .inr (.inr (.inr (.inl h)))
      · exact .inr (.inr (.inr (.inr h)))
    clear hc hn
    have hk : ∀ W, Below w0.heap.size w0 W → ∀ g c t f, ok g → w0.heap[g]? = some (Obj.cells c t f) → W.heap[g]? = w0.heap[g]? ∧ True := fun W hb g _ _ _ _ e => ⟨hb.block g (bk_lt e), trivial⟩
    rcases hc' with hc | rfl | rfl | rfl | rfl
    · intro W B lo hi' r cb hG hb hF hC
      obtain ⟨b, g, i, hl, hbx, hL, he, hv, _⟩ := text_place hF hc m vD vL vK
      refine ⟨84, #[.pointer (some ⟨b, 0, none⟩)], _, hl, enters_of Tryz.func84 (by kernel_rfl) rfl, fun w => fw_text b _ w, ?_⟩
      have hs : (if c = 83 then m.S else m.T).length ≤ 1048576 := by split; exact hm.S; exact hm.T
      have h := text1_calls hL he cb b (str (if c = 83 then m.S else m.T)) (by show (List.toArray _).size ≤ _; rw [List.size_toArray]; omega) W (bk_cell hbx 0) ((bk_cell hC i).trans hv)
      rw [data_str] at h
      have e : wrD m c = quoteD 2 120 (nums (if c = 83 then m.S else m.T)) := by rcases hc with rfl | rfl <;> rfl
      rw [e]
      exact h
    · intro W B lo hi' r cb hG hb hF hC
      refine ⟨61, #[], _, (plain_place hF).1, enters_of Tryz.func61 (by kernel_rfl) rfl, fun w => fw_plain _ _ w, ?_⟩
      exact writeData_calls cb m.data (by have := hm.data; omega) hm.units vD W (bk_cell hC 8) (d1.kept (hk W hb))
    · intro W B lo hi' r cb hG hb hF hC
      refine ⟨63, #[], _, (plain_place hF).2.1, enters_of Tryz.func63 (by kernel_rfl) rfl, fun w => fw_plain _ _ w, ?_⟩
      exact writeList_calls cb m.list (by have := hm.list; omega) hm.ints vL W hG (bk_cell hC 9) (d2.kept (hk W hb))
    · intro W B lo hi' r cb hG hb hF hC
      refine ⟨65, #[], _, (plain_place hF).2.2.1, enters_of Tryz.func65 (by kernel_rfl) rfl, fun w => fw_plain _ _ w, ?_⟩
      exact writeNames_calls cb m.names hm.names hm.texts vK W (bk_cell hC 10) (d3.kept (hk W hb))
    · intro W B lo hi' r cb hG hb hF hC
      refine ⟨67, #[], _, (plain_place hF).2.2.2, enters_of Tryz.func67 (by kernel_rfl) rfl, fun w => fw_plain _ _ w, ?_⟩
      exact (writeYes_calls cb m.yes W (bk_cell hC 11)).mono fun e w' ⟨h1, h2⟩ => ⟨h1, by rw [← h2]; exact Below.refl _ _⟩
theorem joinD_txt : ∀ l : List (List UInt8), (joinD (l.map txtD)).length ≤ 4 * (l.map List.length).sum + 3 * l.length
  | [] => by simp [joinD]
  | [x] => by
    have h2 := quoteD_len 2 120 (nums x)
    have h3 : (nums x).length = x.length := by simp [nums]
    simp only [List.map_cons, List.map_nil, joinD, txtD, List.sum_cons, List.sum_nil, List.length_cons, List.length_nil]
    omega
  | x :: y :: r => by
    have ih := joinD_txt (y :: r)
    have h2 := quoteD_len 2 120 (nums x)
    have h3 : (nums x).length = x.length := by simp [nums]
    simp only [List.map_cons, joinD, List.length_append, List.length_cons, List.sum_cons] at ih ⊢
    have h4 : (txtD x).length ≤ 4 * x.length + 2 := by unfold txtD; omega
    omega
theorem joinD_itoa (l : List Int) (h : ∀ x ∈ l, inI64 x) : (joinD (l.map Lib.itoa)).length ≤ l.length * 22 := by
  have := joinD_len 21 (l.map Lib.itoa) fun x hx => by
    obtain ⟨z, hz, rfl⟩ := List.mem_map.1 hx
    exact Lib.itoa_length_le z (h z hz).1 (h z hz).2
  simpa using this
theorem wrD_len (m : Cmd) (hm : Fine m) (c : UInt8) (hc : c ∈ letters) : (wrD m c).length ≤ 1073741824 := by
  by_cases hn : isNum c
  · rw [wrD_num m hn]
    have hi := numOf_in hm hn
    exact Nat.le_trans (Lib.itoa_length_le _ hi.1 hi.2) (by omega)
  · have hS := hm.S
    have hT := hm.T
    have hd := hm.data
    have hl := hm.list
    have hk := hm.names
    have ht := hm.total
    have q1 := quoteD_len 2 120 (nums m.S)
    have q2 := quoteD_len 2 120 (nums m.T)
    have q3 := quoteD_len 4 117 m.data
    have q4 := joinD_itoa m.list hm.ints
    have q5 := joinD_txt m.names
    have e1 : (nums m.S).length = m.S.length := by simp [nums]
    have e2 : (nums m.T).length = m.T.length := by simp [nums]
    have w1 : wrD m 83 = quoteD 2 120 (nums m.S) := rfl
    have w2 : wrD m 84 = quoteD 2 120 (nums m.T) := rfl
    have w3 : wrD m 68 = quoteD 4 117 m.data := rfl
    have w4 : wrD m 76 = 91 :: joinD (m.list.map Lib.itoa) ++ [93] := rfl
    have w5 : wrD m 75 = 91 :: joinD (m.names.map txtD) ++ [93] := rfl
    simp only [letters, List.mem_cons, List.not_mem_nil, or_false] at hc
    rcases hc with rfl | rfl | rfl | rfl | rfl | rfl | rfl | rfl | rfl | rfl | rfl
    · exact absurd (by simp [isNum]) hn
    · exact absurd (by simp [isNum]) hn
    · exact absurd (by simp [isNum]) hn
    · exact absurd (by simp [isNum]) hn
    · exact absurd (by simp [isNum]) hn
    · rw [w1]; omega
    · rw [w2]; omega
    · rw [w3]; omega
    · rw [w4]; simp only [List.length_append, List.length_cons, List.length_nil]; omega
    · rw [w5]; simp only [List.length_append, List.length_cons, List.length_nil]; omega
    · have e : wrD m 89 = if m.yes then [121, 101, 115] else [110, 111] := rfl
      rw [e]
      split <;> simp
theorem letter_lt {c : UInt8} (hc : c ∈ letters) : c.toNat < 128 := by
  simp only [letters, List.mem_cons, List.not_mem_nil, or_false] at hc
  rcases hc with rfl | rfl | rfl | rfl | rfl | rfl | rfl | rfl | rfl | rfl | rfl <;> decide
/-- script.Line. -/
theorem line_all {B : Nat} {ok : Nat → Prop} (m : Cmd) (hm : Fine m) (cs : Array Value) (w : World) (hG : Glob B w) (hkv : KV w ok cs m) : Calls Tryz.prog 9 #[.agg cs] w (LinePost (lineD m.op (wrD m)) w) := by
  have hkv' := hkv
  obtain ⟨vD, vL, vK, rfl, _⟩ := hkv'
  by_cases h : word m.op = []
  · have e : lineD m.op (wrD m) = ([], 23) := by unfold lineD; rw [if_pos h]
    rw [e]
    exact line_none m.op _ _ _ _ _ _ _ _ _ _ _ h w
  · exact line_some m.op _ _ _ _ _ _ _ _ _ _ _ h (wrD m) w hG fun c hc => ⟨letter_lt (flds_letter hc), wrD_len m hm c (flds_letter hc), writeOk_all m hm _ w hkv (flds_letter hc)⟩
end Go.Proofs.YthclgijnfopikaaGreatDoor
