/- The walk of the law package's begins. -/
import Derived.Test.YthclgijnfopikaaGreatDoorParse
namespace Go.Proofs.YthclgijnfopikaaGreatDoor
open Go.RowKit

instance (c : UInt8) : Decidable (isNum c) := by unfold isNum; infer_instance
theorem numD_len {l r : List UInt8} {n : Int} (h : numD l = some (n, r)) : r.length ≤ l.length := by
  unfold numD at h
  split at h
  · split at h
    · injection h with h; injection h with h1 h2; rw [← h2]; simp
    · cases h
  · cases h
theorem isNum_lt {c : UInt8} (h : isNum c) : c.toNat < 128 := by rcases h with rfl | rfl | rfl | rfl | rfl <;> decide
theorem zeroF_num (c : UInt8) (n : Int) (m : Cmd) {c' : UInt8} (h : ZeroF m c') : ZeroF (setNum c n m) c' := by
  have ite : ∀ {a b : Cmd} {p : Prop} [Decidable p], ZeroF a c' → ZeroF b c' → ZeroF (if p then a else b) c' := fun ha hb => by split <;> assumption
  unfold setNum
  exact ite ⟨h.1, h.2.1, h.2.2⟩ (ite ⟨h.1, h.2.1, h.2.2⟩ (ite ⟨h.1, h.2.1, h.2.2⟩ (ite ⟨h.1, h.2.1, h.2.2⟩ (ite ⟨h.1, h.2.1, h.2.2⟩ h))))
theorem covered_num {l : List UInt8} (h : ∀ c, c ∈ flds (findOp (str (Lib.cut l [32]).1)) → isNum c) : Covered rdNum l := fun c hc =>
  ⟨isNum_lt (h c hc), read_num rdNum c (h c hc) (fun _ _ => rfl), fun l m m2 r2 hr => by
    unfold rdNum at hr
    cases hn : numD l with
    | none => rw [hn] at hr; cases hr
    | some x => rw [hn] at hr; simp at hr; obtain ⟨h1, h2⟩ := hr; subst h1 h2; exact ⟨numD_len (n := x.1) hn, fun c' _ hz => zeroF_num c x.1 m hz⟩⟩
/-- The check of all the lines that a text could give. -/
def covB (t : List UInt8) : Bool := (List.range (t.length + 1)).all fun k => (flds (findOp (str (Lib.cut (Lib.cut (t.drop k) [10]).1 [32]).1))).all fun c => decide (isNum c)
def npB (t : List UInt8) : Bool := (List.range (t.length + 1)).all fun k => decide ((Lib.cut (t.drop k) [10]).1 ≠ [112, 114, 111, 103, 114, 97, 109])
theorem drop_min (t : List UInt8) (k : Nat) : ∃ j, j ∈ List.range (t.length + 1) ∧ t.drop k = t.drop j := by
  by_cases h : k ≤ t.length
  · exact ⟨k, List.mem_range.2 (by omega), rfl⟩
  · exact ⟨t.length, List.mem_range.2 (by omega), by rw [List.drop_of_length_le (by omega), List.drop_of_length_le (Nat.le_refl _)]⟩
theorem cov_of {t : List UInt8} (h : covB t = true) : Cov rdNum t := fun k => by
  obtain ⟨j, hj, e⟩ := drop_min t k
  rw [e]
  refine covered_num fun c hc => ?_
  have := List.all_eq_true.1 (List.all_eq_true.1 h j hj) c hc
  simpa using this
theorem np_of {t : List UInt8} (h : npB t = true) : NoProg t := fun k => by
  obtain ⟨j, hj, e⟩ := drop_min t k
  rw [e]
  simpa using List.all_eq_true.1 h j hj

def t1 : List UInt8 := [102, 117, 101, 108, 32, 49, 48, 10, 109, 97, 105, 110, 10, 115, 105, 103, 110, 97, 108, 10]
def t2 : List UInt8 := [102, 117, 101, 108, 32, 49, 10]
def l1 : List UInt8 := [105, 110, 115, 101, 114, 116, 32, 48, 51, 32, 49, 32, 48]
def l0 : List UInt8 := [105, 110, 115, 101, 114, 116, 32, 51, 32, 49, 32, 48]
def ins : Cmd := ⟨7, 3, 1, 0, 0, 0, [], [], [], [], [], false⟩
theorem t1_cov : covB t1 = true := by decide +kernel
theorem t2_cov : covB t2 = true := by decide +kernel
theorem t1_np : npB t1 = true := by decide +kernel
theorem t2_np : npB t2 = true := by decide +kernel
theorem l1_cov : ∀ c, c ∈ flds (findOp (str (Lib.cut l1 [32]).1)) → isNum c := by decide +kernel
theorem t1_is : (fun d : Script × Int × Int => (d.1.cmds.length, d.1.progs.length, d.1.fuel, d.2)) (parseD rdNum t1) = (1, 0, 10, 0, 0) := by decide +kernel
theorem t2_is : (fun d : Script × Int × Int => (d.1.cmds.length, d.1.progs.length, d.1.fuel, d.2)) (parseD rdNum t2) = (0, 0, 0, 20, 2) := by decide +kernel
theorem l1_is : (cmdD rdNum l1).isNone = true := by decide +kernel
theorem l0_is : lineD 7 (fun c => Lib.itoa (numOf c ins)) = (l0, 0) := by decide +kernel
theorem dump_is : findOp (str [100, 117, 109, 112]) = 44 := by decide +kernel

theorem line_begins {B : Nat} (W : World) (hG : Glob B W) : Calls Tryz.prog 9 #[.agg #[.int .u8 7, .int .i64 3, .int .i64 1, .int .i64 0, .int .i64 0, .int .i64 0, .string ⟨#[]⟩, .string ⟨#[]⟩, .slice none 0 0, .slice none 0 0, .slice none 0 0, .bool false]] W fun e w' =>
    e = .returned (.tuple #[.string (str l0), .int .i64 0]) ∧ Below W.heap.size W w' := by
  have h := line_some 7 (.int .i64 3) (.int .i64 1) (.int .i64 0) (.int .i64 0) (.int .i64 0) (.string ⟨#[]⟩) (.string ⟨#[]⟩) (.slice none 0 0) (.slice none 0 0) (.slice none 0 0) (.bool false) (by decide +kernel)
    (fun c => Lib.itoa (numOf c ins)) W hG (fun c hc => by
      have hin : c ∈ [65, 66, 67] := by have e : flds 7 = [65, 66, 67] := by decide +kernel
                                        rw [e] at hc; exact hc
      have hn : isNum c := by simp at hin; rcases hin with rfl | rfl | rfl <;> decide
      refine ⟨isNum_lt hn, ?_, write_num W ins (.slice none 0 0) (.slice none 0 0) (.slice none 0 0) _ c hn rfl ?_⟩
      · simp at hin; rcases hin with rfl | rfl | rfl <;> decide +kernel
      · simp at hin; rcases hin with rfl | rfl | rfl <;> exact ⟨by decide, by decide⟩)
  rw [l0_is] at h
  exact h
theorem parse1_begins {B : Nat} (W : World) (hG : Glob B W) : Calls Tryz.prog 23 #[.string ⟨#[102, 117, 101, 108, 32, 49, 48, 10, 109, 97, 105, 110, 10, 115, 105, 103, 110, 97, 108, 10]⟩] W fun e w' =>
    (∃ A c, e = .returned (.tuple #[.agg #[.slice A 1 c, .slice none 0 0, .int .i64 10], .int .i64 0, .int .i64 0])) ∧ Below W.heap.size W w' := by
  refine (parse_calls rdNum ⟨#[102, 117, 101, 108, 32, 49, 48, 10, 109, 97, 105, 110, 10, 115, 105, 103, 110, 97, 108, 10]⟩ (by decide) (cov_of t1_cov) (np_of t1_np) W hG).mono ?_
  rintro e w' ⟨cs, rfl, ⟨vC, vP, rfl, hC, _, hP⟩, hb⟩
  have h := t1_is
  simp only [Prod.mk.injEq] at h
  obtain ⟨h1, h2, h3, h4⟩ := h
  obtain ⟨A, c, rfl⟩ := hC.len
  have hv := hP (List.eq_nil_of_length_eq_zero h2)
  subst hv
  refine ⟨⟨A, c, ?_⟩, hb⟩
  have e1 : (parseD rdNum (ByteArray.mk #[102, 117, 101, 108, 32, 49, 48, 10, 109, 97, 105, 110, 10, 115, 105, 103, 110, 97, 108, 10]).data.toList) = parseD rdNum t1 := rfl
  rw [e1, h1, h3, h4]
theorem parse2_begins {B : Nat} (W : World) (hG : Glob B W) : Calls Tryz.prog 23 #[.string ⟨#[102, 117, 101, 108, 32, 49, 10]⟩] W fun e w' =>
    (∃ A c, e = .returned (.tuple #[.agg #[.slice A 0 c, .slice none 0 0, .int .i64 0], .int .i64 20, .int .i64 2])) ∧ Below W.heap.size W w' := by
  refine (parse_calls rdNum ⟨#[102, 117, 101, 108, 32, 49, 10]⟩ (by decide) (cov_of t2_cov) (np_of t2_np) W hG).mono ?_
  rintro e w' ⟨cs, rfl, ⟨vC, vP, rfl, hC, _, hP⟩, hb⟩
  have h := t2_is
  simp only [Prod.mk.injEq] at h
  obtain ⟨h1, h2, h3, h4⟩ := h
  obtain ⟨A, c, rfl⟩ := hC.len
  have hv := hP (List.eq_nil_of_length_eq_zero h2)
  subst hv
  refine ⟨⟨A, c, ?_⟩, hb⟩
  have e1 : (parseD rdNum (ByteArray.mk #[102, 117, 101, 108, 32, 49, 10]).data.toList) = parseD rdNum t2 := rfl
  rw [e1, h1, h3, h4]
theorem command_begins {B : Nat} (W : World) (hG : Glob B W) : Calls Tryz.prog 11 #[.string ⟨#[105, 110, 115, 101, 114, 116, 32, 48, 51, 32, 49, 32, 48]⟩] W fun e w' =>
    (∃ cs : Array Value, (cs.all (·.oneCell') = true ∧ cs.size = 12) ∧ e = .returned (.tuple #[.agg cs, .int .i64 20])) ∧ Below W.heap.size W w' := by
  refine (Command_calls rdNum ⟨#[105, 110, 115, 101, 114, 116, 32, 48, 51, 32, 49, 32, 48]⟩ (by decide) (covered_num l1_cov) W hG).mono ?_
  rintro e w' ⟨cs, m, rfl, hkv, _, hb⟩
  refine ⟨⟨cs, ⟨kv_one hkv, kv_size hkv⟩, ?_⟩, hb⟩
  have e1 : (cmdD rdNum (ByteArray.mk #[105, 110, 115, 101, 114, 116, 32, 48, 51, 32, 49, 32, 48]).data.toList) = cmdD rdNum l1 := rfl
  have h : cmdD rdNum l1 = none := by simpa using l1_is
  rw [e1, h]
  rfl
theorem find_begins (W : World) : Calls Tryz.prog 16 #[.string ⟨#[100, 117, 109, 112]⟩] W fun e w' => e = .returned (.tuple #[.int .u8 44, .bool true]) ∧ Below W.heap.size W w' := by
  have h := find_calls ⟨#[100, 117, 109, 112]⟩ W
  unfold FindPost at h
  have e : findOp ⟨#[100, 117, 109, 112]⟩ = 44 := dump_is
  rw [e] at h
  exact h

set_option maxHeartbeats 8000000 in
set_option maxRecDepth 100000 in
theorem begins_calls {B : Nat} (w : World) (hG : Glob B w) : Calls Tryz.prog 14 #[] w fun e w' => e = .returned (.bool true) ∧ Below w.heap.size w w' := by
  obtain ⟨s0, hs0⟩ : ∃ s, s = str l0 := ⟨_, rfl⟩
  have HL := Asd.mk (fun W (h : Glob B W) => line_begins W h)
  have HP1 := Asd.mk (fun W (h : Glob B W) => parse1_begins W h)
  have HP2 := Asd.mk (fun W (h : Glob B W) => parse2_begins W h)
  have HC := Asd.mk (fun W (h : Glob B W) => command_begins W h)
  have HF := Asd.mk (fun W => find_begins W)
  rw [← hs0] at HL
  have heq : (s0.toList == [105, 110, 115, 101, 114, 116, 32, 51, 32, 49, 32, 48]) = true := by rw [hs0, ByteArray.toList_eq]; rfl
  have HG := Asd.mk hG
  clear hG hs0
  go_enter Tryz.func14, Tryz.ntmps14
  go_wp2_with fail
  refine (HL.out _ HG.out).mono ?_
  rintro e w1 ⟨rfl, hb1⟩
  have B1 := Asd.mk hb1
  clear hb1 HL
  go_wp2_with fail
  refine (HP1.out _ (HG.out.below B1.out HG.out.le)).mono ?_
  rintro e w2 ⟨⟨A1, c1, rfl⟩, hb2⟩
  have B2 := Asd.mk (bl_trans B1.out hb2)
  clear hb2 HP1 B1
  go_wp2_with fail
  obtain ⟨W3, hW3⟩ : ∃ W, W = w2.alloc (.cells #[.slice A1 1 c1, .slice none 0 0, .int .i64 10] 46) := ⟨_, rfl⟩
  have hS3 : W3.heap[w2.heap.size]? = some (.cells #[.slice A1 1 c1, .slice none 0 0, .int .i64 10] 46 (0, 0)) := by rw [hW3]; exact bk_new w2 _
  have B3 : Asd (Below w.heap.size w W3) := ⟨by rw [hW3]; exact bl_alloc B2.out _⟩
  obtain ⟨sb, hsb⟩ : ∃ sb, sb = w2.heap.size := ⟨_, rfl⟩
  rw [← hW3, ← hsb]
  rw [← hsb] at hS3
  have S3 := Asd.mk hS3
  clear hW3 hsb hS3 B2
  refine (HC.out _ (HG.out.below B3.out HG.out.le)).mono ?_
  rintro e w4 ⟨⟨cs, hcs, rfl⟩, hb4⟩
  have B4 := Asd.mk (bl_trans B3.out hb4)
  have S4 := Asd.mk (bk_below S3.out hb4 (bk_lt S3.out))
  have Hcs := Asd.mk hcs
  clear hb4 HC B3 S3 hcs
  go_wp2_with (refine wpList_store_rowK rfl 28 _ _ rfl w4.heap.size cs rfl rfl 28 (zeroCmd 0) (bk_new w4 _) (by rw [infoCmd, Hcs.out.2]) (by rw [Hcs.out.2]; rfl) Hcs.out.1 ?_; intro W5 hW5 hgr hz; have hb5 := below_fresh hgr; have B5 := Asd.mk (bl_trans B4.out hb5); have S5 := Asd.mk (bk_below S4.out hb5 (bk_lt S4.out)); clear hW5 hgr hz hb5)
  refine (HP2.out _ (HG.out.below B5.out HG.out.le)).mono ?_
  rintro e w6 ⟨⟨A2, c2, rfl⟩, hb6⟩
  have B6 := Asd.mk (bl_trans B5.out hb6)
  have S6 := Asd.mk (bk_below S5.out hb6 (bk_lt S5.out))
  clear hb6 HP2 B5 S5 B4 S4
  go_wp2_with fail
  obtain ⟨W7, hW7⟩ : ∃ W, W = w6.alloc (.cells #[.slice A2 0 c2, .slice none 0 0, .int .i64 0] 46) := ⟨_, rfl⟩
  have B7 : Asd (Below w.heap.size w W7) := ⟨by rw [hW7]; exact bl_alloc B6.out _⟩
  have S7 : Asd _ := ⟨by have := bk_alloc S6.out (.cells #[.slice A2 0 c2, .slice none 0 0, .int .i64 0] 46); rw [← hW7] at this; exact this⟩
  rw [← hW7]
  clear hW7 B6 S6
  refine (HF.out _).mono ?_
  rintro e w8 ⟨rfl, hb8⟩
  have B8 := Asd.mk (bl_trans B7.out hb8)
  have S8 := bk_below S7.out hb8 (bk_lt S7.out)
  have d0 := bk_cell S8 0
  have d2 := bk_cell S8 2
  simp only [List.getElem?_toArray, List.getElem?_cons_zero, List.getElem?_cons_succ] at d0 d2
  clear hb8 S8 B7 S7 HF
  go_wp2_with fail
  go_ret
  exact ⟨rfl, B8.out⟩
end Go.Proofs.YthclgijnfopikaaGreatDoor
