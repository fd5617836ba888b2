/- The law ScriptBack: its walk. (Printed by gen_back.py.) -/
import Derived.Test.YthclgijnfopikaaGreatDoorReadAll
import Derived.Test.YthclgijnfopikaaGreatDoorPlainW
namespace Go.Proofs.YthclgijnfopikaaGreatDoor
open Go.RowKit

def CmdGot (m : Cmd) (n : Int) (w : World) (e : Ending) (w' : World) : Prop := ∃ cs, e = .returned (.tuple #[.agg cs, .int .i64 n]) ∧ (∃ ok, KV w' ok cs m) ∧ Below w.heap.size w w'
theorem cmd_got {B : Nat} (s : ByteArray) (hs : s.size ≤ 1048576) (w : World) (hG : Glob B w) : Calls Tryz.prog 11 #[.string s] w (CmdGot ((cmdD rdD s.data.toList).getD (Cmd.zero 0)) (if (cmdD rdD s.data.toList).isSome then 0 else 20) w) :=
  (Command_calls rdD s hs (covered_all _) w hG).mono fun e w' ⟨cs, m, h1, h2, h3, h4⟩ => ⟨cs, h1, ⟨_, by rw [← h3]; exact h2⟩, h4⟩
def KVs (W : World) (c : Array Value) (m : Cmd) : Prop := ∃ ok, KV W ok c m
theorem KVs.later {W W' : World} {c : Array Value} {m : Cmd} (h : KVs W c m) (hb : Below W.heap.size W W') : KVs W' c m := kv_later h hb
theorem KVs.drew {W : World} {c : Array Value} {m : Cmd} (h : KVs W c m) : KVs W.drew c m := by obtain ⟨ok, h⟩ := h; exact ⟨ok, h.kept fun g _ _ _ ho _ => ⟨rfl, ho⟩⟩
theorem plain_got (m : Cmd) (hm : Fine m) (c : Array Value) (w : World) (h : KVs w c m) : Calls Tryz.prog 15 #[.agg c] w fun e w' => ∃ cs, e = .returned (.agg cs) ∧ KVs w' cs (plainD m) ∧ Below w.heap.size w w' := by
  obtain ⟨ok, h⟩ := h
  have k1 := hm.data
  have k2 := hm.list
  have k3 := hm.names
  exact (plain_calls m c w (by omega) (by omega) (by omega) h).mono fun e w' ⟨cs, h1, h2, h3⟩ => ⟨cs, h1, ⟨_, h2⟩, h3⟩
theorem same_got (m : Cmd) (hm : Fine m) (c1 c2 : Array Value) (w : World) (h1 : KVs w c1 m) (h2 : KVs w c2 m) : Calls Tryz.prog 13 #[.agg c1, .agg c2] w fun e w' => e = .returned (.bool true) ∧ Below w.heap.size w w' := by
  obtain ⟨o1, h1⟩ := h1
  obtain ⟨o2, h2⟩ := h2
  have k1 := hm.data
  have k2 := hm.list
  have k3 := hm.names
  exact same_calls m c1 c2 w (by omega) (by omega) (by omega) h1 h2
theorem line_got {B : Nat} (m : Cmd) (hm : Fine m) (c : Array Value) (w : World) (hG : Glob B w) (h : KVs w c m) : Calls Tryz.prog 9 #[.agg c] w fun e w' => e = .returned (.tuple #[.string (str (lineD m.op (wrD m)).1), .int .i64 (lineD m.op (wrD m)).2]) ∧ Below w.heap.size w w' := by
  obtain ⟨ok, h⟩ := h
  exact line_all m hm c w hG h
theorem lineD_three (op : Nat) (f : UInt8 → List UInt8) : (lineD op f = (lineOut op f, 0) ∧ word op ≠ [] ∧ (lineOut op f).length ≤ 1048576) ∨ ((lineD op f).2 = 23) ∨ ((lineD op f).2 = 4) := by
  unfold lineD
  split
  · exact .inr (.inl rfl)
  · rename_i h
    split
    · exact .inr (.inr rfl)
    · exact .inl ⟨rfl, h, by omega⟩
theorem kv_twelve {W : World} {ok : Nat → Prop} {c : Array Value} {m : Cmd} (h : KV W ok c m) : ∃ v0 v1 v2 v3 v4 v5 v6 v7 v8 v9 v10 v11, c = #[v0, v1, v2, v3, v4, v5, v6, v7, v8, v9, v10, v11] := by
  obtain ⟨vD, vL, vK, rfl, _⟩ := h
  exact ⟨_, _, _, _, _, _, _, _, _, _, _, _, rfl⟩
theorem kvs_twelve {W : World} {c : Array Value} {m : Cmd} (h : KVs W c m) : ∃ v0 v1 v2 v3 v4 v5 v6 v7 v8 v9 v10 v11, c = #[v0, v1, v2, v3, v4, v5, v6, v7, v8, v9, v10, v11] := by
  obtain ⟨ok, h⟩ := h
  exact kv_twelve h
theorem zero_kvs (W : World) : KVs W #[.int .u8 0, .int .i64 0, .int .i64 0, .int .i64 0, .int .i64 0, .int .i64 0, .string ⟨#[]⟩, .string ⟨#[]⟩, .slice none 0 0, .slice none 0 0, .slice none 0 0, .bool false] (Cmd.zero 0) := ⟨fun _ => True, kv_zero W _ 0⟩
set_option maxHeartbeats 1000000 in
set_option maxRecDepth 100000 in
theorem back_nn {B : Nat} {ok : Nat → Prop} (m : Cmd) (hm : Fine m) (cs : Array Value) (s : ByteArray) (hs : s.size ≤ 1048576) (w : World) (hkv : KV w ok cs m) (hG : Glob B w)
    (hA : (lineD m.op (wrD m)).2 = 23 ∨ (lineD m.op (wrD m)).2 = 4) (hS : cmdD rdD s.data.toList = none) :
    Calls Tryz.prog 4 #[.agg cs, .string s] w fun e w' => e = .returned (.bool true) ∧ Below w.heap.size w w' := by
  obtain ⟨sa, hsa⟩ : ∃ s, s = str (lineD m.op (wrD m)).1 := ⟨_, rfl⟩
  obtain ⟨na, hna⟩ : ∃ n, n = (lineD m.op (wrD m)).2 := ⟨_, rfl⟩
  have HB := Asd.mk (fun W (h : Below w.heap.size w W) => begins_calls W (hG.below h hG.le))
  have hkvs : ∀ W, Below w.heap.size w W → KVs W cs m := fun W hb => ⟨fun _ => True, hkv.kept fun g _ _ _ _ e => ⟨hb.block g (bk_lt e), trivial⟩⟩
  have HL := Asd.mk (fun W (h : Below w.heap.size w W) => line_got m hm cs W (hG.below h hG.le) (hkvs W h))
  have HP := Asd.mk (fun W (h : Below w.heap.size w W) => plain_got m hm cs W (hkvs W h))
  have HQ := Asd.mk (fun W c1 c2 (h1 : KVs W c1 (plainD m)) (h2 : KVs W c2 (plainD m)) => same_got (plainD m) (fine_plain m hm) c1 c2 W h1 h2)
  rw [← hsa, ← hna] at HL
  have hn0 : (na == 0) = false := by rw [hna]; rcases hA with h | h <;> rw [h] <;> rfl
  have HD := Asd.mk (fun W (h : Below w.heap.size w W) => cmd_got s hs W (hG.below h hG.le))
  rw [hS] at HD
  have HT := Asd.mk (fun W c1 c2 (h1 : KVs W c1 (Cmd.zero 0)) (h2 : KVs W c2 (Cmd.zero 0)) => same_got (Cmd.zero 0) (fine_zero 0 (by decide)) c1 c2 W h1 h2)
  have h12c := Asd.mk (And.intro (kv_one hkv) (kv_size hkv))
  obtain ⟨v0, v1, v2, v3, v4, v5, v6, v7, v8, v9, v10, v11, rfl⟩ := kv_twelve hkv
  clear hkv hkvs hm hA hS hsa hna hG h12c hs
  go_enter Tryz.func4, Tryz.ntmps4
  go_wp2_with fail
  refine (HB.out _ (bl_alloc (Below.refl _ _) _)).mono ?_
  rintro e w1 ⟨rfl, hb1⟩
  have B1 := Asd.mk (bl_trans (bl_alloc (Below.refl _ w) _) hb1)
  have hrow := bk_below (bk_new w (.cells #[v0, v1, v2, v3, v4, v5, v6, v7, v8, v9, v10, v11] 28)) hb1 (by simp)
  obtain ⟨cb, hcb⟩ : ∃ cb, cb = w.heap.size := ⟨_, rfl⟩
  rw [← hcb] at hrow ⊢
  have R1 := Asd.mk hrow
  have Hcb := Asd.mk hcb
  clear hb1 hrow hcb
  go_wp2_with (refine wpList_load_row rfl 28 _ rfl cb rfl 28 _ (0, 0) _ R1.out Tryz.underlying28 rfl infoCmd ?_)
  refine (HL.out _ B1.out).mono ?_
  rintro e w2 ⟨rfl, hb2⟩
  have B2 := Asd.mk (bl_trans B1.out hb2)
  have R2 := Asd.mk (bk_below R1.out hb2 (bk_lt R1.out))
  clear hb2 B1 R1
  go_wp2_with fail
  refine (HD.out _ B2.out).mono ?_
  rintro e w8 ⟨c3, rfl, hk8, hb8⟩
  have B8 := Asd.mk (bl_trans B2.out hb8)
  have K8 : Asd (KVs w8 c3 (Cmd.zero 0)) := ⟨hk8⟩
  obtain ⟨okd, hk8⟩ := hk8
  have h12 := Asd.mk (And.intro (kv_one hk8) (kv_size hk8))
  clear hb8 hk8
  go_wp2_with (first | (refine wpList_load_row rfl 28 _ rfl qb rfl 28 _ (0, 0) _ P9.out Tryz.underlying28 rfl (by rw [infoCmd, h12.out.2]) ?_) | (refine wpList_store_rowK rfl 28 _ _ rfl w8.heap.size c3 rfl rfl 28 (zeroCmd 0) (bk_new w8 _) (by rw [infoCmd, h12.out.2]) (by rw [h12.out.2]; rfl) h12.out.1 ?_; intro X hX hgr hsz; have hb9 := below_fresh hgr; have B9 := Asd.mk (bl_trans B8.out hb9); have K9 := Asd.mk (K8.out.later hb9); have hqb : ∃ qb, qb = w8.heap.size := ⟨_, rfl⟩; obtain ⟨qb, hqb⟩ := hqb; rw [← hqb] at hX; rw [← hqb]; have P9 := Asd.mk hX; clear hb9 hX hgr hsz hqb B8 K8))
  refine (HT.out _ _ _ K9.out (zero_kvs _)).mono ?_
  rintro e w10 ⟨rfl, hb10⟩
  have B10 := Asd.mk (bl_trans B9.out hb10)
  clear hb10
  go_wp2_with fail
  go_ret
  exact ⟨rfl, B10.out⟩
set_option maxHeartbeats 1000000 in
set_option maxRecDepth 100000 in
theorem back_ny {B : Nat} {ok : Nat → Prop} (m : Cmd) (hm : Fine m) (cs : Array Value) (s : ByteArray) (hs : s.size ≤ 1048576) (w : World) (hkv : KV w ok cs m) (hG : Glob B w)
    (hA : (lineD m.op (wrD m)).2 = 23 ∨ (lineD m.op (wrD m)).2 = 4) (m2 : Cmd) (hS : cmdD rdD s.data.toList = some m2) :
    Calls Tryz.prog 4 #[.agg cs, .string s] w fun e w' => e = .returned (.bool true) ∧ Below w.heap.size w w' := by
  obtain ⟨sa, hsa⟩ : ∃ s, s = str (lineD m.op (wrD m)).1 := ⟨_, rfl⟩
  obtain ⟨na, hna⟩ : ∃ n, n = (lineD m.op (wrD m)).2 := ⟨_, rfl⟩
  have HB := Asd.mk (fun W (h : Below w.heap.size w W) => begins_calls W (hG.below h hG.le))
  have hkvs : ∀ W, Below w.heap.size w W → KVs W cs m := fun W hb => ⟨fun _ => True, hkv.kept fun g _ _ _ _ e => ⟨hb.block g (bk_lt e), trivial⟩⟩
  have HL := Asd.mk (fun W (h : Below w.heap.size w W) => line_got m hm cs W (hG.below h hG.le) (hkvs W h))
  have HP := Asd.mk (fun W (h : Below w.heap.size w W) => plain_got m hm cs W (hkvs W h))
  have HQ := Asd.mk (fun W c1 c2 (h1 : KVs W c1 (plainD m)) (h2 : KVs W c2 (plainD m)) => same_got (plainD m) (fine_plain m hm) c1 c2 W h1 h2)
  rw [← hsa, ← hna] at HL
  have hn0 : (na == 0) = false := by rw [hna]; rcases hA with h | h <;> rw [h] <;> rfl
  have HD := Asd.mk (fun W (h : Below w.heap.size w W) => cmd_got s hs W (hG.below h hG.le))
  rw [hS] at HD
  obtain ⟨hl1, hl2, hl3, hl4⟩ := line_of_cmd (by rw [show s.data.toList.length = s.size by simp]; exact hs) hS
  have hld : lineD m2.op (wrD m2) = (s.data.toList, 0) := by
    unfold lineD
    rw [if_neg hl4, ← hl1, if_neg (by rw [show s.data.toList.length = s.size by simp]; omega)]
  have HM := Asd.mk (fun W (h : Below w.heap.size w W) c (hc : KVs W c m2) => line_got m2 hl3 c W (hG.below h hG.le) hc)
  rw [hld] at HM
  have hst : str s.data.toList = s := str_data s
  rw [hst] at HM
  have HN := Asd.mk (fun W c (hc : KVs W c m2) => plain_got m2 hl3 c W hc)
  rw [hl2] at HN
  have HT := Asd.mk (fun W c1 c2 (h1 : KVs W c1 m2) (h2 : KVs W c2 m2) => same_got m2 hl3 c1 c2 W h1 h2)
  have heq : (s.toList == s.toList) = true := by simp
  clear hl1 hl2 hl3 hl4 hld hst
  have h12c := Asd.mk (And.intro (kv_one hkv) (kv_size hkv))
  obtain ⟨v0, v1, v2, v3, v4, v5, v6, v7, v8, v9, v10, v11, rfl⟩ := kv_twelve hkv
  clear hkv hkvs hm hA hS hsa hna hG h12c hs
  go_enter Tryz.func4, Tryz.ntmps4
  go_wp2_with fail
  refine (HB.out _ (bl_alloc (Below.refl _ _) _)).mono ?_
  rintro e w1 ⟨rfl, hb1⟩
  have B1 := Asd.mk (bl_trans (bl_alloc (Below.refl _ w) _) hb1)
  have hrow := bk_below (bk_new w (.cells #[v0, v1, v2, v3, v4, v5, v6, v7, v8, v9, v10, v11] 28)) hb1 (by simp)
  obtain ⟨cb, hcb⟩ : ∃ cb, cb = w.heap.size := ⟨_, rfl⟩
  rw [← hcb] at hrow ⊢
  have R1 := Asd.mk hrow
  have Hcb := Asd.mk hcb
  clear hb1 hrow hcb
  go_wp2_with (refine wpList_load_row rfl 28 _ rfl cb rfl 28 _ (0, 0) _ R1.out Tryz.underlying28 rfl infoCmd ?_)
  refine (HL.out _ B1.out).mono ?_
  rintro e w2 ⟨rfl, hb2⟩
  have B2 := Asd.mk (bl_trans B1.out hb2)
  have R2 := Asd.mk (bk_below R1.out hb2 (bk_lt R1.out))
  clear hb2 B1 R1
  go_wp2_with fail
  refine (HD.out _ B2.out).mono ?_
  rintro e w8 ⟨c3, rfl, hk8, hb8⟩
  have B8 := Asd.mk (bl_trans B2.out hb8)
  have K8 : Asd (KVs w8 c3 m2) := ⟨hk8⟩
  obtain ⟨okd, hk8⟩ := hk8
  have h12 := Asd.mk (And.intro (kv_one hk8) (kv_size hk8))
  clear hb8 hk8
  go_wp2_with (first | (refine wpList_load_row rfl 28 _ rfl qb rfl 28 _ (0, 0) _ P9.out Tryz.underlying28 rfl (by rw [infoCmd, h12.out.2]) ?_) | (refine wpList_store_rowK rfl 28 _ _ rfl w8.heap.size c3 rfl rfl 28 (zeroCmd 0) (bk_new w8 _) (by rw [infoCmd, h12.out.2]) (by rw [h12.out.2]; rfl) h12.out.1 ?_; intro X hX hgr hsz; have hb9 := below_fresh hgr; have B9 := Asd.mk (bl_trans B8.out hb9); have K9 := Asd.mk (K8.out.later hb9); have hqb : ∃ qb, qb = w8.heap.size := ⟨_, rfl⟩; obtain ⟨qb, hqb⟩ := hqb; rw [← hqb] at hX; rw [← hqb]; have P9 := Asd.mk hX; clear hb9 hX hgr hsz hqb B8 K8))
  refine (HM.out _ B9.out _ K9.out).mono ?_
  rintro e w10 ⟨rfl, hb10⟩
  have B10 := Asd.mk (bl_trans B9.out hb10)
  have P10 := Asd.mk (bk_below P9.out hb10 (bk_lt P9.out))
  have K10 := Asd.mk (K9.out.later hb10)
  clear hb10 B9 P9 K9
  obtain ⟨q0, q1, q2, q3, q4, q5, q6, q7, q8, q9, q10, q11, rfl⟩ := kvs_twelve K10.out
  have hq : HeldC w qb q0 q1 q2 q3 q4 q5 q6 q7 q8 q9 q10 q11 w10.drew := ⟨P10.out, below_drewN B10.out 1⟩
  have K10d := Asd.mk K10.out.drew
  clear P10 B10 K10 h12
  go_wp2_with fail
  go_region_held3 (fun W => HeldC w qb q0 q1 q2 q3 q4 q5 q6 q7 q8 q9 q10 q11 W ∧ (W.cell? ⟨qb, 0, none⟩ = some q0 ∧ W.cell? ⟨qb, 1, none⟩ = some q1 ∧ W.cell? ⟨qb, 2, none⟩ = some q2 ∧ W.cell? ⟨qb, 3, none⟩ = some q3 ∧ W.cell? ⟨qb, 4, none⟩ = some q4 ∧ W.cell? ⟨qb, 5, none⟩ = some q5 ∧ W.cell? ⟨qb, 6, none⟩ = some q6 ∧ W.cell? ⟨qb, 7, none⟩ = some q7 ∧ W.cell? ⟨qb, 8, none⟩ = some q8 ∧ W.cell? ⟨qb, 9, none⟩ = some q9 ∧ W.cell? ⟨qb, 10, none⟩ = some q10 ∧ W.cell? ⟨qb, 11, none⟩ = some q11))
    (exact ⟨by assumption, HeldC.cells (by assumption)⟩)
    (first
      | (go_at_call 15; refine (HN.out _ _ K10d.out).mono ?_; rintro e w11 ⟨c4, rfl, hk11, hb11⟩; have KS11 := HeldC.next (And.left (by assumption)) hb11; have J11 := Asd.mk hk11; have K11 := Asd.mk (K10d.out.later hb11); clear hb11 hk11)
      | (go_at_call 13; refine (HT.out _ _ _ K11.out J11.out).mono ?_; rintro e w12 ⟨rfl, hb12⟩; have KS12 := HeldC.next (And.left (by assumption)) hb12; clear hb12))
  go_wp2_with fail
  go_ret
  exact ⟨rfl, HeldC.bel (And.left (by assumption))⟩
set_option maxHeartbeats 1000000 in
set_option maxRecDepth 100000 in
theorem back_yn {B : Nat} {ok : Nat → Prop} (m : Cmd) (hm : Fine m) (cs : Array Value) (s : ByteArray) (hs : s.size ≤ 1048576) (w : World) (hkv : KV w ok cs m) (hG : Glob B w)
    (hA : lineD m.op (wrD m) = (lineOut m.op (wrD m), 0) ∧ word m.op ≠ [] ∧ (lineOut m.op (wrD m)).length ≤ 1048576) (hS : cmdD rdD s.data.toList = none) :
    Calls Tryz.prog 4 #[.agg cs, .string s] w fun e w' => e = .returned (.bool true) ∧ Below w.heap.size w w' := by
  obtain ⟨sa, hsa⟩ : ∃ s, s = str (lineD m.op (wrD m)).1 := ⟨_, rfl⟩
  obtain ⟨na, hna⟩ : ∃ n, n = (lineD m.op (wrD m)).2 := ⟨_, rfl⟩
  have HB := Asd.mk (fun W (h : Below w.heap.size w W) => begins_calls W (hG.below h hG.le))
  have hkvs : ∀ W, Below w.heap.size w W → KVs W cs m := fun W hb => ⟨fun _ => True, hkv.kept fun g _ _ _ _ e => ⟨hb.block g (bk_lt e), trivial⟩⟩
  have HL := Asd.mk (fun W (h : Below w.heap.size w W) => line_got m hm cs W (hG.below h hG.le) (hkvs W h))
  have HP := Asd.mk (fun W (h : Below w.heap.size w W) => plain_got m hm cs W (hkvs W h))
  have HQ := Asd.mk (fun W c1 c2 (h1 : KVs W c1 (plainD m)) (h2 : KVs W c2 (plainD m)) => same_got (plainD m) (fine_plain m hm) c1 c2 W h1 h2)
  rw [← hsa, ← hna] at HL
  have hcm := cmd_of_line m hm hA.2.1
  have hsd : sa.data.toList = lineOut m.op (wrD m) := by rw [hsa, hA.1]; rfl
  have hsz : sa.size ≤ 1048576 := by rw [show sa.size = sa.data.toList.length by simp, hsd]; exact hA.2.2
  have HC := Asd.mk (fun W (h : Below w.heap.size w W) => cmd_got sa hsz W (hG.below h hG.le))
  rw [hsd, hcm] at HC
  have hn0 : na = 0 := by rw [hna, hA.1]
  subst hn0
  clear hcm hsd hsz
  have HD := Asd.mk (fun W (h : Below w.heap.size w W) => cmd_got s hs W (hG.below h hG.le))
  rw [hS] at HD
  have HT := Asd.mk (fun W c1 c2 (h1 : KVs W c1 (Cmd.zero 0)) (h2 : KVs W c2 (Cmd.zero 0)) => same_got (Cmd.zero 0) (fine_zero 0 (by decide)) c1 c2 W h1 h2)
  have h12c := Asd.mk (And.intro (kv_one hkv) (kv_size hkv))
  obtain ⟨v0, v1, v2, v3, v4, v5, v6, v7, v8, v9, v10, v11, rfl⟩ := kv_twelve hkv
  clear hkv hkvs hm hA hS hsa hna hG h12c hs
  go_enter Tryz.func4, Tryz.ntmps4
  go_wp2_with fail
  refine (HB.out _ (bl_alloc (Below.refl _ _) _)).mono ?_
  rintro e w1 ⟨rfl, hb1⟩
  have B1 := Asd.mk (bl_trans (bl_alloc (Below.refl _ w) _) hb1)
  have hrow := bk_below (bk_new w (.cells #[v0, v1, v2, v3, v4, v5, v6, v7, v8, v9, v10, v11] 28)) hb1 (by simp)
  obtain ⟨cb, hcb⟩ : ∃ cb, cb = w.heap.size := ⟨_, rfl⟩
  rw [← hcb] at hrow ⊢
  have R1 := Asd.mk hrow
  have Hcb := Asd.mk hcb
  clear hb1 hrow hcb
  go_wp2_with (refine wpList_load_row rfl 28 _ rfl cb rfl 28 _ (0, 0) _ R1.out Tryz.underlying28 rfl infoCmd ?_)
  refine (HL.out _ B1.out).mono ?_
  rintro e w2 ⟨rfl, hb2⟩
  have B2 := Asd.mk (bl_trans B1.out hb2)
  have R2 := Asd.mk (bk_below R1.out hb2 (bk_lt R1.out))
  clear hb2 B1 R1
  go_wp2_with fail
  refine (HC.out _ B2.out).mono ?_
  rintro e w3 ⟨c1, rfl, hk3, hb3⟩
  have B3 := Asd.mk (bl_trans B2.out hb3)
  have R3 := Asd.mk (bk_below R2.out hb3 (bk_lt R2.out))
  have K3 : Asd (KVs w3 c1 (plainD m)) := ⟨hk3⟩
  obtain ⟨okc, hk3⟩ := hk3
  have h12 := Asd.mk (And.intro (kv_one hk3) (kv_size hk3))
  clear hb3 hk3 B2 R2
  go_wp2_with (refine wpList_store_rowK rfl 28 _ _ rfl w3.heap.size c1 rfl rfl 28 (zeroCmd 0) (bk_new w3 _) (by rw [infoCmd, h12.out.2]) (by rw [h12.out.2]; rfl) h12.out.1 ?_; intro W hW hgr hsz; have hb4 := below_fresh hgr; have R4 := Asd.mk (bk_below R3.out hb4 (bk_lt R3.out)); have B4 := Asd.mk (bl_trans B3.out hb4); have K4 := Asd.mk (K3.out.later hb4); have hpb : ∃ pb, pb = w3.heap.size := ⟨_, rfl⟩; obtain ⟨pb, hpb⟩ := hpb; rw [← hpb] at hW; rw [← hpb]; have P4 := Asd.mk hW; clear hb4 hW hgr hsz hpb B3 K3 R3)
  obtain ⟨p0, p1, p2, p3, p4, p5, p6, p7, p8, p9, p10, p11, rfl⟩ := kvs_twelve K4.out
  have hh : HeldC w pb p0 p1 p2 p3 p4 p5 p6 p7 p8 p9 p10 p11 W.drew := ⟨P4.out, below_drewN B4.out 1⟩
  have hg : HeldC w cb v0 v1 v2 v3 v4 v5 v6 v7 v8 v9 v10 v11 W.drew := ⟨R4.out, below_drewN B4.out 1⟩
  have K4d := Asd.mk K4.out.drew
  clear P4 B4 R4 h12 K4
  go_region_held3 (fun W => HeldC w cb v0 v1 v2 v3 v4 v5 v6 v7 v8 v9 v10 v11 W ∧ HeldC w pb p0 p1 p2 p3 p4 p5 p6 p7 p8 p9 p10 p11 W ∧ (W.cell? ⟨cb, 0, none⟩ = some v0 ∧ W.cell? ⟨cb, 1, none⟩ = some v1 ∧ W.cell? ⟨cb, 2, none⟩ = some v2 ∧ W.cell? ⟨cb, 3, none⟩ = some v3 ∧ W.cell? ⟨cb, 4, none⟩ = some v4 ∧ W.cell? ⟨cb, 5, none⟩ = some v5 ∧ W.cell? ⟨cb, 6, none⟩ = some v6 ∧ W.cell? ⟨cb, 7, none⟩ = some v7 ∧ W.cell? ⟨cb, 8, none⟩ = some v8 ∧ W.cell? ⟨cb, 9, none⟩ = some v9 ∧ W.cell? ⟨cb, 10, none⟩ = some v10 ∧ W.cell? ⟨cb, 11, none⟩ = some v11) ∧ (W.cell? ⟨pb, 0, none⟩ = some p0 ∧ W.cell? ⟨pb, 1, none⟩ = some p1 ∧ W.cell? ⟨pb, 2, none⟩ = some p2 ∧ W.cell? ⟨pb, 3, none⟩ = some p3 ∧ W.cell? ⟨pb, 4, none⟩ = some p4 ∧ W.cell? ⟨pb, 5, none⟩ = some p5 ∧ W.cell? ⟨pb, 6, none⟩ = some p6 ∧ W.cell? ⟨pb, 7, none⟩ = some p7 ∧ W.cell? ⟨pb, 8, none⟩ = some p8 ∧ W.cell? ⟨pb, 9, none⟩ = some p9 ∧ W.cell? ⟨pb, 10, none⟩ = some p10 ∧ W.cell? ⟨pb, 11, none⟩ = some p11))
    (exact ⟨by assumption, by assumption, HeldC.cells (by assumption), HeldC.cells (by assumption)⟩)
    (first
      | (go_at_call 15; refine (HP.out _ (HeldC.bel (And.left (by assumption)))).mono ?_; rintro e w6 ⟨c2, rfl, hk6, hb6⟩; have KS6 := HeldC.next (And.left (by assumption)) hb6; have KT6 := HeldC.next (And.left (And.right (by assumption))) hb6; have J6 := Asd.mk hk6; have K6 := Asd.mk (K4d.out.later hb6); clear hb6 hk6)
      | (go_at_call 13; refine (HQ.out _ _ _ K6.out J6.out).mono ?_; rintro e w7 ⟨rfl, hb7⟩; have KS7 := HeldC.next (And.left (by assumption)) hb7; have KT7 := HeldC.next (And.left (And.right (by assumption))) hb7; have B7 := Asd.mk (HeldC.bel KS7); clear hb7))
  go_wp2_with fail
  refine (HD.out _ B7.out).mono ?_
  rintro e w8 ⟨c3, rfl, hk8, hb8⟩
  have B8 := Asd.mk (bl_trans B7.out hb8)
  have K8 : Asd (KVs w8 c3 (Cmd.zero 0)) := ⟨hk8⟩
  obtain ⟨okd, hk8⟩ := hk8
  have h12 := Asd.mk (And.intro (kv_one hk8) (kv_size hk8))
  clear hb8 hk8
  go_wp2_with (first | (refine wpList_load_row rfl 28 _ rfl qb rfl 28 _ (0, 0) _ P9.out Tryz.underlying28 rfl (by rw [infoCmd, h12.out.2]) ?_) | (refine wpList_store_rowK rfl 28 _ _ rfl w8.heap.size c3 rfl rfl 28 (zeroCmd 0) (bk_new w8 _) (by rw [infoCmd, h12.out.2]) (by rw [h12.out.2]; rfl) h12.out.1 ?_; intro X hX hgr hsz; have hb9 := below_fresh hgr; have B9 := Asd.mk (bl_trans B8.out hb9); have K9 := Asd.mk (K8.out.later hb9); have hqb : ∃ qb, qb = w8.heap.size := ⟨_, rfl⟩; obtain ⟨qb, hqb⟩ := hqb; rw [← hqb] at hX; rw [← hqb]; have P9 := Asd.mk hX; clear hb9 hX hgr hsz hqb B8 K8))
  refine (HT.out _ _ _ K9.out (zero_kvs _)).mono ?_
  rintro e w10 ⟨rfl, hb10⟩
  have B10 := Asd.mk (bl_trans B9.out hb10)
  clear hb10
  go_wp2_with fail
  go_ret
  exact ⟨rfl, B10.out⟩
set_option maxHeartbeats 1000000 in
set_option maxRecDepth 100000 in
theorem back_yy {B : Nat} {ok : Nat → Prop} (m : Cmd) (hm : Fine m) (cs : Array Value) (s : ByteArray) (hs : s.size ≤ 1048576) (w : World) (hkv : KV w ok cs m) (hG : Glob B w)
    (hA : lineD m.op (wrD m) = (lineOut m.op (wrD m), 0) ∧ word m.op ≠ [] ∧ (lineOut m.op (wrD m)).length ≤ 1048576) (m2 : Cmd) (hS : cmdD rdD s.data.toList = some m2) :
    Calls Tryz.prog 4 #[.agg cs, .string s] w fun e w' => e = .returned (.bool true) ∧ Below w.heap.size w w' := by
  obtain ⟨sa, hsa⟩ : ∃ s, s = str (lineD m.op (wrD m)).1 := ⟨_, rfl⟩
  obtain ⟨na, hna⟩ : ∃ n, n = (lineD m.op (wrD m)).2 := ⟨_, rfl⟩
  have HB := Asd.mk (fun W (h : Below w.heap.size w W) => begins_calls W (hG.below h hG.le))
  have hkvs : ∀ W, Below w.heap.size w W → KVs W cs m := fun W hb => ⟨fun _ => True, hkv.kept fun g _ _ _ _ e => ⟨hb.block g (bk_lt e), trivial⟩⟩
  have HL := Asd.mk (fun W (h : Below w.heap.size w W) => line_got m hm cs W (hG.below h hG.le) (hkvs W h))
  have HP := Asd.mk (fun W (h : Below w.heap.size w W) => plain_got m hm cs W (hkvs W h))
  have HQ := Asd.mk (fun W c1 c2 (h1 : KVs W c1 (plainD m)) (h2 : KVs W c2 (plainD m)) => same_got (plainD m) (fine_plain m hm) c1 c2 W h1 h2)
  rw [← hsa, ← hna] at HL
  have hcm := cmd_of_line m hm hA.2.1
  have hsd : sa.data.toList = lineOut m.op (wrD m) := by rw [hsa, hA.1]; rfl
  have hsz : sa.size ≤ 1048576 := by rw [show sa.size = sa.data.toList.length by simp, hsd]; exact hA.2.2
  have HC := Asd.mk (fun W (h : Below w.heap.size w W) => cmd_got sa hsz W (hG.below h hG.le))
  rw [hsd, hcm] at HC
  have hn0 : na = 0 := by rw [hna, hA.1]
  subst hn0
  clear hcm hsd hsz
  have HD := Asd.mk (fun W (h : Below w.heap.size w W) => cmd_got s hs W (hG.below h hG.le))
  rw [hS] at HD
  obtain ⟨hl1, hl2, hl3, hl4⟩ := line_of_cmd (by rw [show s.data.toList.length = s.size by simp]; exact hs) hS
  have hld : lineD m2.op (wrD m2) = (s.data.toList, 0) := by
    unfold lineD
    rw [if_neg hl4, ← hl1, if_neg (by rw [show s.data.toList.length = s.size by simp]; omega)]
  have HM := Asd.mk (fun W (h : Below w.heap.size w W) c (hc : KVs W c m2) => line_got m2 hl3 c W (hG.below h hG.le) hc)
  rw [hld] at HM
  have hst : str s.data.toList = s := str_data s
  rw [hst] at HM
  have HN := Asd.mk (fun W c (hc : KVs W c m2) => plain_got m2 hl3 c W hc)
  rw [hl2] at HN
  have HT := Asd.mk (fun W c1 c2 (h1 : KVs W c1 m2) (h2 : KVs W c2 m2) => same_got m2 hl3 c1 c2 W h1 h2)
  have heq : (s.toList == s.toList) = true := by simp
  clear hl1 hl2 hl3 hl4 hld hst
  have h12c := Asd.mk (And.intro (kv_one hkv) (kv_size hkv))
  obtain ⟨v0, v1, v2, v3, v4, v5, v6, v7, v8, v9, v10, v11, rfl⟩ := kv_twelve hkv
  clear hkv hkvs hm hA hS hsa hna hG h12c hs
  go_enter Tryz.func4, Tryz.ntmps4
  go_wp2_with fail
  refine (HB.out _ (bl_alloc (Below.refl _ _) _)).mono ?_
  rintro e w1 ⟨rfl, hb1⟩
  have B1 := Asd.mk (bl_trans (bl_alloc (Below.refl _ w) _) hb1)
  have hrow := bk_below (bk_new w (.cells #[v0, v1, v2, v3, v4, v5, v6, v7, v8, v9, v10, v11] 28)) hb1 (by simp)
  obtain ⟨cb, hcb⟩ : ∃ cb, cb = w.heap.size := ⟨_, rfl⟩
  rw [← hcb] at hrow ⊢
  have R1 := Asd.mk hrow
  have Hcb := Asd.mk hcb
  clear hb1 hrow hcb
  go_wp2_with (refine wpList_load_row rfl 28 _ rfl cb rfl 28 _ (0, 0) _ R1.out Tryz.underlying28 rfl infoCmd ?_)
  refine (HL.out _ B1.out).mono ?_
  rintro e w2 ⟨rfl, hb2⟩
  have B2 := Asd.mk (bl_trans B1.out hb2)
  have R2 := Asd.mk (bk_below R1.out hb2 (bk_lt R1.out))
  clear hb2 B1 R1
  go_wp2_with fail
  refine (HC.out _ B2.out).mono ?_
  rintro e w3 ⟨c1, rfl, hk3, hb3⟩
  have B3 := Asd.mk (bl_trans B2.out hb3)
  have R3 := Asd.mk (bk_below R2.out hb3 (bk_lt R2.out))
  have K3 : Asd (KVs w3 c1 (plainD m)) := ⟨hk3⟩
  obtain ⟨okc, hk3⟩ := hk3
  have h12 := Asd.mk (And.intro (kv_one hk3) (kv_size hk3))
  clear hb3 hk3 B2 R2
  go_wp2_with (refine wpList_store_rowK rfl 28 _ _ rfl w3.heap.size c1 rfl rfl 28 (zeroCmd 0) (bk_new w3 _) (by rw [infoCmd, h12.out.2]) (by rw [h12.out.2]; rfl) h12.out.1 ?_; intro W hW hgr hsz; have hb4 := below_fresh hgr; have R4 := Asd.mk (bk_below R3.out hb4 (bk_lt R3.out)); have B4 := Asd.mk (bl_trans B3.out hb4); have K4 := Asd.mk (K3.out.later hb4); have hpb : ∃ pb, pb = w3.heap.size := ⟨_, rfl⟩; obtain ⟨pb, hpb⟩ := hpb; rw [← hpb] at hW; rw [← hpb]; have P4 := Asd.mk hW; clear hb4 hW hgr hsz hpb B3 K3 R3)
  obtain ⟨p0, p1, p2, p3, p4, p5, p6, p7, p8, p9, p10, p11, rfl⟩ := kvs_twelve K4.out
  have hh : HeldC w pb p0 p1 p2 p3 p4 p5 p6 p7 p8 p9 p10 p11 W.drew := ⟨P4.out, below_drewN B4.out 1⟩
  have hg : HeldC w cb v0 v1 v2 v3 v4 v5 v6 v7 v8 v9 v10 v11 W.drew := ⟨R4.out, below_drewN B4.out 1⟩
  have K4d := Asd.mk K4.out.drew
  clear P4 B4 R4 h12 K4
  go_region_held3 (fun W => HeldC w cb v0 v1 v2 v3 v4 v5 v6 v7 v8 v9 v10 v11 W ∧ HeldC w pb p0 p1 p2 p3 p4 p5 p6 p7 p8 p9 p10 p11 W ∧ (W.cell? ⟨cb, 0, none⟩ = some v0 ∧ W.cell? ⟨cb, 1, none⟩ = some v1 ∧ W.cell? ⟨cb, 2, none⟩ = some v2 ∧ W.cell? ⟨cb, 3, none⟩ = some v3 ∧ W.cell? ⟨cb, 4, none⟩ = some v4 ∧ W.cell? ⟨cb, 5, none⟩ = some v5 ∧ W.cell? ⟨cb, 6, none⟩ = some v6 ∧ W.cell? ⟨cb, 7, none⟩ = some v7 ∧ W.cell? ⟨cb, 8, none⟩ = some v8 ∧ W.cell? ⟨cb, 9, none⟩ = some v9 ∧ W.cell? ⟨cb, 10, none⟩ = some v10 ∧ W.cell? ⟨cb, 11, none⟩ = some v11) ∧ (W.cell? ⟨pb, 0, none⟩ = some p0 ∧ W.cell? ⟨pb, 1, none⟩ = some p1 ∧ W.cell? ⟨pb, 2, none⟩ = some p2 ∧ W.cell? ⟨pb, 3, none⟩ = some p3 ∧ W.cell? ⟨pb, 4, none⟩ = some p4 ∧ W.cell? ⟨pb, 5, none⟩ = some p5 ∧ W.cell? ⟨pb, 6, none⟩ = some p6 ∧ W.cell? ⟨pb, 7, none⟩ = some p7 ∧ W.cell? ⟨pb, 8, none⟩ = some p8 ∧ W.cell? ⟨pb, 9, none⟩ = some p9 ∧ W.cell? ⟨pb, 10, none⟩ = some p10 ∧ W.cell? ⟨pb, 11, none⟩ = some p11))
    (exact ⟨by assumption, by assumption, HeldC.cells (by assumption), HeldC.cells (by assumption)⟩)
    (first
      | (go_at_call 15; refine (HP.out _ (HeldC.bel (And.left (by assumption)))).mono ?_; rintro e w6 ⟨c2, rfl, hk6, hb6⟩; have KS6 := HeldC.next (And.left (by assumption)) hb6; have KT6 := HeldC.next (And.left (And.right (by assumption))) hb6; have J6 := Asd.mk hk6; have K6 := Asd.mk (K4d.out.later hb6); clear hb6 hk6)
      | (go_at_call 13; refine (HQ.out _ _ _ K6.out J6.out).mono ?_; rintro e w7 ⟨rfl, hb7⟩; have KS7 := HeldC.next (And.left (by assumption)) hb7; have KT7 := HeldC.next (And.left (And.right (by assumption))) hb7; have B7 := Asd.mk (HeldC.bel KS7); clear hb7))
  go_wp2_with fail
  refine (HD.out _ B7.out).mono ?_
  rintro e w8 ⟨c3, rfl, hk8, hb8⟩
  have B8 := Asd.mk (bl_trans B7.out hb8)
  have K8 : Asd (KVs w8 c3 m2) := ⟨hk8⟩
  obtain ⟨okd, hk8⟩ := hk8
  have h12 := Asd.mk (And.intro (kv_one hk8) (kv_size hk8))
  clear hb8 hk8
  go_wp2_with (first | (refine wpList_load_row rfl 28 _ rfl qb rfl 28 _ (0, 0) _ P9.out Tryz.underlying28 rfl (by rw [infoCmd, h12.out.2]) ?_) | (refine wpList_store_rowK rfl 28 _ _ rfl w8.heap.size c3 rfl rfl 28 (zeroCmd 0) (bk_new w8 _) (by rw [infoCmd, h12.out.2]) (by rw [h12.out.2]; rfl) h12.out.1 ?_; intro X hX hgr hsz; have hb9 := below_fresh hgr; have B9 := Asd.mk (bl_trans B8.out hb9); have K9 := Asd.mk (K8.out.later hb9); have hqb : ∃ qb, qb = w8.heap.size := ⟨_, rfl⟩; obtain ⟨qb, hqb⟩ := hqb; rw [← hqb] at hX; rw [← hqb]; have P9 := Asd.mk hX; clear hb9 hX hgr hsz hqb B8 K8))
  refine (HM.out _ B9.out _ K9.out).mono ?_
  rintro e w10 ⟨rfl, hb10⟩
  have B10 := Asd.mk (bl_trans B9.out hb10)
  have P10 := Asd.mk (bk_below P9.out hb10 (bk_lt P9.out))
  have K10 := Asd.mk (K9.out.later hb10)
  clear hb10 B9 P9 K9
  obtain ⟨q0, q1, q2, q3, q4, q5, q6, q7, q8, q9, q10, q11, rfl⟩ := kvs_twelve K10.out
  have hq : HeldC w qb q0 q1 q2 q3 q4 q5 q6 q7 q8 q9 q10 q11 w10.drew := ⟨P10.out, below_drewN B10.out 1⟩
  have K10d := Asd.mk K10.out.drew
  clear P10 B10 K10 h12
  go_wp2_with fail
  go_region_held3 (fun W => HeldC w qb q0 q1 q2 q3 q4 q5 q6 q7 q8 q9 q10 q11 W ∧ (W.cell? ⟨qb, 0, none⟩ = some q0 ∧ W.cell? ⟨qb, 1, none⟩ = some q1 ∧ W.cell? ⟨qb, 2, none⟩ = some q2 ∧ W.cell? ⟨qb, 3, none⟩ = some q3 ∧ W.cell? ⟨qb, 4, none⟩ = some q4 ∧ W.cell? ⟨qb, 5, none⟩ = some q5 ∧ W.cell? ⟨qb, 6, none⟩ = some q6 ∧ W.cell? ⟨qb, 7, none⟩ = some q7 ∧ W.cell? ⟨qb, 8, none⟩ = some q8 ∧ W.cell? ⟨qb, 9, none⟩ = some q9 ∧ W.cell? ⟨qb, 10, none⟩ = some q10 ∧ W.cell? ⟨qb, 11, none⟩ = some q11))
    (exact ⟨by assumption, HeldC.cells (by assumption)⟩)
    (first
      | (go_at_call 15; refine (HN.out _ _ K10d.out).mono ?_; rintro e w11 ⟨c4, rfl, hk11, hb11⟩; have KS11 := HeldC.next (And.left (by assumption)) hb11; have J11 := Asd.mk hk11; have K11 := Asd.mk (K10d.out.later hb11); clear hb11 hk11)
      | (go_at_call 13; refine (HT.out _ _ _ K11.out J11.out).mono ?_; rintro e w12 ⟨rfl, hb12⟩; have KS12 := HeldC.next (And.left (by assumption)) hb12; clear hb12))
  go_wp2_with fail
  go_ret
  exact ⟨rfl, HeldC.bel (And.left (by assumption))⟩
theorem back_calls {B : Nat} {ok : Nat → Prop} (m : Cmd) (hm : Fine m) (cs : Array Value) (s : ByteArray) (hs : s.size ≤ 1048576) (w : World) (hkv : KV w ok cs m) (hG : Glob B w) :
    Calls Tryz.prog 4 #[.agg cs, .string s] w fun e w' => e = .returned (.bool true) ∧ Below w.heap.size w w' := by
  rcases lineD_three m.op (wrD m) with hA | hA
  · cases hS : cmdD rdD s.data.toList with
    | none => exact back_yn m hm cs s hs w hkv hG hA hS
    | some m2 => exact back_yy m hm cs s hs w hkv hG hA m2 hS
  · cases hS : cmdD rdD s.data.toList with
    | none => exact back_nn m hm cs s hs w hkv hG hA hS
    | some m2 => exact back_ny m hm cs s hs w hkv hG hA m2 hS
end Go.Proofs.YthclgijnfopikaaGreatDoor
