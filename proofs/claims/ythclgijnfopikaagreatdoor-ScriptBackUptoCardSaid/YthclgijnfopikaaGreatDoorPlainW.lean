/- The law ScriptPlain: its walk. -/
import Derived.Test.YthclgijnfopikaaGreatDoorWords
import Derived.Test.YthclgijnfopikaaGreatDoorWriteAll
import Derived.Test.YthclgijnfopikaaGreatDoorPlainLaw
namespace Go.Proofs.YthclgijnfopikaaGreatDoor
open Go.RowKit

theorem kv_cells {W : World} {ok : Nat → Prop} {c : Array Value} {m : Cmd} (h : KV W ok c m) : ∃ v1 v2 v3 v4 v5 v6 v7 v8 v9 v10 v11, c = #[.int .u8 m.op, v1, v2, v3, v4, v5, v6, v7, v8, v9, v10, v11] := by
  obtain ⟨vD, vL, vK, rfl, _⟩ := h
  exact ⟨_, _, _, _, _, _, _, _, _, _, _, rfl⟩
theorem LinePost.same {r : List UInt8 × Int} {w : World} {e : Ending} {w' : World} (h : LinePost r w e w') : e = .returned (.tuple #[.string (str r.1), .int .i64 r.2]) ∧ Below w.heap.size w w' := h

set_option maxHeartbeats 16000000 in
set_option maxRecDepth 100000 in
theorem lawPlain_calls {B : Nat} {ok : Nat → Prop} (m : Cmd) (hm : Fine m) (cs : Array Value) (w : World) (hkv : KV w ok cs m) (hG : Glob B w) :
    Calls Tryz.prog 5 #[.agg cs] w fun e w' => e = .returned (.bool true) ∧ Below w.heap.size w w' := by
  have k1 := hm.data
  have k2 := hm.list
  have k3 := hm.names
  have hp := fine_plain m hm
  have k4 := hp.data
  have k5 := hp.list
  have k6 := hp.names
  obtain ⟨sa, hsa⟩ : ∃ s, s = str (lineD m.op (wrD m)).1 := ⟨_, rfl⟩
  obtain ⟨na, hna⟩ : ∃ n, n = (lineD m.op (wrD m)).2 := ⟨_, rfl⟩
  have HB := Asd.mk (fun W (h : Below w.heap.size w W) => begins_calls W (hG.below h hG.le))
  have hkv' : ∀ W, Below w.heap.size w W → KV W (fun _ => True) cs m := fun W hb => hkv.kept fun g _ _ _ _ e => ⟨hb.block g (bk_lt e), trivial⟩
  have HP := Asd.mk (fun W (h : Below w.heap.size w W) => plain_calls m cs W (by omega) (by omega) (by omega) (hkv' W h))
  have HL := Asd.mk (fun W (h : Below w.heap.size w W) => line_all m hm cs W (hG.below h hG.le) (hkv' W h))
  have HQ := Asd.mk (fun W (h : Below w.heap.size w W) c (hc : ∃ ok, KV W ok c (plainD m)) => line_all (plainD m) hp c W (hG.below h hG.le) hc.choose_spec)
  have HR := Asd.mk (fun W c (hc : ∃ ok, KV W ok c (plainD m)) => plain_calls (plainD m) c W (by omega) (by omega) (by omega) hc.choose_spec)
  have HS := Asd.mk (fun (W : World) (c1 c2 : Array Value) (h1 : ∃ ok, KV W ok c1 (plainD m)) (h2 : ∃ ok, KV W ok c2 (plainD m)) => same_calls (plainD m) c1 c2 W (by omega) (by omega) (by omega) h1.choose_spec h2.choose_spec)
  unfold PlainPost at HR
  rw [plainD_plainD] at HR
  unfold LinePost at HL HQ
  rw [lineD_plain, ← hsa, ← hna] at HQ
  rw [← hsa, ← hna] at HL
  obtain ⟨v1, v2, v3, v4, v5, v6, v7, v8, v9, v10, v11, rfl⟩ := kv_cells hkv
  obtain ⟨mop, hmop⟩ : ∃ o, o = m.op := ⟨_, rfl⟩
  have hpop := plainD_op m
  rw [← hmop] at hpop
  rw [← hmop] at HP HL hkv'
  simp only [← hmop]
  have Hpop := Asd.mk hpop
  clear hkv k1 k2 k3 k4 k5 k6 hp hm hkv' hmop hsa hna hpop hG
  go_enter Tryz.func5, Tryz.ntmps5
  go_wp2_with fail
  refine (HB.out _ (bl_alloc (Below.refl _ _) _)).mono ?_
  rintro e w1 ⟨rfl, hb1⟩
  have B1 := Asd.mk (bl_trans (bl_alloc (Below.refl _ w) _) hb1)
  have hrow := bk_below (bk_new w (.cells #[.int .u8 mop, v1, v2, v3, v4, v5, v6, v7, v8, v9, v10, v11] 28)) hb1 (by simp)
  obtain ⟨cb, hcb⟩ : ∃ cb, cb = w.heap.size := ⟨_, rfl⟩
  rw [← hcb] at hrow ⊢
  have R1 := Asd.mk hrow
  have Hcb := Asd.mk hcb
  clear hb1 hrow hcb
  go_wp2_with (refine wpList_load_row rfl 28 _ rfl cb rfl 28 _ (0, 0) _ R1.out Tryz.underlying28 rfl infoCmd ?_)
  refine (HP.out _ B1.out).mono ?_
  rintro e w2 ⟨c1, rfl, hk2, hb2⟩
  have B2 := Asd.mk (bl_trans B1.out hb2)
  have R2 := Asd.mk (bk_below R1.out hb2 (bk_lt R1.out))
  have hk2 : ∃ ok, KV w2 ok c1 (plainD m) := ⟨_, hk2⟩
  have h12 := Asd.mk (And.intro (kv_one hk2.choose_spec) (kv_size hk2.choose_spec))
  have K2 := Asd.mk hk2
  clear hb2 hk2 B1 R1
  go_wp2_with (first | (refine wpList_load_row rfl 28 _ rfl cb rfl 28 _ (0, 0) _ R3.out Tryz.underlying28 rfl infoCmd ?_) | (refine wpList_store_rowK rfl 28 _ _ rfl w2.heap.size c1 rfl rfl 28 (zeroCmd 0) (bk_new w2 _) (by rw [infoCmd, h12.out.2]) (by rw [h12.out.2]; rfl) h12.out.1 ?_; intro W hW hgr hsz; have hb3 := below_fresh hgr; have R3 := Asd.mk (bk_below R2.out hb3 (bk_lt R2.out)); have B3 := Asd.mk (bl_trans B2.out hb3); have K3 := Asd.mk (kv_later K2.out hb3); have hpb : ∃ pb, pb = w2.heap.size := ⟨_, rfl⟩; obtain ⟨pb, hpb⟩ := hpb; rw [← hpb] at hW; rw [← hpb]; have P3 := Asd.mk hW; clear hb3 hW hgr hsz hpb B2 K2 R2))
  refine (HL.out _ B3.out).mono ?_
  rintro e w4 ⟨rfl, hb4⟩
  have B4 := Asd.mk (bl_trans B3.out hb4)
  have R4 := Asd.mk (bk_below R3.out hb4 (bk_lt R3.out))
  have P4 := Asd.mk (bk_below P3.out hb4 (bk_lt P3.out))
  have K4 := Asd.mk (kv_later K3.out hb4)
  clear hb4 B3 R3 P3 K3
  go_wp2_with (refine wpList_load_row rfl 28 _ rfl pb rfl 28 _ (0, 0) _ P4.out Tryz.underlying28 rfl (by rw [infoCmd, h12.out.2]) ?_)
  refine (HQ.out _ B4.out _ K4.out).mono ?_
  rintro e w5 ⟨rfl, hb5⟩
  have B5 := Asd.mk (bl_trans B4.out hb5)
  have R5 := Asd.mk (bk_below R4.out hb5 (bk_lt R4.out))
  have P5 := Asd.mk (bk_below P4.out hb5 (bk_lt P4.out))
  have K5 := Asd.mk (kv_later K4.out hb5)
  clear hb5 B4 R4 P4 K4
  obtain ⟨p1, p2, p3, p4, p5, p6, p7, p8, p9, p10, p11, rfl⟩ := kv_cells K5.out.choose_spec
  rw [Hpop.out] at P5 K5
  have hkk : ((mop : Int) == (mop : Int)) = true := by simp
  have heq : (sa.toList == sa.toList) = true := by simp
  have hnn : (na == na) = true := by simp
  have hh : HeldC w pb (.int .u8 mop) p1 p2 p3 p4 p5 p6 p7 p8 p9 p10 p11 w5.drew := ⟨P5.out, below_drewN B5.out 1⟩
  have hg : HeldC w cb (.int .u8 mop) v1 v2 v3 v4 v5 v6 v7 v8 v9 v10 v11 w5.drew := ⟨R5.out, below_drewN B5.out 1⟩
  simp only [Hpop.out]
  have K5d : Asd (∃ ok, KV w5.drew ok #[.int .u8 mop, p1, p2, p3, p4, p5, p6, p7, p8, p9, p10, p11] (plainD m)) := ⟨by obtain ⟨ok, h⟩ := K5.out; exact ⟨ok, h.kept fun g _ _ _ ho _ => ⟨rfl, ho⟩⟩⟩
  clear P5 B5 R5 h12 K5
  go_wp2_with fail
  go_region_held3 (fun W => HeldC w cb (.int .u8 mop) v1 v2 v3 v4 v5 v6 v7 v8 v9 v10 v11 W ∧ HeldC w pb (.int .u8 mop) p1 p2 p3 p4 p5 p6 p7 p8 p9 p10 p11 W ∧ W.cell? ⟨cb, 0, none⟩ = some (.int .u8 mop) ∧ (W.cell? ⟨pb, 0, none⟩ = some (.int .u8 mop) ∧ W.cell? ⟨pb, 1, none⟩ = some p1 ∧ W.cell? ⟨pb, 2, none⟩ = some p2 ∧ W.cell? ⟨pb, 3, none⟩ = some p3 ∧ W.cell? ⟨pb, 4, none⟩ = some p4 ∧ W.cell? ⟨pb, 5, none⟩ = some p5 ∧
    W.cell? ⟨pb, 6, none⟩ = some p6 ∧ W.cell? ⟨pb, 7, none⟩ = some p7 ∧ W.cell? ⟨pb, 8, none⟩ = some p8 ∧ W.cell? ⟨pb, 9, none⟩ = some p9 ∧ W.cell? ⟨pb, 10, none⟩ = some p10 ∧ W.cell? ⟨pb, 11, none⟩ = some p11))
    (exact ⟨by assumption, by assumption, (HeldC.cells (by assumption)).1, HeldC.cells (by assumption)⟩)
    (first
      | (go_at_call 15; refine (HR.out _ _ K5d.out).mono ?_; rintro e w6 ⟨c2, rfl, hk6, hb6⟩; have KS6 := HeldC.next (And.left (by assumption)) hb6; have KT6 := HeldC.next (And.left (And.right (by assumption))) hb6; have J6 : Asd (∃ ok, KV w6 ok c2 (plainD m)) := ⟨⟨_, hk6⟩⟩; have K6 := Asd.mk (kv_later K5d.out hb6); clear hb6 hk6)
      | (go_at_call 13; refine (HS.out _ _ _ J6.out K6.out).mono ?_; rintro e w7 ⟨rfl, hb7⟩; have KS7 := HeldC.next (And.left (by assumption)) hb7; have KT7 := HeldC.next (And.left (And.right (by assumption))) hb7; clear hb7))
  go_wp2_with fail
  go_ret
  exact ⟨rfl, HeldC.bel (And.left (by assumption))⟩
end Go.Proofs.YthclgijnfopikaaGreatDoor
