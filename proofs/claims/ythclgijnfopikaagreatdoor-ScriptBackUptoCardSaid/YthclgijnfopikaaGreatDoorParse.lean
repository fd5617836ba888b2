/- The walks of script.Parse (texts without programs) and script.Command. -/
import Derived.Test.YthclgijnfopikaaGreatDoorScr
import Derived.Deep.RegionHeld
namespace Go.Proofs.YthclgijnfopikaaGreatDoor
open Go.RowKit

theorem results_cell_tmp2 {P : Program} {fn : Func} {p q q2 : Tmp} {ty : TypeId} (h : fn.results = #[.cell p ty, .tmp q, .tmp q2]) (tmps : Array Value) (w : World) (g : Nat) (t : TypeId) (cs : Array Value) (fr : Nat × Nat) (d : TypeDesc)
    (hp : tmps.getD p undef = .pointer (some ⟨g, 0, none⟩)) (hg : w.heap[g]? = some (.cells cs t fr))
    (hu : P.underlying ty = some d) (hd : (match d with | .struct _ | .array _ _ => true | _ => false) = true) (hi : (P.info? ty).map (·.size) = some cs.size) :
    (results fn tmps).run P w = .ok (.tuple #[.agg cs, tmps.getD q undef, tmps.getD q2 undef]) w := by
  have hp' : tmps[p]?.getD undef = .pointer (some ⟨g, 0, none⟩) := by simpa using hp
  simp [results, h, hp', asAddr, run_loadVar_row w g t ty cs fr d hg hu hd hi]
theorem ScrV.kept {W W1 : World} {ok ok1 : Nat → Prop} {cs : Array Value} {s : Script} (h : ScrV W ok cs s) (hk : ∀ g c t f, ok g → W.heap[g]? = some (.cells c t f) → W1.heap[g]? = W.heap[g]? ∧ ok1 g) : ScrV W1 ok1 cs s := by
  obtain ⟨vC, vP, h1, h2, h3, h4⟩ := h
  exact ⟨vC, vP, h1, h2.kept hk, h3, h4⟩
def ParsePost (d : Script × Int × Int) (w : World) (e : Ending) (w' : World) : Prop :=
  ∃ cs, e = .returned (.tuple #[.agg cs, .int .i64 d.2.1, .int .i64 d.2.2]) ∧ ScrV w' (w.heap.size ≤ ·) cs d.1 ∧ Below w.heap.size w w'

set_option maxHeartbeats 8000000 in
set_option maxRecDepth 100000 in
theorem parse_calls {B : Nat} (rd : Reader) (t : ByteArray) (ht : t.size ≤ 1048576) (hcov : Cov rd t.data.toList) (hnp : NoProg t.data.toList) (w : World) (hG : Glob B w) :
    Calls Tryz.prog 23 #[.string t] w (ParsePost (parseD rd t.data.toList) w) := by
  have HG := Asd.mk hG
  have htl : t.data.toList.length ≤ 1048576 := by have : t.data.size ≤ 1048576 := ht; simpa using this
  have hscr := fun p W (hG : Glob B W) (hB : B ≤ p) (hp : RdrAt W p ⟨t.data.toList, 0, 0, 0⟩) => script_calls rd p t.data.toList htl hcov hnp W hG hB hp
  have Hscr := Asd.mk hscr
  obtain ⟨sc, hsc⟩ : ∃ s, s = (scriptD rd ⟨t.data.toList, 0, 0, 0⟩).1 := ⟨_, rfl⟩
  obtain ⟨rr, hrr⟩ : ∃ r, r = (scriptD rd ⟨t.data.toList, 0, 0, 0⟩).2 := ⟨_, rfl⟩
  have Hd : Asd (parseD rd t.data.toList = if rr.why ≠ 0 then (Script.zero, rr.why, rr.at_) else (sc, 0, 0)) := ⟨by unfold parseD; rw [if_neg (by omega), hrr, hsc]⟩
  have Hsc := Asd.mk hsc
  have Hrr := Asd.mk hrr
  clear hG hcov hnp hscr hsc hrr
  have hti : (t.size : Int) ≤ 1048576 := by omega
  go_enter Tryz.func23, Tryz.ntmps23
  go_wp2_with fail
  obtain ⟨rb, hrb⟩ : ∃ rb, rb = w.heap.size := ⟨_, rfl⟩
  obtain ⟨W0, hW0⟩ : ∃ W, W = (w.alloc (.cells #[.slice none 0 0, .slice none 0 0, .int .i64 0] 46)).alloc (.cells #[.string t, .int .i64 0, .int .i64 0, .int .i64 0] 89) := ⟨_, rfl⟩
  have B0 : Below w.heap.size w W0 := by rw [hW0]; exact bl_alloc (bl_alloc (Below.refl _ _) _) _
  have hz0 : (w.alloc (.cells #[.slice none 0 0, .slice none 0 0, .int .i64 0] 46)).heap.size = rb + 1 := by rw [hrb]; simp [World.alloc, -World.alloc_eq]
  have R0 : Asd (W0.heap[rb]? = some (.cells zScr 46 (0, 0))) := ⟨by rw [hW0, hrb]; exact bk_alloc (bk_new w _) _⟩
  have P0 : Asd (RdrAt W0 (rb + 1) ⟨t.data.toList, 0, 0, 0⟩) := ⟨by rw [hW0, ← hz0]; exact bk_new _ _⟩
  have HB0 := Asd.mk B0
  have Hrb := Asd.mk hrb
  have hBp : B ≤ rb + 1 := by have := HG.out.le; omega
  rw [← hW0, ← hrb]
  clear hW0 hrb hz0
  refine (Hscr.out (rb + 1) W0 (HG.out.below B0 HG.out.le) hBp P0.out).mono ?_
  rintro e w1 ⟨cs, rfl, hsv, hR1, hg1⟩
  rw [← Hrr.out] at hR1
  rw [← Hsc.out] at hsv
  have hsz0 : rb + 2 ≤ W0.heap.size := bk_lt P0.out
  have R1 : Asd (w1.heap[rb]? = some (.cells zScr 46 (0, 0))) := ⟨bk_grown R0.out hg1 (by intro e; injection e with e; omega)⟩
  have B1 : Asd (Below w.heap.size w w1) := ⟨bl_grown B0 hg1 (by intro k hk; injection hk with hk; have := Hrb.out; omega)⟩
  have P1 : Asd (RdrAt w1 (rb + 1) rr) := ⟨hR1⟩
  obtain ⟨vC, vP, hcs, hcm, hvo, hvp⟩ := hsv
  have hone : cs.all (·.oneCell') = true ∧ cs.size = 3 := by
    have e1 := cmds_one hcm
    rw [hcs]
    constructor
    · simp [e1, hvo]; simp [Value.oneCell']
    · rfl
  have H3 := Asd.mk hone
  have Hsv : Asd (ScrV w1 (rb + 1 < ·) cs sc) := ⟨vC, vP, hcs, hcm.kept fun g _ _ _ ho e => ⟨rfl, by have : W0.heap.size ≤ g := ho; omega⟩, hvo, hvp⟩
  clear hcs hcm hvo hvp hone hg1 hR1 hsz0 R0 P0 HB0 B0 Hscr Hrr Hsc
  by_cases hwy : rr.why = 0
  · have hw0 : (rr.why != 0) = false := by simp [hwy]
    rw [if_neg (by simp [hwy])] at Hd
    clear hwy
    go_wp2_with (first | (refine wpList_store_rowK rfl 46 _ _ rfl w1.heap.size cs rfl rfl 46 zScr (bk_new w1 _) (by rw [infoScr, H3.out.2]) (by rw [H3.out.2]; rfl) H3.out.1 ?_; intro W2 hW2 hgr hz; have hb2 := below_fresh hgr; have HW2 := Asd.mk hW2; have R2 : Asd (W2.heap[rb]? = some (.cells zScr 46 (0, 0))) := ⟨bk_below R1.out hb2 (bk_lt R1.out)⟩; have P2 : Asd (RdrAt W2 (rb + 1) rr) := ⟨bk_below P1.out hb2 (bk_lt P1.out)⟩; have B2 := Asd.mk (bl_trans B1.out hb2); have Hsv2 : Asd (ScrV W2 (rb + 1 < ·) cs sc) := ⟨Hsv.out.kept fun g _ _ _ ho e => ⟨hb2.block g (bk_lt e), ho⟩⟩; have c1 := bk_cell P2.out 1; have c3 := bk_cell P2.out 3; simp only [rsCells, List.getElem?_toArray, List.getElem?_cons_zero, List.getElem?_cons_succ] at c1 c3; have hz1 := bk_lt R1.out; have hcb : rb < w1.heap.size := hz1; clear hW2 hgr hz hb2 R1 P1 B1 Hsv hz1) | (refine wpList_load_row rfl 46 _ rfl w1.heap.size rfl 46 cs (0, 0) _ HW2.out Tryz.underlying46 rfl (by rw [infoScr, H3.out.2]) ?_) | (refine wpList_store_rowK rfl 46 _ _ rfl rb cs rfl rfl 46 zScr R2.out (by rw [infoScr, H3.out.2]) (by rw [H3.out.2]; rfl) H3.out.1 ?_; intro V2 hV2 hg2 hz2; clear hz2))
    refine bodyPost_ret (results_cell_tmp2 rfl _ _ rb 46 cs (0, 0) _ rfl hV2 Tryz.underlying46 rfl (by rw [infoScr, H3.out.2])) rfl ?_
    have Hr := Hrb.out
    refine ⟨cs, by rw [Hd.out]; rfl, by rw [Hd.out]; exact Hsv2.out.kept fun g _ _ _ ho e => ⟨hg2.block g (bk_lt e) (by intro e; injection e with e; omega), by omega⟩, ?_⟩
    exact bl_grown B2.out hg2 (fun g h => by injection h with h; omega)
  · have hw0 : (rr.why != 0) = true := by simp [hwy]
    rw [if_pos hwy] at Hd
    clear hwy
    go_wp2_with (refine wpList_store_rowK rfl 46 _ _ rfl w1.heap.size cs rfl rfl 46 zScr (bk_new w1 _) (by rw [infoScr, H3.out.2]) (by rw [H3.out.2]; rfl) H3.out.1 ?_; intro W2 hW2 hgr hz; have hb2 := below_fresh hgr; have HW2 := Asd.mk hW2; have R2 : Asd (W2.heap[rb]? = some (.cells zScr 46 (0, 0))) := ⟨bk_below R1.out hb2 (bk_lt R1.out)⟩; have P2 : Asd (RdrAt W2 (rb + 1) rr) := ⟨bk_below P1.out hb2 (bk_lt P1.out)⟩; have B2 := Asd.mk (bl_trans B1.out hb2); have Hsv2 : Asd (ScrV W2 (rb + 1 < ·) cs sc) := ⟨Hsv.out.kept fun g _ _ _ ho e => ⟨hb2.block g (bk_lt e), ho⟩⟩; have c1 := bk_cell P2.out 1; have c3 := bk_cell P2.out 3; simp only [rsCells, List.getElem?_toArray, List.getElem?_cons_zero, List.getElem?_cons_succ] at c1 c3; have hz1 := bk_lt R1.out; have hcb : rb < w1.heap.size := hz1; clear hW2 hgr hz hb2 R1 P1 B1 Hsv hz1)
    have r0 := bk_cell R2.out 0
    have r1 := bk_cell R2.out 1
    have r2 := bk_cell R2.out 2
    have f0 := bk_free R2.out 0
    have f1 := bk_free R2.out 1
    have f2 := bk_free R2.out 2
    simp only [zScr, List.getElem?_toArray, List.getElem?_cons_zero, List.getElem?_cons_succ] at r0 r1 r2
    have hne : rb ≠ rb + 1 := by omega
    go_region_held (fun w' => w'.cell? ⟨rb + 1, 3, none⟩ = some (.int .i64 rr.why) ∧ w'.cell? ⟨rb + 1, 1, none⟩ = some (.int .i64 rr.at_)) (go_keep) (fail)
    go_wp2_with fail
    have hR3 : (((W2.drew.setCell ⟨rb, 0, none⟩ (.slice none 0 0)).setCell ⟨rb, 1, none⟩ (.slice none 0 0)).setCell ⟨rb, 2, none⟩ (.int .i64 0)).heap[rb]? = some (.cells zScr 46 (0, 0)) := bk_set (bk_set (bk_set (w := W2.drew) R2.out 0 _) 1 _) 2 _
    refine bodyPost_ret (results_cell_tmp2 rfl _ _ rb 46 zScr (0, 0) _ rfl hR3 Tryz.underlying46 rfl infoScr) rfl ?_
    have Hr := Hrb.out
    refine ⟨zScr, by rw [Hd.out]; rfl, by rw [Hd.out]; exact ⟨_, _, rfl, Cmds.nil _ _, rfl, fun _ => rfl⟩, ?_⟩
    have hb : Below w.heap.size w W2.drew := ⟨B2.out.os, B2.out.tape, B2.out.output, B2.out.size, B2.out.block⟩
    exact bl_set (bl_set (bl_set hb (by show w.heap.size ≤ rb; omega) _) (by show w.heap.size ≤ rb; omega) _) (by show w.heap.size ≤ rb; omega) _

def CmdPost3 (rd : Reader) (l : List UInt8) (w : World) (e : Ending) (w' : World) : Prop :=
  ∃ cs m, e = .returned (.tuple #[.agg cs, .int .i64 (if (cmdD rd l).isSome then 0 else 20)]) ∧ KV w' (w.heap.size ≤ ·) cs m ∧ m = (cmdD rd l).getD (Cmd.zero 0) ∧ Below w.heap.size w w'

set_option maxHeartbeats 8000000 in
set_option maxRecDepth 100000 in
theorem Command_calls {B : Nat} (rd : Reader) (s : ByteArray) (hs : s.size ≤ 1048576) (hc : Covered rd s.data.toList) (w : World) (hG : Glob B w) :
    Calls Tryz.prog 11 #[.string s] w (CmdPost3 rd s.data.toList w) := by
  have HC := Asd.mk (fun W (h : Glob B W) => command_calls rd s hs W h hc)
  have HG := Asd.mk hG
  clear hG hc
  obtain ⟨rb, hrb⟩ : ∃ rb, rb = w.heap.size := ⟨_, rfl⟩
  have Hrb := Asd.mk hrb
  have hsi : (s.size : Int) ≤ 1048576 := by omega
  have R0 : Asd ((w.alloc (.cells (zeroCmd 0) 28)).heap[rb]? = some (.cells (zeroCmd 0) 28 (0, 0))) := ⟨by rw [hrb]; exact bk_new w _⟩
  have B0 : Asd (Below w.heap.size w (w.alloc (.cells (zeroCmd 0) 28))) := ⟨bl_alloc (Below.refl _ _) _⟩
  go_enter Tryz.func11, Tryz.ntmps11
  go_wp2_with fail
  rw [← hrb]
  clear hrb
  refine (HC.out _ (HG.out.below B0.out HG.out.le)).mono ?_
  rintro e w1 ⟨cs, m, ok, rfl, hkv, hb1, hsome, hnone⟩
  have R1 : Asd (w1.heap[rb]? = some (.cells (zeroCmd 0) 28 (0, 0))) := ⟨bk_below R0.out hb1 (bk_lt R0.out)⟩
  have B1 := Asd.mk (bl_trans B0.out hb1)
  have h12 := Asd.mk (And.intro (kv_one hkv) (kv_size hkv))
  have hz0 : rb < (w.alloc (.cells (zeroCmd 0) 28)).heap.size := bk_lt R0.out
  have K1 : Asd (KV w1 (rb < ·) cs m) := ⟨hkv.kept fun g _ _ _ ho e => ⟨rfl, by have : (w.alloc (.cells (zeroCmd 0) 28)).heap.size ≤ g := ho; omega⟩⟩
  clear hkv hb1 R0 B0 hz0 HC
  cases hd : cmdD rd s.data.toList with
  | none =>
    have hok := hnone hd
    subst hok
    have Hd := Asd.mk hd
    clear hd hsome hnone
    go_wp2_with (first | (refine wpList_store_rowK rfl 28 _ _ rfl w1.heap.size cs rfl rfl 28 (zeroCmd 0) (bk_new w1 _) (by rw [infoCmd, h12.out.2]) (by rw [h12.out.2]; rfl) h12.out.1 ?_; intro W2 hW2 hgr hz; have hb2 := below_fresh hgr; have R2 : Asd (W2.heap[rb]? = some (.cells (zeroCmd 0) 28 (0, 0))) := ⟨bk_below R1.out hb2 (bk_lt R1.out)⟩; have B2 := Asd.mk (bl_trans B1.out hb2); clear hW2 hgr hz hb2) | (refine wpList_store_rowK rfl 28 _ _ rfl rb (zeroCmd 0) rfl rfl 28 (zeroCmd 0) R2.out infoCmd rfl (zero_one 0) ?_; intro W3 hW3 hg3 hz3; clear hz3))
    refine bodyPost_ret (results_cell_tmp rfl _ _ rb 28 (zeroCmd 0) (0, 0) _ rfl hW3 Tryz.underlying28 rfl infoCmd) rfl ?_
    refine ⟨_, Cmd.zero 0, by rw [Hd.out]; rfl, kv_zero _ _ 0, by rw [Hd.out]; rfl, ?_⟩
    exact bl_grown B2.out hg3 (fun g h => by injection h with h; have := Hrb.out; omega)
  | some m2 =>
    obtain ⟨rfl, rfl⟩ := hsome m2 hd
    have Hd := Asd.mk hd
    clear hd hsome hnone
    go_wp2_with (first | (refine wpList_store_rowK rfl 28 _ _ rfl w1.heap.size cs rfl rfl 28 (zeroCmd 0) (bk_new w1 _) (by rw [infoCmd, h12.out.2]) (by rw [h12.out.2]; rfl) h12.out.1 ?_; intro W2 hW2 hgr hz; have hb2 := below_fresh hgr; have HW2 := Asd.mk hW2; have R2 : Asd (W2.heap[rb]? = some (.cells (zeroCmd 0) 28 (0, 0))) := ⟨bk_below R1.out hb2 (bk_lt R1.out)⟩; have B2 := Asd.mk (bl_trans B1.out hb2); have K2 : Asd (KV W2 (rb < ·) cs m) := ⟨K1.out.kept fun g _ _ _ ho e => ⟨hb2.block g (bk_lt e), ho⟩⟩; clear hW2 hgr hz hb2) | (refine wpList_load_row rfl 28 _ rfl w1.heap.size rfl 28 cs (0, 0) _ HW2.out Tryz.underlying28 rfl (by rw [infoCmd, h12.out.2]) ?_) | (refine wpList_store_rowK rfl 28 _ _ rfl rb cs rfl rfl 28 (zeroCmd 0) R2.out (by rw [infoCmd, h12.out.2]) (by rw [h12.out.2]; rfl) h12.out.1 ?_; intro W3 hW3 hg3 hz3; clear hz3))
    refine bodyPost_ret (results_cell_tmp rfl _ _ rb 28 cs (0, 0) _ rfl hW3 Tryz.underlying28 rfl (by rw [infoCmd, h12.out.2])) rfl ?_
    refine ⟨cs, m, by rw [Hd.out]; rfl, K2.out.kept fun g _ _ _ ho e => ⟨hg3.block g (bk_lt e) (by intro e; injection e with e; omega), by have := Hrb.out; omega⟩, by rw [Hd.out]; rfl, ?_⟩
    exact bl_grown B2.out hg3 (fun g h => by injection h with h; have := Hrb.out; omega)
end Go.Proofs.YthclgijnfopikaaGreatDoor
