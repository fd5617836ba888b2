/- The walk of the reader's program. -/
import Derived.Test.YthclgijnfopikaaGreatDoorMain
namespace Go.Proofs.YthclgijnfopikaaGreatDoor
open Go.RowKit

set_option maxHeartbeats 8000000 in
set_option maxRecDepth 100000 in
theorem prog_calls {B : Nat} (rd : Reader) (p : Nat) (r0 : RS) (hr : Small r0) (hcov : Cov rd r0.left) (w : World) (hG : Glob B w) (hB : B ≤ p) (hp : RdrAt w p r0) :
    Calls Tryz.prog 81 #[.pointer (some ⟨p, 0, none⟩)] w (MainPost (progD rd (r0.left.length + 1) [] r0) p w) := by
  have HG := Asd.mk hG
  have HB := Asd.mk hB
  have HP := Asd.mk hp
  have HS := Asd.mk hr
  have HC := Asd.mk hcov
  have Hpl := Asd.mk (bk_lt hp)
  obtain ⟨D, hD⟩ : ∃ D, D = progD rd (r0.left.length + 1) [] r0 := ⟨_, rfl⟩
  have HD := Asd.mk hD
  rw [← hD]
  clear hG hB hp hr hcov hD
  go_enter Tryz.func81, Tryz.ntmps81
  go_wp2_with fail
  go_loopw [3, 4, 5, 6] (fun v3 v4 v5 v6 wr => ∃ n r ms, Asd (r.left.length + 1 ≤ n) ∧ Asd (RdrAt wr p r) ∧ Asd (Small r) ∧ Asd (Cov rd r.left) ∧ Asd (Cmds wr (w.heap.size ≤ ·) v3 ms) ∧
      Asd (progD rd n ms r = D) ∧ Asd (w.grownBy wr (some p)) ∧ Asd (ms.length + r.left.length ≤ 1048576)) (fun _ _ _ _ wr => leftLen p wr)
  case atStart => exact ⟨_, r0, [], ⟨Nat.le_refl _⟩, HP, HS, HC, ⟨Cmds.nil _ _⟩, ⟨HD.out.symm⟩, ⟨World.grownBy.refl _ _⟩, ⟨by simpa using HS.out.left⟩⟩
  case round =>
    obtain ⟨n, r, ms, hn, hR, hS, hCv, hM, hE, hGr, hL⟩ := hrel
    obtain ⟨n', hn'⟩ : ∃ n', n = n' + 1 := ⟨n - 1, by have := hn.out; omega⟩
    subst hn'
    go_wp2_with fail
    refine (rline_calls p r hS.out wr (HG.out.grown hGr.out HB.out) HB.out hR.out).mono ?_
    rintro e w1 ⟨rfl, hR1, hg1⟩
    cases hl : r.lineD with
    | mk o r1 =>
    rw [hl] at hR1
    cases o with
    | none =>
      rw [progD_no rd n' ms hl] at hE
      have HR1 := Asd.mk hR1
      have G1 := Asd.mk (grown_trans hGr.out hg1)
      have M1 : Asd (Cmds w1 (w.heap.size ≤ ·) u3 ms) := ⟨hM.out.kept fun g _ _ _ h1 h2 => ⟨hg1.block g (bk_lt h2) (by intro e; injection e with e; have : w.heap.size ≤ g := h1; have := Hpl.out; omega), h1⟩⟩
      clear hl hg1 hR1
      go_wp2_with fail
      go_ret
      exact ⟨_, rfl, by rw [← hE.out]; exact M1.out, by rw [← hE.out]; exact HR1.out, G1.out⟩
    | some l =>
      by_cases hend : l = [101, 110, 100]
      · subst hend
        rw [progD_end rd n' ms hl] at hE
        have HR1 := Asd.mk hR1
        have G1 := Asd.mk (grown_trans hGr.out hg1)
        have M1 : Asd (Cmds w1 (w.heap.size ≤ ·) u3 ms) := ⟨hM.out.kept fun g _ _ _ h1 h2 => ⟨hg1.block g (bk_lt h2) (by intro e; injection e with e; have : w.heap.size ≤ g := h1; have := Hpl.out; omega), h1⟩⟩
        obtain ⟨sl, hsl⟩ : ∃ s, s = str [101, 110, 100] := ⟨_, rfl⟩
        have heq : (sl.toList == [101, 110, 100]) = true := by rw [hsl, ByteArray.toList_eq, data_str]; rfl
        rw [show (Option.getD (some ([101, 110, 100] : List UInt8), r1).1 []) = [101, 110, 100] from rfl, ← hsl]
        clear hl hg1 hR1 hsl
        go_wp2_with fail
        go_ret
        exact ⟨_, rfl, by rw [← hE.out]; exact M1.out, by rw [← hE.out]; exact HR1.out, G1.out⟩
      · have Hend := Asd.mk hend
        obtain ⟨sl, hsl⟩ : ∃ s, s = str l := ⟨_, rfl⟩
        have heq : (sl.toList == [101, 110, 100]) = false := by rw [hsl, ByteArray.toList_eq, data_str]; exact beq_eq_false_iff_ne.2 hend
        obtain ⟨hcv1, hcvl⟩ := cov_line hCv.out hl
        have hlen := line_len hl
        have hS1 := small_line hS.out hl
        have hS2 := small_cmd hS.out hl rd
        have hlt := (rl_some hl).1
        have Hl := Asd.mk hl
        have HR1 := Asd.mk hR1
        have G1 := Asd.mk (grown_trans hGr.out hg1)
        have M1 : Asd (Cmds w1 (w.heap.size ≤ ·) u3 ms) := ⟨hM.out.kept fun g _ _ _ h1 h2 => ⟨hg1.block g (bk_lt h2) (by intro e; injection e with e; have : w.heap.size ≤ g := h1; have := Hpl.out; omega), h1⟩⟩
        have hsz : sl.size ≤ 1048576 := by rw [hsl]; show (List.toArray _).size ≤ _; have := hS.out.left; simp; omega
        have hsd : sl.data.toList = l := by rw [hsl]; rfl
        have hcm := fun W (hG : Glob B W) (hp : RdrAt W p r1) => rcmd_calls rd p r1 hS1 sl hsz (by rw [hsd]; exact hcvl) W hG HB.out hp
        rw [hsd] at hcm
        have Hcm := Asd.mk hcm
        have Hcv1 := Asd.mk hcv1
        have HS2 := Asd.mk hS2
        have Hlt := Asd.mk hlt
        rw [show (Option.getD (some l, r1).1 []) = l from rfl, ← hsl]
        clear hl hg1 hR1 hM hcv1 hcvl hlen hS1 hS2 hcm hlt hsz hsd hsl hend
        go_wp2_with fail
        refine (Hcm.out w1 (HG.out.grown G1.out HB.out) HR1.out).mono ?_
        rintro e w2 ⟨cs, m, rfl, hkv, hmm, hR2, hg2⟩
        have G2 := Asd.mk (grown_trans G1.out hg2)
        have M2 : Asd (Cmds w2 (w.heap.size ≤ ·) u3 ms) := ⟨M1.out.kept fun g _ _ _ h1 h2 => ⟨hg2.block g (bk_lt h2) (by intro e; injection e with e; have : w.heap.size ≤ g := h1; have := Hpl.out; omega), h1⟩⟩
        have hsz1 : w.heap.size ≤ w1.heap.size := G1.out.size
        have hsz2 : w1.heap.size ≤ w2.heap.size := hg2.size
        have K2 : Asd (KV w2 (fun g => w.heap.size ≤ g ∧ u3.ownBlock ≠ some g) cs m) := ⟨hkv.kept fun g _ _ _ ho e => ⟨rfl, by have : w1.heap.size ≤ g := ho; omega, fun e2 => by have := (M1.out.lt g e2).2; have : w1.heap.size ≤ g := ho; omega⟩⟩
        have h12 := Asd.mk (And.intro (kv_one hkv) (kv_size hkv))
        have HR2 := Asd.mk hR2
        clear hkv hg2 hR2 G1 M1 Hcm HR1
        cases hc : (r1.cmdD rd l).1 with
        | none =>
          rw [progD_bad rd n' ms Hl.out Hend.out hc] at hE
          clear hc hmm
          go_wp2_with (refine wpList_store_rowK rfl 28 _ _ rfl w2.heap.size cs rfl rfl 28 (zeroCmd 0) (bk_new w2 _) (by rw [infoCmd, h12.out.2]) (by rw [h12.out.2]; rfl) h12.out.1 ?_)
          intro W3 hW hgr hz
          have hb3 := below_fresh hgr
          have HR3 : Asd _ := ⟨bk_below HR2.out hb3 (bk_lt HR2.out)⟩
          have G3 := Asd.mk (grown_trans G2.out (below_to_grown hb3 _))
          clear hW hgr hz hb3
          go_wp2_with fail
          go_ret
          exact ⟨_, rfl, by rw [← hE.out]; exact Cmds.nil _ _, by rw [← hE.out]; exact HR3.out, G3.out⟩
        | some m2 =>
          have hmm2 := hmm m2 hc
          subst hmm2
          rw [progD_good rd n' ms Hl.out Hend.out hc] at hE
          clear hc hmm
          go_wp2_with (refine wpList_store_rowK rfl 28 _ _ rfl w2.heap.size cs rfl rfl 28 (zeroCmd 0) (bk_new w2 _) (by rw [infoCmd, h12.out.2]) (by rw [h12.out.2]; rfl) h12.out.1 ?_)
          intro W3 hW hgr hz
          have hb3 := below_fresh hgr
          have HR3 : Asd (RdrAt W3 p _) := ⟨bk_below HR2.out hb3 (bk_lt HR2.out)⟩
          have G3 := Asd.mk (grown_trans G2.out (below_to_grown hb3 _))
          have M3 : Asd (Cmds W3 (w.heap.size ≤ ·) u3 ms) := ⟨M2.out.kept fun g _ _ _ h1 h2 => ⟨hb3.block g (bk_lt h2), h1⟩⟩
          have K3 : Asd (KV W3 (fun g => w.heap.size ≤ g ∧ u3.ownBlock ≠ some g) cs m) := ⟨K2.out.kept fun g _ _ _ ho e => ⟨hb3.block g (bk_lt e), ho⟩⟩
          have HW := Asd.mk hW
          have hz3 : w.heap.size ≤ W3.heap.size := G3.out.size
          have Hz3 := Asd.mk hz3
          obtain ⟨cb, hcb⟩ : ∃ cb, cb = w2.heap.size := ⟨_, rfl⟩
          rw [← hcb] at HW ⊢
          clear hW hgr hz hb3 G2 M2 K2 HR2 hcb hz3 hsz1 hsz2
          go_wp2_with (first | (refine wpList_load_row rfl 28 _ rfl cb rfl 28 cs (0, 0) _ HW.out Tryz.underlying28 rfl (by rw [infoCmd, h12.out.2]) ?_) | (refine wpList_build_cmd rfl 43 _ rfl Tryz.underlying43 cs rfl h12.out.2 ?_; intro W4 hW4; have hcl := cells_new W3 cs 28; rw [← hW4] at hcl; have hb4 : Below W3.heap.size W3 W4 := (by rw [hW4]; exact bl_alloc (Below.refl _ _) _); have HR4 : Asd (RdrAt W4 p _) := ⟨bk_below HR3.out hb4 (bk_lt HR3.out)⟩; have G4 := Asd.mk (grown_trans G3.out (below_to_grown hb4 _)); have M4 : Asd (Cmds W4 (w.heap.size ≤ ·) u3 ms) := ⟨M3.out.kept fun g _ _ _ h1 h2 => ⟨hb4.block g (bk_lt h2), h1⟩⟩; have K4 : Asd (KV W4 (fun g => w.heap.size ≤ g ∧ u3.ownBlock ≠ some g) cs m) := ⟨K3.out.kept fun g _ _ _ ho e => ⟨hb4.block g (bk_lt e), ho⟩⟩; have Hcl := Asd.mk hcl; have hz4 := Asd.mk (Nat.le_trans Hz3.out hb4.size); clear hcl hb4 hW4 HW G3 M3 K3 HR3 Hz3; have hbd : ms.length ≤ 1073741824 := (by have := hL.out; omega); have Hbd := Asd.mk hbd; clear hbd) | (at_builtin; refine wpList_append_cmd rfl _ _ 43 rfl (w.heap.size ≤ ·) Tryz.underlying43 u3 ms rfl M4.out ⟨W3.heap.size, 0, none⟩ 1 cs m rfl Hcl.out K4.out Hbd.out hz4.out ?_; intro v5 W5 hM5 hg5 hw5; have HM5 := Asd.mk hM5; have HR5 : Asd (RdrAt W5 p _) := ⟨bk_grown HR4.out hg5 (fun e => by have : w.heap.size ≤ p := (M4.out.lt p e.symm).1; have := Hpl.out; omega)⟩; have G5 : Asd (w.grownBy W5 (some p)) := ⟨grown_fresh2 G4.out hg5 (fun g h => (M4.out.lt g h).1)⟩; clear hM5 hg5 hw5 M4 K4 HR4 G4 Hcl hz4))
          refine ⟨⟨n', _, ms ++ [m], ⟨by have := hn.out; have := Hlt.out; have := (cmd_left rd l r1).1; rw [this]; omega⟩, HR5, HS2, ⟨by have := (cmd_left rd l r1).1; rw [this]; exact Hcv1.out⟩, HM5, hE, G5, ⟨by have := hL.out; have := Hlt.out; have := (cmd_left rd l r1).1; rw [this]; simp; omega⟩⟩, ?_⟩
          rw [leftLen_at HR5.out, leftLen_at hR.out]
          exact Hlt.out
end Go.Proofs.YthclgijnfopikaaGreatDoor
