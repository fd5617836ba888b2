/- The walk of the reader's script, where no line says program. -/
import Derived.Test.YthclgijnfopikaaGreatDoorPrg
namespace Go.Proofs.YthclgijnfopikaaGreatDoor
open Go.RowKit

def NoProg (t : List UInt8) : Prop := ∀ k, (Lib.cut (t.drop k) [10]).1 ≠ [112, 114, 111, 103, 114, 97, 109]
theorem NoProg.line {r r1 : RS} {l : List UInt8} (h : NoProg r.left) (hl : r.lineD = (some l, r1)) : NoProg r1.left ∧ l ≠ [112, 114, 111, 103, 114, 97, 109] := by
  obtain ⟨_, _, _, _, h5, k, h6⟩ := rl_some hl
  exact ⟨fun j => by rw [h6, List.drop_drop]; exact h _, by rw [h5]; exact h 0⟩
theorem fuel_data : (ByteArray.mk #[102, 117, 101, 108, 32]).data.toList = [102, 117, 101, 108, 32] := rfl
def sCells (f : Int) : Array Value := #[.slice none 0 0, .slice none 0 0, .int .i64 f]
theorem sCells_one (f : Int) : (sCells f).all (·.oneCell') = true := by simp [sCells, Value.oneCell']
def zScr : Array Value := #[.slice none 0 0, .slice none 0 0, .int .i64 0]
theorem infoScr : (Tryz.prog.info? 46).map (·.size) = some 3 := by kernel_rfl
/-- A script in memory that has no programs. -/
def ScrV (W : World) (ok : Nat → Prop) (cs : Array Value) (s : Script) : Prop := ∃ vC vP, cs = #[vC, vP, .int .i64 s.fuel] ∧ Cmds W ok vC s.cmds ∧ vP.oneCell' = true ∧ (s.progs = [] → vP = .slice none 0 0)
def ScriptPost (d : Script × RS) (p : Nat) (w : World) (e : Ending) (w' : World) : Prop :=
  ∃ cs, e = .returned (.agg cs) ∧ ScrV w' (w.heap.size ≤ ·) cs d.1 ∧ RdrAt w' p d.2 ∧ w.grownBy w' (some p)
theorem cmds_one {W : World} {ok : Nat → Prop} {v : Value} {ms : List Cmd} (h : Cmds W ok v ms) : v.oneCell' = true := by
  obtain ⟨A, c, rfl⟩ := h.len; rfl

set_option maxHeartbeats 8000000 in
set_option maxRecDepth 100000 in
theorem script_calls {B : Nat} (rd : Reader) (p : Nat) (t : List UInt8) (ht : t.length ≤ 1048576) (hcov : Cov rd t) (hnp : NoProg t) (w : World) (hG : Glob B w) (hB : B ≤ p) (hp : RdrAt w p ⟨t, 0, 0, 0⟩) :
    Calls Tryz.prog 48 #[.pointer (some ⟨p, 0, none⟩)] w (ScriptPost (scriptD rd ⟨t, 0, 0, 0⟩) p w) := by
  have HG := Asd.mk hG
  have HB := Asd.mk hB
  have Hpl := Asd.mk (bk_lt hp)
  obtain ⟨rb, hrb⟩ : ∃ rb, rb = w.heap.size := ⟨_, rfl⟩
  obtain ⟨W0, hW0⟩ : ∃ W, W = (w.alloc (.cells zScr 46)).alloc (.cells zScr 46) := ⟨_, rfl⟩
  have B0 : Below w.heap.size w W0 := by rw [hW0]; exact bl_alloc (bl_alloc (Below.refl _ _) _) _
  have P0 := Asd.mk (bk_below hp B0 (bk_lt hp))
  have hz0 : (w.alloc (.cells zScr 46)).heap.size = rb + 1 := by rw [hrb]; simp [World.alloc, -World.alloc_eq]
  have R0 : Asd (W0.heap[rb]? = some (.cells zScr 46 (0, 0))) := ⟨by rw [hW0, hrb]; exact bk_alloc (bk_new w _) _⟩
  have S0 : Asd (W0.heap[rb + 1]? = some (.cells zScr 46 (0, 0))) := ⟨by rw [hW0, ← hz0]; exact bk_new _ _⟩
  have G0 := Asd.mk (below_to_grown B0 (some p))
  have Hrb := Asd.mk hrb
  have HL := Asd.mk ht
  have HCv := Asd.mk hcov
  have HNp := Asd.mk hnp
  have HW0 := Asd.mk hW0
  clear hG hB hp B0 hrb hz0 ht hcov hnp hW0
  go_enter Tryz.func48, Tryz.ntmps48
  go_wp2_with fail
  have hw0 : (w.alloc (.cells #[.slice none 0 0, .slice none 0 0, .int .i64 0] 46)).alloc (.cells #[.slice none 0 0, .slice none 0 0, .int .i64 0] 46) = W0 := HW0.out.symm
  have hrb' : w.heap.size = rb := Hrb.out.symm
  rw [hw0, hrb']
  clear hw0 HW0
  have hS0 : Small ⟨t, 0, 0, 0⟩ := ⟨HL.out, by simp, by have := HL.out; simp; omega, by simp, by have := HL.out; simp; omega⟩
  have hline := rline_calls p ⟨t, 0, 0, 0⟩ hS0 W0 (HG.out.grown G0.out HB.out) HB.out P0.out
  refine hline.mono ?_
  rintro e w1 ⟨rfl, hR1, hg1⟩
  cases hl : RS.lineD ⟨t, 0, 0, 0⟩ with
  | mk o r1 =>
  rw [hl] at hR1
  have hS1 : Small r1 ∧ Cov rd r1.left ∧ NoProg r1.left ∧ (o.getD []).length ≤ 1048576 := by
    cases o with
    | none =>
      have := rl_no hl
      subst this
      exact ⟨⟨HL.out, by simp, by have := HL.out; simp; omega, by simp, by have := HL.out; simp; omega⟩, HCv.out, HNp.out, by simp⟩
    | some l => exact ⟨small_line hS0 hl, (cov_line (r := ⟨t, 0, 0, 0⟩) HCv.out hl).1, (NoProg.line (r := ⟨t, 0, 0, 0⟩) HNp.out hl).1, Nat.le_trans (line_len hl) HL.out⟩
  have G1 := Asd.mk (grown_trans G0.out hg1)
  have R1 : Asd (w1.heap[rb]? = some (.cells zScr 46 (0, 0))) := ⟨bk_grown R0.out hg1 (by intro e; injection e with e; have := Hpl.out; omega)⟩
  have S1 : Asd (w1.heap[rb + 1]? = some (.cells zScr 46 (0, 0))) := ⟨bk_grown S0.out hg1 (by intro e; injection e with e; have := Hpl.out; omega)⟩
  have HR1 := Asd.mk hR1
  have HS1 := Asd.mk hS1
  obtain ⟨f, hf⟩ : ∃ f, f = (fuelD (o.getD []) r1).1 := ⟨_, rfl⟩
  obtain ⟨r2, hr2⟩ : ∃ r2, r2 = (fuelD (o.getD []) r1).2 := ⟨_, rfl⟩
  have Hout : Asd (scriptD rd ⟨t, 0, 0, 0⟩ = (⟨(loopD rd (r2.left.length + 1) [] r2).2.1, (loopD rd (r2.left.length + 1) [] r2).1, f⟩, (loopD rd (r2.left.length + 1) [] r2).2.2)) := ⟨by unfold scriptD; rw [hl, hf, hr2]⟩
  obtain ⟨sl, hsl⟩ : ∃ s, s = str (o.getD []) := ⟨_, rfl⟩
  obtain ⟨fl, hfl⟩ : ∃ l, l = Lib.trimPrefix (o.getD []) [102, 117, 101, 108, 32] := ⟨_, rfl⟩
  obtain ⟨is, his⟩ : ∃ b, b = Lib.hasPrefix (o.getD []) [102, 117, 101, 108, 32] := ⟨_, rfl⟩
  have hcp : ∀ W, Calls Tryz.prog 72 #[.string sl, .string ⟨#[102, 117, 101, 108, 32]⟩] W fun e w' => e = .returned (.tuple #[.string (str fl), .bool is]) ∧ W = w' := fun W => by
    have := cutPrefix_calls (str (o.getD [])) ⟨#[102, 117, 101, 108, 32]⟩ W
    rw [data_str, fuel_data, ← hsl, ← hfl, ← his] at this
    exact this
  have hfsz : (str fl).size ≤ 1048576 := by have := has_trim (o.getD []) [102, 117, 101, 108, 32]; rw [← hfl] at this; have := hS1.2.2.2; show (List.toArray _).size ≤ _; simp; omega
  obtain ⟨rest, hrest⟩ : ∃ l, l = ((numD fl).map (·.2)).getD [] := ⟨_, rfl⟩
  obtain ⟨ok, hok⟩ : ∃ b, b = (numD fl).isSome := ⟨_, rfl⟩
  have hff : f = ((numD fl).map (·.1)).getD 0 := by rw [hf, hfl]; rfl
  have hnum : ∀ W, Glob B W → Calls Tryz.prog 79 #[.string (str fl)] W fun e w' => e = .returned (.tuple #[.int .i64 f, .string (str rest), .bool ok]) ∧ Below W.heap.size W w' := fun W h => by
    have := number_calls B (str fl) hfsz W h
    rw [data_str] at this
    unfold NumPost at this
    rw [← hff, ← hrest, ← hok] at this
    exact this
  have hrr : r2 = if is = true ∧ ok = true ∧ rest = [] then r1 else ⟨r1.left, r1.at_, r1.many, 20⟩ := by rw [hr2, his, hok, hrest, hfl]; rfl
  have Hcp := Asd.mk hcp
  have Hnum := Asd.mk hnum
  have Hrr := Asd.mk hrr
  have hsl2 : str (Option.getD (o, r1).1 []) = sl := hsl.symm
  rw [hsl2]
  clear hl hg1 hR1 hS1 hline hS0 R0 S0 G0 P0 hf hr2 hsl hfl his hcp hfsz hrest hok hff hnum hrr hsl2
  go_wp2_with fail
  refine (Hcp.out _).mono ?_
  rintro e w2 ⟨rfl, rfl⟩
  go_wp2_with fail
  refine (Hnum.out _ (HG.out.grown G1.out HB.out)).mono ?_
  rintro e w3 ⟨rfl, hb3⟩
  have G3 := Asd.mk (grown_trans G1.out (below_to_grown hb3 _))
  have R3 : Asd (w3.heap[rb]? = some (.cells zScr 46 (0, 0))) := ⟨bk_below R1.out hb3 (bk_lt R1.out)⟩
  have S3 : Asd (w3.heap[rb + 1]? = some (.cells zScr 46 (0, 0))) := ⟨bk_below S1.out hb3 (bk_lt S1.out)⟩
  have R3p : Asd (RdrAt w3 p r1) := ⟨bk_below HR1.out hb3 (bk_lt HR1.out)⟩
  clear hb3 G1 R1 S1 HR1 Hcp Hnum
  obtain ⟨sr, hsr⟩ : ∃ sr, sr = str rest := ⟨_, rfl⟩
  rw [← hsr]
  have Hsr := Asd.mk hsr
  have c3 := bk_cell R3p.out 3
  have e3 := bk_free R3p.out 3
  have s2 := bk_cell S3.out 2
  have t2 := bk_free S3.out 2
  simp only [rsCells, zScr, List.getElem?_toArray, List.getElem?_cons_zero, List.getElem?_cons_succ] at c3 s2
  have hpn : p ≠ rb + 1 := by have := Hpl.out; omega
  clear hsr
  have Hhr : Asd (∀ (V : World), RdrAt V p r2 → w3.grownBy V (some p) → w.grownBy V (some p)) := ⟨fun V _ h => grown_trans G3.out h⟩
  cases his : is with
  | false =>
    subst his
    have hr2 : r2 = ⟨r1.left, r1.at_, r1.many, 20⟩ := by rw [Hrr.out]; rfl
    have SmV : Asd (Small r2 ∧ Cov rd r2.left ∧ NoProg r2.left) := ⟨by rw [hr2]; exact ⟨⟨HS1.out.1.left, HS1.out.1.a0, HS1.out.1.a1, HS1.out.1.m0, HS1.out.1.m1⟩, HS1.out.2.1, HS1.out.2.2.1⟩⟩
    go_wp2_with fail
    obtain ⟨V0, hV0⟩ : ∃ V, V = w3.setCell ⟨p, 3, none⟩ (.int .i64 20) := ⟨_, rfl⟩
    obtain ⟨V, hV⟩ : ∃ V, V = (w3.setCell ⟨p, 3, none⟩ (.int .i64 20)).setCell ⟨rb + 1, 2, none⟩ (.int .i64 f) := ⟨_, rfl⟩
    have hV' : V = V0.setCell ⟨rb + 1, 2, none⟩ (.int .i64 f) := by rw [hV, hV0]
    have g0 : w3.grownBy V0 (some p) := by rw [hV0]; exact grown_set (World.grownBy.refl _ _) 3 _
    have pV0 : RdrAt V0 p r2 := by rw [hV0, hr2]; exact bk_set R3p.out 3 _
    have hpl := Hpl.out
    have hrbe := Hrb.out
    have PV : Asd (RdrAt V p r2) := ⟨by rw [hV']; exact (Below.heap_setCell V0 ⟨rb + 1, 2, none⟩ _ p (show p ≠ rb + 1 by omega)).trans pV0⟩
    have SV : Asd (V.heap[rb + 1]? = some (.cells (sCells f) 46 (0, 0))) := ⟨by rw [hV']; exact bk_set (bk_grown S3.out g0 (by intro e; injection e with e; omega)) 2 _⟩
    have RV : Asd (V.heap[rb]? = some (.cells zScr 46 (0, 0))) := ⟨by rw [hV']; exact (Below.heap_setCell V0 ⟨rb + 1, 2, none⟩ _ rb (show rb ≠ rb + 1 by omega)).trans (bk_grown R3.out g0 (by intro e; injection e with e; omega))⟩
    have GV : Asd (w.grownBy V (some p)) := ⟨grown_fresh2 (r2 := some (rb + 1)) (grown_trans G3.out g0) (by rw [hV']; exact grown_set (World.grownBy.refl _ _) 2 _) (fun g h => by injection h with h; omega)⟩
    rw [← hV]
    clear hV' g0 pV0 hV hV0 hpl hrbe c3 e3 s2 t2 R3p R3 S3 G3
    have hE : loopD rd (r2.left.length + 1) [] r2 = ([], [], r2) := loop_why rd _ _ (by rw [hr2]; show (20 : Int) ≠ 0; decide)
    rw [hE] at Hout
    clear hE
    have Hr2 := Asd.mk hr2
    clear hr2
    go_loopw [11, 12] (fun v11 v12 wr => Asd (wr = V)) (fun _ _ wr => leftLen p wr)
    case atStart => exact ⟨rfl⟩
    case round =>
      have hwr := hrel.out
      subst hwr
      have c3 := bk_cell PV.out 3
      simp only [rsCells, Hr2.out, List.getElem?_toArray, List.getElem?_cons_zero, List.getElem?_cons_succ] at c3
      go_wp2_with (first | (refine wpList_load_row rfl 46 _ rfl (rb + 1) rfl 46 (sCells f) (0, 0) _ SV.out Tryz.underlying46 rfl infoScr ?_) | (refine wpList_store_rowK rfl 46 _ _ rfl rb (sCells f) rfl rfl 46 zScr RV.out infoScr rfl (sCells_one f) ?_; intro V2 hV2 hg2 hz2; clear hz2))
      refine bodyPost_ret (results_cell_row rfl _ _ rb 46 (sCells f) (0, 0) _ rfl hV2 Tryz.underlying46 rfl infoScr) rfl ?_
      refine ⟨_, rfl, ⟨_, _, by rw [Hout.out]; rfl, by rw [Hout.out]; exact Cmds.nil _ _, rfl, fun _ => rfl⟩, ?_, ?_⟩
      · rw [Hout.out]; exact bk_grown PV.out hg2 (by intro e; injection e with e; have := Hpl.out; have := Hrb.out; omega)
      · exact grown_fresh2 GV.out hg2 (fun g h => by injection h with h; have := Hrb.out; omega)

  | true =>
    subst his
    cases hok : ok with
    | false =>
      subst hok
      have hr2 : r2 = ⟨r1.left, r1.at_, r1.many, 20⟩ := by rw [Hrr.out]; rfl
      have SmV : Asd (Small r2 ∧ Cov rd r2.left ∧ NoProg r2.left) := ⟨by rw [hr2]; exact ⟨⟨HS1.out.1.left, HS1.out.1.a0, HS1.out.1.a1, HS1.out.1.m0, HS1.out.1.m1⟩, HS1.out.2.1, HS1.out.2.2.1⟩⟩
      go_wp2_with fail
      obtain ⟨V0, hV0⟩ : ∃ V, V = w3.setCell ⟨p, 3, none⟩ (.int .i64 20) := ⟨_, rfl⟩
      obtain ⟨V, hV⟩ : ∃ V, V = (w3.setCell ⟨p, 3, none⟩ (.int .i64 20)).setCell ⟨rb + 1, 2, none⟩ (.int .i64 f) := ⟨_, rfl⟩
      have hV' : V = V0.setCell ⟨rb + 1, 2, none⟩ (.int .i64 f) := by rw [hV, hV0]
      have g0 : w3.grownBy V0 (some p) := by rw [hV0]; exact grown_set (World.grownBy.refl _ _) 3 _
      have pV0 : RdrAt V0 p r2 := by rw [hV0, hr2]; exact bk_set R3p.out 3 _
      have hpl := Hpl.out
      have hrbe := Hrb.out
      have PV : Asd (RdrAt V p r2) := ⟨by rw [hV']; exact (Below.heap_setCell V0 ⟨rb + 1, 2, none⟩ _ p (show p ≠ rb + 1 by omega)).trans pV0⟩
      have SV : Asd (V.heap[rb + 1]? = some (.cells (sCells f) 46 (0, 0))) := ⟨by rw [hV']; exact bk_set (bk_grown S3.out g0 (by intro e; injection e with e; omega)) 2 _⟩
      have RV : Asd (V.heap[rb]? = some (.cells zScr 46 (0, 0))) := ⟨by rw [hV']; exact (Below.heap_setCell V0 ⟨rb + 1, 2, none⟩ _ rb (show rb ≠ rb + 1 by omega)).trans (bk_grown R3.out g0 (by intro e; injection e with e; omega))⟩
      have GV : Asd (w.grownBy V (some p)) := ⟨grown_fresh2 (r2 := some (rb + 1)) (grown_trans G3.out g0) (by rw [hV']; exact grown_set (World.grownBy.refl _ _) 2 _) (fun g h => by injection h with h; omega)⟩
      rw [← hV]
      clear hV' g0 pV0 hV hV0 hpl hrbe c3 e3 s2 t2 R3p R3 S3 G3
      have hE : loopD rd (r2.left.length + 1) [] r2 = ([], [], r2) := loop_why rd _ _ (by rw [hr2]; show (20 : Int) ≠ 0; decide)
      rw [hE] at Hout
      clear hE
      have Hr2 := Asd.mk hr2
      clear hr2
      go_loopw [11, 12] (fun v11 v12 wr => Asd (wr = V)) (fun _ _ wr => leftLen p wr)
      case atStart => exact ⟨rfl⟩
      case round =>
        have hwr := hrel.out
        subst hwr
        have c3 := bk_cell PV.out 3
        simp only [rsCells, Hr2.out, List.getElem?_toArray, List.getElem?_cons_zero, List.getElem?_cons_succ] at c3
        go_wp2_with (first | (refine wpList_load_row rfl 46 _ rfl (rb + 1) rfl 46 (sCells f) (0, 0) _ SV.out Tryz.underlying46 rfl infoScr ?_) | (refine wpList_store_rowK rfl 46 _ _ rfl rb (sCells f) rfl rfl 46 zScr RV.out infoScr rfl (sCells_one f) ?_; intro V2 hV2 hg2 hz2; clear hz2))
        refine bodyPost_ret (results_cell_row rfl _ _ rb 46 (sCells f) (0, 0) _ rfl hV2 Tryz.underlying46 rfl infoScr) rfl ?_
        refine ⟨_, rfl, ⟨_, _, by rw [Hout.out]; rfl, by rw [Hout.out]; exact Cmds.nil _ _, rfl, fun _ => rfl⟩, ?_, ?_⟩
        · rw [Hout.out]; exact bk_grown PV.out hg2 (by intro e; injection e with e; have := Hpl.out; have := Hrb.out; omega)
        · exact grown_fresh2 GV.out hg2 (fun g h => by injection h with h; have := Hrb.out; omega)

    | true =>
      subst hok
      by_cases hre : rest = []
      · have he : sr.toList.isEmpty = true := by rw [Hsr.out]; exact (isEmpty_str _).2 hre
        have hr2 : r2 = r1 := by rw [Hrr.out, hre]; rfl
        clear hre
        have SmV : Asd (Small r2 ∧ Cov rd r2.left ∧ NoProg r2.left) := ⟨by rw [hr2]; exact ⟨HS1.out.1, HS1.out.2.1, HS1.out.2.2.1⟩⟩
        go_wp2_with fail
        obtain ⟨V0, hV0⟩ : ∃ V, V = w3 := ⟨_, rfl⟩
        obtain ⟨V, hV⟩ : ∃ V, V = (w3).setCell ⟨rb + 1, 2, none⟩ (.int .i64 f) := ⟨_, rfl⟩
        have hV' : V = V0.setCell ⟨rb + 1, 2, none⟩ (.int .i64 f) := by rw [hV, hV0]
        have g0 : w3.grownBy V0 (some p) := by rw [hV0]; exact World.grownBy.refl _ _
        have pV0 : RdrAt V0 p r2 := by rw [hV0, hr2]; exact R3p.out
        have hpl := Hpl.out
        have hrbe := Hrb.out
        have PV : Asd (RdrAt V p r2) := ⟨by rw [hV']; exact (Below.heap_setCell V0 ⟨rb + 1, 2, none⟩ _ p (show p ≠ rb + 1 by omega)).trans pV0⟩
        have SV : Asd (V.heap[rb + 1]? = some (.cells (sCells f) 46 (0, 0))) := ⟨by rw [hV']; exact bk_set (bk_grown S3.out g0 (by intro e; injection e with e; omega)) 2 _⟩
        have RV : Asd (V.heap[rb]? = some (.cells zScr 46 (0, 0))) := ⟨by rw [hV']; exact (Below.heap_setCell V0 ⟨rb + 1, 2, none⟩ _ rb (show rb ≠ rb + 1 by omega)).trans (bk_grown R3.out g0 (by intro e; injection e with e; omega))⟩
        have GV : Asd (w.grownBy V (some p)) := ⟨grown_fresh2 (r2 := some (rb + 1)) (grown_trans G3.out g0) (by rw [hV']; exact grown_set (World.grownBy.refl _ _) 2 _) (fun g h => by injection h with h; omega)⟩
        rw [← hV]
        clear hV' g0 pV0 hV hV0 hpl hrbe c3 e3 s2 t2 R3p R3 S3 G3
        clear hr2
        go_loopw [11, 12] (fun v11 v12 wr => ∃ n r, Asd (r.left.length + 1 ≤ n) ∧ Asd (RdrAt wr p r) ∧ Asd (Small r) ∧ Asd (Cov rd r.left) ∧ Asd (NoProg r.left) ∧
            Asd (loopD rd n [] r = loopD rd (r2.left.length + 1) [] r2) ∧ Asd (wr.heap[rb + 1]? = some (.cells (sCells f) 46 (0, 0))) ∧ Asd (wr.heap[rb]? = some (.cells zScr 46 (0, 0))) ∧ Asd (w.grownBy wr (some p))) (fun _ _ wr => leftLen p wr)
        case atStart => exact ⟨_, r2, ⟨Nat.le_refl _⟩, PV, ⟨SmV.out.1⟩, ⟨SmV.out.2.1⟩, ⟨SmV.out.2.2⟩, ⟨rfl⟩, SV, RV, GV⟩
        case round =>
          obtain ⟨n, r, hn, hR, hS, hCv, hNp, hE, hSr, hRb, hGr⟩ := hrel
          have c3 := bk_cell hR.out 3
          simp only [rsCells, List.getElem?_toArray, List.getElem?_cons_zero, List.getElem?_cons_succ] at c3
          obtain ⟨n', hn'⟩ : ∃ n', n = n' + 1 := ⟨n - 1, by have := hn.out; omega⟩
          subst hn'
          by_cases hwy : r.why = 0
          · have hw0 : (r.why == 0) = true := by simp [hwy]
            have Hwy := Asd.mk hwy
            clear hwy
            go_wp2_with fail
            refine (rline_calls p r hS.out wr (HG.out.grown hGr.out HB.out) HB.out hR.out).mono ?_
            rintro e w4 ⟨rfl, hR4, hg4⟩
            have hpl := Hpl.out
            have hrbe := Hrb.out
            have Hs4 : Asd (w4.heap[rb + 1]? = some (.cells (sCells f) 46 (0, 0))) := ⟨bk_grown hSr.out hg4 (by intro e; injection e with e; omega)⟩
            have Hr4 : Asd (w4.heap[rb]? = some (.cells zScr 46 (0, 0))) := ⟨bk_grown hRb.out hg4 (by intro e; injection e with e; omega)⟩
            have G4 := Asd.mk (grown_trans hGr.out hg4)
            clear hpl hrbe hg4 c3 hw0
            cases hl : r.lineD with
            | mk o1 q1 =>
            rw [hl] at hR4
            cases o1 with
            | none =>
              rw [loop_no rd n' [] Hwy.out hl] at hE
              have HR4 := Asd.mk hR4
              have Hout2 : Asd (scriptD rd ⟨t, 0, 0, 0⟩ = (⟨[], [], f⟩, q1)) := ⟨by rw [Hout.out, ← hE.out]⟩
              clear hl hR4
              go_wp2_with (first | (refine wpList_load_row rfl 46 _ rfl (rb + 1) rfl 46 (sCells f) (0, 0) _ Hs4.out Tryz.underlying46 rfl infoScr ?_) | (refine wpList_store_rowK rfl 46 _ _ rfl rb (sCells f) rfl rfl 46 zScr Hr4.out infoScr rfl (sCells_one f) ?_; intro V2 hV2 hg2 hz2; clear hz2))
              refine bodyPost_ret (results_cell_row rfl _ _ rb 46 (sCells f) (0, 0) _ rfl hV2 Tryz.underlying46 rfl infoScr) rfl ?_
              have hpl := Hpl.out
              have hrbe := Hrb.out
              refine ⟨_, rfl, ⟨_, _, by rw [Hout2.out]; rfl, by rw [Hout2.out]; exact Cmds.nil _ _, rfl, fun _ => rfl⟩, ?_, ?_⟩
              · rw [Hout2.out]; exact bk_grown HR4.out hg2 (by intro e; injection e with e; omega)
              · exact grown_fresh2 G4.out hg2 (fun g h => by injection h with h; omega)
            | some l =>
              obtain ⟨hcv1, _⟩ := cov_line hCv.out hl
              obtain ⟨hnp1, hnl⟩ := NoProg.line hNp.out hl
              have hS1 := small_line hS.out hl
              have hlt := (rl_some hl).1
              have Hcv1 := Asd.mk hcv1
              have Hnp1 := Asd.mk hnp1
              have HS4 := Asd.mk hS1
              have Hlt := Asd.mk hlt
              have HR4 := Asd.mk hR4
              clear hcv1 hnp1 hS1 hlt hR4
              by_cases hma : l = [109, 97, 105, 110]
              · subst hma
                rw [loop_main rd n' [] Hwy.out hl] at hE
                obtain ⟨sl2, hsl2⟩ : ∃ s, s = str [109, 97, 105, 110] := ⟨_, rfl⟩
                have heq : (sl2.toList == [109, 97, 105, 110]) = true := by rw [hsl2, ByteArray.toList_eq, data_str]; rfl
                rw [show (Option.getD (some ([109, 97, 105, 110] : List UInt8), q1).1 []) = [109, 97, 105, 110] from rfl, ← hsl2]
                have hmain := fun W (hG : Glob B W) (hp : RdrAt W p q1) => main_calls rd p q1 HS4.out Hcv1.out W hG HB.out hp
                have Hmain := Asd.mk hmain
                clear hl hsl2 hmain
                go_wp2_with fail
                refine (Hmain.out w4 (HG.out.grown G4.out HB.out) HR4.out).mono ?_
                rintro e w5 ⟨v, rfl, hM5, hR5, hg5⟩
                have hv := hM5.len
                obtain ⟨ms, hms⟩ : ∃ m, m = (mainD rd q1.left.length [] q1).1 := ⟨_, rfl⟩
                rw [← hms] at hM5 hv
                obtain ⟨nl, hnl2⟩ : ∃ n, n = ms.length := ⟨_, rfl⟩
                rw [← hnl2] at hv
                obtain ⟨A, c, hv⟩ := hv
                subst hv
                have hpl := Hpl.out
                have hrbe := Hrb.out
                have hS5 : w5.heap[rb + 1]? = some (.cells (sCells f) 46 (0, 0)) := bk_grown Hs4.out hg5 (by intro e; injection e with e; omega)
                have hR5b : w5.heap[rb]? = some (.cells zScr 46 (0, 0)) := bk_grown Hr4.out hg5 (by intro e; injection e with e; omega)
                have G5 := grown_trans G4.out hg5
                have hz4 : rb + 1 < w4.heap.size := bk_lt Hs4.out
                have c0 := bk_cell hS5 0
                have t0 := bk_free hS5 0
                simp only [sCells, List.getElem?_toArray, List.getElem?_cons_zero] at c0
                obtain ⟨w6, hw6⟩ : ∃ W, W = w5.setCell ⟨rb + 1, 0, none⟩ (.slice A nl c) := ⟨_, rfl⟩
                have Hs6 : Asd (w6.heap[rb + 1]? = some (.cells #[.slice A nl c, .slice none 0 0, .int .i64 f] 46 (0, 0))) := ⟨by rw [hw6]; exact bk_set hS5 0 _⟩
                have Hr6 : Asd (w6.heap[rb]? = some (.cells zScr 46 (0, 0))) := ⟨by rw [hw6]; exact (Below.heap_setCell w5 ⟨rb + 1, 0, none⟩ _ rb (show rb ≠ rb + 1 by omega)).trans hR5b⟩
                have HR6 : Asd (RdrAt w6 p _) := ⟨by rw [hw6]; exact (Below.heap_setCell w5 ⟨rb + 1, 0, none⟩ _ p (show p ≠ rb + 1 by omega)).trans hR5⟩
                have G6 : Asd (w.grownBy w6 (some p)) := ⟨grown_fresh2 (r2 := some (rb + 1)) G5 (by rw [hw6]; exact grown_set (World.grownBy.refl _ _) 0 _) (fun g h => by injection h with h; omega)⟩
                have M6 : Asd (Cmds w6 (rb + 1 < ·) (.slice A nl c) ms) := ⟨hM5.kept fun g _ _ _ ho e => ⟨by rw [hw6]; exact Below.heap_setCell w5 ⟨rb + 1, 0, none⟩ _ g (show g ≠ rb + 1 by have : w4.heap.size ≤ g := ho; omega), by have : w4.heap.size ≤ g := ho; omega⟩⟩
                have Hv1 := Asd.mk (cmds_one hM5)
                have Hw6 := Asd.mk hw6
                have Hout2 : Asd (scriptD rd ⟨t, 0, 0, 0⟩ = (⟨ms, [], f⟩, (mainD rd q1.left.length [] q1).2)) := ⟨by rw [Hout.out, ← hE.out, hms]⟩
                clear hM5 hR5 hg5 hS5 hR5b G5 hz4 hpl hrbe
                have hone : (#[Value.slice A nl c, .slice none 0 0, .int .i64 f] : Array Value).all (·.oneCell') = true := by simp [Value.oneCell']
                rw [hw6] at Hs6 Hr6
                clear hms hnl2
                go_wp2_with (first | (refine wpList_load_row rfl 46 _ rfl (rb + 1) rfl 46 #[.slice A nl c, .slice none 0 0, .int .i64 f] (0, 0) _ Hs6.out Tryz.underlying46 rfl infoScr ?_) | (refine wpList_store_rowK rfl 46 _ _ rfl rb #[.slice A nl c, .slice none 0 0, .int .i64 f] rfl rfl 46 zScr Hr6.out infoScr rfl hone ?_; intro V2 hV2 hg2 hz2; clear hz2))
                refine bodyPost_ret (results_cell_row rfl _ _ rb 46 #[.slice A nl c, .slice none 0 0, .int .i64 f] (0, 0) _ rfl hV2 Tryz.underlying46 rfl infoScr) rfl ?_
                rw [← hw6] at hg2
                have hpl := Hpl.out
                have hrbe := Hrb.out
                refine ⟨_, rfl, ⟨_, _, by rw [Hout2.out], by rw [Hout2.out]; exact M6.out.kept fun g _ _ _ ho e => ⟨hg2.block g (bk_lt e) (by intro e; injection e with e; omega), by omega⟩, rfl, fun _ => rfl⟩, ?_, ?_⟩
                · rw [Hout2.out]; exact bk_grown HR6.out hg2 (by intro e; injection e with e; omega)
                · exact grown_fresh2 G6.out hg2 (fun g h => by injection h with h; omega)
              · have heq : ((str l).toList == [109, 97, 105, 110]) = false := by rw [ByteArray.toList_eq, data_str]; exact beq_eq_false_iff_ne.2 hma
                have heq2 : ((str l).toList == [112, 114, 111, 103, 114, 97, 109]) = false := by rw [ByteArray.toList_eq, data_str]; exact beq_eq_false_iff_ne.2 hnl
                rw [loop_bad rd n' [] Hwy.out hl hma hnl] at hE
                obtain ⟨sl2, hsl2⟩ : ∃ s, s = str l := ⟨_, rfl⟩
                rw [show (Option.getD (some l, q1).1 []) = l from rfl, ← hsl2]
                rw [← hsl2] at heq heq2
                have c3 := bk_cell HR4.out 3
                have t3 := bk_free HR4.out 3
                simp only [rsCells, List.getElem?_toArray, List.getElem?_cons_zero, List.getElem?_cons_succ] at c3
                clear hl hsl2 hma hnl
                go_wp2_with fail
                have hpl := Hpl.out
                have hrbe := Hrb.out
                have HR5 : RdrAt (w4.setCell ⟨p, 3, none⟩ (.int .i64 20)) p ⟨q1.left, q1.at_, q1.many, 20⟩ := bk_set HR4.out 3 _
                refine ⟨⟨n', ⟨q1.left, q1.at_, q1.many, 20⟩, ⟨by have := hn.out; have := Hlt.out; show q1.left.length + 1 ≤ n'; omega⟩, ⟨HR5⟩, ⟨⟨HS4.out.left, HS4.out.a0, HS4.out.a1, HS4.out.m0, HS4.out.m1⟩⟩, Hcv1, Hnp1, ⟨by rw [← hE.out]; exact loop_why rd _ _ (by show (20 : Int) ≠ 0; decide)⟩,
                  ⟨(Below.heap_setCell w4 ⟨p, 3, none⟩ _ (rb + 1) (show rb + 1 ≠ p by omega)).trans Hs4.out⟩, ⟨(Below.heap_setCell w4 ⟨p, 3, none⟩ _ rb (show rb ≠ p by omega)).trans Hr4.out⟩, ⟨grown_set G4.out 3 _⟩⟩, ?_⟩
                rw [leftLen_at HR5, leftLen_at hR.out]
                exact Hlt.out
          · have hw0 : (r.why == 0) = false := by simp [hwy]
            rw [loop_why rd (n' + 1) [] hwy] at hE
            have Hout2 : Asd (scriptD rd ⟨t, 0, 0, 0⟩ = (⟨[], [], f⟩, r)) := ⟨by rw [Hout.out, ← hE.out]⟩
            have Hwy := Asd.mk hwy
            clear hwy
            go_wp2_with (first | (refine wpList_load_row rfl 46 _ rfl (rb + 1) rfl 46 (sCells f) (0, 0) _ hSr.out Tryz.underlying46 rfl infoScr ?_) | (refine wpList_store_rowK rfl 46 _ _ rfl rb (sCells f) rfl rfl 46 zScr hRb.out infoScr rfl (sCells_one f) ?_; intro V2 hV2 hg2 hz2; clear hz2))
            refine bodyPost_ret (results_cell_row rfl _ _ rb 46 (sCells f) (0, 0) _ rfl hV2 Tryz.underlying46 rfl infoScr) rfl ?_
            have hpl := Hpl.out
            have hrbe := Hrb.out
            refine ⟨_, rfl, ⟨_, _, by rw [Hout2.out]; rfl, by rw [Hout2.out]; exact Cmds.nil _ _, rfl, fun _ => rfl⟩, ?_, ?_⟩
            · rw [Hout2.out]; exact bk_grown hR.out hg2 (by intro e; injection e with e; omega)
            · exact grown_fresh2 hGr.out hg2 (fun g h => by injection h with h; omega)

      · have he : sr.toList.isEmpty = false := by rw [Hsr.out]; have := mt (isEmpty_str rest).1 hre; simpa using this
        have hr2 : r2 = ⟨r1.left, r1.at_, r1.many, 20⟩ := by rw [Hrr.out, if_neg (fun h => hre h.2.2)]
        clear hre
        have SmV : Asd (Small r2 ∧ Cov rd r2.left ∧ NoProg r2.left) := ⟨by rw [hr2]; exact ⟨⟨HS1.out.1.left, HS1.out.1.a0, HS1.out.1.a1, HS1.out.1.m0, HS1.out.1.m1⟩, HS1.out.2.1, HS1.out.2.2.1⟩⟩
        go_wp2_with fail
        obtain ⟨V0, hV0⟩ : ∃ V, V = w3.setCell ⟨p, 3, none⟩ (.int .i64 20) := ⟨_, rfl⟩
        obtain ⟨V, hV⟩ : ∃ V, V = (w3.setCell ⟨p, 3, none⟩ (.int .i64 20)).setCell ⟨rb + 1, 2, none⟩ (.int .i64 f) := ⟨_, rfl⟩
        have hV' : V = V0.setCell ⟨rb + 1, 2, none⟩ (.int .i64 f) := by rw [hV, hV0]
        have g0 : w3.grownBy V0 (some p) := by rw [hV0]; exact grown_set (World.grownBy.refl _ _) 3 _
        have pV0 : RdrAt V0 p r2 := by rw [hV0, hr2]; exact bk_set R3p.out 3 _
        have hpl := Hpl.out
        have hrbe := Hrb.out
        have PV : Asd (RdrAt V p r2) := ⟨by rw [hV']; exact (Below.heap_setCell V0 ⟨rb + 1, 2, none⟩ _ p (show p ≠ rb + 1 by omega)).trans pV0⟩
        have SV : Asd (V.heap[rb + 1]? = some (.cells (sCells f) 46 (0, 0))) := ⟨by rw [hV']; exact bk_set (bk_grown S3.out g0 (by intro e; injection e with e; omega)) 2 _⟩
        have RV : Asd (V.heap[rb]? = some (.cells zScr 46 (0, 0))) := ⟨by rw [hV']; exact (Below.heap_setCell V0 ⟨rb + 1, 2, none⟩ _ rb (show rb ≠ rb + 1 by omega)).trans (bk_grown R3.out g0 (by intro e; injection e with e; omega))⟩
        have GV : Asd (w.grownBy V (some p)) := ⟨grown_fresh2 (r2 := some (rb + 1)) (grown_trans G3.out g0) (by rw [hV']; exact grown_set (World.grownBy.refl _ _) 2 _) (fun g h => by injection h with h; omega)⟩
        rw [← hV]
        clear hV' g0 pV0 hV hV0 hpl hrbe c3 e3 s2 t2 R3p R3 S3 G3
        have hE : loopD rd (r2.left.length + 1) [] r2 = ([], [], r2) := loop_why rd _ _ (by rw [hr2]; show (20 : Int) ≠ 0; decide)
        rw [hE] at Hout
        clear hE
        have Hr2 := Asd.mk hr2
        clear hr2
        go_loopw [11, 12] (fun v11 v12 wr => Asd (wr = V)) (fun _ _ wr => leftLen p wr)
        case atStart => exact ⟨rfl⟩
        case round =>
          have hwr := hrel.out
          subst hwr
          have c3 := bk_cell PV.out 3
          simp only [rsCells, Hr2.out, List.getElem?_toArray, List.getElem?_cons_zero, List.getElem?_cons_succ] at c3
          go_wp2_with (first | (refine wpList_load_row rfl 46 _ rfl (rb + 1) rfl 46 (sCells f) (0, 0) _ SV.out Tryz.underlying46 rfl infoScr ?_) | (refine wpList_store_rowK rfl 46 _ _ rfl rb (sCells f) rfl rfl 46 zScr RV.out infoScr rfl (sCells_one f) ?_; intro V2 hV2 hg2 hz2; clear hz2))
          refine bodyPost_ret (results_cell_row rfl _ _ rb 46 (sCells f) (0, 0) _ rfl hV2 Tryz.underlying46 rfl infoScr) rfl ?_
          refine ⟨_, rfl, ⟨_, _, by rw [Hout.out]; rfl, by rw [Hout.out]; exact Cmds.nil _ _, rfl, fun _ => rfl⟩, ?_, ?_⟩
          · rw [Hout.out]; exact bk_grown PV.out hg2 (by intro e; injection e with e; have := Hpl.out; have := Hrb.out; omega)
          · exact grown_fresh2 GV.out hg2 (fun g h => by injection h with h; have := Hrb.out; omega)

end Go.Proofs.YthclgijnfopikaaGreatDoor
