/- The walk of script.Line, over whatever the fields' writers write. -/
import Derived.Test.YthclgijnfopikaaGreatDoorOf
import Derived.Test.YthclgijnfopikaaGreatDoorFields
import Derived.Test.YthclgijnfopikaaGreatDoorBytes
import Derived.Lib.OthersKept
import Derived.Laws.RangeString
import Derived.Laws.RangeAny
import Derived.Test.YthclgijnfopikaaGreatDoorSpec2
namespace Go.Proofs.YthclgijnfopikaaGreatDoor
open Go.RowKit

/-- The field c of the command at a block is written as f says. -/
def WriteOk (w0 : World) (cv : Array Value) (f : UInt8 → List UInt8) (c : UInt8) : Prop :=
  ∀ (W : World) (B lo hi r cb : Nat), Glob B W → Below w0.heap.size w0 W → IsFields lo hi W r → W.heap[cb]? = some (.cells cv 28 (0, 0)) →
    ∃ fw capt v2, (Instr.lookup 58 (.map (some r)) (.int .i32 c.toNat) false).run Tryz.prog W = .ok (.agg #[.func (.func fw) #[] capt, v2]) W ∧
      (∀ args w, (callFunc fw args).run Tryz.prog w = .ok (.enter fw args) w) ∧
      (∀ w, (Instr.field 63 (.agg #[.func (.func fw) #[] capt, v2]) 0).run Tryz.prog w = .ok (.func (.func fw) #[] capt) w) ∧
      Calls Tryz.prog fw (#[.pointer (some ⟨cb, 0, none⟩)] ++ capt) W fun e w' => e = .returned (.string (str (f c))) ∧ Below W.heap.size W w'

theorem infoU8 : (Tryz.prog.info? 5).map (fun i => (i.zero, i.size, i.bytes)) = some (some (.int .u8 0), 1, 1) := by kernel_rfl
theorem str_get {b : ByteArray} {l : List UInt8} (h : b = str l) {k : Nat} (hk : k < b.size) (hl : k < l.length) : b[k] = l[k] := by subst h; rfl
def LinePost (r : List UInt8 × Int) (w : World) (e : Ending) (w' : World) : Prop := e = .returned (.tuple #[.string (str r.1), .int .i64 r.2]) ∧ Below w.heap.size w w'

set_option maxHeartbeats 4000000 in
set_option maxRecDepth 100000 in
theorem line_none (op : Nat) (v1 v2 v3 v4 v5 v6 v7 v8 v9 v10 v11 : Value) (h : word op = []) (w : World) :
    Calls Tryz.prog 9 #[.agg #[.int .u8 op, v1, v2, v3, v4, v5, v6, v7, v8, v9, v10, v11]] w (LinePost ([], 23) w) := by
  have H := of_calls op
  rw [h] at H
  generalize str (flds op) = b at H
  have he : (str []).toList.isEmpty = true := by rw [ByteArray.toList_eq]; rfl
  have H' := Asd.mk H
  clear H
  go_enter Tryz.func9, Tryz.ntmps9
  go_wp2_with fail
  refine (H'.out _).mono ?_
  rintro e w1 ⟨rfl, hb1⟩
  have hb2 : Asd (Below w.heap.size w w1) := ⟨bl_trans (bl_alloc (Below.refl _ _) _) hb1⟩
  clear hb1
  go_wp2_with fail
  go_ret2
  exact ⟨rfl, bl_alloc hb2.out _⟩

set_option maxHeartbeats 4000000 in
set_option maxRecDepth 100000 in
theorem line_some {B : Nat} (op : Nat) (v1 v2 v3 v4 v5' v6 v7 v8' v9 v10 v11 : Value) (h : word op ≠ []) (f : UInt8 → List UInt8) (w : World) (hG : Glob B w)
    (hf : ∀ c, c ∈ flds op → c.toNat < 128 ∧ (f c).length ≤ 1073741824 ∧ WriteOk w #[.int .u8 op, v1, v2, v3, v4, v5', v6, v7, v8', v9, v10, v11] f c) :
    Calls Tryz.prog 9 #[.agg #[.int .u8 op, v1, v2, v3, v4, v5', v6, v7, v8', v9, v10, v11]] w (LinePost (lineD op f) w) := by
  have H := of_calls op
  have Hf := Asd.mk hf
  have HG := Asd.mk hG
  obtain ⟨a, ha⟩ : ∃ a, a = str (word op) := ⟨_, rfl⟩
  obtain ⟨b, hbf⟩ : ∃ b, b = str (flds op) := ⟨_, rfl⟩
  rw [← ha, ← hbf] at H
  have H' := Asd.mk H
  have he : a.toList.isEmpty = false := by rw [ha, ByteArray.toList_eq, data_str]; cases hw : word op with
    | nil => exact absurd hw h
    | cons c r => rfl
  have Ha := Asd.mk ha
  have Hb := Asd.mk hbf
  have Hh := Asd.mk h
  clear H hf hG ha hbf h
  go_enter Tryz.func9, Tryz.ntmps9
  go_wp2_with fail
  refine (H'.out _).mono ?_
  rintro e w1 ⟨rfl, hb1⟩
  obtain ⟨cb, hcb⟩ : ∃ cb, cb = w.heap.size := ⟨_, rfl⟩
  have hC := bk_below (bk_new w _) hb1 (by simp)
  have hb2 : Asd (Below w.heap.size w w1) := ⟨bl_trans (bl_alloc (Below.refl _ _) _) hb1⟩
  have hs1 := hb1.size
  simp only [World.alloc, Array.size_push] at hs1
  rw [← hcb] at hC hs1 ⊢
  have HC := Asd.mk hC
  have Hcb := Asd.mk hcb
  clear hb1 hC hcb
  have hcv : ∀ W, (convert 9 57 (.string a)).run Tryz.prog W = .ok (.slice (some ⟨W.heap.size, 0, none⟩) a.size (grownCap W a.size 0 5)) (Lib.bytesWorld W 5 a) := fun W => Lib.run_convert_string_bytes W _ _ _ a Tryz.underlying9 Tryz.underlying57 Tryz.underlying5
  go_wp2_with fail
  clear hcv
  refine (fields_calls _).mono ?_
  rintro e w3 ⟨r, rfl, hF, hb3⟩
  have hla : a.size ≤ 16 := by rw [Ha.out]; have := word_len op; show (word op).toArray.size ≤ 16; simpa using this
  have hz2 : (Lib.bytesWorld (w1.alloc (.cells #[.string a, .string b] 55)) 5 a).heap.size = w1.heap.size + 2 := by
    rw [Lib.bytesWorld_size]; simp [World.alloc, -World.alloc_eq]
  have hz3 := hb3.size
  rw [hz2] at hz3 hF
  have F1 := bk_below ((Lib.bytesWorld_at_old _ 5 a w1.heap.size (by simp [World.alloc, -World.alloc_eq])).trans (bk_new w1 (.cells #[.string a, .string b] 55))) hb3 (by rw [hz2]; omega)
  have C1 := bk_below ((Lib.bytesWorld_at_old _ 5 a cb (by simp [World.alloc, -World.alloc_eq]; omega)).trans (bk_alloc HC.out (.cells #[.string a, .string b] 55))) hb3 (by rw [hz2]; omega)
  have O1 := (OB.conv (w1.alloc (.cells #[.string a, .string b] 55)) w.heap.size 5 a (by have := Hcb.out; simp [World.alloc, -World.alloc_eq]; omega) (by simp only [maxLen]; omega)).below hb3
  have B3 : Asd (Below w.heap.size w w3) := ⟨((hb2.out.alloc (by have := Hcb.out; omega) _).trans (Lib.bytesWorld_below _ _ _ |>.mono (by have := Hcb.out; simp [World.alloc, -World.alloc_eq]; omega))).trans (hb3.mono (by rw [hz2]; have := Hcb.out; omega))⟩
  have hsz : (w1.alloc (.cells #[.string a, .string b] 55)).heap.size = w1.heap.size + 1 := by simp [World.alloc, -World.alloc_eq]
  rw [hsz] at O1
  obtain ⟨fb, hfb⟩ : ∃ fb, fb = w1.heap.size := ⟨_, rfl⟩
  rw [← hfb] at F1 O1 hF hz3 hs1 ⊢
  obtain ⟨cap, hcap⟩ : ∃ cap, cap = grownCap (w1.alloc (.cells #[.string a, .string b] 55)) a.size 0 5 := ⟨_, rfl⟩
  rw [← hcap] at O1
  have f0 := bk_cell F1 0
  have f1 := bk_cell F1 1
  simp only [List.getElem?_toArray, List.getElem?_cons_zero, List.getElem?_cons_succ] at f0 f1
  have HF := Asd.mk hF
  have C1' := Asd.mk C1
  have O1' := Asd.mk O1
  clear hF hb3 hz2 F1 C1 O1 hsz hfb hb2 HC
  go_wp2_with fail
  rw [← hcap]
  obtain ⟨it, hit⟩ : ∃ it, it = w3.heap.size := ⟨_, rfl⟩
  obtain ⟨w4, hw4⟩ : ∃ w4, w4 = w3.iter b 0 := ⟨_, rfl⟩
  have hbel : Below w3.heap.size w3 w4 := by rw [hw4]; exact bl_alloc (Below.refl _ _) _
  have I4 : Asd (w4.heap[it]? = some (.stringIter b 0)) := ⟨by rw [hit, hw4]; exact World.iter_heap _ _ _⟩
  have O4 : Asd (OB w4 w.heap.size 5 (.slice (some ⟨fb + 1, 0, none⟩) a.size cap) (word op)) := ⟨by have := O1'.out.below hbel; rw [Ha.out, data_str] at this; rw [Ha.out]; exact this⟩
  have C4 : Asd _ := ⟨bk_below C1'.out hbel (bk_lt C1'.out)⟩
  have F4 : Asd (IsFields (fb + 2) it w4 r) := ⟨by rw [hit]; exact HF.out.kept fun g _ hg => hbel.block g hg⟩
  have B4 : Asd (Below w.heap.size w w4) := ⟨bl_trans B3.out hbel⟩
  have hit2 : fb + 2 ≤ it := by rw [hit]; exact hz3
  rw [← hit, ← hw4]
  have Hcap := Asd.mk hcap
  clear hcap hbel hit hw4 O1' C1' HF B3 hz3 f0 f1
  have hbl : b.size = (flds op).length := by rw [Hb.out]; show (flds op).toArray.size = _; simp
  have Hbl := Asd.mk hbl
  obtain ⟨i0, hi, hz0, hz1, hz2⟩ := info_parts infoU8
  go_loopw [5, 8] (fun v5 v8 wr => ∃ k : Nat, k ≤ b.size ∧ Asd (wr.heap[it]? = some (.stringIter b k)) ∧ Asd (OB wr w.heap.size 5 v5 (word op ++ lineFold f ((flds op).take k))) ∧
      Asd (∀ g, v5.ownBlock = some g → g = fb + 1 ∨ it < g) ∧ Asd (wr.heap[cb]? = some (.cells #[.int .u8 op, v1, v2, v3, v4, v5', v6, v7, v8', v9, v10, v11] 28 (0, 0))) ∧
      Asd (IsFields (fb + 2) it wr r) ∧ Asd (Below w.heap.size w wr) ∧ Asd ((word op ++ lineFold f ((flds op).take k)).length ≤ 1048576)) (fun _ _ wr => b.size - wr.iterPos it)
  case atStart =>
    refine ⟨0, Nat.zero_le _, I4, ?_, ⟨fun g hg => .inl ?_⟩, C4, F4, B4, ⟨?_⟩⟩
    · exact ⟨by simpa [lineFold] using O4.out⟩
    · simpa [Value.ownBlock] using hg.symm
    · have := word_len op; simp [lineFold]; omega
  case round =>
    obtain ⟨k, hk, hI, hO, hR, hC, hF, hB, hL⟩ := hrel
    by_cases hlt : k < b.size
    · obtain ⟨c, hc⟩ : ∃ c, c = b[k] := ⟨_, rfl⟩
      have hkl : k < (flds op).length := by rw [← Hbl.out]; exact hlt
      have hcm : c = (flds op)[k] := by rw [hc]; exact str_get Hb.out hlt hkl
      obtain ⟨hc128, hfl, hwo⟩ := Hf.out c (by rw [hcm]; exact List.getElem_mem _)
      have hnext := fun ty => Lib.run_next_ascii_at (P := Tryz.prog) wr it b k ty hI.out hlt (by rw [← hc]; exact hc128)
      rw [← hc] at hnext
      obtain ⟨w5, hw5⟩ : ∃ w5, w5 = wr.iterAt it b (k + 1) := ⟨_, rfl⟩
      rw [← hw5] at hnext
      have e5 : ∀ g, g ≠ it → w5.heap[g]? = wr.heap[g]? := fun g hg => by rw [hw5]; exact Lib.iterAt_other _ _ _ _ _ hg
      have I5 : Asd (w5.heap[it]? = some (.stringIter b (k + 1))) := ⟨by rw [hw5]; exact Lib.iterAt_heap _ _ _ _ _ hI.out⟩
      have hbit : w.heap.size ≤ it := by have := Hcb.out; omega
      have O5 : Asd (∀ o, OB (w5.alloc o) w.heap.size 5 u5 (word op ++ lineFold f ((flds op).take k))) := ⟨fun o => (hO.out.same fun g hg => e5 g (by rcases hR.out g hg with h | h <;> omega)).below (bl_alloc (Below.refl _ _) o)⟩
      have C5 : Asd _ := ⟨(e5 cb (by omega)).trans hC.out⟩
      have F5 : Asd (IsFields (fb + 2) it w5 r) := ⟨hF.out.kept fun g _ hg => e5 g (by omega)⟩
      have B5 : Asd (Below w.heap.size w w5) := ⟨by rw [hw5]; exact Lib.below_iterAt hB.out hbit _ _⟩
      have S5 : Asd (it < w5.heap.size) := ⟨bk_lt I5.out⟩
      have hO' : Asd (∀ g, u5.ownBlock = some g → w.heap.size ≤ g ∧ g < wr.heap.size) := ⟨hO.out.lt⟩
      have hpos : Asd (wr.iterPos it = k) := ⟨by simp [World.iterPos, hI.out]⟩
      have Hcm := Asd.mk hcm
      have Hwo := Asd.mk hwo
      have hszw : w.heap.size ≤ w5.heap.size := B5.out.size
      clear hI hO hC hF hB hw5 e5 hc hcm hwo
      go_wp2_with (at_builtin; refine wpList_append_sl _ rfl _ _ 57 rfl w.heap.size 5 i0 Tryz.underlying57 hi hz0 hz1 hz2 u5 _ rfl (O5.out _) ⟨w5.heap.size, 0, none⟩ 1 [32] rfl (cell_one_new _ _ _) ?l1 ?l2 ?_; (case l1 => have := hL.out; simp only [List.length_cons, List.length_nil]; omega); (case l2 => simp; omega); intro v6 w6 O6 G6 A6; clear O5)
      have e6 : ∀ g, g < w5.heap.size → some g ≠ u5.ownBlock → w6.heap[g]? = w5.heap[g]? := fun g hg hne => (G6.block g (by simp [World.alloc, -World.alloc_eq]; omega) hne).trans (Below.heap_alloc w5 _ g hg)
      have hne : ∀ g, g ≠ fb + 1 → g ≤ it → some g ≠ u5.ownBlock := fun g h1 h2 e => by rcases hR.out g e.symm with h | h <;> omega
      have I6 : Asd _ := ⟨(e6 it S5.out (hne it (by omega) (by omega))).trans I5.out⟩
      have C6 := (e6 cb (by have := S5.out; omega) (hne cb (by omega) (by omega))).trans C5.out
      have F6 : IsFields (fb + 2) it w6 r := F5.out.kept fun g h1 h2 => e6 g (by have := S5.out; omega) (hne g (by omega) (by omega))
      have B6 : Below w.heap.size w w6 := bl_grown (bl_alloc B5.out _) G6 (fun g hg => (hO'.out g hg).1)
      have Z6 : w5.heap.size + 1 ≤ w6.heap.size := by have := G6.size; simpa [World.alloc, -World.alloc_eq] using this
      have R6 : Asd (∀ g, v6.ownBlock = some g → g = fb + 1 ∨ it < g) := ⟨fun g hg => by
        rcases A6 with h | h
        · exact hR.out g (by rw [← h]; exact hg)
        · have := h g hg; simp [World.alloc, -World.alloc_eq] at this; have := S5.out; right; omega⟩
      obtain ⟨fw, capt, v2', hlk, hen, hfw, hcall⟩ := Hwo.out w6 B (fb + 2) it r cb (HG.out.below B6 HG.out.le) B6 F6 C6
      have O6' := Asd.mk O6
      have HB6 := Asd.mk B6
      have HC6 := Asd.mk C6
      have HF6 := Asd.mk F6
      have Hcall := Asd.mk hcall
      clear O6 G6 A6 e6 hne C6 F6 B6 hcall I5 C5 F5 B5 hnext
      go_wp2_with fail
      rw [hlk]
      go_wp2_with fail
      refine Calls.mono Hcall.out ?_
      rintro e w7 ⟨rfl, hb7⟩
      clear hlk hen hfw
      have hfsz : (str (f c)).size = (f c).length := by show (f c).toArray.size = _; simp
      have O7 : Asd (OB w7 w.heap.size 5 v6 (word op ++ lineFold f ((flds op).take k) ++ [32])) := ⟨O6'.out.below hb7⟩
      have I7 : Asd _ := ⟨bk_below I6.out hb7 (bk_lt I6.out)⟩
      have C7 : Asd _ := ⟨bk_below HC6.out hb7 (bk_lt HC6.out)⟩
      have Z7 : Asd (it < w6.heap.size ∧ w6.heap.size ≤ w7.heap.size) := ⟨bk_lt I6.out, hb7.size⟩
      have F7 : Asd (IsFields (fb + 2) it w7 r) := ⟨HF6.out.kept fun g _ hg => hb7.block g (by have := Z7.out.1; omega)⟩
      have B7 : Asd (Below w.heap.size w w7) := ⟨bl_trans HB6.out hb7⟩
      clear hb7 O6' I6 HC6 HF6 HB6 Hcall
      obtain ⟨fs, hfs⟩ : ∃ fs, fs = str (f c) := ⟨_, rfl⟩
      rw [← hfs] at hfsz ⊢
      have Hfs := Asd.mk hfs
      clear hfs
      have hL' := hL.out
      go_wp2_with (at_builtin; refine wpList_append_str _ rfl _ _ 57 9 rfl w.heap.size 5 i0 Tryz.underlying57 Tryz.underlying9 hi hz0 hz1 hz2 v6 _ rfl O7.out fs rfl ?l1 ?l2 ?_; (case l1 => rw [List.length_append]; simp only [List.length_cons, List.length_nil]; omega); (case l2 => exact B7.out.size); intro v8 w8 O8 G8 A8; clear O7; obtain ⟨n8, hn8⟩ : ∃ n, n = (word op ++ lineFold f ((flds op).take k) ++ [32] ++ fs.data.toList).length := ⟨_, rfl⟩; obtain ⟨a8, c8, hv8⟩ := O8.len; rw [← hn8] at hv8; have Hn8 := Asd.mk hn8; clear hn8; subst hv8)
      all_goals
        have R8 : Asd (∀ g, (Value.slice a8 n8 c8).ownBlock = some g → g = fb + 1 ∨ it < g) := ⟨fun g hg => by
          rcases A8 with h | h
          · exact R6.out g (by rw [← h]; exact hg)
          · have := h g hg; have := Z7.out; right; omega⟩
        have e8 : ∀ g, g < w7.heap.size → some g ≠ v6.ownBlock → w8.heap[g]? = w7.heap[g]? := fun g hg hne => G8.block g hg hne
        have hne : ∀ g, g ≠ fb + 1 → g ≤ it → some g ≠ v6.ownBlock := fun g h1 h2 e => by rcases R6.out g e.symm with h | h <;> omega
        have I8 : Asd _ := ⟨(e8 it (by have := Z7.out; omega) (hne it (by omega) (by omega))).trans I7.out⟩
        have C8 : Asd _ := ⟨(e8 cb (by have := Z7.out; omega) (hne cb (by omega) (by omega))).trans C7.out⟩
        have F8 : Asd (IsFields (fb + 2) it w8 r) := ⟨F7.out.kept fun g h1 h2 => e8 g (by have := Z7.out; omega) (hne g (by omega) (by omega))⟩
        have B8 : Asd (Below w.heap.size w w8) := ⟨bl_grown B7.out G8 (fun g hg => by have := Hcb.out; rcases R6.out g hg with h | h <;> omega)⟩
        have hfsd : fs.data.toList = f c := by rw [Hfs.out, data_str]
        rw [hfsd] at O8
        have hsnoc := lineFold_snoc f (flds op) k hkl
        rw [← Hcm.out] at hsnoc
        have O8' : Asd (OB w8 w.heap.size 5 (.slice a8 n8 c8) (word op ++ lineFold f ((flds op).take (k + 1)))) := ⟨by rw [hsnoc]; rw [← List.append_assoc, ← List.append_assoc]; exact O8⟩
        have Hn8' : Asd (n8 = (word op ++ lineFold f ((flds op).take (k + 1))).length) := ⟨by rw [Hn8.out, hsnoc, hfsd, ← List.append_assoc, ← List.append_assoc]⟩
        clear G8 A8 e8 hne hsnoc O8 hfsd Hn8 hL'
      · have hbig : 1048576 < n8 := by have hx : (1048576 : Int) < (n8 : Int) := by assumption
                                       omega
        have Hres : Asd (lineD op f = ([], 4)) := ⟨lineD_long (k := k + 1) Hh.out (by rw [← Hn8'.out]; exact hbig)⟩
        go_ret2
        exact ⟨by rw [Hres.out]; rfl, B8.out⟩
      · have hle : n8 ≤ 1048576 := by have hx : (n8 : Int) ≤ 1048576 := by assumption
                                      omega
        have hm8 := Asd.mk (show (word op ++ lineFold f ((flds op).take (k + 1))).length ≤ 1048576 by rw [← Hn8'.out]; exact hle)
        refine ⟨⟨k + 1, by omega, I8, O8', R8, C8, F8, B8, hm8⟩, ?_⟩
        have hp8 : w8.iterPos it = k + 1 := by simp [World.iterPos, I8.out]
        rw [hp8, hpos.out]; omega
    · have hnext := fun ty => Lib.run_next_end_at (P := Tryz.prog) wr it b k ty hI.out hlt
      have hkk : Asd ((flds op).take k = flds op) := ⟨List.take_of_length_le (by rw [← Hbl.out]; omega)⟩
      have hrs := run_string (P := Tryz.prog) Tryz.underlying57 Tryz.underlying5 Tryz.underlying9 hO.out
      go_wp2_with fail
      go_ret2
      refine ⟨?_, hB.out⟩
      rw [lineD_ok Hh.out (by have := hL.out; rw [hkk.out] at this; exact this), hkk.out]
      rfl
end Go.Proofs.YthclgijnfopikaaGreatDoor
