/- The walk of script.command, over whatever the fields' readers read. -/
import Derived.Test.YthclgijnfopikaaGreatDoorCmdAt
namespace Go.Proofs.YthclgijnfopikaaGreatDoor
open Go.RowKit

theorem results_cell_tmp {P : Program} {fn : Func} {p q : Tmp} {ty : TypeId} (h : fn.results = #[.cell p ty, .tmp q]) (tmps : Array Value) (w : World) (g : Nat) (t : TypeId) (cs : Array Value) (fr : Nat × Nat) (d : TypeDesc)
    (hp : tmps.getD p undef = .pointer (some ⟨g, 0, none⟩)) (hg : w.heap[g]? = some (.cells cs t fr))
    (hu : P.underlying ty = some d) (hd : (match d with | .struct _ | .array _ _ => true | _ => false) = true) (hi : (P.info? ty).map (·.size) = some cs.size) :
    (results fn tmps).run P w = .ok (.tuple #[.agg cs, tmps.getD q undef]) w := by
  have hp' : tmps[p]?.getD undef = .pointer (some ⟨g, 0, none⟩) := by simpa using hp
  simp [results, h, hp', asAddr, run_loadVar_row w g t ty cs fr d hg hu hd hi]
theorem infoCmd : (Tryz.prog.info? 28).map (·.size) = some 12 := by kernel_rfl
def zeroCmd (op : Nat) : Array Value := cmdCells (Cmd.zero op) (.slice none 0 0) (.slice none 0 0) (.slice none 0 0)

theorem zero_one (op : Nat) : (zeroCmd op).all (·.oneCell') = true := by simp [zeroCmd, cmdCells, Cmd.zero, Value.oneCell']

def CommandPost (rd : Reader) (s : List UInt8) (w : World) (e : Ending) (w' : World) : Prop :=
  ∃ cs m ok, e = .returned (.tuple #[.agg cs, .bool ok]) ∧ KV w' (w.heap.size ≤ ·) cs m ∧ Below w.heap.size w w' ∧ (∀ m2, cmdD rd s = some m2 → ok = true ∧ m = m2) ∧ (cmdD rd s = none → ok = false)
theorem kv_zero (W : World) (ok : Nat → Prop) (op : Nat) : KV W ok (cmdCells (Cmd.zero op) (.slice none 0 0) (.slice none 0 0) (.slice none 0 0)) (Cmd.zero op) := ⟨_, _, _, rfl, Rd.nil _ _ _, Rd.nil _ _ _, Rd.nil _ _ _⟩

set_option maxHeartbeats 4000000 in
set_option maxRecDepth 100000 in
theorem command_none {B : Nat} (rd : Reader) (s : ByteArray) (hs : s.size ≤ 1048576) (w : World) (hG : Glob B w) (h : findOp (str (Lib.cut s.data.toList [32]).1) = 0) : Calls Tryz.prog 35 #[.string s] w (CommandPost rd s.data.toList w) := by
  have hn : Asd (cmdD rd s.data.toList = none) := ⟨by unfold cmdD; rw [if_pos h]⟩
  have HG := Asd.mk hG
  obtain ⟨wd, hwd⟩ : ∃ wd, wd = str (Lib.cut s.data.toList [32]).1 := ⟨_, rfl⟩
  obtain ⟨rs, hrs⟩ : ∃ rs, rs = str (Lib.cut s.data.toList [32]).2.1 := ⟨_, rfl⟩
  obtain ⟨cf, hcf⟩ : ∃ cf, cf = (Lib.cut s.data.toList [32]).2.2 := ⟨_, rfl⟩
  have HC : Asd (∀ W, Glob B W → Calls Tryz.prog 71 #[.string s, .string ⟨#[32]⟩] W fun e w' => e = .returned (.tuple #[.string wd, .string rs, .bool cf]) ∧ ∃ n, w' = W.drewN n) := ⟨fun W h => by rw [hwd, hrs, hcf]; exact cut_calls s ⟨#[32]⟩ hs W h⟩
  rw [← hwd] at h
  have hfi := find_calls wd
  unfold FindPost at hfi
  rw [h] at hfi
  have HFi := Asd.mk hfi
  clear hG hwd hrs hcf hfi h
  go_enter Tryz.func35, Tryz.ntmps35
  go_wp2_with fail
  refine (HC.out _ (HG.out.below (bl_alloc (Below.refl _ _) _) HG.out.le)).mono ?_
  rintro e w' ⟨rfl, n, rfl⟩
  go_wp2_with fail
  refine (HFi.out _).mono ?_
  rintro e w2 ⟨rfl, hb2⟩
  obtain ⟨rb, hrb⟩ : ∃ rb, rb = w.heap.size := ⟨_, rfl⟩
  have R2 : Asd (w2.heap[rb]? = some (.cells (zeroCmd 0) 28 (0, 0))) := ⟨by rw [hrb]; exact bk_below (bk_drewN (bk_new w _) n) hb2 (by show w.heap.size < (World.drewN _ _).heap.size; simp [World.drewN, World.alloc, -World.alloc_eq])⟩
  have B2 : Asd (Below w.heap.size w w2) := ⟨bl_trans (below_drewN (bl_alloc (Below.refl _ _) _) n) hb2⟩
  have Hrb := Asd.mk hrb
  rw [← hrb]
  clear hb2 hrb
  go_wp2_with (refine wpList_store_row rfl 28 _ _ rfl rb (zeroCmd 0) rfl rfl 28 _ R2.out infoCmd rfl (zero_one 0) ?_)
  refine bodyPost_ret (results_cell_tmp rfl _ _ rb 28 (zeroCmd 0) (0, 0) _ rfl (setRow_heap _ _ _ _ _ _ R2.out) Tryz.underlying28 rfl infoCmd) rfl ?_
  refine ⟨_, Cmd.zero 0, false, rfl, kv_zero _ _ 0, ?_, ?_, fun _ => rfl⟩
  · refine B2.out.trans ⟨rfl, rfl, rfl, by simp, fun k hk => setRow_other _ _ _ _ (by have := Hrb.out; omega)⟩
  · intro m2 h; rw [hn.out] at h; cases h

theorem cut_le (l p : List UInt8) : (Lib.cut l p).1.length ≤ l.length := by
  unfold Lib.cut; split
  · simp; omega
  · simp
theorem rd_one {α : Type} {W : World} {ok : Nat → Prop} {enc : α → Value} {v : Value} {xs : List α} (h : Rd W ok enc v xs) : v.oneCell' = true := by
  obtain ⟨A, c, rfl, _⟩ := h; rfl
theorem kv_one {W : World} {ok : Nat → Prop} {cs : Array Value} {m : Cmd} (h : KV W ok cs m) : cs.all (·.oneCell') = true := by
  obtain ⟨vD, vL, vK, rfl, h1, h2, h3⟩ := h
  have e1 := rd_one h1
  have e2 := rd_one h2
  have e3 := rd_one h3
  simp [cmdCells, e1, e2, e3]
  simp [Value.oneCell']
theorem kv_size {W : World} {ok : Nat → Prop} {cs : Array Value} {m : Cmd} (h : KV W ok cs m) : cs.size = 12 := by
  obtain ⟨vD, vL, vK, rfl, h1, h2, h3⟩ := h; rfl
theorem cmdLoop_no {rd : Reader} {c : UInt8} {cs s : List UInt8} {m : Cmd} (h : Lib.hasPrefix s [32] = false) : cmdLoop rd (c :: cs) s m = none := by
  unfold cmdLoop; simp [h]
theorem cmdLoop_yes {rd : Reader} {c : UInt8} {cs s : List UInt8} {m : Cmd} (h : Lib.hasPrefix s [32] = true) : cmdLoop rd (c :: cs) s m = match rd c (Lib.trimPrefix s [32]) m with | some (m', s') => cmdLoop rd cs s' m' | none => none := by
  rw [cmdLoop]; simp [h]; rfl
theorem empty_str (l : List UInt8) : (str l).toList.isEmpty = l.isEmpty := by rw [ByteArray.toList_eq]; rfl
theorem has_trim (s p : List UInt8) : (Lib.trimPrefix s p).length ≤ s.length := Lib.trimPrefix_le s p

set_option maxHeartbeats 8000000 in
set_option maxRecDepth 100000 in
theorem command_some {B : Nat} (rd : Reader) (s : ByteArray) (hs : s.size ≤ 1048576) (w : World) (hG : Glob B w) (h : findOp (str (Lib.cut s.data.toList [32]).1) ≠ 0)
    (hrd : ∀ c, c ∈ flds (findOp (str (Lib.cut s.data.toList [32]).1)) → c.toNat < 128 ∧ ReadOk rd c ∧ KeepsZ rd c) :
    Calls Tryz.prog 35 #[.string s] w (CommandPost rd s.data.toList w) := by
  obtain ⟨op, hop⟩ : ∃ op, op = findOp (str (Lib.cut s.data.toList [32]).1) := ⟨_, rfl⟩
  have hD : Asd (cmdD rd s.data.toList = match cmdLoop rd (flds op) (s.data.toList.drop (Lib.cut s.data.toList [32]).1.length) (Cmd.zero op) with | some (m, []) => some m | _ => none) := ⟨by unfold cmdD; rw [← hop] at h ⊢; rw [if_neg h]; rfl⟩
  rw [← hop] at h hrd
  have HG := Asd.mk hG
  have HR := Asd.mk hrd
  obtain ⟨wd, hwd⟩ : ∃ wd, wd = str (Lib.cut s.data.toList [32]).1 := ⟨_, rfl⟩
  obtain ⟨rs, hrs⟩ : ∃ rs, rs = str (Lib.cut s.data.toList [32]).2.1 := ⟨_, rfl⟩
  obtain ⟨cf, hcf⟩ : ∃ cf, cf = (Lib.cut s.data.toList [32]).2.2 := ⟨_, rfl⟩
  have HC : Asd (∀ W, Glob B W → Calls Tryz.prog 71 #[.string s, .string ⟨#[32]⟩] W fun e w' => e = .returned (.tuple #[.string wd, .string rs, .bool cf]) ∧ ∃ n, w' = W.drewN n) := ⟨fun W h => by rw [hwd, hrs, hcf]; exact cut_calls s ⟨#[32]⟩ hs W h⟩
  have hwz : wd.size = (Lib.cut s.data.toList [32]).1.length := by rw [hwd]; show (List.toArray _).size = _; simp
  have hwl : (wd.size : Int) ≤ (s.size : Int) := by have := cut_le s.data.toList [32]; have e : s.size = s.data.toList.length := by show s.data.size = _; simp
                                                    omega
  obtain ⟨s0, hs0⟩ : ∃ s0, s0 = s.data.toList.drop wd.size := ⟨_, rfl⟩
  have hex : s.extract wd.size s.size = str s0 := by
    apply str_inj
    rw [hs0]
    simp [str, ByteArray.data_extract]
    rw [List.take_of_length_le]
    simp
  have Hs0 : Asd (s0.length ≤ 1048576) := ⟨by rw [hs0]; simp; omega⟩
  rw [← hwz, ← hs0] at hD
  have hfi := find_calls wd
  unfold FindPost at hfi
  rw [hwd, ← hop, ← hwd] at hfi
  have hpos : (decide (0 < op)) = true := by simp; omega
  rw [hpos] at hfi
  have HFi := Asd.mk hfi
  have hofc := of_calls op
  obtain ⟨bw, hbw⟩ : ∃ b, b = str (word op) := ⟨_, rfl⟩
  obtain ⟨b, hbf⟩ : ∃ b, b = str (flds op) := ⟨_, rfl⟩
  rw [← hbw, ← hbf] at hofc
  have HOf := Asd.mk hofc
  have Hbf := Asd.mk hbf
  have hbl : b.size = (flds op).length := by rw [hbf]; show (flds op).toArray.size = _; simp
  have Hbl := Asd.mk hbl
  clear hG hwd hrs hcf hfi h hop hrd hwz hs0 hpos hofc hbw hbf hbl
  go_enter Tryz.func35, Tryz.ntmps35
  go_wp2_with fail
  refine (HC.out _ (HG.out.below (bl_alloc (Below.refl _ _) _) HG.out.le)).mono ?_
  rintro e w' ⟨rfl, n, rfl⟩
  go_wp2_with fail
  refine (HFi.out _).mono ?_
  rintro e w2 ⟨rfl, hb2⟩
  obtain ⟨rb, hrb⟩ : ∃ rb, rb = w.heap.size := ⟨_, rfl⟩
  have hsz0 : w.heap.size < (World.drewN (w.alloc (.cells (zeroCmd 0) 28 (0, 0))) n).heap.size := by simp [World.drewN, World.alloc, -World.alloc_eq]
  have R2 : Asd (w2.heap[rb]? = some (.cells (zeroCmd 0) 28 (0, 0))) := ⟨by rw [hrb]; exact bk_below (bk_drewN (bk_new w _) n) hb2 hsz0⟩
  have B2 : Asd (Below w.heap.size w w2) := ⟨bl_trans (below_drewN (bl_alloc (Below.refl _ _) _) n) hb2⟩
  have Z2 : Asd (rb < w2.heap.size) := ⟨bk_lt R2.out⟩
  have Hrb := Asd.mk hrb
  rw [← hrb]
  clear hb2 hrb hsz0
  go_wp2_with (refine wpList_store_row rfl 28 _ _ rfl w2.heap.size (zeroCmd op) rfl rfl 28 (zeroCmd 0) (bk_new w2 _) infoCmd rfl (zero_one op) ?_)
  refine (fields_calls _).mono ?_
  rintro e w3 ⟨r, rfl, hF, hb3⟩
  obtain ⟨cb, hcb⟩ : ∃ cb, cb = w2.heap.size := ⟨_, rfl⟩
  obtain ⟨wc, hwc⟩ : ∃ wc, wc = (w2.alloc (.cells (zeroCmd 0) 28 (0, 0))).setRow cb (zeroCmd op) := ⟨_, rfl⟩
  have hwc' : (w2.alloc (.cells (zeroCmd 0) 28 (0, 0))).setRow w2.heap.size (zeroCmd op) = wc := by rw [hwc, hcb]
  have hwc2 : wc.heap[cb]? = some (.cells (zeroCmd op) 28 (0, 0)) := by rw [hwc]; exact setRow_heap _ _ _ _ _ _ (by rw [hcb]; exact bk_new w2 _)
  obtain ⟨wa, hwa⟩ : ∃ wa, wa = w2.alloc (.cells (zeroCmd 0) 28 (0, 0)) := ⟨_, rfl⟩
  have hba : Below w2.heap.size w2 wa := by rw [hwa]; exact bl_alloc (Below.refl _ _) _
  have hbc : Below w2.heap.size w2 wc := hba.trans ⟨by rw [hwc, ← hwa]; rfl, by rw [hwc, ← hwa]; rfl, by rw [hwc, ← hwa]; rfl, by rw [hwc, ← hwa]; simp, fun k hk => by rw [hwc, ← hwa]; exact setRow_other _ _ _ _ (by omega)⟩
  have hzc : wc.heap.size = w2.heap.size + 1 := by rw [hwc]; simp [World.alloc, -World.alloc_eq]
  have hF' : IsFields wc.heap.size w3.heap.size w3 r := by rw [← hwc']; exact hF
  have hb3' : Below wc.heap.size wc w3 := by rw [← hwc']; exact hb3
  clear hF hb3
  have hF := hF'
  have hb3 := hb3'
  clear hF' hb3'
  rw [hzc] at hF
  have C3 : Asd (CmdAt w3 cb (Cmd.zero op)) := ⟨CmdAt.below ⟨_, hwc2, kv_zero _ _ _, fun _ => rfl, fun _ => rfl⟩ hb3⟩
  have R3 : Asd (w3.heap[rb]? = some (.cells (zeroCmd 0) 28 (0, 0))) := ⟨bk_below (bk_below R2.out hbc Z2.out) hb3 (by rw [hzc]; have := Z2.out; omega)⟩
  have B3 : Asd (Below w.heap.size w w3) := ⟨bl_trans (bl_trans B2.out hbc) hb3⟩
  have Hcb := Asd.mk hcb
  have hz3 : cb < w3.heap.size := by have := hb3.size; rw [hzc, ← hcb] at this; omega
  have HF := Asd.mk hF
  rw [← hcb] at HF ⊢
  have Hlt : Asd (rb < cb) := ⟨by rw [hcb]; exact Z2.out⟩
  clear hF hb3 hwc hwc' hwc2 hwa hba hbc hzc hcb Z2 R2 B2
  go_wp2_with fail
  refine (HOf.out _).mono ?_
  rintro e w4' ⟨rfl, hb4⟩
  have C4' : Asd (CmdAt w4' cb (Cmd.zero op)) := ⟨C3.out.below hb4⟩
  have R4' : Asd (w4'.heap[rb]? = some (.cells (zeroCmd 0) 28 (0, 0))) := ⟨bk_below R3.out hb4 (bk_lt R3.out)⟩
  have B4' : Asd (Below w.heap.size w w4') := ⟨bl_trans B3.out hb4⟩
  have F4' : Asd (IsFields (cb + 1) w3.heap.size w4' r) := ⟨HF.out.kept fun g _ hg => hb4.block g hg⟩
  have hz4 : w3.heap.size ≤ w4'.heap.size := hb4.size
  clear C3 R3 B3 HF hb4
  have hfl := fld_fields bw b
  go_wp2_with fail
  obtain ⟨it, hit⟩ : ∃ it, it = w4'.heap.size := ⟨_, rfl⟩
  obtain ⟨w4, hw4⟩ : ∃ w4, w4 = w4'.iter b 0 := ⟨_, rfl⟩
  have hbel : Below w4'.heap.size w4' w4 := by rw [hw4]; exact bl_alloc (Below.refl _ _) _
  have I4 : Asd (w4.heap[it]? = some (.stringIter b 0)) := ⟨by rw [hit, hw4]; exact World.iter_heap _ _ _⟩
  have C4 : Asd (CmdAt w4 cb (Cmd.zero op)) := ⟨C4'.out.below hbel⟩
  have R4 : Asd (w4.heap[rb]? = some (.cells (zeroCmd 0) 28 (0, 0))) := ⟨bk_below R4'.out hbel (bk_lt R4'.out)⟩
  have B4 : Asd (Below w.heap.size w w4) := ⟨bl_trans B4'.out hbel⟩
  obtain ⟨hi, hhi⟩ : ∃ hi, hi = w3.heap.size := ⟨_, rfl⟩
  rw [← hhi] at F4' hz4 hz3
  have F4 : Asd (IsFields (cb + 1) hi w4 r) := ⟨F4'.out.kept fun g _ hg => hbel.block g (by omega)⟩
  have hit2 : hi ≤ it := by rw [hit]; exact hz4
  rw [← hit, ← hw4]
  clear hhi hz4 hbel hit hw4 C4' R4' B4' F4' hfl HOf HFi HC
  have hfsz : b.size = (flds op).length := Hbl.out
  go_loopw [0, 12, 13, 14] (fun v0 v12 v13 v14 wr => ∃ k sk m, k ≤ b.size ∧ Asd (v0 = .string (str sk)) ∧ Asd (wr.heap[it]? = some (.stringIter b k)) ∧ Asd (CmdAt wr cb m) ∧
      Asd (cmdLoop rd ((flds op).drop k) sk m = cmdLoop rd (flds op) s0 (Cmd.zero op)) ∧ Asd (sk.length ≤ 1048576) ∧ Asd (IsFields (cb + 1) hi wr r) ∧
      Asd (wr.heap[rb]? = some (.cells (zeroCmd 0) 28 (0, 0))) ∧ Asd (Below w.heap.size w wr) ∧ Asd (∀ c ∈ (flds op).drop k, ZeroF m c)) (fun _ _ _ _ wr => b.size - wr.iterPos it)
  case atStart => exact ⟨0, s0, Cmd.zero op, Nat.zero_le _, ⟨rfl⟩, I4, C4, ⟨rfl⟩, Hs0, F4, R4, B4, ⟨fun c _ => zeroF_zero _ c⟩⟩
  case round =>
    obtain ⟨k, sk, m, hk, ⟨hv⟩, hI, hC, hL, hZ, hF, hRb, hB, hZF⟩ := hrel
    subst hv
    by_cases hlt : k < b.size
    · obtain ⟨c, hc⟩ : ∃ c, c = b[k] := ⟨_, rfl⟩
      have hkl : k < (flds op).length := by rw [← Hbl.out]; exact hlt
      have hcm : c = (flds op)[k] := by rw [hc]; exact str_get Hbf.out hlt hkl
      obtain ⟨hc128, hro, hrl⟩ := HR.out c (by rw [hcm]; exact List.getElem_mem _)
      have hLk : Asd (cmdLoop rd (c :: (flds op).drop (k + 1)) sk m = cmdLoop rd (flds op) s0 (Cmd.zero op)) := ⟨by rw [← hL.out, hcm, List.getElem_cons_drop]⟩
      have Hzc : Asd (ZeroF m c) := ⟨hZF.out c (by rw [show (flds op).drop k = c :: (flds op).drop (k + 1) by rw [hcm]; exact List.drop_eq_getElem_cons hkl]; exact List.mem_cons_self ..)⟩
      have Hzn : Asd (∀ c' ∈ (flds op).drop (k + 1), c' ≠ c ∧ ZeroF m c') := ⟨fun c' hc' => by
        have hd : (flds op).drop k = c :: (flds op).drop (k + 1) := by rw [hcm]; exact List.drop_eq_getElem_cons hkl
        have hn := (flds_nodup' op).sublist (List.drop_sublist k _)
        rw [hd] at hn
        exact ⟨fun e => (List.nodup_cons.1 hn).1 (by rw [← e]; exact hc'), hZF.out c' (by rw [hd]; exact List.mem_cons_of_mem _ hc')⟩⟩
      have hnext := fun ty => Lib.run_next_ascii_at (P := Tryz.prog) wr it b k ty hI.out hlt (by rw [← hc]; exact hc128)
      rw [← hc] at hnext
      obtain ⟨w5, hw5⟩ : ∃ w5, w5 = wr.iterAt it b (k + 1) := ⟨_, rfl⟩
      rw [← hw5] at hnext
      have e5 : ∀ g, g ≠ it → w5.heap[g]? = wr.heap[g]? := fun g hg => by rw [hw5]; exact Lib.iterAt_other _ _ _ _ _ hg
      have I5 : Asd (w5.heap[it]? = some (.stringIter b (k + 1))) := ⟨by rw [hw5]; exact Lib.iterAt_heap _ _ _ _ _ hI.out⟩
      have hwz : w.heap.size ≤ rb := by have := Hrb.out; omega
      have hrc := Hlt.out
      have C5 : Asd (CmdAt w5 cb m) := ⟨hC.out.kept fun g _ _ _ hg => e5 g (fun e => by rw [e, hI.out] at hg; cases hg)⟩
      have F5 : Asd (IsFields (cb + 1) hi w5 r) := ⟨hF.out.kept fun g _ hg => e5 g (by omega)⟩
      have R5 : Asd (w5.heap[rb]? = some (.cells (zeroCmd 0) 28 (0, 0))) := ⟨(e5 rb (by omega)).trans hRb.out⟩
      have B5 : Asd (Below w.heap.size w w5) := ⟨by rw [hw5]; exact Lib.below_iterAt hB.out (by omega) _ _⟩
      have hpos : Asd (wr.iterPos it = k) := ⟨by simp [World.iterPos, hI.out]⟩
      have hcp := cutPrefix_calls (str sk) ⟨#[32]⟩
      have hbd : Asd (cmdD rd s.data.toList = match cmdLoop rd (c :: (flds op).drop (k + 1)) sk m with | some (m, []) => some m | _ => none) := ⟨by rw [hLk.out]; exact hD.out⟩
      have Hrl := Asd.mk hrl
      have Hro := Asd.mk hro
      clear hI hC hF hRb hB hw5 e5 hc hcm hro hrl hL hZF
      by_cases hp : Lib.hasPrefix sk [32] = true
      · have hcp2 : Asd (∀ W, Calls Tryz.prog 72 #[.string (str sk), .string ⟨#[32]⟩] W fun e w' => e = .returned (.tuple #[.string (str (Lib.trimPrefix sk [32])), .bool true]) ∧ W = w') := ⟨fun W => by rw [← hp]; exact hcp W⟩
        have hbd2 : Asd (cmdLoop rd (flds op) s0 (Cmd.zero op) = match rd c (Lib.trimPrefix sk [32]) m with | some (m', s') => cmdLoop rd ((flds op).drop (k + 1)) s' m' | none => none) := ⟨by rw [← hLk.out, cmdLoop_yes hp]⟩
        obtain ⟨tr, htr⟩ : ∃ tr, tr = Lib.trimPrefix sk [32] := ⟨_, rfl⟩
        have htl : tr.length ≤ sk.length := by rw [htr]; exact has_trim _ _
        rw [← htr] at hcp2 hbd2
        have Htl := Asd.mk htl
        clear hcp htr hbd hLk hp htl
        go_wp2_with fail
        refine (hcp2.out _).mono ?_
        rintro e w6 ⟨rfl, rfl⟩
        obtain ⟨fr, capt, v1, hlk, hen, hfr, hcall⟩ := Hro.out w5 B (cb + 1) hi r cb m (str tr) (HG.out.below B5.out HG.out.le) (by have := HG.out.le; omega) F5.out C5.out Hzc.out (by show (List.toArray _).size ≤ _; have := hZ.out; have := Htl.out; simp; omega)
        have Hcall := Asd.mk hcall
        clear hcp2 hcall
        go_wp2_with fail
        refine Calls.mono Hcall.out ?_
        rintro e w7 ⟨rest, ok, m', rfl, hg7, hC7, hsome, hnone⟩
        rw [data_str] at hsome hnone
        clear hlk hen hfr Hcall hnext
        have I7 : Asd (w7.heap[it]? = some (.stringIter b (k + 1))) := ⟨bk_grown I5.out hg7 (by intro e; injection e with e; omega)⟩
        have R7 : Asd (w7.heap[rb]? = some (.cells (zeroCmd 0) 28 (0, 0))) := ⟨bk_grown R5.out hg7 (by intro e; injection e with e; omega)⟩
        have B7 : Asd (Below w.heap.size w w7) := ⟨bl_grown B5.out hg7 (by intro k hk; injection hk with hk; omega)⟩
        have Hs5 := bk_lt I5.out
        have F7 : Asd (IsFields (cb + 1) hi w7 r) := ⟨F5.out.kept fun g h1 h2 => hg7.block g (by omega) (by intro e; injection e with e; omega)⟩
        have HC7 := Asd.mk hC7
        clear hg7 I5 R5 B5 F5 C5 hC7
        cases hrdc : rd c tr m with
        | none =>
          have hok := hnone hrdc
          subst hok
          have Hno : Asd (cmdD rd s.data.toList = none) := ⟨by rw [hD.out, hbd2.out, hrdc]⟩
          clear hsome hnone hbd2 hrdc
          go_wp2_with (refine wpList_store_row rfl 28 _ _ rfl rb (zeroCmd 0) rfl rfl 28 (zeroCmd 0) R7.out infoCmd rfl (zero_one 0) ?_)
          refine bodyPost_ret (results_cell_tmp rfl _ _ rb 28 (zeroCmd 0) (0, 0) _ rfl (setRow_heap _ _ _ _ _ _ R7.out) Tryz.underlying28 rfl infoCmd) rfl ?_
          refine ⟨_, Cmd.zero 0, false, rfl, kv_zero _ _ 0, ?_, ?_, fun _ => rfl⟩
          · refine B7.out.trans ⟨rfl, rfl, rfl, by simp, fun k hk => setRow_other _ _ _ _ (by have := Hrb.out; omega)⟩
          · intro m2 h; rw [Hno.out] at h; cases h
        | some x =>
          obtain ⟨m2, r2⟩ := x
          obtain ⟨rfl, rfl, rfl⟩ := hsome m2 r2 hrdc
          have hb3 : Asd (cmdLoop rd ((flds op).drop (k + 1)) r2 m' = cmdLoop rd (flds op) s0 (Cmd.zero op)) := ⟨by rw [hbd2.out, hrdc]⟩
          obtain ⟨hr2, hr3⟩ := Hrl.out _ _ _ _ hrdc
          have hz7 : Asd (∀ c ∈ (flds op).drop (k + 1), ZeroF m' c) := ⟨fun c' hc' => hr3 c' (Hzn.out c' hc').1 (Hzn.out c' hc').2⟩
          clear hsome hnone hbd2 hrdc hr3
          go_wp2_with fail
          refine ⟨⟨k + 1, r2, m', by omega, ⟨rfl⟩, I7, HC7, hb3, ⟨by have := hZ.out; have := Htl.out; omega⟩, F7, R7, B7, hz7⟩, ?_⟩
          have hp8 : w7.iterPos it = k + 1 := by simp [World.iterPos, I7.out]
          rw [hp8, hpos.out]; omega
      · have hpf : Lib.hasPrefix sk [32] = false := by simpa using hp
        have hcp2 : Asd (∀ W, Calls Tryz.prog 72 #[.string (str sk), .string ⟨#[32]⟩] W fun e w' => e = .returned (.tuple #[.string (str (Lib.trimPrefix sk [32])), .bool false]) ∧ W = w') := ⟨fun W => by rw [← hpf]; exact hcp W⟩
        have Hno : Asd (cmdD rd s.data.toList = none) := ⟨by rw [hbd.out, cmdLoop_no hpf]⟩
        obtain ⟨tr, htr⟩ : ∃ tr, tr = Lib.trimPrefix sk [32] := ⟨_, rfl⟩
        rw [← htr] at hcp2
        clear hcp htr hbd hLk hp hpf
        go_wp2_with fail
        refine (hcp2.out _).mono ?_
        rintro e w6 ⟨rfl, rfl⟩
        go_wp2_with (refine wpList_store_row rfl 28 _ _ rfl rb (zeroCmd 0) rfl rfl 28 (zeroCmd 0) R5.out infoCmd rfl (zero_one 0) ?_)
        refine bodyPost_ret (results_cell_tmp rfl _ _ rb 28 (zeroCmd 0) (0, 0) _ rfl (setRow_heap _ _ _ _ _ _ R5.out) Tryz.underlying28 rfl infoCmd) rfl ?_
        refine ⟨_, Cmd.zero 0, false, rfl, kv_zero _ _ 0, ?_, ?_, fun _ => rfl⟩
        · refine B5.out.trans ⟨rfl, rfl, rfl, by simp, fun k hk => setRow_other _ _ _ _ (by have := Hrb.out; omega)⟩
        · intro m2 h; rw [Hno.out] at h; cases h
    · have hnext := fun ty => Lib.run_next_end_at (P := Tryz.prog) wr it b k ty hI.out hlt
      have hkd : (flds op).drop k = [] := List.drop_of_length_le (by rw [← Hbl.out]; omega)
      have hend : Asd (cmdD rd s.data.toList = match (some (m, sk) : Option (Cmd × List UInt8)) with | some (m, []) => some m | _ => none) := ⟨by rw [hD.out, ← hL.out, hkd]; rfl⟩
      obtain ⟨cs, hcs, hkv, _⟩ := hC.out
      have h1 := kv_one hkv
      have h2 := kv_size hkv
      have hwz : w.heap.size ≤ rb := by have := Hrb.out; omega
      have hrc := Hlt.out
      have Hkv := Asd.mk hkv
      have Hcs := Asd.mk hcs
      have H12 := Asd.mk (And.intro h1 h2)
      clear hkv hcs h1 h2 hC hL hkd hD hF hI
      go_wp2_with (first | (refine wpList_load_row rfl 28 _ rfl cb rfl 28 cs (0, 0) _ Hcs.out Tryz.underlying28 rfl (by rw [infoCmd, H12.out.2]) ?_) | (refine wpList_store_row rfl 28 _ _ rfl rb cs rfl rfl 28 (zeroCmd 0) hRb.out (by rw [infoCmd, H12.out.2]) (by rw [H12.out.2]; rfl) H12.out.1 ?_))
      refine bodyPost_ret (results_cell_tmp rfl _ _ rb 28 cs (0, 0) _ rfl (setRow_heap _ _ _ _ _ _ hRb.out) Tryz.underlying28 rfl (by rw [infoCmd, H12.out.2])) rfl ?_
      have hk2 : ∀ g c t f, cb < g → wr.heap[g]? = some (.cells c t f) → (wr.setRow rb cs).heap[g]? = wr.heap[g]? ∧ w.heap.size ≤ g := fun g _ _ _ hg _ => ⟨setRow_other _ _ _ _ (by omega), by omega⟩
      refine ⟨_, m, sk.isEmpty, ?_, Hkv.out.kept hk2, ?_, ?_, ?_⟩
      · show Ending.returned (.tuple #[.agg cs, .bool (str sk).toList.isEmpty]) = _
        rw [empty_str]
      · refine hB.out.trans ⟨rfl, rfl, rfl, by simp, fun k hk => setRow_other _ _ _ _ (by omega)⟩
      · intro m2 h; rw [hend.out] at h
        cases sk with
        | nil => injection h with h; exact ⟨rfl, h⟩
        | cons a r => cases h
      · intro h; rw [hend.out] at h
        cases sk with
        | nil => cases h
        | cons a r => rfl
theorem command_calls {B : Nat} (rd : Reader) (s : ByteArray) (hs : s.size ≤ 1048576) (w : World) (hG : Glob B w)
    (hrd : ∀ c, c ∈ flds (findOp (str (Lib.cut s.data.toList [32]).1)) → c.toNat < 128 ∧ ReadOk rd c ∧ KeepsZ rd c) :
    Calls Tryz.prog 35 #[.string s] w (CommandPost rd s.data.toList w) := by
  by_cases h : findOp (str (Lib.cut s.data.toList [32]).1) = 0
  · exact command_none rd s hs w hG h
  · exact command_some rd s hs w hG h hrd
end Go.Proofs.YthclgijnfopikaaGreatDoor
