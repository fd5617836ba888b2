/- A command in memory; the fields that are numbers are written and read. -/
import Derived.Test.YthclgijnfopikaaGreatDoorLine
import Derived.Test.YthclgijnfopikaaGreatDoorSpec3
import Derived.Test.YthclgijnfopikaaGreatDoorClos
namespace Go.Proofs.YthclgijnfopikaaGreatDoor
open Go.RowKit

/-- The slice value v reads as xs; its row lies in a block that is ok. -/
def Rd {α : Type} (W : World) (ok : Nat → Prop) (enc : α → Value) (v : Value) (xs : List α) : Prop :=
  ∃ A c, v = .slice A xs.length c ∧ (A = none → c = 0) ∧ (0 < xs.length → ∃ b o, A = some ⟨b, o, none⟩ ∧ ok b ∧ ∀ j x, xs[j]? = some x → W.cell? ⟨b, o + j, none⟩ = some (enc x))
theorem Rd.nil {α : Type} (W : World) (ok : Nat → Prop) (enc : α → Value) : Rd W ok enc (.slice none 0 0) ([] : List α) := ⟨none, 0, rfl, fun _ => rfl, fun h => absurd h (by simp)⟩
theorem cell_block {W : World} {a : Addr} {v : Value} (h : W.cell? a = some v) : ∃ c t f, W.heap[a.block]? = some (.cells c t f) := by
  unfold World.cell? at h
  split at h
  · rename_i c t f e; exact ⟨c, t, f, e⟩
  · cases h
theorem Rd.kept {α : Type} {W W1 : World} {ok ok1 : Nat → Prop} {enc : α → Value} {v : Value} {xs : List α} (h : Rd W ok enc v xs) (hk : ∀ g c t f, ok g → W.heap[g]? = some (.cells c t f) → W1.heap[g]? = W.heap[g]? ∧ ok1 g) : Rd W1 ok1 enc v xs := by
  obtain ⟨A, c, rfl, hnc, h⟩ := h
  refine ⟨A, c, rfl, hnc, fun h0 => ?_⟩
  obtain ⟨b, o, rfl, hne, hc⟩ := h h0
  have hx0 : ∃ x, xs[0]? = some x := ⟨xs[0], by simp [h0]⟩
  obtain ⟨x0, hx0⟩ := hx0
  obtain ⟨c', t, f, e⟩ := cell_block (hc 0 x0 hx0)
  refine ⟨b, o, rfl, (hk _ _ _ _ hne e).2, fun j x hx => ?_⟩
  rw [World.cell?_of_block (w := W) (hk _ _ _ _ hne e).1]
  exact hc j x hx

def encU (n : Nat) : Value := .int .u16 n
def encI (n : Int) : Value := .int .i64 n
def encS (s : List UInt8) : Value := .string (str s)
/-- The cells that hold a command. -/
def cmdCells (m : Cmd) (vD vL vK : Value) : Array Value :=
  #[.int .u8 m.op, .int .i64 m.A, .int .i64 m.B, .int .i64 m.C, .int .i64 m.N, .int .i64 m.M, .string (str m.S), .string (str m.T), vD, vL, vK, .bool m.yes]
def KV (W : World) (ok : Nat → Prop) (cs : Array Value) (m : Cmd) : Prop :=
  ∃ vD vL vK, cs = cmdCells m vD vL vK ∧ Rd W ok encU vD m.data ∧ Rd W ok encI vL m.list ∧ Rd W ok encS vK m.names
theorem KV.kept {W W1 : World} {ok ok1 : Nat → Prop} {cs : Array Value} {m : Cmd} (h : KV W ok cs m) (hk : ∀ g c t f, ok g → W.heap[g]? = some (.cells c t f) → W1.heap[g]? = W.heap[g]? ∧ ok1 g) : KV W1 ok1 cs m := by
  obtain ⟨vD, vL, vK, rfl, h1, h2, h3⟩ := h
  exact ⟨vD, vL, vK, rfl, h1.kept hk, h2.kept hk, h3.kept hk⟩
/-- Lists without items are nil. -/
def NilE (cs : Array Value) (m : Cmd) : Prop := (m.list = [] → cs[9]? = some (.slice none 0 0)) ∧ (m.names = [] → cs[10]? = some (.slice none 0 0))
/-- Block cb holds the command m. -/
def CmdAt (W : World) (cb : Nat) (m : Cmd) : Prop := ∃ cs, W.heap[cb]? = some (.cells cs 28 (0, 0)) ∧ KV W (cb < ·) cs m ∧ NilE cs m
theorem CmdAt.kept {W W1 : World} {cb : Nat} {m : Cmd} (h : CmdAt W cb m) (hk : ∀ (g : Nat) c t f, W.heap[g]? = some (Obj.cells c t f) → W1.heap[g]? = W.heap[g]?) : CmdAt W1 cb m := by
  obtain ⟨cs, e, h, hn⟩ := h
  exact ⟨cs, (hk _ _ _ _ e).trans e, h.kept fun g c t f o e => ⟨hk g c t f e, o⟩, hn⟩
theorem CmdAt.below {W W1 : World} {cb : Nat} {m : Cmd} (h : CmdAt W cb m) (hb : Below W.heap.size W W1) : CmdAt W1 cb m := h.kept fun g _ _ _ e => hb.block g (bk_lt e)

/-! ### numbers -/
def isNum (c : UInt8) : Prop := c = 65 ∨ c = 66 ∨ c = 67 ∨ c = 78 ∨ c = 77
theorem leads1 : Leads 53 1 := at1_calls
theorem leads2 : Leads 54 2 := at2_calls
theorem leads3 : Leads 55 3 := at3_calls
theorem leads4 : Leads 56 4 := at4_calls
theorem leads5 : Leads 57 5 := at5_calls

theorem fw_num (b : Nat) (v : Value) (w : World) : (Instr.field 63 (.agg #[.func (.func 82) #[] #[.pointer (some ⟨b, 0, none⟩)], v]) 0).run Tryz.prog w = .ok (.func (.func 82) #[] #[.pointer (some ⟨b, 0, none⟩)]) w := by kernel_rfl
theorem fr_num (b : Nat) (v : Value) (w : World) : (Instr.field 63 (.agg #[v, .func (.func 83) #[] #[.pointer (some ⟨b, 0, none⟩)]]) 1).run Tryz.prog w = .ok (.func (.func 83) #[] #[.pointer (some ⟨b, 0, none⟩)]) w := by kernel_rfl

/-- A number's place in the map and among a command's cells. -/
theorem num_place {lo hi r : Nat} {W : World} (hF : IsFields lo hi W r) {c : UInt8} (hc : isNum c) (m : Cmd) (vD vL vK : Value) :
    ∃ b g i, (Instr.lookup 58 (.map (some r)) (.int .i32 c.toNat) false).run Tryz.prog W = .ok (numV b) W ∧ W.heap[b]? = some (nbox g) ∧ Leads g i ∧ (∀ args w, (callFunc g args).run Tryz.prog w = .ok (.enter g args) w) ∧
      (cmdCells m vD vL vK)[i]? = some (.int .i64 (numOf c m)) ∧ (∀ n, (cmdCells m vD vL vK).setIfInBounds i (.int .i64 n) = cmdCells (setNum c n m) vD vL vK) ∧
      (∀ n, (setNum c n m).data = m.data ∧ (setNum c n m).list = m.list ∧ (setNum c n m).names = m.names) := by
  obtain ⟨b1, b2, b3, b4, b5, b6, b7, h0, hr, ⟨x1, _⟩, ⟨x2, _⟩, ⟨x3, _⟩, ⟨x4, _⟩, ⟨x5, _⟩, _⟩ := hF.is
  rcases hc with rfl | rfl | rfl | rfl | rfl
  · exact ⟨b1, _, 1, run_lookup_i32 Tryz.underlying58 Tryz.underlying21 h0 65 0 (numV b1) rfl, x1, leads1, enters_at _ (by simp), rfl, fun n => rfl, fun n => ⟨rfl, rfl, rfl⟩⟩
  · exact ⟨b2, _, 2, run_lookup_i32 Tryz.underlying58 Tryz.underlying21 h0 66 1 (numV b2) rfl, x2, leads2, enters_at _ (by simp), rfl, fun n => rfl, fun n => ⟨rfl, rfl, rfl⟩⟩
  · exact ⟨b3, _, 3, run_lookup_i32 Tryz.underlying58 Tryz.underlying21 h0 67 2 (numV b3) rfl, x3, leads3, enters_at _ (by simp), rfl, fun n => rfl, fun n => ⟨rfl, rfl, rfl⟩⟩
  · exact ⟨b4, _, 4, run_lookup_i32 Tryz.underlying58 Tryz.underlying21 h0 78 3 (numV b4) rfl, x4, leads4, enters_at _ (by simp), rfl, fun n => rfl, fun n => ⟨rfl, rfl, rfl⟩⟩
  · exact ⟨b5, _, 5, run_lookup_i32 Tryz.underlying58 Tryz.underlying21 h0 77 4 (numV b5) rfl, x5, leads5, enters_at _ (by simp), rfl, fun n => rfl, fun n => ⟨rfl, rfl, rfl⟩⟩

theorem write_num (w0 : World) (m : Cmd) (vD vL vK : Value) (f : UInt8 → List UInt8) (c : UInt8) (hc : isNum c) (hf : f c = Lib.itoa (numOf c m)) (hi : inI64 (numOf c m)) : WriteOk w0 (cmdCells m vD vL vK) f c := by
  intro W B lo hi' r cb hG _ hF hC
  obtain ⟨b, g, i, hl, hb, hL, he, hv, _, _⟩ := num_place hF hc m vD vL vK
  refine ⟨82, #[.pointer (some ⟨b, 0, none⟩)], _, hl, enters_of Tryz.func82 (by kernel_rfl) rfl, fun w => fw_num b _ w, ?_⟩
  rw [hf]
  exact num1_calls hL he cb b (numOf c m) hi.1 hi.2 W hG (bk_cell hb 0) ((bk_cell hC i).trans hv)

/-- What reading a field comes to. -/
def ReadPost (rd : Reader) (c : UInt8) (s : List UInt8) (m : Cmd) (cb : Nat) (W : World) (e : Ending) (w' : World) : Prop :=
  ∃ rest ok m', e = .returned (.tuple #[.string rest, .bool ok]) ∧ W.grownBy w' (some cb) ∧ CmdAt w' cb m' ∧
    (∀ m2 r2, rd c s m = some (m2, r2) → ok = true ∧ m' = m2 ∧ rest = str r2) ∧ (rd c s m = none → ok = false)
/-- The field c is read as rd says. -/
def ReadOk (rd : Reader) (c : UInt8) : Prop :=
  ∀ (W : World) (B lo hi r cb : Nat) (m : Cmd) (s : ByteArray), Glob B W → B ≤ cb → IsFields lo hi W r → CmdAt W cb m → ZeroF m c → s.size ≤ 1048576 →
    ∃ fr capt v1, (Instr.lookup 58 (.map (some r)) (.int .i32 c.toNat) false).run Tryz.prog W = .ok (.agg #[v1, .func (.func fr) #[] capt]) W ∧
      (∀ args w, (callFunc fr args).run Tryz.prog w = .ok (.enter fr args) w) ∧
      (∀ w, (Instr.field 63 (.agg #[v1, .func (.func fr) #[] capt]) 1).run Tryz.prog w = .ok (.func (.func fr) #[] capt) w) ∧
      Calls Tryz.prog fr (#[.pointer (some ⟨cb, 0, none⟩), .string s] ++ capt) W (ReadPost rd c s.data.toList m cb W)
theorem read_num (rd : Reader) (c : UInt8) (hc : isNum c) (hr : ∀ s m, rd c s m = rdNum c s m) : ReadOk rd c := by
  intro W B lo hi r cb m s hG hB hF ⟨cs, hC, ⟨vD, vL, vK, hcs, d1, d2, d3⟩, hne⟩ _ hs
  subst hcs
  obtain ⟨b, g, i, hl, hb, hL, he, hv, hset, hrest⟩ := num_place hF hc m vD vL vK
  refine ⟨83, #[.pointer (some ⟨b, 0, none⟩)], _, hl, enters_of Tryz.func83 (by kernel_rfl) rfl, fun w => fr_num b _ w, ?_⟩
  refine (num2_calls hL he cb b (numOf c m) s hs W hG (bk_cell hb 0) ((bk_cell hC i).trans hv) (bk_free hC i)).mono ?_
  rintro e w' ⟨rfl, w1, hb1, rfl⟩
  have hC1 := bk_below hC hb1 (bk_lt hC)
  have hset1 := bk_set hC1 i (.int .i64 (((numD s.data.toList).map (·.1)).getD 0))
  rw [hset] at hset1
  have hk : ∀ g c t f, cb < g → W.heap[g]? = some (.cells c t f) → (w1.setCell ⟨cb, i, none⟩ (.int .i64 (((numD s.data.toList).map (·.1)).getD 0))).heap[g]? = W.heap[g]? ∧ cb < g := fun g c t f hg e =>
    ⟨(Below.heap_setCell w1 ⟨cb, i, none⟩ _ g (show g ≠ cb by omega)).trans (hb1.block g (bk_lt e)), hg⟩
  obtain ⟨q1, q2, q3⟩ := hrest (((numD s.data.toList).map (·.1)).getD 0)
  refine ⟨_, _, setNum c (((numD s.data.toList).map (·.1)).getD 0) m, rfl, ⟨hb1.os, hb1.tape, hb1.output, ?_, fun g hg hne => (Below.heap_setCell w1 ⟨cb, i, none⟩ _ g (fun e => hne (by rw [e]))).trans (hb1.block g hg)⟩,
    ⟨_, hset1, ⟨vD, vL, vK, rfl, ?_, ?_, ?_⟩, ⟨fun e => hne.1 (by rw [← q2]; exact e), fun e => hne.2 (by rw [← q3]; exact e)⟩⟩, ?_, ?_⟩
  · show W.heap.size ≤ (World.setCell _ _ _).heap.size
    simp [World.setCell]; exact hb1.size
  · rw [q1]; exact d1.kept hk
  · rw [q2]; exact d2.kept hk
  · rw [q3]; exact d3.kept hk
  · intro m2 r2 h
    rw [hr] at h
    unfold rdNum at h
    cases hn : numD s.data.toList with
    | none => rw [hn] at h; cases h
    | some x => rw [hn] at h; simp at h; obtain ⟨rfl, rfl⟩ := h; exact ⟨rfl, rfl, rfl⟩
  · intro h
    rw [hr] at h
    unfold rdNum at h
    cases hn : numD s.data.toList with
    | none => rfl
    | some x => rw [hn] at h; cases h
end Go.Proofs.YthclgijnfopikaaGreatDoor
