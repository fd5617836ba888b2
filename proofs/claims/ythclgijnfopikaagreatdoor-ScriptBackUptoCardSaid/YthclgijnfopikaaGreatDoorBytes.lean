/- A slice of bytes that a call owns, also one out of a conversion of a string; what is appended to it. Of no program. -/
import Derived.WalkKit
import Derived.Lib.AppendStr
import Derived.Lib.ConvBytes
import Derived.Laws.BytesArg
import Derived.Lib.FrozenHead2
import Derived.Maps.AppendAt
import Derived.Below
namespace Go.Proofs.YthclgijnfopikaaGreatDoor
open Go.RowKit
variable {P : Program}

def bytesV (bs : List UInt8) : List Value := bs.map fun b => Value.int .u8 b.toNat
theorem bytesV_length (bs : List UInt8) : (bytesV bs).length = bs.length := by simp [bytesV]
theorem bytesV_append (a b : List UInt8) : bytesV (a ++ b) = bytesV a ++ bytesV b := by simp [bytesV]
theorem bytesV_one (bs : List UInt8) : ∀ u ∈ bytesV bs, u.oneCell' = true := by
  intro u hu; simp only [bytesV, List.mem_map] at hu; obtain ⟨b, _, rfl⟩ := hu; rfl

/-- v owns the bytes bs: its row lies in a block from base on, none of its cells is frozen. -/
def OB (w : World) (base : Nat) (e : TypeId) (v : Value) (bs : List UInt8) : Prop :=
  (v = .slice none 0 0 ∧ bs = []) ∨
  ∃ g cap cur fz, v = .slice (some ⟨g, 0, none⟩) bs.length cap ∧ base ≤ g ∧ w.heap[g]? = some (.cells cur e fz) ∧ (∀ j, j < cap → ¬ (fz.1 ≤ j ∧ j < fz.2)) ∧ bs.length ≤ cap ∧ cap ≤ maxLen ∧ cur.size = cap ∧ cur.toList.take bs.length = bytesV bs

theorem OB.nil (w : World) (base : Nat) (e : TypeId) : OB w base e (.slice none 0 0) [] := .inl ⟨rfl, rfl⟩
theorem OB.kept {w w' : World} {base : Nat} {e : TypeId} {v : Value} {bs : List UInt8} {row : Option Nat} (h : OB w base e v bs) (hg : w.grownBy w' row) (hne : v.ownBlock = none ∨ v.ownBlock ≠ row) : OB w' base e v bs := by
  rcases h with h | ⟨g, cap, cur, fz, rfl, hb, hgg, rest⟩
  · exact .inl h
  · refine .inr ⟨g, cap, cur, fz, rfl, hb, ?_, rest⟩
    rw [hg.block g (Array.getElem?_eq_some_iff.1 hgg).1 (by simpa [Value.ownBlock] using hne)]
    exact hgg
theorem OB.same {w w' : World} {base : Nat} {e : TypeId} {v : Value} {bs : List UInt8} (h : OB w base e v bs) (hk : ∀ g, v.ownBlock = some g → w'.heap[g]? = w.heap[g]?) : OB w' base e v bs := by
  rcases h with h | ⟨g, cap, cur, fz, rfl, hb, hgg, rest⟩
  · exact .inl h
  · exact .inr ⟨g, cap, cur, fz, rfl, hb, (hk g rfl).trans hgg, rest⟩
theorem OB.below {w w' : World} {base : Nat} {e : TypeId} {v : Value} {bs : List UInt8} (h : OB w base e v bs) (hb : Below w.heap.size w w') : OB w' base e v bs :=
  h.kept (row := none) ⟨hb.os, hb.tape, hb.output, hb.size, fun i hi _ => hb.block i hi⟩ (by cases v.ownBlock <;> simp)
theorem OB.lt {w : World} {base : Nat} {e : TypeId} {v : Value} {bs : List UInt8} (h : OB w base e v bs) : ∀ k, v.ownBlock = some k → base ≤ k ∧ k < w.heap.size := by
  intro k hk
  rcases h with ⟨rfl, _⟩ | ⟨g, cap, cur, fz, rfl, hb, hg, _⟩
  · simp [Value.ownBlock] at hk
  · simp [Value.ownBlock] at hk
    subst hk
    exact ⟨hb, (Array.getElem?_eq_some_iff.1 hg).1⟩
theorem OB.len {w : World} {base : Nat} {e : TypeId} {v : Value} {bs : List UInt8} (h : OB w base e v bs) : ∃ A c, v = .slice A bs.length c := by
  rcases h with ⟨rfl, rfl⟩ | ⟨g, cap, cur, fz, rfl, _⟩
  · exact ⟨none, 0, rfl⟩
  · exact ⟨_, cap, rfl⟩
theorem OB.mono {w : World} {base base' : Nat} {e : TypeId} {v : Value} {bs : List UInt8} (h : OB w base e v bs) (hb : base' ≤ base) : OB w base' e v bs := by
  rcases h with h | ⟨g, cap, cur, fz, hv, hbg, rest⟩
  · exact .inl h
  · exact .inr ⟨g, cap, cur, fz, hv, by omega, rest⟩

theorem add_lit0 (g j : Nat) : (⟨g, 0, none⟩ : Addr).add j = ⟨g, j, none⟩ := by unfold Addr.add; split <;> simp_all
theorem OB.cells {w : World} {base : Nat} {e : TypeId} {v : Value} {bs : List UInt8} (h : OB w base e v bs) {g : Nat} (hg : v.ownBlock = some g) : ∀ j u, (bytesV bs)[j]? = some u → w.cell? ((⟨g, 0, none⟩ : Addr).add j) = some u := by
  intro j u hu
  rcases h with ⟨rfl, _⟩ | ⟨g', cap, cur, fz, rfl, _, hgg, _, _, _, _, htake⟩
  · simp [Value.ownBlock] at hg
  · simp [Value.ownBlock] at hg
    subst hg
    rw [add_lit0, cell_of_row w g' j cur e fz hgg]
    rw [← htake, List.getElem?_take] at hu
    split at hu
    · simpa using hu
    · cases hu

/-- A row out of '[]byte(s)'. -/
theorem OB.conv (w : World) (base : Nat) (e : TypeId) (s : ByteArray) (hb : base ≤ w.heap.size) (hs : s.size ≤ maxLen) : OB (Lib.bytesWorld w e s) base e (.slice (some ⟨w.heap.size, 0, none⟩) s.size (grownCap w s.size 0 e)) s.data.toList := by
  have hge := grownCap_ge w s.size 0 e
  have hsz : (Lib.bytesCells w e s).size = grownCap w s.size 0 e := by
    simp [Lib.bytesCells]; have : s.data.size = s.size := rfl; omega
  refine .inr ⟨w.heap.size, grownCap w s.size 0 e, _, _, by simp, hb, Lib.bytesWorld_at_new w e s, fun j hj h => ?_, by simpa using hge, grownCap_le_maxLen w _ 0 e hs, hsz, ?_⟩
  · simp only [hsz] at h; omega
  · simp [Lib.bytesCells, bytesV]

/-- Storing cells where none is frozen. -/
theorem storeCells_free (P : Program) (g o : Nat) (t : TypeId) (fz : Nat × Nat) (n : Nat) (hfz : ∀ j, j < n → ¬ (fz.1 ≤ j ∧ j < fz.2)) : ∀ (vs : List Value) (i : Nat) (cur : Array Value) (w : World), w.heap[g]? = some (.cells cur t fz) → o + i + vs.length ≤ n → o + i + vs.length ≤ cur.size → (∀ v ∈ vs, v.oneCell' = true) →
    (storeCells ⟨g, o, none⟩ vs i).run P w = .ok () (w.setRow g (cur.toList.take (o + i) ++ vs ++ cur.toList.drop (o + i + vs.length)).toArray)
  | [], i, cur, w, hg, _, _, _ => by
    simp only [storeCells, List.append_nil, List.length_nil, Nat.add_zero, List.take_append_drop, Array.toArray_toList]
    rw [setRow_self w g cur t fz hg]
    rfl
  | v :: rest, i, cur, w, hg, hn, hl, h1 => by
    have hi : o + i < cur.size := by simp at hl; omega
    have hadd : (⟨g, o, none⟩ : Addr).add i = ⟨g, o + i, none⟩ := by unfold Addr.add; split <;> simp_all
    have hcell : w.cell? ⟨g, o + i, none⟩ = some cur[o + i] := by simp [World.cell?, hg, hi]
    have hfro : w.frozen? ⟨g, o + i, none⟩ = false := by
      have := hfz (o + i) (by simp at hn; omega)
      obtain ⟨lo, hi'⟩ := fz
      simp only [World.frozen?, hg]
      simpa using this
    have hst : (store ((⟨g, o, none⟩ : Addr).add i) v).run P w = .ok () (w.setRow g (cur.setIfInBounds (o + i) v)) := by
      rw [hadd, run_store P w _ v _ (h1 v (by simp)), hcell]
      simp [hfro, setCell_eq_setRow w g (o + i) cur t fz v hg]
    have ih := storeCells_free P g o t fz n hfz rest (i + 1) (cur.setIfInBounds (o + i) v) (w.setRow g (cur.setIfInBounds (o + i) v)) (setRow_heap w g cur _ t _ hg) (by simp at hn ⊢; omega) (by simp at hl ⊢; omega) (fun x hx => h1 x (by simp [hx]))
    simp only [storeCells, Sem.run_bind, hst, Result.andThen_ok, ih, setRow_setRow]
    congr 3
    have e := list_seg_step cur.toList (o + i) v rest (by simp at hl ⊢; omega)
    simpa [Array.toList_setIfInBounds, Nat.add_assoc] using e

section
variable (w : World) {ops : Array Oper} {rest : List Oper} {o : Oper} {a : Act} {Q : Exit → Act → World → Prop}

/-- append(v, s...) of a string. -/
theorem run_append_str (base : Nat) (t u ty e : TypeId) (i : TypeInfo) (ht : P.underlying t = some (.slice e)) (hu : P.underlying u = some .string) (hi : P.info? e = some i) (hz : i.zero = some (.int .u8 0))
    (hsize : i.size = 1) (hby : i.bytes = 1) (v : Value) (bs : List UInt8) (hown : OB w base e v bs) (s : ByteArray) (hbytes : bs.length + s.size ≤ 140737488355328) (hbase : base ≤ w.heap.size) :
    ∃ v' w', (Builtin.append_ #[t, u] ty #[v, .string s]).run P w = .ok v' w' ∧ OB w' base e v' (bs ++ s.data.toList) ∧ w.grownBy w' v.ownBlock ∧ (v'.ownBlock = v.ownBlock ∨ ∀ k, v'.ownBlock = some k → w.heap.size ≤ k) := by
  have hss : s.data.toList.length = s.size := by simp
  have hcs : Lib.strCells s = bytesV s.data.toList := rfl
  rcases hown with ⟨rfl, rfl⟩ | ⟨g, cap, cur, fz, rfl, hbg, hg, hfz, hnc, hcm, hcs', htake⟩
  · obtain ⟨v', w', h1, h2, h3, h4⟩ := Lib.run_append_own_string (P := P) w base t u ty e i ht hu hi hz hsize hby (.slice none 0 0) 0 [] (World.ownsRow_nil _ _ _ _) s (by simp only [maxLen]; omega) (by simpa using hbytes) hbase
    refine ⟨v', w', h1, ?_, h3, ?_⟩
    · rcases h2.2 with ⟨rfl, hn⟩ | ⟨g, cap, cur, rfl, hb, hgg, r1, r2, r3, r4⟩
      · have : s.data.toList = [] := List.eq_nil_of_length_eq_zero (by omega)
        exact .inl ⟨rfl, by rw [this]; rfl⟩
      · refine .inr ⟨g, cap, cur, (0, 0), by simp [hss], hb, hgg, fun j _ h => by simp at h, by simp [hss]; omega, r2, by simpa using r3, ?_⟩
        rw [List.nil_append, ← hcs, hss]
        simpa using r4
    · right
      intro k hk
      rcases h2.2 with ⟨rfl, _⟩ | ⟨g, cap, cur, rfl, hb, hgg, _⟩
      · simp [Value.ownBlock] at hk
      · simp [Value.ownBlock] at hk
        subst hk
        exact Classical.byContradiction fun hlt => by
          have hlt : g < w.heap.size := by omega
          have e1 := h3.block g hlt (by simp [Value.ownBlock])
          have hm : ∃ v2 w2, (Builtin.append_ #[t, u] ty #[.slice none 0 0, .string s]).run P w = .ok v2 w2 ∧ w2.ownsRow w.heap.size e 1 v2 (0 + s.size) ([] ++ Lib.strCells s) := by
            obtain ⟨v2, w2, q1, q2, _⟩ := Lib.run_append_own_string (P := P) w w.heap.size t u ty e i ht hu hi hz hsize hby (.slice none 0 0) 0 [] (World.ownsRow_nil _ _ _ _) s (by simp only [maxLen]; omega) (by simpa using hbytes) (Nat.le_refl _)
            exact ⟨v2, w2, q1, q2⟩
          obtain ⟨v2, w2, q1, q2⟩ := hm
          rw [h1] at q1
          injection q1 with q1 q3
          subst q1
          have := q2.lt g (by simp [Value.ownBlock])
          omega
  · have hbl : (bytesV bs).length = bs.length := bytesV_length bs
    by_cases hroom : bs.length + s.size ≤ cap
    · have hf := Lib.run_firstCells_string (P := P) w 1 s
      have hst := storeCells_free P g bs.length e fz cap hfz (Lib.strCells s) 0 cur w hg (by simpa [Lib.strCells_length] using hroom) (by rw [hcs']; simpa [Lib.strCells_length] using hroom) (Lib.strCells_oneCell s)
      simp only [Nat.add_zero, Lib.strCells_length] at hst
      refine ⟨.slice (some ⟨g, 0, none⟩) (bs.length + s.size) cap, w.setRow g (cur.toList.take bs.length ++ Lib.strCells s ++ cur.toList.drop (bs.length + s.size)).toArray, ?_, ?_, ⟨rfl, rfl, rfl, by simp, fun k _ hk => setRow_other w g k _ (fun e => hk (by simp [Value.ownBlock, e]))⟩, .inl rfl⟩
      · simp [Builtin.append_, run_underlying ht, run_underlying hu, sizeOf, typeInfo, hi, hsize, Builtin.lenOf, hroom, hf, Addr.add_lit, hst]
      · refine .inr ⟨g, cap, _, fz, by simp [hss], hbg, setRow_heap w g cur _ e _ hg, hfz, by simpa [hss] using hroom, hcm, ?_, ?_⟩
        · simp only [List.size_toArray, List.length_append, List.length_take, List.length_drop, Array.length_toList, Lib.strCells_length]
          omega
        · rw [htake, bytesV_append, ← hcs]
          have : (bytesV bs ++ Lib.strCells s).length = (bs ++ s.data.toList).length := by simp [bytesV_length, Lib.strCells_length, hss]
          rw [← this]
          exact List.take_left
    · have holds : ∀ j u, (bytesV bs)[j]? = some u → w.cell? ((⟨g, 0, none⟩ : Addr).add j) = some u := OB.cells (v := .slice (some ⟨g, 0, none⟩) bs.length cap) (.inr ⟨g, cap, cur, fz, rfl, hbg, hg, hfz, hnc, hcm, hcs', htake⟩) rfl
      have hr := Lib.run_append_grow_string (P := P) w t u ty e i (.int .u8 0) ht hu hi hz ⟨g, 0, none⟩ bs.length cap (bytesV bs) (by rw [hsize]; simpa using hbl) holds s (by omega) (by omega) (by rw [hby]; exact growslice_fits (by omega) (by omega))
      have hge := grownCap_ge w (bs.length + s.size) cap e
      have hcm2 : grownCap w (bs.length + s.size) cap e ≤ maxLen := grownCap_le_maxLen w (bs.length + s.size) cap e (by simp only [maxLen]; omega)
      refine ⟨_, _, hr, .inr ⟨w.heap.size, _, _, (0, 0), by simp [hss], hbase, heap_alloc_new w.drew _, fun j _ h => by simp at h, by simpa [hss] using hge, hcm2, ?_, ?_⟩, ⟨rfl, rfl, rfl, by simp, fun k hk _ => Below.heap_alloc w.drew _ k hk⟩, .inr fun k hk => by simp [Value.ownBlock] at hk; omega⟩
      · have hz1 : (Value.int IntKind.u8 0).cells.size = 1 := rfl
        simp only [Array.size_append, List.size_toArray, size_zeroCells, hz1, hbl, Lib.strCells_length]
        omega
      · simp only [Array.toList_append, List.append_assoc]
        rw [bytesV_append, ← hcs, ← List.append_assoc]
        have : (bytesV bs ++ Lib.strCells s).length = (bs ++ s.data.toList).length := by simp [bytesV_length, Lib.strCells_length, hss]
        rw [← this]
        exact List.take_left
theorem wpList_append_str (hgd : o.guard = none) (sl x : Operand) (t u : TypeId) (ho : o.op = .call { callee := .builtin .append, args := #[sl, x], argTypes := #[t, u] })
    (base : Nat) (e : TypeId) (i : TypeInfo) (ht : P.underlying t = some (.slice e)) (hu : P.underlying u = some .string) (hi : P.info? e = some i) (hz : i.zero = some (.int .u8 0)) (hsize : i.size = 1) (hby : i.bytes = 1)
    (v : Value) (bs : List UInt8) (hs : a.eval sl = v) (hown : OB w base e v bs) (s : ByteArray) (hx : a.eval x = .string s) (hbytes : bs.length + s.size ≤ 140737488355328) (hbase : base ≤ w.heap.size)
    (h : ∀ v' w', OB w' base e v' (bs ++ s.data.toList) → w.grownBy w' v.ownBlock → (v'.ownBlock = v.ownBlock ∨ ∀ k, v'.ownBlock = some k → w.heap.size ≤ k) → wpList P ops Q rest (a.put o.dst v') w') : wpList P ops Q (o :: rest) a w := by
  refine wpList_plain hgd fun K hK => ?_
  obtain ⟨v', w', hr, h2, h3, h4⟩ := run_append_str (P := P) w base t u o.type e i ht hu hi hz hsize hby v bs hown s hbytes hbase
  unfold Oper.wp execOp
  simp only [ho, resolve, invoke, builtin, Sem.run_bind, Sem.run_pure, Result.andThen_ok, List.map_toArray, List.map_cons, List.map_nil, hs, hx, hr]
  exact hK _ _ (h v' w' h2 h3 h4)

/-- append(v, src...) of a slice of bytes. -/
theorem run_append_sl (base : Nat) (t ty e : TypeId) (i : TypeInfo) (ht : P.underlying t = some (.slice e)) (hi : P.info? e = some i) (hz : i.zero = some (.int .u8 0))
    (hsize : i.size = 1) (hby : i.bytes = 1) (v : Value) (bs : List UInt8) (hown : OB w base e v bs) (ad : Addr) (c : Nat) (ns : List UInt8) (hnews : ∀ j u, (bytesV ns)[j]? = some u → w.cell? (ad.add j) = some u) (hbytes : bs.length + ns.length ≤ 140737488355328) (hbase : base ≤ w.heap.size) :
    ∃ v' w', (Builtin.append_ #[t, t] ty #[v, .slice (some ad) ns.length c]).run P w = .ok v' w' ∧ OB w' base e v' (bs ++ ns) ∧ w.grownBy w' v.ownBlock ∧ (v'.ownBlock = v.ownBlock ∨ ∀ k, v'.ownBlock = some k → w.heap.size ≤ k) := by
  have hz1 : (Value.int IntKind.u8 0).cells.size = 1 := rfl
  have hl : (bytesV ns).length = ns.length * i.size := by rw [hsize, bytesV_length, Nat.mul_one]
  have hbl : (bytesV bs).length = bs.length := bytesV_length bs
  have hnl : (bytesV ns).length = ns.length := bytesV_length ns
  rcases hown with ⟨rfl, rfl⟩ | ⟨g, cap, cur, fz, rfl, hbg, hg, hfz, hnc, hcm, hcs', htake⟩
  · have hrun : ∀ B, B ≤ w.heap.size → ∃ v' w', (Builtin.append_ #[t, t] ty #[.slice none 0 0, .slice (some ad) ns.length c]).run P w = .ok v' w' ∧ w'.ownsRow B e 1 v' (0 + ns.length) ([] ++ bytesV ns) ∧ w.grownBy w' (Value.slice none 0 0).ownBlock := fun B hB => by
      obtain ⟨v', w', h1, h2, h3, h4⟩ := run_append_own (P := P) w B t ty e i (.int .u8 0) 1 1 ht hi hz hsize hby hz1 (by omega) (.slice none 0 0) 0 [] (World.ownsRow_nil _ _ _ _) ad ns.length c (bytesV ns) (by omega) hnews (bytesV_one ns) (by simp only [maxLen]; omega) (by simpa using hbytes) hB
      exact ⟨v', w', h1, h2, h3⟩
    obtain ⟨v', w', h1, h2, h3⟩ := hrun base hbase
    refine ⟨v', w', h1, ?_, h3, ?_⟩
    · rcases h2.2 with ⟨rfl, hn⟩ | ⟨g, cap, cur, rfl, hb, hgg, r1, r2, r3, r4⟩
      · have : ns = [] := List.eq_nil_of_length_eq_zero (by omega)
        exact .inl ⟨rfl, by rw [this]; rfl⟩
      · refine .inr ⟨g, cap, cur, (0, 0), by simp, hb, hgg, fun j _ h => by simp at h, by simp; omega, r2, by simpa using r3, ?_⟩
        rw [List.nil_append]
        simpa using r4
    · right
      intro k hk
      obtain ⟨v2, w2, q1, q2, _⟩ := hrun w.heap.size (Nat.le_refl _)
      rw [h1] at q1
      injection q1 with q1 q3
      subst q1
      exact (q2.lt k hk).1
  · by_cases hroom : bs.length + ns.length ≤ cap
    · have hf := run_firstCells_some (P := P) w 1 ns.length ad ns.length c (bytesV ns) (by omega) hnews
      have hst := storeCells_free P g bs.length e fz cap hfz (bytesV ns) 0 cur w hg (by simpa [hnl] using hroom) (by rw [hcs']; simpa [hnl] using hroom) (bytesV_one ns)
      simp only [Nat.add_zero, hnl] at hst
      refine ⟨.slice (some ⟨g, 0, none⟩) (bs.length + ns.length) cap, w.setRow g (cur.toList.take bs.length ++ bytesV ns ++ cur.toList.drop (bs.length + ns.length)).toArray, ?_, ?_, ⟨rfl, rfl, rfl, by simp, fun k _ hk => setRow_other w g k _ (fun e => hk (by simp [Value.ownBlock, e]))⟩, .inl rfl⟩
      · simp [Builtin.append_, run_underlying ht, sizeOf, typeInfo, hi, hsize, Builtin.lenOf, hroom, hf, Addr.add_lit, hst]
      · refine .inr ⟨g, cap, _, fz, by simp, hbg, setRow_heap w g cur _ e _ hg, hfz, by simpa using hroom, hcm, ?_, ?_⟩
        · simp only [List.size_toArray, List.length_append, List.length_take, List.length_drop, Array.length_toList, hnl]
          omega
        · rw [htake, bytesV_append]
          have : (bytesV bs ++ bytesV ns).length = (bs ++ ns).length := by simp [bytesV_length]
          rw [← this]
          exact List.take_left
    · have holds : ∀ j u, (bytesV bs)[j]? = some u → w.cell? ((⟨g, 0, none⟩ : Addr).add j) = some u := OB.cells (v := .slice (some ⟨g, 0, none⟩) bs.length cap) (.inr ⟨g, cap, cur, fz, rfl, hbg, hg, hfz, hnc, hcm, hcs', htake⟩) rfl
      have hr := run_append_grow (P := P) w t ty e i (.int .u8 0) ht hi hz ⟨g, 0, none⟩ bs.length cap (bytesV bs) (by rw [hsize]; simpa using hbl) holds ad ns.length c (bytesV ns) hl hnews (by omega) (by omega) (by rw [hby]; exact growslice_fits (by omega) (by omega))
      have hge := grownCap_ge w (bs.length + ns.length) cap e
      have hcm2 : grownCap w (bs.length + ns.length) cap e ≤ maxLen := grownCap_le_maxLen w (bs.length + ns.length) cap e (by simp only [maxLen]; omega)
      refine ⟨_, _, hr, .inr ⟨w.heap.size, _, _, (0, 0), by simp, hbase, heap_alloc_new w.drew _, fun j _ h => by simp at h, by simpa using hge, hcm2, ?_, ?_⟩, ⟨rfl, rfl, rfl, by simp, fun k hk _ => Below.heap_alloc w.drew _ k hk⟩, .inr fun k hk => by simp [Value.ownBlock] at hk; omega⟩
      · simp only [Array.size_append, List.size_toArray, size_zeroCells, hz1, hbl, hnl]
        omega
      · simp only [Array.toList_append, List.append_assoc]
        rw [bytesV_append, ← List.append_assoc]
        have : (bytesV bs ++ bytesV ns).length = (bs ++ ns).length := by simp [bytesV_length]
        rw [← this]
        exact List.take_left
theorem wpList_append_sl (hgd : o.guard = none) (sl x : Operand) (t : TypeId) (ho : o.op = .call { callee := .builtin .append, args := #[sl, x], argTypes := #[t, t] })
    (base : Nat) (e : TypeId) (i : TypeInfo) (ht : P.underlying t = some (.slice e)) (hi : P.info? e = some i) (hz : i.zero = some (.int .u8 0)) (hsize : i.size = 1) (hby : i.bytes = 1)
    (v : Value) (bs : List UInt8) (hs : a.eval sl = v) (hown : OB w base e v bs) (ad : Addr) (c : Nat) (ns : List UInt8) (hx : a.eval x = .slice (some ad) ns.length c) (hnews : ∀ j u, (bytesV ns)[j]? = some u → w.cell? (ad.add j) = some u) (hbytes : bs.length + ns.length ≤ 140737488355328) (hbase : base ≤ w.heap.size)
    (h : ∀ v' w', OB w' base e v' (bs ++ ns) → w.grownBy w' v.ownBlock → (v'.ownBlock = v.ownBlock ∨ ∀ k, v'.ownBlock = some k → w.heap.size ≤ k) → wpList P ops Q rest (a.put o.dst v') w') : wpList P ops Q (o :: rest) a w := by
  refine wpList_plain hgd fun K hK => ?_
  obtain ⟨v', w', hr, h2, h3, h4⟩ := run_append_sl (P := P) w base t o.type e i ht hi hz hsize hby v bs hown ad c ns hnews hbytes hbase
  unfold Oper.wp execOp
  simp only [ho, resolve, invoke, builtin, Sem.run_bind, Sem.run_pure, Result.andThen_ok, List.map_toArray, List.map_cons, List.map_nil, hs, hx, hr]
  exact hK _ _ (h v' w' h2 h3 h4)
/-- string(v). -/
theorem run_string {src dst e : TypeId} {base : Nat} {v : Value} {bs : List UInt8} {W : World} (hs : P.underlying src = some (.slice e)) (he : P.underlying e = some (.int .u8)) (hd : P.underlying dst = some .string) (h : OB W base e v bs) :
    (convert src dst v).run P W = .ok (.string ⟨bs.toArray⟩) W := by
  rcases h with ⟨rfl, rfl⟩ | ⟨g, cap, cur, fz, rfl, hbg, hg, hfz, hnc, hcm, hcs', htake⟩
  · exact run_convert_bytes_nil W src e hs he 0 0 dst hd
  · have h2 := run_convert_bytes_arg W src e hs he g 0 bs.length cap (bs.map fun b => (b.toNat : Int)) (by simp) (fun i hi => ?_) dst hd
    · rw [h2]
      congr 2
      unfold strOfNums
      have : (bs.map fun b => (b.toNat : Int)).map (fun n => UInt8.ofNat n.toNat) = bs := by
        rw [List.map_map]
        exact (List.map_congr_left fun b _ => by simp).trans (List.map_id _)
      rw [this]
    · have hc := OB.cells (v := .slice (some ⟨g, 0, none⟩) bs.length cap) (.inr ⟨g, cap, cur, fz, rfl, hbg, hg, hfz, hnc, hcm, hcs', htake⟩) rfl i (.int .u8 ((bs.map fun b => (b.toNat : Int)).getD i 0)) (by simp [bytesV, List.getD_eq_getElem?_getD, List.getElem?_eq_getElem hi])
      rw [add_lit0] at hc
      rw [Nat.zero_add]
      exact hc
end
end Go.Proofs.YthclgijnfopikaaGreatDoor
