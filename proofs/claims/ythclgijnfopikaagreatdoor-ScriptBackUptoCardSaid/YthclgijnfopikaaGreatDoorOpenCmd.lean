/- A command that came in: its cells, and what they lead to; arguments read again behind a call that leaves what was there. -/
import Derived.Test.YthclgijnfopikaaGreatDoorLaid
import Derived.Test.YthclgijnfopikaaGreatDoorCmdAt
import Derived.ReadAgain
import Derived.Deep.Fields
import Derived.SliceStrings
import Derived.ChangeSlices
import Derived.SizedLaws
namespace Go.Proofs.YthclgijnfopikaaGreatDoor
open Go.ChangeShapes Go.WideShapes Go.ChangeAt Go.RowKit Go.Deep

theorem kids : Kids Tryz.prog (· < Tryz.prog.types.size) := kids_rows (by kernel_rfl) (by kernel_rfl)
theorem full : ∀ t e, t < Tryz.prog.types.size → Tryz.prog.underlying t = some (.slice e) → 0 < Tryz.prog.cellsOf e := slices_full_of Tryz.prog (by kernel_rfl)
section
variable {H : Type} {enc : TypeId × Value → H} {P : Program} {w : World} {base : Nat} {spare : Nat → Bool} {held : Bool}
theorem trod_later {W W' : World} (hb : Below W.heap.size W W') {t : TypeId} {v : Value} {d : DataW H} {ps : List MemPlace} (h : DataW.Trod enc P W base spare held t v d ps) (hl : ∀ p ∈ ps, p.block < W.heap.size) : DataW.Trod enc P W' base spare held t v d ps := by
  obtain ⟨n, hn⟩ := h
  refine ⟨n, DataW.trod_carry n _ _ _ hn fun p hp => ?_⟩
  have h2 := hl p hp
  cases p with
  | cell b o => exact hb.cell (p := ⟨b, o, none⟩) h2
  | map b => exact hb.block b h2
theorem trodAll_later {W W' : World} (hb : Below W.heap.size W W') : ∀ {ts : List TypeId} {vs : List Value} {ds : List (DataW H)} {ps : List MemPlace}, DataW.TrodAll enc P W base spare held ts vs ds ps → (∀ p ∈ ps, p.block < W.heap.size) → DataW.TrodAll enc P W' base spare held ts vs ds ps
  | [], [], [], _, h, _ => h
  | _ :: _, _ :: _, _ :: _, _, ⟨p, q, h1, h2, e⟩, hl => ⟨p, q, trod_later hb h1 (fun x hx => hl x (by rw [e]; exact List.mem_append_left _ hx)), trodAll_later hb h2 (fun x hx => hl x (by rw [e]; exact List.mem_append_right _ hx)), e⟩
theorem open_agg {r : Reach} {b0 : Nat} {t : TypeId} {fs : Array Field} {v : Value} {d : DataW H} {p : List MemPlace} (hs : P.underlying t = some (.struct fs)) (hone : oneCellFields P fs = true) (hC : P.cellsOf t = fs.size)
    (hv : Value.okWide P w r b0 t v) (h : DataW.Trod enc P w base spare held t v d p) :
    ∃ (cs : Array Value) (ys : List (DataW H × List MemPlace)) (n : Nat), v = .agg cs ∧ cs.size = fs.size ∧ ys.length = fs.size ∧ d = .agg (ys.map (·.1)) ∧ p = ys.flatMap (·.2) ∧
      ∀ (j : Nat) (f : Field), fs[j]? = some f → ∃ c y, cs[j]? = some c ∧ ys[j]? = some y ∧ DataW.trod enc P w base spare held n f.type [c] = some y := by
  obtain ⟨cs, rfl, hsz⟩ := okWide_struct hs hv
  obtain ⟨fuel, hf⟩ := h
  obtain ⟨xs, n, _, hx, _, hlen, hg⟩ := DataW.trod_struct hs hf
  simp only [Prod.mk.injEq] at hx
  refine ⟨cs, xs, n, rfl, hsz.trans hC, hlen, hx.1, hx.2, fun j f hj => ?_⟩
  obtain ⟨o, k⟩ := hone_of hone j f hj
  have hjl : j < fs.size := (Array.getElem?_eq_some_iff.1 hj).1
  have hjc : j < cs.size := by omega
  have h1 := hg j f hj
  rw [o, k] at h1
  have hcs : (Value.agg cs).cells.toList = cs.toList := rfl
  have hone' : (((Value.agg cs).cells.toList).drop j).take 1 = [cs[j]] := by
    rw [hcs, List.drop_eq_getElem_cons (by simpa using hjc)]
    simp
  rw [hone'] at h1
  have hys : xs[j]? = some (xs[j]'(by omega)) := List.getElem?_eq_getElem (by omega)
  exact ⟨cs[j], _, by simp [hjc], hys, h1.trans hys⟩
end

/-- What a command that came in is. -/
structure CmdOk (m : Cmd) : Prop where
  op : m.op < 256
  A : inI64 m.A
  B : inI64 m.B
  C : inI64 m.C
  N : inI64 m.N
  M : inI64 m.M
  S : m.S.length ≤ reachBytes
  T : m.T.length ≤ reachBytes
  data : m.data.length * 2 ≤ reachBytes
  list : m.list.length * 8 ≤ reachBytes
  names : m.names.length * 16 ≤ reachBytes
  units : ∀ x ∈ m.data, x < 65536
  ints : ∀ x ∈ m.list, inI64 x
  texts : ∀ x ∈ m.names, x.length ≤ reachBytes

/-- What a command that came in is where its bulk is small. -/
structure CmdSmall (m : Cmd) : Prop where
  S : m.S.length ≤ 1048576
  T : m.T.length ≤ 1048576
  data : m.data.length ≤ 1048576
  list : m.list.length ≤ 1048576
  names : m.names.length ≤ 1048576
  texts : ∀ x ∈ m.names, x.length ≤ 1048576
  total : (m.names.map List.length).sum ≤ 1048576
theorem sum_mem {l : List (List UInt8)} {x : List UInt8} (h : x ∈ l) : x.length ≤ (l.map List.length).sum := by
  induction l with
  | nil => cases h
  | cons a r ih =>
    simp only [List.map_cons, List.sum_cons]
    rcases List.mem_cons.1 h with rfl | h
    · omega
    · have := ih h; omega
theorem strs_at {W : World} {a : Addr} {ss : List ByteArray} (h : ∀ i, i < ss.length → W.cell? (a.add i) = some (.string (ss.getD i ByteArray.empty))) (hp : 0 < ss.length) :
    ∃ b off, a = ⟨b, off, none⟩ ∧ ∀ j, j < ss.length → W.cell? ⟨b, off + j, none⟩ = some (.string (ss.getD j ByteArray.empty)) := by
  obtain ⟨b, off, spot⟩ := a
  have hspot : spot = none := by simpa [Addr.add] using World.cell?_spot (h 0 hp)
  subst hspot
  exact ⟨b, off, rfl, fun j hj => by rw [← Go.WideShapes.add_plain]; exact h j hj⟩
theorem i64_of_wf {n : Int} (h : (Lit.int .i64 n).wf = true) : inI64 n := bounds_i64 h

theorem bulk_mem {H : Type} {x : DataW H} : ∀ {l : List (DataW H)}, x ∈ l → Rows.uptoBulk x ≤ Rows.uptoBulkAll l
  | y :: r, h => by
    simp only [Rows.uptoBulkAll]
    rcases List.mem_cons.1 h with rfl | h
    · omega
    · have := bulk_mem h; omega
theorem bulk_lits {H : Type} (k : IntKind) : ∀ zs : List Int, Rows.uptoBulkAll (lits k zs : List (DataW H)) = zs.length
  | [] => by simp [lits, Rows.uptoBulkAll]
  | z :: r => by
    have := bulk_lits (H := H) k r
    simp only [lits, List.map_cons, Rows.uptoBulkAll, Rows.uptoBulk, List.length_cons] at this ⊢
    omega
theorem bulk_strs {H : Type} : ∀ ss : List ByteArray, Rows.uptoBulkAll (strs ss : List (DataW H)) = ((ss.map fun s => s.data.toList).map List.length).sum + ss.length
  | [] => by simp [strs, Rows.uptoBulkAll]
  | s :: r => by
    have := bulk_strs (H := H) r
    simp only [strs, List.map_cons, Rows.uptoBulkAll, Rows.uptoBulk, List.length_cons, List.sum_cons] at this ⊢
    omega
section
variable {H : Type} {enc : TypeId × Value → H} {W : World} {base : Nat} {held : Bool} {n : Nat}
theorem rd_ints {t e : TypeId} {k : IntKind} {v : Value} {y : DataW H × List MemPlace} (ht : Tryz.prog.underlying t = some (.slice e)) (he : Tryz.prog.underlying e = some (.int k)) (hc : Tryz.prog.cellsOf e = 1)
    (h : DataW.trod enc Tryz.prog W base (fun _ => true) held n t [v] = some y) {by_ : Nat} (hby : Tryz.prog.bytesOf e = by_) (hw : ∀ n ∈ y.1.weights Tryz.prog t, n ≤ reachBytes) :
    ∃ zs : List Int, Rd W (· < W.heap.size) (fun z => .int k z) v zs ∧ (∀ z ∈ zs, (Lit.int k z).wf = true) ∧ zs.length * by_ ≤ reachBytes ∧ zs.length ≤ Rows.uptoBulk y.1 := by
  rcases open_ints ht he hc h with ⟨hcs, _⟩ | ⟨a, len, cap, zs, hcs, _, hl, hm, hlen, hx, hcell, hwf⟩
  · injection hcs with hcs
    subst hcs
    exact ⟨[], Rd.nil _ _ _, fun z hz => (by cases hz), by simp, by simp⟩
  · injection hcs with hcs
    subst hcs
    simp only [if_true] at hlen
    have hlt : (zs.take len).length = len := by simp; omega
    refine ⟨zs.take len, ⟨some a, cap, by rw [hlt], (by intro h; cases h), fun h0 => ?_⟩, fun z hz => hwf z (List.mem_of_mem_take hz), ?_, ?_⟩
    · rw [hlt] at h0
      obtain ⟨b, off, rfl, hc'⟩ := ints_at hcell (by omega)
      refine ⟨b, off, rfl, World.block_lt_of_cell? W _ (hc' 0 (by omega)), fun j x hx => ?_⟩
      have hj : j < (zs.take len).length := (List.getElem?_eq_some_iff.1 hx).1
      rw [hlt] at hj
      rw [hc' j (by omega)]
      rw [List.getElem?_take_of_lt hj] at hx
      rw [List.getD_eq_getElem?_getD, hx]; rfl
    · subst hx hby
      have := hw ((lits k (zs.take len) : List (DataW H)).length + (lits k (zs.drop len) : List (DataW H)).length |> (· * Tryz.prog.bytesOf e)) (by simp [DataW.weights, ht])
      refine Nat.le_trans (Nat.mul_le_mul_right _ ?_) this
      simp [lits]
    · subst hx
      simp only [Rows.uptoBulk]
      rw [bulk_lits]
      omega
theorem rd_strs {t e : TypeId} {v : Value} {y : DataW H × List MemPlace} (ht : Tryz.prog.underlying t = some (.slice e)) (he : Tryz.prog.underlying e = some .string) (hc : Tryz.prog.cellsOf e = 1)
    (h : DataW.trod enc Tryz.prog W base (fun _ => true) held n t [v] = some y) {by_ : Nat} (hby : Tryz.prog.bytesOf e = by_) (hw : ∀ n ∈ y.1.weights Tryz.prog t, n ≤ reachBytes) :
    ∃ zs : List (List UInt8), Rd W (· < W.heap.size) encS v zs ∧ (∀ z ∈ zs, z.length ≤ reachBytes) ∧ zs.length * by_ ≤ reachBytes ∧ (zs.map List.length).sum + zs.length ≤ Rows.uptoBulk y.1 := by
  rcases open_strings ht he hc h with ⟨hcs, _⟩ | ⟨a, len, cap, zs, hcs, _, hl, hm, hlen, hx, hcell, hwf⟩
  · injection hcs with hcs
    subst hcs
    exact ⟨[], Rd.nil _ _ _, fun z hz => (by cases hz), by simp, by simp⟩
  · injection hcs with hcs
    subst hcs
    simp only [if_true] at hlen
    have hlt : ((zs.take len).map fun s => s.data.toList).length = len := by simp; omega
    refine ⟨(zs.take len).map fun s => s.data.toList, ⟨some a, cap, by rw [hlt], (by intro h; cases h), fun h0 => ?_⟩, fun z hz => ?_, ?_, ?_⟩
    · rw [hlt] at h0
      obtain ⟨b, off, rfl, hc'⟩ := strs_at hcell (by omega)
      refine ⟨b, off, rfl, World.block_lt_of_cell? W _ (hc' 0 (by omega)), fun j x hx => ?_⟩
      have hj : j < ((zs.take len).map fun s => s.data.toList).length := (List.getElem?_eq_some_iff.1 hx).1
      rw [hlt] at hj
      rw [hc' j (by omega)]
      rw [List.getElem?_map, List.getElem?_take_of_lt hj, Option.map_eq_some_iff] at hx
      obtain ⟨s, hs, rfl⟩ := hx
      rw [List.getD_eq_getElem?_getD, hs]; rfl
    · obtain ⟨s, hs, rfl⟩ := List.mem_map.1 hz
      subst hx
      refine hw _ ?_
      simp only [DataW.weights, ht, List.mem_cons, List.mem_append]
      right; left
      have : ∀ (l : List ByteArray), s ∈ l → s.data.toList.length ∈ DataW.weightsAll Tryz.prog e (strs l : List (DataW H)) := by
        intro l
        induction l with
        | nil => intro h; cases h
        | cons a r ih =>
          intro h
          simp only [strs, List.map_cons, DataW.weightsAll, List.mem_append]
          rcases List.mem_cons.1 h with rfl | h
          · left; simp [DataW.weights]
          · right; exact ih h
      exact this _ hs
    · subst hx hby
      have := hw ((strs (zs.take len) : List (DataW H)).length + (strs (zs.drop len) : List (DataW H)).length |> (· * Tryz.prog.bytesOf e)) (by simp [DataW.weights, ht])
      refine Nat.le_trans (Nat.mul_le_mul_right _ ?_) this
      simp [strs]
    · subst hx
      simp only [Rows.uptoBulk]
      rw [bulk_strs, List.length_map]
      omega
theorem rd_enc {α β : Type} {ok : Nat → Prop} {enc : α → Value} {enc' : β → Value} (g : α → β) {v : Value} {xs : List α} (h : Rd W ok enc v xs) (he : ∀ x ∈ xs, enc x = enc' (g x)) : Rd W ok enc' v (xs.map g) := by
  obtain ⟨A, c, rfl, hn, hc⟩ := h
  refine ⟨A, c, by simp, hn, fun h0 => ?_⟩
  obtain ⟨b, o, rfl, hb, hx⟩ := hc (by simpa using h0)
  refine ⟨b, o, rfl, hb, fun j x hj => ?_⟩
  rw [List.getElem?_map, Option.map_eq_some_iff] at hj
  obtain ⟨z, hz, rfl⟩ := hj
  rw [hx j z hz, he z (List.mem_of_getElem? hz)]
end

theorem cmdOne : Tryz.prog.cellsOf 28 = 12 := by kernel_rfl
theorem bytesU : Tryz.prog.bytesOf 115 = 2 := by kernel_rfl
theorem bytesI : Tryz.prog.bytesOf 3 = 8 := by kernel_rfl
theorem bytesS : Tryz.prog.bytesOf 9 = 16 := by kernel_rfl
theorem cellsU : Tryz.prog.cellsOf 115 = 1 := by kernel_rfl
theorem cellsI : Tryz.prog.cellsOf 3 = 1 := by kernel_rfl
theorem cellsS : Tryz.prog.cellsOf 9 = 1 := by kernel_rfl
theorem weights_agg {H : Type} {t : TypeId} {fs : Array Field} (hs : Tryz.prog.underlying t = some (.struct fs)) {ys : List (DataW H × List MemPlace)} {j : Nat} {f : Field} {y : DataW H × List MemPlace} (hf : fs[j]? = some f) (hy : ys[j]? = some y)
    (hw : ∀ n ∈ (DataW.agg (ys.map (·.1)) : DataW H).weights Tryz.prog t, n ≤ reachBytes) : ∀ n ∈ y.1.weights Tryz.prog f.type, n ≤ reachBytes := by
  intro n hn
  refine hw n ?_
  simp only [DataW.weights, hs]
  exact DataW.weights_mem_each (j := j) (t := f.type) (d := y.1) (by simp [hf]) (by simp [hy]) n hn
set_option maxRecDepth 100000 in
theorem open_cmd {H : Type} {enc : TypeId × Value → H} {W : World} {base base' : Nat} {r : Reach} {v : Value} {d : DataW H} {p : List MemPlace} (hv : Value.okWide Tryz.prog W r base' 28 v)
    (h : DataW.Trod enc Tryz.prog W base (fun _ => true) true 28 v d p) (hw : ∀ n ∈ d.weights Tryz.prog 28, n ≤ reachBytes) :
    ∃ cs m, v = .agg cs ∧ KV W (· < W.heap.size) cs m ∧ CmdOk m ∧ (Rows.uptoBulk d ≤ 1048576 → CmdSmall m) := by
  obtain ⟨cs, ys, n, rfl, hcs, hys, rfl, rfl, hf⟩ := open_agg Tryz.underlying28 (by kernel_rfl) cmdOne hv h
  have wt := fun j f y hfj hyj => weights_agg (H := H) Tryz.underlying28 (ys := ys) (j := j) (f := f) (y := y) hfj hyj hw
  obtain ⟨c0, y0, e0, z0, t0⟩ := hf 0 _ rfl
  obtain ⟨c1, y1, e1, z1, t1⟩ := hf 1 _ rfl
  obtain ⟨c2, y2, e2, z2, t2⟩ := hf 2 _ rfl
  obtain ⟨c3, y3, e3, z3, t3⟩ := hf 3 _ rfl
  obtain ⟨c4, y4, e4, z4, t4⟩ := hf 4 _ rfl
  obtain ⟨c5, y5, e5, z5, t5⟩ := hf 5 _ rfl
  obtain ⟨c6, y6, e6, z6, t6⟩ := hf 6 _ rfl
  obtain ⟨c7, y7, e7, z7, t7⟩ := hf 7 _ rfl
  obtain ⟨c8, y8, e8, z8, t8⟩ := hf 8 _ rfl
  obtain ⟨c9, y9, e9, z9, t9⟩ := hf 9 _ rfl
  obtain ⟨c10, y10, e10, z10, t10⟩ := hf 10 _ rfl
  obtain ⟨c11, y11, e11, z11, t11⟩ := hf 11 _ rfl
  have w6 := wt 6 _ _ rfl z6
  have w7 := wt 7 _ _ rfl z7
  have w8 := wt 8 _ _ rfl z8
  have w9 := wt 9 _ _ rfl z9
  have w10 := wt 10 _ _ rfl z10
  obtain ⟨n0, h0, rfl, f0⟩ := DataW.trod_int Tryz.underlying22 t0
  obtain ⟨n1, h1, rfl, f1⟩ := DataW.trod_int Tryz.underlying3 t1
  obtain ⟨n2, h2, rfl, f2⟩ := DataW.trod_int Tryz.underlying3 t2
  obtain ⟨n3, h3, rfl, f3⟩ := DataW.trod_int Tryz.underlying3 t3
  obtain ⟨n4, h4, rfl, f4⟩ := DataW.trod_int Tryz.underlying3 t4
  obtain ⟨n5, h5, rfl, f5⟩ := DataW.trod_int Tryz.underlying3 t5
  obtain ⟨s6, h6, rfl, f6⟩ := DataW.trod_string Tryz.underlying9 t6
  obtain ⟨s7, h7, rfl, f7⟩ := DataW.trod_string Tryz.underlying9 t7
  obtain ⟨l8, r8, q8, k8, g8⟩ := rd_ints Tryz.underlying24 Tryz.underlying115 cellsU t8 bytesU w8
  obtain ⟨l9, r9, q9, k9, g9⟩ := rd_ints Tryz.underlying25 Tryz.underlying3 cellsI t9 bytesI w9
  obtain ⟨l10, r10, q10, k10, g10⟩ := rd_strs Tryz.underlying26 Tryz.underlying9 cellsS t10 bytesS w10
  obtain ⟨b11, h11, rfl⟩ := DataW.trod_bool Tryz.underlying4 t11
  injection h0 with h0; injection h1 with h1; injection h2 with h2; injection h3 with h3; injection h4 with h4; injection h5 with h5; injection h6 with h6; injection h7 with h7; injection h11 with h11
  subst h0 h1 h2 h3 h4 h5 h6 h7 h11
  have u0 := bounds_u8 f0
  obtain ⟨op, rfl⟩ := Int.eq_ofNat_of_zero_le u0.1
  have hu8 : ∀ z ∈ l8, 0 ≤ z ∧ z ≤ 65535 := fun z hz => bounds_u16 (q8 z hz)
  refine ⟨cs, ⟨op, n1, n2, n3, n4, n5, s6.data.toList, s7.data.toList, l8.map Int.toNat, l9, l10, b11⟩, rfl, ⟨c8, c9, c10, ?_, ?_, r9, r10⟩, ⟨by show op < 256; omega, i64_of_wf f1, i64_of_wf f2, i64_of_wf f3, i64_of_wf f4, i64_of_wf f5, ?_, ?_, ?_, k9, k10, ?_, fun z hz => i64_of_wf (q9 z hz), q10⟩, fun hbulk => ?_⟩
  · obtain ⟨cl⟩ := cs
    have hcl : cl.length = 12 := hcs
    match cl, hcl with
    | [a0, a1, a2, a3, a4, a5, a6, a7, a8, a9, a10, a11], _ =>
      simp only [List.getElem?_toArray, List.getElem?_cons_zero, List.getElem?_cons_succ, Option.some.injEq] at e0 e1 e2 e3 e4 e5 e6 e7 e8 e9 e10 e11
      subst e0 e1 e2 e3 e4 e5 e6 e7 e8 e9 e10 e11
      rfl
  · refine rd_enc Int.toNat r8 fun z hz => ?_
    have := hu8 z hz
    simp only [encU]
    rw [Int.toNat_of_nonneg this.1]
  · exact w6 _ (by simp [DataW.weights])
  · exact w7 _ (by simp [DataW.weights])
  · simpa using k8
  · intro x hx
    obtain ⟨z, hz, rfl⟩ := List.mem_map.1 hx
    have := hu8 z hz
    omega
  · simp only [Rows.uptoBulk] at hbulk
    have b6 := bulk_mem (l := ys.map (·.1)) (List.mem_map.2 ⟨_, List.mem_of_getElem? z6, rfl⟩)
    have b7 := bulk_mem (l := ys.map (·.1)) (List.mem_map.2 ⟨_, List.mem_of_getElem? z7, rfl⟩)
    have b8 := bulk_mem (l := ys.map (·.1)) (List.mem_map.2 ⟨_, List.mem_of_getElem? z8, rfl⟩)
    have b9 := bulk_mem (l := ys.map (·.1)) (List.mem_map.2 ⟨_, List.mem_of_getElem? z9, rfl⟩)
    have b10 := bulk_mem (l := ys.map (·.1)) (List.mem_map.2 ⟨_, List.mem_of_getElem? z10, rfl⟩)
    simp only [Rows.uptoBulk] at b6 b7
    refine ⟨?_, ?_, ?_, ?_, ?_, ?_, ?_⟩
    · show s6.data.toList.length ≤ _; omega
    · show s7.data.toList.length ≤ _; omega
    · show (l8.map Int.toNat).length ≤ _; rw [List.length_map]; omega
    · show l9.length ≤ _; omega
    · show l10.length ≤ _; omega
    · intro x hx
      have := sum_mem hx
      exact Nat.le_trans this (by show (l10.map List.length).sum ≤ _; omega)
    · show (l10.map List.length).sum ≤ _; omega
end Go.Proofs.YthclgijnfopikaaGreatDoor
