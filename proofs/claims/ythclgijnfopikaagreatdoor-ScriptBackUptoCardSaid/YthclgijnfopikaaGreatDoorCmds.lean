/- Lists of commands in memory. -/
import Derived.Test.YthclgijnfopikaaGreatDoorRdr
import Derived.Great.BuildSlice
namespace Go.Proofs.YthclgijnfopikaaGreatDoor
open Go.RowKit

/-- The slice v, whose row lies in a block that is ok, holds the commands ms; what they lead to is ok and does not lie in its row. -/
def Cmds (W : World) (ok : Nat → Prop) (v : Value) (ms : List Cmd) : Prop :=
  ∃ css : List (Array Value), css.length = ms.length ∧ W.ownsRow 0 28 12 v ms.length (css.flatMap (·.toList)) ∧ (∀ g, v.ownBlock = some g → ok g) ∧
    ∀ (j : Nat) (cs : Array Value) (m : Cmd), css[j]? = some cs → ms[j]? = some m → KV W (fun g => ok g ∧ v.ownBlock ≠ some g) cs m
theorem Cmds.nil (W : World) (ok : Nat → Prop) : Cmds W ok (.slice none 0 0) [] := ⟨[], rfl, World.ownsRow_nil _ _ _ _, fun g h => by simp [Value.ownBlock] at h, fun j cs m h => by simp at h⟩
theorem ownsRow_block {W : World} {e : TypeId} {base size n : Nat} {v : Value} {xs : List Value} (h : W.ownsRow base e size v n xs) {g : Nat} (hg : v.ownBlock = some g) : ∃ c f, W.heap[g]? = some (.cells c e f) := by
  obtain ⟨o1, o2⟩ := h
  rcases o2 with ⟨rfl, _⟩ | ⟨g', cap, cur, rfl, hb, hg', rest⟩
  · simp [Value.ownBlock] at hg
  · simp [Value.ownBlock] at hg; subst hg; exact ⟨_, _, hg'⟩
theorem ownsRow_same {W W1 : World} {e : TypeId} {base size n : Nat} {v : Value} {xs : List Value} (h : W.ownsRow base e size v n xs) (hk : ∀ g, v.ownBlock = some g → W1.heap[g]? = W.heap[g]?) : W1.ownsRow base e size v n xs := by
  obtain ⟨o1, o2⟩ := h
  refine ⟨o1, ?_⟩
  rcases o2 with o2 | ⟨g, cap, cur, hv, hb, hg, rest⟩
  · exact .inl o2
  · exact .inr ⟨g, cap, cur, hv, hb, (hk g (by rw [hv]; rfl)).trans hg, rest⟩
theorem Cmds.kept {W W1 : World} {ok ok1 : Nat → Prop} {v : Value} {ms : List Cmd} (h : Cmds W ok v ms) (hk : ∀ g c t f, ok g → W.heap[g]? = some (.cells c t f) → W1.heap[g]? = W.heap[g]? ∧ ok1 g) : Cmds W1 ok1 v ms := by
  obtain ⟨css, hl, ho, hok, hkv⟩ := h
  have hb : ∀ g, v.ownBlock = some g → W1.heap[g]? = W.heap[g]? ∧ ok1 g := fun g hg => by
    obtain ⟨c, f, e⟩ := ownsRow_block ho hg
    exact hk g _ _ _ (hok g hg) e
  exact ⟨css, hl, ownsRow_same ho fun g hg => (hb g hg).1, fun g hg => (hb g hg).2, fun j cs m h1 h2 => (hkv j cs m h1 h2).kept fun g c t f ho e => ⟨(hk g c t f ho.1 e).1, (hk g c t f ho.1 e).2, ho.2⟩⟩
theorem Cmds.lt {W : World} {ok : Nat → Prop} {v : Value} {ms : List Cmd} (h : Cmds W ok v ms) : ∀ g, v.ownBlock = some g → ok g ∧ g < W.heap.size := by
  obtain ⟨css, hl, ho, hok, hkv⟩ := h
  exact fun g hg => ⟨hok g hg, (ho.lt g hg).2⟩
theorem Cmds.len {W : World} {ok : Nat → Prop} {v : Value} {ms : List Cmd} (h : Cmds W ok v ms) : ∃ A c, v = .slice A ms.length c := by
  obtain ⟨css, hl, ⟨o1, o2⟩, hkv⟩ := h
  rcases o2 with ⟨rfl, o2⟩ | ⟨g, cap, cur, rfl, _⟩
  · exact ⟨none, 0, by rw [o2]⟩
  · exact ⟨_, _, rfl⟩
theorem infoCmd3 : (Tryz.prog.info? 28).map (fun i => (i.zero.map (·.cells.size), i.size, decide (i.bytes ≤ 1000))) = some (some 12, 12, true) := by kernel_rfl
theorem wpList_append_cmd {ops : Array Oper} {rest : List Oper} {o : Oper} {a : Act} {w : World} {Q : Exit → Act → World → Prop} (hgd : o.guard = none) (s x : Operand) (t : TypeId)
    (ho : o.op = .call { callee := .builtin .append, args := #[s, x], argTypes := #[t, t] }) (ok : Nat → Prop) (ht : Tryz.prog.underlying t = some (.slice 28))
    (v : Value) (ms : List Cmd) (hs : a.eval s = v) (h : Cmds w ok v ms) (ad : Addr) (c : Nat) (cs : Array Value) (m : Cmd) (hx : a.eval x = .slice (some ad) 1 c)
    (hcells : ∀ j u, cs.toList[j]? = some u → w.cell? (ad.add j) = some u) (hkv : KV w (fun g => ok g ∧ v.ownBlock ≠ some g) cs m) (hlen : ms.length ≤ 1073741824) (hbase : ok w.heap.size)
    (hK : ∀ v' w', Cmds w' ok v' (ms ++ [m]) → w.grownBy w' v.ownBlock → (v'.ownBlock = v.ownBlock ∨ v'.ownBlock = some w.heap.size) → wpList Tryz.prog ops Q rest (a.put o.dst v') w') :
    wpList Tryz.prog ops Q (o :: rest) a w := by
  obtain ⟨css, hl, hown, hok, hk⟩ := h
  obtain ⟨i, hi, hzz⟩ := Option.map_eq_some_iff.1 infoCmd3
  simp only [Prod.mk.injEq, Option.map_eq_some_iff, decide_eq_true_eq] at hzz
  obtain ⟨⟨z, hz, hzc⟩, hsize, hby⟩ := hzz
  have h12 := kv_size hkv
  have h1 := kv_one hkv
  refine wpList_append_own_at w hgd s x t ho 0 28 i z 12 i.bytes ht hi hz hsize rfl hzc (by omega) v ms.length _ hs hown ad 1 c cs.toList hx (by simp [h12]) hcells
    (fun u hu => (Array.all_eq_true_iff_forall_mem.1 h1) u (by simpa using hu)) (by simp only [maxLen]; omega) ?_ (Nat.zero_le _) ?_
  · exact Nat.le_trans (Nat.mul_le_mul_left _ hby) (by omega)
  · intro v' w' r1 r2 _ r4
    refine hK v' w' ⟨css ++ [cs], by simp [hl], by rw [List.flatMap_append]; simpa using r1, fun g hg => by rcases r4 with r4 | r4; (· exact hok g (by rw [← r4]; exact hg)); (· rw [r4] at hg; injection hg with hg; rw [← hg]; exact hbase), ?_⟩ r2 r4
    have hne : ∀ g c t f, (ok g ∧ v.ownBlock ≠ some g) → w.heap[g]? = some (.cells c t f) → w'.heap[g]? = w.heap[g]? ∧ (ok g ∧ v'.ownBlock ≠ some g) := fun g c t f hg e =>
      ⟨r2.block g (bk_lt e) (fun e => hg.2 e.symm), hg.1, fun e2 => by
        rcases r4 with r4 | r4
        · exact hg.2 (by rw [← r4]; exact e2)
        · rw [r4] at e2; injection e2 with e2; have := bk_lt e; omega⟩
    intro j cs' m' hc' hm'
    by_cases hj : j < css.length
    · rw [List.getElem?_append_left hj] at hc'
      rw [List.getElem?_append_left (by omega)] at hm'
      exact (hk j cs' m' hc' hm').kept hne
    · have hj2 : j = css.length := by
        have := (List.getElem?_eq_some_iff.1 hc').1
        simp at this; omega
      subst hj2
      rw [List.getElem?_append_right (Nat.le_refl _)] at hc'
      rw [hl, List.getElem?_append_right (Nat.le_refl _)] at hm'
      simp at hc' hm'
      subst hc' hm'
      exact hkv.kept hne
theorem fill_cmd {cs cells : Array Value} (h : cs.size = 12) (hc : cells.size = 12) : Instr.fill (fun i => some (i * 12, 12)) cells [(0, .agg cs)] = some cs := by
  have := Great.fill_whole (s := 12) (by omega) [.agg cs] cells (by simp [Value.cells, h]) (by simp [hc])
  simpa [Value.cells] using this
theorem wpList_build_cmd {ops : Array Oper} {rest : List Oper} {o : Oper} {a : Act} {w : World} {Q : Exit → Act → World → Prop} (hg : o.guard = none) (t : TypeId) (x : Operand) (ho : o.op = .buildSlice t 1 #[(0, x)])
    (hu : Tryz.prog.underlying t = some (.slice 28)) (cs : Array Value) (hx : a.eval x = .agg cs) (h12 : cs.size = 12)
    (h : ∀ W, W = w.alloc (.cells cs 28) → wpList Tryz.prog ops Q rest (a.put o.dst (.slice (some ⟨w.heap.size, 0, none⟩) 1 1)) W) : wpList Tryz.prog ops Q (o :: rest) a w := by
  obtain ⟨i, hi, hzz⟩ := Option.map_eq_some_iff.1 infoCmd3
  simp only [Prod.mk.injEq, Option.map_eq_some_iff, decide_eq_true_eq] at hzz
  obtain ⟨⟨z, hz, hzc⟩, hsize, hby⟩ := hzz
  refine wpList_buildSlice hg t _ 1 _ ho cs i z hu hi hz (by rw [hsize]; omega) (by rw [hsize]; omega) ?_ (h _ rfl)
  rw [hsize]
  simp only [List.map_toArray, List.map_cons, List.map_nil, hx]
  exact fill_cmd h12 (by simp)
end Go.Proofs.YthclgijnfopikaaGreatDoor
