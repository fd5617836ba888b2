/- append of a slice that reads as xs onto an empty slice. -/
import Derived.Test.YthclgijnfopikaaGreatDoorCmdAt
import Derived.Maps.AppendAt
namespace Go.Proofs.YthclgijnfopikaaGreatDoor
open Go.RowKit

theorem infoD : (Tryz.prog.info? 115).map (fun i => (i.zero.map (·.cells.size), i.size, i.bytes)) = some (some 1, 1, 2) := by kernel_rfl
theorem infoL : (Tryz.prog.info? 3).map (fun i => (i.zero.map (·.cells.size), i.size, i.bytes)) = some (some 1, 1, 8) := by kernel_rfl
theorem infoK : (Tryz.prog.info? 9).map (fun i => (i.zero.map (·.cells.size), i.size, i.bytes)) = some (some 1, 1, 16) := by kernel_rfl
/-- What a row of one-cell elements reads as. -/
theorem rd_of_owns {α : Type} {W : World} {B : Nat} {e : TypeId} {enc : α → Value} {v : Value} {xs : List α} (h : W.ownsRow B e 1 v xs.length (xs.map enc)) : Rd W (B ≤ ·) enc v xs := by
  obtain ⟨o1, o2⟩ := h
  rcases o2 with ⟨rfl, o2⟩ | ⟨g, cap, cur, rfl, hb, hg, h1, h2, h3, h4⟩
  · exact ⟨none, 0, by rw [o2], fun _ => rfl, fun h => absurd h (by omega)⟩
  · refine ⟨_, cap, rfl, (by intro h; cases h), fun _ => ⟨g, 0, rfl, hb, fun j x hx => ?_⟩⟩
    rw [bk_cell hg]
    have hj : j < xs.length := (List.getElem?_eq_some_iff.1 hx).1
    have : (cur.toList.take (xs.length * 1))[j]? = some (enc x) := by rw [h4]; simp [hx]
    rw [List.getElem?_take_of_lt (by omega)] at this
    simpa using this
section
variable {P : Program} {ops : Array Oper}
theorem run_append_rd {α : Type} {enc : α → Value} (henc : ∀ x, (enc x).oneCell' = true) {ok : Nat → Prop} (t ty e : TypeId) {bytes : Nat} (ht : P.underlying t = some (.slice e)) (hi : (P.info? e).map (fun i => (i.zero.map (·.cells.size), i.size, i.bytes)) = some (some 1, 1, bytes))
    (w : World) (B : Nat) (hB : B ≤ w.heap.size) (v0 : Value) (h0 : w.ownsRow B e 1 v0 0 []) (v : Value) (xs : List α) (h : Rd w ok enc v xs) (hb : xs.length * bytes ≤ 140737488355328) (hm : xs.length ≤ maxLen) :
    ∃ v' w', (Builtin.append_ #[t, t] ty #[v0, v]).run P w = .ok v' w' ∧ Rd w' (B ≤ ·) enc v' xs ∧ w.grownBy w' v0.ownBlock := by
  obtain ⟨i, hie, hzz⟩ := Option.map_eq_some_iff.1 hi
  simp only [Prod.mk.injEq, Option.map_eq_some_iff] at hzz
  obtain ⟨⟨z, hz, hzc⟩, hsize, hby⟩ := hzz
  obtain ⟨Ad, c, rfl, hnil, hc⟩ := h
  have hone : ∀ u ∈ xs.map enc, u.oneCell' = true := fun u hu => by obtain ⟨x, _, rfl⟩ := List.mem_map.1 hu; exact henc x
  cases Ad with
  | none =>
    have hx : xs.length = 0 := by
      rcases Nat.eq_zero_or_pos xs.length with h | h
      · exact h
      · obtain ⟨b, o, e, _⟩ := hc h; cases e
    have hc0 := hnil rfl
    subst hc0
    have hrun := run_append_owned_none (P := P) w B t ty e i 1 ht hie v0 0 [] h0
    rw [hx]
    have hxs : xs = [] := List.eq_nil_of_length_eq_zero hx
    subst hxs
    exact ⟨v0, w, hrun, rd_of_owns (by simpa using h0), World.grownBy.refl _ _⟩
  | some ad =>
    have hnews : ∀ j u, (xs.map enc)[j]? = some u → w.cell? (ad.add j) = some u := fun j u hu => by
      rw [List.getElem?_map, Option.map_eq_some_iff] at hu
      obtain ⟨x, hx, rfl⟩ := hu
      have hj : j < xs.length := (List.getElem?_eq_some_iff.1 hx).1
      obtain ⟨b, o, e, _, hcell⟩ := hc (by omega)
      injection e with e
      subst e
      have : (⟨b, o, none⟩ : Addr).add j = ⟨b, o + j, none⟩ := by unfold Addr.add; split <;> simp_all
      rw [this]
      exact hcell j x hx
    obtain ⟨v', w', h1, h2, h3, _⟩ := run_append_own_at (P := P) w B t ty e i z 1 bytes ht hie hz hsize hby hzc (by omega) v0 0 [] h0 ad xs.length c (xs.map enc) (by simp) hnews hone (by omega) (by rw [Nat.zero_add]; exact hb) hB
    exact ⟨v', w', h1, rd_of_owns (by simpa using h2), h3⟩
theorem wpList_append_rd {rest : List Oper} {o : Oper} {a : Act} {w : World} {Q : Exit → Act → World → Prop} (hgd : o.guard = none) (s x : Operand) (t : TypeId) (ho : o.op = .call { callee := .builtin .append, args := #[s, x], argTypes := #[t, t] })
    {α : Type} {enc : α → Value} (henc : ∀ x, (enc x).oneCell' = true) {ok : Nat → Prop} (e : TypeId) {bytes : Nat} (ht : P.underlying t = some (.slice e)) (hi : (P.info? e).map (fun i => (i.zero.map (·.cells.size), i.size, i.bytes)) = some (some 1, 1, bytes))
    (B : Nat) (hB : B ≤ w.heap.size) (v0 : Value) (hs : a.eval s = v0) (h0 : w.ownsRow B e 1 v0 0 []) (v : Value) (hx : a.eval x = v) (xs : List α) (h : Rd w ok enc v xs) (hb : xs.length * bytes ≤ 140737488355328) (hm : xs.length ≤ maxLen)
    (hK : ∀ v' w', Rd w' (B ≤ ·) enc v' xs → w.grownBy w' v0.ownBlock → wpList P ops Q rest (a.put o.dst v') w') : wpList P ops Q (o :: rest) a w := by
  refine wpList_plain hgd fun K hK' => ?_
  obtain ⟨v', w', hr, h2, h3⟩ := run_append_rd (P := P) henc t o.type e ht hi w B hB v0 h0 v xs h hb hm
  unfold Oper.wp execOp
  simp only [ho, resolve, invoke, builtin, Sem.run_bind, Sem.run_pure, Result.andThen_ok, List.map_toArray, List.map_cons, List.map_nil, hs, hx, hr]
  exact hK' _ _ (hK v' w' h2 h3)
end
end Go.Proofs.YthclgijnfopikaaGreatDoor
