/- Rows of one-cell elements that a call owns: append of one element or of some. -/
import Derived.Test.YthclgijnfopikaaGreatDoorAppendRd
namespace Go.Proofs.YthclgijnfopikaaGreatDoor
open Go.RowKit

/-- v owns a row that reads as xs, in a block from B on. -/
def OR {α : Type} (W : World) (B : Nat) (e : TypeId) (enc : α → Value) (v : Value) (xs : List α) : Prop := W.ownsRow B e 1 v xs.length (xs.map enc)
section
variable {α : Type} {W W1 : World} {B : Nat} {e : TypeId} {enc : α → Value} {v : Value} {xs : List α}
theorem OR.nil (W : World) (B : Nat) (e : TypeId) (enc : α → Value) : OR W B e enc (.slice none 0 0) ([] : List α) := World.ownsRow_nil _ _ _ _
theorem OR.rd (h : OR W B e enc v xs) : Rd W (B ≤ ·) enc v xs := rd_of_owns h
theorem OR.below (h : OR W B e enc v xs) (hb : Below W.heap.size W W1) : OR W1 B e enc v xs := World.ownsRow.kept h (below_to_grown hb none) (by cases v.ownBlock <;> simp)
theorem OR.grown {row : Option Nat} (h : OR W B e enc v xs) (hg : W.grownBy W1 row) (hne : v.ownBlock = none ∨ v.ownBlock ≠ row) : OR W1 B e enc v xs := World.ownsRow.kept h hg hne
theorem OR.alloc (h : OR W B e enc v xs) (o : Obj) : OR (W.alloc o) B e enc v xs := World.ownsRow.alloc h o
theorem OR.lt (h : OR W B e enc v xs) : ∀ k, v.ownBlock = some k → B ≤ k ∧ k < W.heap.size := World.ownsRow.lt h
theorem OR.len (h : OR W B e enc v xs) : ∃ A c, v = .slice A xs.length c := by obtain ⟨A, c, hv, _⟩ := h.rd; exact ⟨A, c, hv⟩
theorem OR.drewN (h : OR W B e enc v xs) (n : Nat) : OR (W.drewN n) B e enc v xs := h
theorem OR.lit (W : World) (hB : B ≤ W.heap.size) (hm : xs.length ≤ maxLen) : OR (W.alloc (.cells (xs.map enc).toArray e)) B e enc (.slice (some ⟨W.heap.size, 0, none⟩) xs.length xs.length) xs :=
  ⟨by simp, .inr ⟨W.heap.size, xs.length, (xs.map enc).toArray, rfl, hB, bk_new W _, Nat.le_refl _, hm, by simp, by rw [Nat.mul_one]; exact List.take_of_length_le (by simp)⟩⟩
end
section
variable {P : Program} {ops : Array Oper}
theorem run_append_or {α : Type} {enc : α → Value} (henc : ∀ x, (enc x).oneCell' = true) (t ty e : TypeId) {bytes : Nat} (ht : P.underlying t = some (.slice e)) (hi : (P.info? e).map (fun i => (i.zero.map (·.cells.size), i.size, i.bytes)) = some (some 1, 1, bytes))
    (w : World) (B : Nat) (hB : B ≤ w.heap.size) (v0 : Value) (xs : List α) (h0 : OR w B e enc v0 xs) (ad : Addr) (c : Nat) (ys : List α) (hnews : ∀ (j : Nat) x, ys[j]? = some x → w.cell? (ad.add j) = some (enc x)) (hb : (xs.length + ys.length) * bytes ≤ 140737488355328) (hm : xs.length + ys.length ≤ maxLen) :
    ∃ v' w', (Builtin.append_ #[t, t] ty #[v0, .slice (some ad) ys.length c]).run P w = .ok v' w' ∧ OR w' B e enc v' (xs ++ ys) ∧ w.grownBy w' v0.ownBlock ∧ (v'.ownBlock = v0.ownBlock ∨ v'.ownBlock = some w.heap.size) := by
  obtain ⟨i, hie, hzz⟩ := Option.map_eq_some_iff.1 hi
  simp only [Prod.mk.injEq, Option.map_eq_some_iff] at hzz
  obtain ⟨⟨z, hz, hzc⟩, hsize, hby⟩ := hzz
  have hone : ∀ u ∈ ys.map enc, u.oneCell' = true := fun u hu => by obtain ⟨x, _, rfl⟩ := List.mem_map.1 hu; exact henc x
  have hnews' : ∀ j u, (ys.map enc)[j]? = some u → w.cell? (ad.add j) = some u := fun j u hu => by
    rw [List.getElem?_map, Option.map_eq_some_iff] at hu
    obtain ⟨x, hx, rfl⟩ := hu
    exact hnews j x hx
  obtain ⟨v', w', h1, h2, h3, _, h4⟩ := run_append_own_at (P := P) w B t ty e i z 1 bytes ht hie hz hsize hby hzc (by omega) v0 xs.length (xs.map enc) h0 ad ys.length c (ys.map enc) (by simp) hnews' hone hm hb hB
  refine ⟨v', w', h1, ?_, h3, h4⟩
  unfold OR
  rw [List.map_append, List.length_append]
  exact h2
/-- append(v0, x): x lies in a block of one cell. -/
theorem wpList_append_one {rest : List Oper} {o : Oper} {a : Act} {w : World} {Q : Exit → Act → World → Prop} (hgd : o.guard = none) (s x : Operand) (t : TypeId) (ho : o.op = .call { callee := .builtin .append, args := #[s, x], argTypes := #[t, t] })
    {α : Type} {enc : α → Value} (henc : ∀ x, (enc x).oneCell' = true) (e : TypeId) {bytes : Nat} (ht : P.underlying t = some (.slice e)) (hi : (P.info? e).map (fun i => (i.zero.map (·.cells.size), i.size, i.bytes)) = some (some 1, 1, bytes))
    (B : Nat) (v0 : Value) (hs : a.eval s = v0) (xs : List α) (h0 : OR w B e enc v0 xs) (g c : Nat) (y : α) (hx : a.eval x = .slice (some ⟨g, 0, none⟩) 1 c) (hc : w.cell? ⟨g, 0, none⟩ = some (enc y))
    (hB : B ≤ w.heap.size) (hb : (xs.length + 1) * bytes ≤ 140737488355328) (hm : xs.length + 1 ≤ maxLen)
    (hK : ∀ v' w', OR w' B e enc v' (xs ++ [y]) → w.grownBy w' v0.ownBlock → (v'.ownBlock = v0.ownBlock ∨ v'.ownBlock = some w.heap.size) → wpList P ops Q rest (a.put o.dst v') w') : wpList P ops Q (o :: rest) a w := by
  refine wpList_plain hgd fun K hK' => ?_
  obtain ⟨v', w', hr, h2, h3, h4⟩ := run_append_or (P := P) henc t o.type e ht hi w B hB v0 xs h0 ⟨g, 0, none⟩ c [y] (fun j x hj => by
    cases j with
    | zero => simp at hj; subst hj; simpa [Addr.add] using hc
    | succ j => simp at hj) hb hm
  unfold Oper.wp execOp
  have e1 : ([y] : List α).length = 1 := rfl
  rw [e1] at hr
  simp only [ho, resolve, invoke, builtin, Sem.run_bind, Sem.run_pure, Result.andThen_ok, List.map_toArray, List.map_cons, List.map_nil, hs, hx, hr]
  exact hK' _ _ (hK v' w' h2 h3 h4)
/-- append(v0, y1, y2): they lie in a block of two cells. -/
theorem wpList_append_two {rest : List Oper} {o : Oper} {a : Act} {w : World} {Q : Exit → Act → World → Prop} (hgd : o.guard = none) (s x : Operand) (t : TypeId) (ho : o.op = .call { callee := .builtin .append, args := #[s, x], argTypes := #[t, t] })
    {α : Type} {enc : α → Value} (henc : ∀ x, (enc x).oneCell' = true) (e : TypeId) {bytes : Nat} (ht : P.underlying t = some (.slice e)) (hi : (P.info? e).map (fun i => (i.zero.map (·.cells.size), i.size, i.bytes)) = some (some 1, 1, bytes))
    (B : Nat) (v0 : Value) (hs : a.eval s = v0) (xs : List α) (h0 : OR w B e enc v0 xs) (g c : Nat) (y1 y2 : α) (hx : a.eval x = .slice (some ⟨g, 0, none⟩) 2 c) (hc : w.cell? ⟨g, 0, none⟩ = some (enc y1)) (hc2 : w.cell? ⟨g, 1, none⟩ = some (enc y2))
    (hB : B ≤ w.heap.size) (hb : (xs.length + 2) * bytes ≤ 140737488355328) (hm : xs.length + 2 ≤ maxLen)
    (hK : ∀ v' w', OR w' B e enc v' (xs ++ [y1, y2]) → w.grownBy w' v0.ownBlock → (v'.ownBlock = v0.ownBlock ∨ v'.ownBlock = some w.heap.size) → wpList P ops Q rest (a.put o.dst v') w') : wpList P ops Q (o :: rest) a w := by
  refine wpList_plain hgd fun K hK' => ?_
  obtain ⟨v', w', hr, h2, h3, h4⟩ := run_append_or (P := P) henc t o.type e ht hi w B hB v0 xs h0 ⟨g, 0, none⟩ c [y1, y2] (fun j x hj => by
    cases j with
    | zero => simp at hj; subst hj; simpa [Addr.add] using hc
    | succ j => cases j with
      | zero => simp at hj; subst hj; simpa [Addr.add] using hc2
      | succ j => simp at hj) hb hm
  unfold Oper.wp execOp
  have e1 : ([y1, y2] : List α).length = 2 := rfl
  rw [e1] at hr
  simp only [ho, resolve, invoke, builtin, Sem.run_bind, Sem.run_pure, Result.andThen_ok, List.map_toArray, List.map_cons, List.map_nil, hs, hx, hr]
  exact hK' _ _ (hK v' w' h2 h3 h4)
end
def encB (b : UInt8) : Value := .int .u8 b.toNat
theorem encB_one (x : UInt8) : (encB x).oneCell' = true := rfl
theorem infoB : (Tryz.prog.info? 5).map (fun i => (i.zero.map (·.cells.size), i.size, i.bytes)) = some (some 1, 1, 1) := by kernel_rfl
/-- string(v). -/
theorem run_string_or {P : Program} {src dst e : TypeId} {base : Nat} {v : Value} {bs : List UInt8} {W : World} (hs : P.underlying src = some (.slice e)) (he : P.underlying e = some (.int .u8)) (hd : P.underlying dst = some .string) (h : OR W base e encB v bs) :
    (convert src dst v).run P W = .ok (.string (str bs)) W := by
  refine run_string (base := base) hs he hd ?_
  obtain ⟨_, h⟩ := h
  rcases h with ⟨rfl, hn⟩ | ⟨g, cap, cur, rfl, hb, hg, h1, h2, h3, h4⟩
  · exact .inl ⟨rfl, List.eq_nil_of_length_eq_zero hn⟩
  · exact .inr ⟨g, cap, cur, (0, 0), rfl, hb, hg, fun j _ h => by simp at h, h1, h2, by omega, by rw [Nat.mul_one] at h4; exact h4⟩
end Go.Proofs.YthclgijnfopikaaGreatDoor
