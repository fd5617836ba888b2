/- The walks of the fields' writers. -/
import Derived.Test.YthclgijnfopikaaGreatDoorQuo
import Derived.Test.YthclgijnfopikaaGreatDoorPlain
import Derived.Lib.ItoaLen
import Derived.Deep.DeepMust
namespace Go.Proofs.YthclgijnfopikaaGreatDoor
open Go.RowKit

theorem quote2_calls {ok : Nat → Prop} (l : List Nat) (hl : l.length ≤ 134217728) (hu : ∀ x ∈ l, x < 65536) (v : Value) (w : World) (h : Rd w ok encU v l) :
    Calls Tryz.prog 89 #[v, .int .i64 2, .int .u8 120] w fun e w' => e = .returned (.string (str (quoteD 2 120 l))) ∧ Below w.heap.size w w' := quote_calls 2 (by omega) 120 l hl hu v w h
theorem quote4_calls {ok : Nat → Prop} (l : List Nat) (hl : l.length ≤ 134217728) (hu : ∀ x ∈ l, x < 65536) (v : Value) (w : World) (h : Rd w ok encU v l) :
    Calls Tryz.prog 89 #[v, .int .i64 4, .int .u8 117] w fun e w' => e = .returned (.string (str (quoteD 4 117 l))) ∧ Below w.heap.size w w' := quote_calls 4 (by omega) 117 l hl hu v w h
theorem nums_small (s : List UInt8) : ∀ x ∈ nums s, x < 65536 := by
  intro x hx
  obtain ⟨c, _, rfl⟩ := List.mem_map.1 hx
  have := c.toNat_lt; omega
theorem Quote_calls (s : ByteArray) (hs : s.size ≤ 134217728) (w : World) : Calls Tryz.prog 85 #[.string s] w fun e w' => e = .returned (.string (str (quoteD 2 120 (nums s.data.toList)))) ∧ Below w.heap.size w w' := by
  have hl : (nums s.data.toList).length ≤ 134217728 := by simpa [nums] using hs
  have HB := Asd.mk (fun W => bytes_calls s (by omega) W)
  have HQ := Asd.mk (fun W v (h : OR W w.heap.size 115 encU v (nums s.data.toList)) => quote2_calls _ hl (nums_small _) v W h.rd)
  obtain ⟨q, hq⟩ : ∃ q, q = str (quoteD 2 120 (nums s.data.toList)) := ⟨_, rfl⟩
  rw [← hq] at HQ
  have Hq := Asd.mk hq
  clear hq hl
  go_enter Tryz.func85, Tryz.ntmps85
  go_wp2_with fail
  refine (HB.out _).mono ?_
  rintro e w1 ⟨v, rfl, hO, hb1⟩
  have hO1 := Asd.mk hO
  have hB1 := Asd.mk hb1
  clear hO hb1
  go_wp2_with fail
  refine (HQ.out _ _ hO1.out).mono ?_
  rintro e w2 ⟨rfl, hb2⟩
  have hB2 := Asd.mk (bl_trans hB1.out hb2)
  clear hb2
  go_wp2_with fail
  go_ret
  exact ⟨by rw [Hq.out]; rfl, hB2.out⟩

theorem writeYes_calls (c : Nat) (b : Bool) (w : World) (hc : w.cell? ⟨c, 11, none⟩ = some (.bool b)) : Calls Tryz.prog 67 #[.pointer (some ⟨c, 0, none⟩)] w fun e w' =>
    e = .returned (.string (str (if b then [121, 101, 115] else [110, 111]))) ∧ w = w' := by
  cases b
  all_goals
    go_enter Tryz.func67, Tryz.ntmps67
    go_wp2
    go_ret
    exact ⟨rfl, rfl⟩
theorem writeData_calls {ok : Nat → Prop} (c : Nat) (l : List Nat) (hl : l.length ≤ 134217728) (hu : ∀ x ∈ l, x < 65536) (v : Value) (w : World) (hc : w.cell? ⟨c, 8, none⟩ = some v) (h : Rd w ok encU v l) :
    Calls Tryz.prog 61 #[.pointer (some ⟨c, 0, none⟩)] w fun e w' => e = .returned (.string (str (quoteD 4 117 l))) ∧ Below w.heap.size w w' := by
  have HQ := Asd.mk (quote4_calls l hl hu v w h)
  clear h hu
  go_enter Tryz.func61, Tryz.ntmps61
  go_wp2_with fail
  refine HQ.out.mono ?_
  rintro e w2 ⟨rfl, hb2⟩
  have hB2 := Asd.mk hb2
  clear hb2
  go_wp2_with fail
  go_ret
  exact ⟨rfl, hB2.out⟩
theorem text1_calls {g i : Nat} (hL : Leads g i) (he : ∀ args w, (callFunc g args).run Tryz.prog w = .ok (.enter g args) w) (c b : Nat) (s : ByteArray) (hs : s.size ≤ 134217728) (w : World)
    (hb : w.cell? ⟨b, 0, none⟩ = some (.func (.func g) #[] #[])) (hc : w.cell? ⟨c, i, none⟩ = some (.string s)) :
    Calls Tryz.prog 84 #[.pointer (some ⟨c, 0, none⟩), .pointer (some ⟨b, 0, none⟩)] w fun e w' => e = .returned (.string (str (quoteD 2 120 (nums s.data.toList)))) ∧ Below w.heap.size w w' := by
  have HL := Asd.mk hL
  have HQ := Asd.mk (Quote_calls s hs)
  clear hL
  go_enter Tryz.func84, Tryz.ntmps84
  go_wp2_with fail
  refine (HL.out c _).mono ?_
  rintro e w' ⟨rfl, rfl⟩
  go_wp2_with fail
  refine (HQ.out _).mono ?_
  rintro e w' ⟨rfl, hb⟩
  have HB := Asd.mk hb
  clear hb
  go_wp2_with fail
  go_ret
  exact ⟨rfl, HB.out⟩

theorem join_joinD : ∀ l : List (List UInt8), Lib.join l [32] = joinD l
  | [] => rfl
  | [x] => by simp [Lib.join, joinD]
  | x :: y :: r => by
    have := join_joinD (y :: r)
    simp only [joinD]
    rw [← this]
    simp [Lib.join]
theorem joinD_len (n : Nat) : ∀ l : List (List UInt8), (∀ x ∈ l, x.length ≤ n) → (joinD l).length ≤ l.length * (n + 1)
  | [], _ => by simp [joinD]
  | [x], h => by have := h x (List.mem_cons_self ..); simp [joinD]; omega
  | x :: y :: r, h => by
    have h1 := h x (List.mem_cons_self ..)
    have h2 := joinD_len n (y :: r) fun z hz => h z (List.mem_cons_of_mem _ hz)
    simp only [joinD, List.length_append, List.length_cons] at h2 ⊢
    rw [Nat.add_mul (r.length + 1) 1]
    omega
theorem join_calls {B : Nat} (xs : List (List UInt8)) (v : Value) (w : World) (h : OR w B 9 encS v xs) (hn : xs.length ≤ 134217728) (hl : (joinD xs).length ≤ 140737488355328) :
    Calls Tryz.prog 90 #[v, .string ⟨#[32]⟩] w fun e w' => e = .returned (.string (str (joinD xs))) ∧ Below w.heap.size w w' := by
  obtain ⟨h0, h⟩ := h
  rcases h with ⟨rfl, hn0⟩ | ⟨g, cap, cur, rfl, hb, hg, h1, h2, h3, h4⟩
  · have hx : xs = [] := List.eq_nil_of_length_eq_zero hn0
    subst hx
    exact (Tryz.strings_Join_none none 0 ⟨#[32]⟩ w).mono fun e w' ⟨h1, h2⟩ => ⟨h1, by rw [h2]; exact Below.refl _ _⟩
  · have e1 : (xs.map str).map (·.data.toList) = xs := by rw [List.map_map]; exact (List.map_congr_left fun x _ => data_str x).trans (List.map_id _)
    have hj := join_joinD xs
    have := Tryz.strings_Join g 0 cap (xs.map str) ⟨#[32]⟩ w (fun j x hx => by
      rw [List.getElem?_map, Option.map_eq_some_iff] at hx
      obtain ⟨y, hy, rfl⟩ := hx
      rw [bk_cell hg, Nat.zero_add]
      have hjl : j < xs.length := (List.getElem?_eq_some_iff.1 hy).1
      have h5 : (cur.toList.take (xs.length * 1))[j]? = some (encS y) := by rw [h4]; simp [hy]
      rw [List.getElem?_take_of_lt (by omega)] at h5
      simpa [encS] using h5) (bk_lt hg) (by simp; omega) (by simpa using h1) (by rw [e1]; show (Lib.join xs [32]).length ≤ _; rw [hj]; exact hl)
    rw [e1, List.length_map] at this
    exact this.mono fun e w' ⟨h1, h2⟩ => ⟨by rw [h1]; show _ = Ending.returned (.string (str (joinD xs))); rw [← hj]; rfl, h2⟩

def listPost (w : World) (xs : List (List UInt8)) (e : Ending) (w' : World) : Prop := e = .returned (.string (str (91 :: joinD xs ++ [93]))) ∧ Below w.heap.size w w'
theorem str_add3 (l : List UInt8) : (ByteArray.mk #[91] ++ str l ++ ByteArray.mk #[93]) = str (91 :: l ++ [93]) := by
  apply str_inj
  simp [str]
theorem add_brackets (t : ByteArray) (h : t.size ≤ 140737488355328) : ∃ t1 t2 : ByteArray, t2 = ByteArray.mk #[91] ++ t ++ ByteArray.mk #[93] ∧ (∀ W, (Op.stringOp .add ⟨#[91]⟩ t).run Tryz.prog W = .ok (.string t1) W) ∧ (∀ W, (Op.stringOp .add t1 ⟨#[93]⟩).run Tryz.prog W = .ok (.string t2) W) := by
  have e : (ByteArray.mk #[91]).size = 1 := rfl
  have e2 : (ByteArray.mk #[93]).size = 1 := rfl
  refine ⟨ByteArray.mk #[91] ++ t, _, rfl, fun W => run_string_add_sum W _ _ (by omega), fun W => run_string_add_sum W _ _ ?_⟩
  rw [ByteArray.size_append]
  omega
set_option maxHeartbeats 2000000 in
set_option maxRecDepth 100000 in
theorem writeList_calls {B : Nat} {ok : Nat → Prop} (c : Nat) (l : List Int) (hl : l.length ≤ 4194304) (hu : ∀ x ∈ l, inI64 x) (v : Value) (w : World) (hG : Glob B w) (hc : w.cell? ⟨c, 9, none⟩ = some v) (h : Rd w ok encI v l) :
    Calls Tryz.prog 63 #[.pointer (some ⟨c, 0, none⟩)] w (listPost w (l.map Lib.itoa)) := by
  obtain ⟨A, cp, rfl⟩ := h.len
  obtain ⟨n, hn⟩ : ∃ n, n = l.length := ⟨_, rfl⟩
  rw [← hn] at h hl hc
  have H := Asd.mk h
  have Hn := Asd.mk hn
  have HG := Asd.mk hG
  have hjl : (joinD (l.map Lib.itoa)).length ≤ 140737488355328 := by
    refine Nat.le_trans (joinD_len 21 _ fun x hx => ?_) (by simp only [List.length_map]; omega)
    obtain ⟨z, hz, rfl⟩ := List.mem_map.1 hx
    exact Lib.itoa_length_le z (hu z hz).1 (hu z hz).2
  have HJ := Asd.mk (fun W v (ho : OR W w.heap.size 9 encS v (l.map Lib.itoa)) => join_calls _ v W ho (by simp; omega) hjl)
  have HI := Asd.mk (fun W (h : Below w.heap.size w W) x (hx : inI64 x) => itoa_calls x hx.1 hx.2 W (hG.below h hG.le))
  have Hu := Asd.mk hu
  have hjl2 := Asd.mk hjl
  clear hn h hG hjl hu
  go_enter Tryz.func63, Tryz.ntmps63
  go_wp2_with fail
  go_loopw [3, 11] (fun v3 v11 wr => ∃ k : Nat, k ≤ n ∧ v11 = .int .i64 k ∧ Asd (OR wr w.heap.size 9 encS v3 ((l.take k).map Lib.itoa)) ∧ Asd (Below w.heap.size w wr)) (fun _ v11 _ => n - (intOf v11).toNat)
  case atStart => exact ⟨0, Nat.zero_le _, rfl, ⟨OR.nil _ _ _ _⟩, ⟨Below.refl _ _⟩⟩
  case round =>
    obtain ⟨k, hk, rfl, hO, hB⟩ := hrel
    by_cases hlt : k < n
    · obtain ⟨b1, o1, x, e1, hx, hc1⟩ := H.out.cell hlt
      subst e1
      have d1 := (hB.out.cell (p := ⟨b1, o1 + k, none⟩) (World.block_lt_of_cell? w _ hc1)).trans hc1
      have hxi : inI64 x := Hu.out x (List.mem_of_getElem? hx)
      have hk0 : (0 : Int) ≤ (k : Int) := by omega
      have hk1 : (k : Int) < (n : Int) := by omega
      have hkl : k < l.length := by rw [← Hn.out]; exact hlt
      have hst : (l.take (k + 1)).map Lib.itoa = (l.take k).map Lib.itoa ++ [Lib.itoa x] := by
        rw [List.take_succ_eq_append_getElem hkl, List.map_append]
        rw [List.getElem?_eq_getElem hkl] at hx
        injection hx with hx
        rw [hx]; rfl
      have Hst := Asd.mk hst
      have hlen : ((l.take k).map Lib.itoa).length = k := by simp; omega
      have Hlen := Asd.mk hlen
      have HIx := Asd.mk (HI.out wr hB.out x hxi)
      obtain ⟨t, ht⟩ : ∃ t, t = str (Lib.itoa x) := ⟨_, rfl⟩
      rw [← ht] at HIx
      have Ht := Asd.mk ht
      simp only [encI] at d1
      clear hx hc1 hst hlen ht hxi
      go_wp2_with fail
      refine HIx.out.mono ?_
      rintro e w1 ⟨rfl, hb1⟩
      have hO1 := Asd.mk (hO.out.below hb1)
      have hB1 := Asd.mk (bl_trans hB.out hb1)
      have hO' := Asd.mk hO1.out.lt
      have hsz := Asd.mk hB1.out.size
      clear hb1 hO hB d1 HIx
      go_wp2_with (at_builtin; go_must (refine wpList_append_one rfl _ _ 26 rfl encS_one 9 Tryz.underlying26 infoK w.heap.size u3 rfl _ (hO1.out.alloc _) w1.heap.size 1 (Lib.itoa x) rfl (by unfold encS; rw [← Ht.out]; exact bk_cell (bk_new _ _) 0) (by have := hsz.out; simp [World.alloc, -World.alloc_eq]; omega) (by rw [Hlen.out]; omega) (by rw [Hlen.out]; simp only [maxLen]; omega) ?_; intro v' w' h' g' a'; clear a'))
      have hO2 : Asd (OR w' w.heap.size 9 encS v' ((l.take (k + 1)).map Lib.itoa)) := ⟨by rw [Hst.out]; exact h'⟩
      have hB2 : Asd (Below w.heap.size w w') := ⟨bl_grown (bl_alloc hB1.out _) g' fun g hg => (hO'.out g hg).1⟩
      clear h' g' hO1 hB1
      go_wp2_with fail
      refine ⟨⟨k + 1, by omega, by simp, hO2, hB2⟩, ?_⟩
      simp [intOf]; omega
    · have hall : (l.take k).map Lib.itoa = l.map Lib.itoa := by rw [List.take_of_length_le (by rw [← Hn.out]; omega)]
      rw [hall] at hO
      have hge : ¬ (k : Int) < (n : Int) := by omega
      obtain ⟨t, ht⟩ : ∃ t, t = str (joinD (l.map Lib.itoa)) := ⟨_, rfl⟩
      have HJ2 := Asd.mk (HJ.out wr _ hO.out)
      rw [← ht] at HJ2
      have Ht := Asd.mk ht
      clear hall ht
      go_wp2_with fail
      refine HJ2.out.mono ?_
      rintro e w1 ⟨rfl, hb1⟩
      have hB1 := Asd.mk (bl_trans hB.out hb1)
      clear hb1 HJ2
      obtain ⟨t1, t2, ht2, ha1, ha2⟩ := add_brackets t (by rw [Ht.out]; show (List.toArray _).size ≤ _; have := hjl2.out; simpa using this)
      have Ht2 := Asd.mk ht2
      clear ht2
      go_wp2_with fail
      go_ret
      exact ⟨by rw [← str_add3, ← Ht.out, ← Ht2.out]; rfl, hB1.out⟩

set_option maxHeartbeats 2000000 in
set_option maxRecDepth 100000 in
theorem writeNames_calls {ok : Nat → Prop} (c : Nat) (l : List (List UInt8)) (hl : l.length ≤ 1048576) (hu : ∀ x ∈ l, x.length ≤ 1048576) (v : Value) (w : World) (hc : w.cell? ⟨c, 10, none⟩ = some v) (h : Rd w ok encS v l) :
    Calls Tryz.prog 65 #[.pointer (some ⟨c, 0, none⟩)] w (listPost w (l.map txtD)) := by
  obtain ⟨A, cp, rfl⟩ := h.len
  obtain ⟨n, hn⟩ : ∃ n, n = l.length := ⟨_, rfl⟩
  rw [← hn] at h hl hc
  have H := Asd.mk h
  have Hn := Asd.mk hn
  have hjl : (joinD (l.map txtD)).length ≤ 140737488355328 := by
    refine Nat.le_trans (joinD_len 4194306 _ fun x hx => ?_) (by simp only [List.length_map]; omega)
    obtain ⟨z, hz, rfl⟩ := List.mem_map.1 hx
    have h1 := hu z hz
    have h2 := quoteD_len 2 120 (nums z)
    have h3 : (nums z).length = z.length := by simp [nums]
    show (quoteD 2 120 (nums z)).length ≤ _
    omega
  have HJ := Asd.mk (fun W v (ho : OR W w.heap.size 9 encS v (l.map txtD)) => join_calls _ v W ho (by simp; omega) hjl)
  have HI := Asd.mk (fun W (x : List UInt8) (hx : x.length ≤ 1048576) => bytes_calls (str x) (by show (List.toArray _).size ≤ _; simp; omega) W)
  have HQ := Asd.mk (fun W v (x : List UInt8) (hx : x.length ≤ 1048576) (B : Nat) (h : OR W B 115 encU v (nums x)) => quote2_calls _ (by simp [nums]; omega) (nums_small x) v W h.rd)
  have Hu := Asd.mk hu
  have hjl2 := Asd.mk hjl
  clear hn h hjl hu
  go_enter Tryz.func65, Tryz.ntmps65
  go_wp2_with fail
  go_loopw [3, 11] (fun v3 v11 wr => ∃ k : Nat, k ≤ n ∧ v11 = .int .i64 k ∧ Asd (OR wr w.heap.size 9 encS v3 ((l.take k).map txtD)) ∧ Asd (Below w.heap.size w wr)) (fun _ v11 _ => n - (intOf v11).toNat)
  case atStart => exact ⟨0, Nat.zero_le _, rfl, ⟨OR.nil _ _ _ _⟩, ⟨Below.refl _ _⟩⟩
  case round =>
    obtain ⟨k, hk, rfl, hO, hB⟩ := hrel
    by_cases hlt : k < n
    · obtain ⟨b1, o1, x, e1, hx, hc1⟩ := H.out.cell hlt
      subst e1
      have d1 := (hB.out.cell (p := ⟨b1, o1 + k, none⟩) (World.block_lt_of_cell? w _ hc1)).trans hc1
      have hxi : x.length ≤ 1048576 := Hu.out x (List.mem_of_getElem? hx)
      have hk0 : (0 : Int) ≤ (k : Int) := by omega
      have hk1 : (k : Int) < (n : Int) := by omega
      have hkl : k < l.length := by rw [← Hn.out]; exact hlt
      have hst : (l.take (k + 1)).map txtD = (l.take k).map txtD ++ [txtD x] := by
        rw [List.take_succ_eq_append_getElem hkl, List.map_append]
        rw [List.getElem?_eq_getElem hkl] at hx
        injection hx with hx
        rw [hx]; rfl
      have Hst := Asd.mk hst
      have hlen : ((l.take k).map txtD).length = k := by simp; omega
      have Hlen := Asd.mk hlen
      have HIx := Asd.mk (HI.out wr x hxi)
      have HQx := Asd.mk (fun W v B h => HQ.out W v x hxi B h)
      obtain ⟨t, ht⟩ : ∃ t, t = str (txtD x) := ⟨_, rfl⟩
      rw [show quoteD 2 120 (nums x) = txtD x from rfl, ← ht] at HQx
      have Ht := Asd.mk ht
      simp only [encS] at d1
      obtain ⟨sx, hsx⟩ : ∃ s, s = str x := ⟨_, rfl⟩
      rw [← hsx] at d1 HIx
      have Hsx := Asd.mk hsx
      clear hx hc1 hst hlen ht hxi hsx
      go_wp2_with fail
      refine HIx.out.mono ?_
      rintro e w0 ⟨v0, rfl, hO0, hb0⟩
      rw [Hsx.out, data_str] at hO0
      have hO0' := Asd.mk hO0
      have hOo := Asd.mk (hO.out.below hb0)
      have hB0 := Asd.mk (bl_trans hB.out hb0)
      clear hO0 hb0 hO hB d1 HIx
      go_wp2_with fail
      refine (HQx.out _ _ _ hO0'.out).mono ?_
      rintro e w1 ⟨rfl, hb1⟩
      have hO1 := Asd.mk (hOo.out.below hb1)
      have hB1 := Asd.mk (bl_trans hB0.out hb1)
      have hO' := Asd.mk hO1.out.lt
      have hsz := Asd.mk hB1.out.size
      clear hb1 hO0' hOo hB0 HQx
      go_wp2_with (at_builtin; go_must (refine wpList_append_one rfl _ _ 26 rfl encS_one 9 Tryz.underlying26 infoK w.heap.size u3 rfl _ (hO1.out.alloc _) w1.heap.size 1 (txtD x) rfl (by unfold encS; rw [← Ht.out]; exact bk_cell (bk_new _ _) 0) (by have := hsz.out; simp [World.alloc, -World.alloc_eq]; omega) (by rw [Hlen.out]; omega) (by rw [Hlen.out]; simp only [maxLen]; omega) ?_; intro v' w' h' g' a'; clear a'))
      have hO2 : Asd (OR w' w.heap.size 9 encS v' ((l.take (k + 1)).map txtD)) := ⟨by rw [Hst.out]; exact h'⟩
      have hB2 : Asd (Below w.heap.size w w') := ⟨bl_grown (bl_alloc hB1.out _) g' fun g hg => (hO'.out g hg).1⟩
      clear h' g' hO1 hB1
      go_wp2_with fail
      refine ⟨⟨k + 1, by omega, by simp, hO2, hB2⟩, ?_⟩
      simp [intOf]; omega
    · have hall : (l.take k).map txtD = l.map txtD := by rw [List.take_of_length_le (by rw [← Hn.out]; omega)]
      rw [hall] at hO
      have hge : ¬ (k : Int) < (n : Int) := by omega
      obtain ⟨t, ht⟩ : ∃ t, t = str (joinD (l.map txtD)) := ⟨_, rfl⟩
      have HJ2 := Asd.mk (HJ.out wr _ hO.out)
      rw [← ht] at HJ2
      have Ht := Asd.mk ht
      clear hall ht
      go_wp2_with fail
      refine HJ2.out.mono ?_
      rintro e w1 ⟨rfl, hb1⟩
      have hB1 := Asd.mk (bl_trans hB.out hb1)
      clear hb1 HJ2
      obtain ⟨t1, t2, ht2, ha1, ha2⟩ := add_brackets t (by rw [Ht.out]; show (List.toArray _).size ≤ _; have := hjl2.out; simpa using this)
      have Ht2 := Asd.mk ht2
      clear ht2
      go_wp2_with fail
      go_ret
      exact ⟨by rw [← str_add3, ← Ht.out, ← Ht2.out]; rfl, hB1.out⟩
end Go.Proofs.YthclgijnfopikaaGreatDoor
