/- The walks of the fields' readers but lists. The walk of script.items, over whatever an item's reader reads. The walks of the readers of lists. All fields are read as rdD says. -/
import Derived.Test.YthclgijnfopikaaGreatDoorUnq
import Derived.Test.YthclgijnfopikaaGreatDoorWriteAll
import Derived.Test.YthclgijnfopikaaGreatDoorLineLaw
import Derived.Deep.RegionLaw
import Derived.Test.YthclgijnfopikaaGreatDoorBegins
namespace Go.Proofs.YthclgijnfopikaaGreatDoor
section
open Go.RowKit

def NarrowPost (l : List Nat) (w : World) (e : Ending) (w' : World) : Prop := ∃ v, e = .returned v ∧ OR w' w.heap.size 5 encB v (bytesOf l) ∧ Below w.heap.size w w'
set_option maxHeartbeats 2000000 in
set_option maxRecDepth 100000 in
theorem narrow_calls {ok : Nat → Prop} (l : List Nat) (hl : l.length ≤ 1073741824) (hu : ∀ x ∈ l, x < 256) (v : Value) (w : World) (h : Rd w ok encU v l) : Calls Tryz.prog 88 #[v] w (NarrowPost l w) := by
  obtain ⟨A, c, rfl⟩ := h.len
  obtain ⟨n, hn⟩ : ∃ n, n = l.length := ⟨_, rfl⟩
  rw [← hn] at h hl ⊢
  have H := Asd.mk h
  have Hn := Asd.mk hn
  have Hu := Asd.mk hu
  clear hn hu h
  go_enter Tryz.func88, Tryz.ntmps88
  go_wp2_with fail
  go_loopw [3, 8] (fun v3 v8 wr => ∃ k : Nat, k ≤ n ∧ v8 = .int .i64 k ∧ Asd (OR wr w.heap.size 5 encB v3 (bytesOf (l.take k))) ∧ Asd (Below w.heap.size w wr)) (fun _ v8 _ => n - (intOf v8).toNat)
  case atStart => exact ⟨0, Nat.zero_le _, rfl, ⟨OR.nil _ _ _ _⟩, ⟨Below.refl _ _⟩⟩
  case round =>
    obtain ⟨k, hk, rfl, hO, hB⟩ := hrel
    by_cases hlt : k < n
    · obtain ⟨b1, o1, x, e1, hx, hc1⟩ := H.out.cell hlt
      subst e1
      have d1 := (hB.out.cell (p := ⟨b1, o1 + k, none⟩) (World.block_lt_of_cell? w _ hc1)).trans hc1
      have hxl : x < 256 := Hu.out x (List.mem_of_getElem? hx)
      have hk0 : (0 : Int) ≤ (k : Int) := by omega
      have hk1 : (k : Int) < (n : Int) := by omega
      have hkl : k < l.length := by rw [← Hn.out]; exact hlt
      have hst : bytesOf (l.take (k + 1)) = bytesOf (l.take k) ++ [UInt8.ofNat x] := by
        unfold bytesOf
        rw [List.take_succ_eq_append_getElem hkl, List.map_append]
        rw [List.getElem?_eq_getElem hkl] at hx
        injection hx with hx
        rw [hx]; rfl
      have Hst := Asd.mk hst
      have hlen : (bytesOf (l.take k)).length = k := by simp [bytesOf]; omega
      have Hlen := Asd.mk hlen
      have hO' := Asd.mk hO.out.lt
      have hsz := Asd.mk hB.out.size
      simp only [encU] at d1
      have hx0 : (0 : Int) ≤ (x : Int) := by omega
      have hx1 : (x : Int) < 256 := by omega
      clear hx hc1 hst hlen
      go_wp2_with (at_builtin; refine wpList_append_one rfl _ _ 57 rfl encB_one 5 Tryz.underlying57 infoB w.heap.size u3 rfl _ (hO.out.alloc _) wr.heap.size 1 (UInt8.ofNat x) rfl (by rw [encB_of x hxl]; exact bk_cell (bk_new _ _) 0) (by have := hsz.out; simp [World.alloc, -World.alloc_eq]; omega) (by rw [Hlen.out]; omega) (by rw [Hlen.out]; simp only [maxLen]; omega) ?_; intro v' w' h' g' a'; clear a')
      have hO2 : Asd (OR w' w.heap.size 5 encB v' (bytesOf (l.take (k + 1)))) := ⟨by rw [Hst.out]; exact h'⟩
      have hB2 : Asd (Below w.heap.size w w') := ⟨bl_grown (bl_alloc hB.out _) g' fun g hg => (hO'.out g hg).1⟩
      clear h' g' hO hB
      go_wp2_with fail
      refine ⟨⟨k + 1, by omega, by simp, hO2, hB2⟩, ?_⟩
      simp [intOf]; omega
    · have hall : l.take k = l := List.take_of_length_le (by rw [← Hn.out]; omega)
      rw [hall] at hO
      have hge : ¬ (k : Int) < (n : Int) := by omega
      clear hall
      go_wp2_with fail
      go_ret
      exact ⟨_, rfl, hO.out, hB.out⟩
theorem unq2_small {s : List UInt8} {l : List Nat} {r : List UInt8} (h : unquoteD 2 120 s = some (l, r)) : (∀ x ∈ l, x < 256) ∧ l.length ≤ s.length := by
  obtain ⟨h1, h2⟩ := quote_unquote (by decide) h
  refine ⟨h2, ?_⟩
  have := quoteD_ge 2 120 l
  rw [h1, List.length_append]; omega
theorem unq2_getD (s : List UInt8) : (∀ x ∈ ((unquoteD 2 120 s).map (·.1)).getD [], x < 256) ∧ (((unquoteD 2 120 s).map (·.1)).getD []).length ≤ s.length := by
  cases h : unquoteD 2 120 s with
  | none => exact ⟨fun x hx => by simp at hx, by simp⟩
  | some p => obtain ⟨l, r⟩ := p; exact unq2_small h
theorem unquote2_calls (s : ByteArray) (hs : s.size ≤ 1048576) (w : World) : Calls Tryz.prog 87 #[.string s, .int .i64 2, .int .u8 120] w (UnqPost (unquoteD 2 120 s.data.toList) w) := unquote_calls 2 (by omega) 120 (by decide) s hs w
theorem unquote4_calls (s : ByteArray) (hs : s.size ≤ 1048576) (w : World) : Calls Tryz.prog 87 #[.string s, .int .i64 4, .int .u8 117] w (UnqPost (unquoteD 4 117 s.data.toList) w) := unquote_calls 4 (by omega) 117 (by decide) s hs w

/-- What a reader that sets cell i of the command at block c leaves. -/
def SetPost (c i : Nat) (rest : List UInt8) (ok : Bool) (P : Value → World → Prop) (w : World) (e : Ending) (w' : World) : Prop :=
  e = .returned (.tuple #[.string (str rest), .bool ok]) ∧ ∃ w1 v, Below w.heap.size w w1 ∧ P v w1 ∧ w' = w1.setCell ⟨c, i, none⟩ v
set_option maxHeartbeats 2000000 in
set_option maxRecDepth 100000 in
theorem text2_calls {g i : Nat} (hL : Leads g i) (he : ∀ args w, (callFunc g args).run Tryz.prog w = .ok (.enter g args) w) (c b : Nat) (s0 s : ByteArray) (hs : s.size ≤ 1048576) (w : World)
    (hb : w.cell? ⟨b, 0, none⟩ = some (.func (.func g) #[] #[])) (hc : w.cell? ⟨c, i, none⟩ = some (.string s0)) (hf : w.frozen? ⟨c, i, none⟩ = false) :
    Calls Tryz.prog 86 #[.pointer (some ⟨c, 0, none⟩), .string s, .pointer (some ⟨b, 0, none⟩)] w
      (SetPost c i (((unquoteD 2 120 s.data.toList).map (·.2)).getD []) (unquoteD 2 120 s.data.toList).isSome (fun v _ => v = .string (str (bytesOf (((unquoteD 2 120 s.data.toList).map (·.1)).getD [])))) w) := by
  have HL := Asd.mk hL
  have HQ := Asd.mk (unquote2_calls s hs w)
  obtain ⟨h1, h2⟩ := unq2_getD s.data.toList
  obtain ⟨l, hl⟩ : ∃ l, l = ((unquoteD 2 120 s.data.toList).map (·.1)).getD [] := ⟨_, rfl⟩
  obtain ⟨r, hr⟩ : ∃ r, r = ((unquoteD 2 120 s.data.toList).map (·.2)).getD [] := ⟨_, rfl⟩
  obtain ⟨k, hk⟩ : ∃ k, k = (unquoteD 2 120 s.data.toList).isSome := ⟨_, rfl⟩
  unfold UnqPost at HQ
  rw [← hl, ← hr, ← hk] at HQ
  rw [← hl] at h1 h2
  rw [← hl, ← hr, ← hk]
  have h2' : l.length ≤ 1073741824 := by have : s.data.toList.length = s.size := by simp
                                         omega
  have HN := Asd.mk (fun W v (ho : OR W w.heap.size 115 encU v l) => narrow_calls l h2' h1 v W ho.rd)
  have hcl := bk_lt_cell hc
  have hbl := bk_lt_cell hb
  have Hstr := Asd.mk (fun W (B : Nat) v (ho : OR W B 5 encB v (bytesOf l)) => run_string_or (P := Tryz.prog) Tryz.underlying57 Tryz.underlying5 Tryz.underlying9 ho)
  clear hL hl hr hk h1 h2 h2'
  go_enter Tryz.func86, Tryz.ntmps86
  go_wp2_with fail
  refine HQ.out.mono ?_
  rintro e w1 ⟨v, rfl, hO, hb1⟩
  have hb2 := (hb1.cell (p := ⟨b, 0, none⟩) hbl).trans hb
  have hc2 := (hb1.cell (p := ⟨c, i, none⟩) hcl).trans hc
  have hf2 := (hb1.frozen (p := ⟨c, i, none⟩) hcl).trans hf
  have B1 := Asd.mk hb1
  have O1 := Asd.mk hO
  have hcl1 : Asd (c < w1.heap.size) := ⟨Nat.lt_of_lt_of_le hcl hb1.size⟩
  clear hb1 hO hb hc hf HQ hcl hbl
  go_wp2_with fail
  refine (HL.out c _).mono ?_
  rintro e w' ⟨rfl, rfl⟩
  go_wp2_with fail
  refine (HN.out _ _ O1.out).mono ?_
  rintro e w2 ⟨v2, rfl, hO2, hb2'⟩
  have hcv := Hstr.out _ _ _ hO2
  have hc3 := (hb2'.cell (p := ⟨c, i, none⟩) hcl1.out).trans hc2
  have hf3 := (hb2'.frozen (p := ⟨c, i, none⟩) hcl1.out).trans hf2
  have B2 := Asd.mk (bl_trans B1.out hb2')
  clear hb2' hO2 hc2 hf2 hb2
  go_wp2_with fail
  go_ret2
  exact ⟨rfl, _, _, B2.out, rfl, rfl⟩
set_option maxHeartbeats 2000000 in
set_option maxRecDepth 100000 in
theorem readData_calls (c : Nat) (v0 : Value) (s : ByteArray) (hs : s.size ≤ 1048576) (w : World) (hc : w.cell? ⟨c, 8, none⟩ = some v0) (hf : w.frozen? ⟨c, 8, none⟩ = false) :
    Calls Tryz.prog 62 #[.pointer (some ⟨c, 0, none⟩), .string s] w
      (SetPost c 8 (((unquoteD 4 117 s.data.toList).map (·.2)).getD []) (unquoteD 4 117 s.data.toList).isSome (fun v w1 => OR w1 w.heap.size 115 encU v (((unquoteD 4 117 s.data.toList).map (·.1)).getD [])) w) := by
  have HQ := Asd.mk (unquote4_calls s hs w)
  obtain ⟨l, hl⟩ : ∃ l, l = ((unquoteD 4 117 s.data.toList).map (·.1)).getD [] := ⟨_, rfl⟩
  obtain ⟨r, hr⟩ : ∃ r, r = ((unquoteD 4 117 s.data.toList).map (·.2)).getD [] := ⟨_, rfl⟩
  obtain ⟨k, hk⟩ : ∃ k, k = (unquoteD 4 117 s.data.toList).isSome := ⟨_, rfl⟩
  unfold UnqPost at HQ
  rw [← hl, ← hr, ← hk] at HQ
  rw [← hl, ← hr, ← hk]
  have hcl := bk_lt_cell hc
  clear hl hr hk
  go_enter Tryz.func62, Tryz.ntmps62
  go_wp2_with fail
  refine HQ.out.mono ?_
  rintro e w1 ⟨v, rfl, hO, hb1⟩
  have hc2 := (hb1.cell (p := ⟨c, 8, none⟩) hcl).trans hc
  have hf2 := (hb1.frozen (p := ⟨c, 8, none⟩) hcl).trans hf
  have B1 := Asd.mk hb1
  have O1 := Asd.mk hO
  obtain ⟨A, cp, rfl⟩ := hO.len
  obtain ⟨n, hn⟩ : ∃ n, n = l.length := ⟨_, rfl⟩
  rw [← hn] at O1 ⊢
  clear hb1 hO hc hf HQ hcl hn
  go_wp2_with fail
  go_ret2
  exact ⟨rfl, _, _, B1.out, O1.out, rfl⟩
end

section
open Go.RowKit

/-- What reading one item, or a list, leaves: I holds of what has been read, J at any end. -/
def ItemPost {α : Type} (I : List α → World → Prop) (J : World → Prop) (acc : List α) (o : Option (List α × List UInt8)) (e : Ending) (w' : World) : Prop :=
  ∃ rest ok, e = .returned (.tuple #[.string rest, .bool ok]) ∧ (∀ l r, o = some (l, r) → ok = true ∧ rest = str r ∧ I (acc ++ l) w') ∧ (o = none → ok = false ∧ J w')
def strLen : Value → Nat | .string s => s.size | _ => 0
theorem has_nil (c : UInt8) : Lib.hasPrefix [] [c] = false := rfl
theorem has_no {c d : UInt8} (h : c ≠ d) (t : List UInt8) : Lib.hasPrefix (c :: t) [d] = false := by
  unfold Lib.hasPrefix
  simp [List.isPrefixOf]
  exact fun e => h e.symm
theorem has_yes (c : UInt8) (t : List UInt8) : Lib.hasPrefix (c :: t) [c] = true ∧ Lib.trimPrefix (c :: t) [c] = t := ⟨has_append [c] t, trim_append [c] t⟩
theorem trim_no {c d : UInt8} (h : c ≠ d) (t : List UInt8) : Lib.trimPrefix (c :: t) [d] = c :: t := by unfold Lib.trimPrefix; rw [has_no h]; rfl
theorem itemsL_none {α : Type} {one : List UInt8 → Option (α × List UInt8)} {s : List UInt8} (acc : List α) (h : one s = none) : itemsL one s acc = none := by rw [itemsL.eq_def, h]
def itemsNext {α : Type} (one : List UInt8 → Option (α × List UInt8)) (acc : List α) : List UInt8 → Option (List α × List UInt8)
  | [] => none
  | c :: t => if c = 93 then some (acc, t) else if c = 32 then itemsL one t acc else none
theorem itemsL_some {α : Type} {one : List UInt8 → Option (α × List UInt8)} {s r : List UInt8} {x : α} (acc : List α) (h : one s = some (x, r)) (hl : r.length ≤ s.length) : itemsL one s acc = itemsNext one (acc ++ [x]) r := by
  rw [itemsL.eq_def, h]
  cases r with
  | nil => rfl
  | cons c t =>
    simp only [itemsNext]
    split
    · rfl
    · split
      · rw [if_pos (by simp at hl; omega)]
      · rfl
theorem cp_yes (c : UInt8) (t : List UInt8) (W : World) : Calls Tryz.prog 72 #[.string (str (c :: t)), .string ⟨#[c]⟩] W fun e w' => e = .returned (.tuple #[.string (str t), .bool true]) ∧ W = w' := by
  have h := cutPrefix_calls (str (c :: t)) ⟨#[c]⟩ W
  have e1 : Lib.hasPrefix ((str (c :: t)).data.toList) (ByteArray.mk #[c]).data.toList = true := (has_yes c t).1
  have e2 : Lib.trimPrefix ((str (c :: t)).data.toList) (ByteArray.mk #[c]).data.toList = t := (has_yes c t).2
  rw [e1, e2] at h
  exact h
theorem cp_no {c d : UInt8} (hne : c ≠ d) (t : List UInt8) (W : World) : Calls Tryz.prog 72 #[.string (str (c :: t)), .string ⟨#[d]⟩] W fun e w' => e = .returned (.tuple #[.string (str (c :: t)), .bool false]) ∧ W = w' := by
  have h := cutPrefix_calls (str (c :: t)) ⟨#[d]⟩ W
  have e1 : Lib.hasPrefix ((str (c :: t)).data.toList) (ByteArray.mk #[d]).data.toList = false := has_no hne t
  have e2 : Lib.trimPrefix ((str (c :: t)).data.toList) (ByteArray.mk #[d]).data.toList = c :: t := trim_no hne t
  rw [e1, e2] at h
  exact h
theorem cp_nil (d : UInt8) (W : World) : Calls Tryz.prog 72 #[.string (str []), .string ⟨#[d]⟩] W fun e w' => e = .returned (.tuple #[.string (str []), .bool false]) ∧ W = w' :=
  cutPrefix_calls (str []) ⟨#[d]⟩ W
set_option maxHeartbeats 4000000 in
set_option maxRecDepth 100000 in
theorem items_calls {α : Type} (one : List UInt8 → Option (α × List UInt8)) (hlen : ∀ s x r, one s = some (x, r) → r.length ≤ s.length) (I : List α → World → Prop) (J : World → Prop) (f : Nat) (capt : Array Value)
    (hen : ∀ args w, (callFunc f args).run Tryz.prog w = .ok (.enter f args) w)
    (hf : ∀ W acc (s : ByteArray), I acc W → acc.length + s.size ≤ 1048576 → Calls Tryz.prog f (#[.string s] ++ capt) W (ItemPost I J acc ((one s.data.toList).map fun x => ([x.1], x.2))))
    (hIJ : ∀ acc W, I acc W → J W) (s : ByteArray) (hs : s.size ≤ 1048576) (w : World) (hI : I [] w) :
    Calls Tryz.prog 91 #[.string s, .func (.func f) #[] capt] w (ItemPost I J [] (itemsD one s.data.toList)) := by
  have HF := Asd.mk hf
  have HIJ := Asd.mk hIJ
  have HI := Asd.mk hI
  obtain ⟨sl, hsl⟩ : ∃ sl, sl = s.data.toList := ⟨_, rfl⟩
  have hss : s = str sl := by rw [hsl]; rfl
  have Hsz : Asd (sl.length ≤ 1048576) := ⟨by rw [hsl, show s.data.toList.length = s.size by simp]; exact hs⟩
  rw [← hsl, hss]
  have C91 := Asd.mk (fun t W => cp_yes 91 t W)
  have C93 := Asd.mk (fun t W => cp_yes 93 t W)
  have C32 := Asd.mk (fun t W => cp_yes 32 t W)
  have CN := Asd.mk (fun (c d : UInt8) (h : c ≠ d) t W => cp_no h t W)
  have CE := Asd.mk cp_nil
  have HL := Asd.mk hlen
  clear hf hIJ hI hsl hss hs s hlen
  have bad : ∀ (o : Option (List α × List UInt8)) (W : World) (e : Ending), o = none → J W → e = .returned (.tuple #[.string ⟨#[]⟩, .bool false]) → ItemPost I J [] o e W := fun o W e ho hj he => ⟨_, _, he, fun l r h => (by rw [ho] at h; cases h), fun _ => ⟨rfl, hj⟩⟩
  have Bad := Asd.mk bad
  clear bad
  cases sl with
  | nil =>
    go_enter Tryz.func91, Tryz.ntmps91
    go_wp2_with fail
    refine (CE.out 91 _).mono ?_
    rintro e w1 ⟨rfl, rfl⟩
    go_wp2_with fail
    go_ret2
    exact Bad.out _ _ _ rfl (HIJ.out _ _ HI.out) rfl
  | cons c t =>
    by_cases h91 : c = 91
    · subst h91
      have Ht : Asd (t.length ≤ 1048576) := ⟨by have := Hsz.out; simp at this; omega⟩
      by_cases h93 : ∃ t2, t = 93 :: t2
      · obtain ⟨t2, rfl⟩ := h93
        have ho : Asd (itemsD one (91 :: 93 :: t2) = some ([], t2)) := ⟨rfl⟩
        rw [ho.out]
        go_enter Tryz.func91, Tryz.ntmps91
        go_wp2_with fail
        refine (C91.out _ _).mono ?_
        rintro e w1 ⟨rfl, rfl⟩
        go_wp2_with fail
        refine (C93.out _ _).mono ?_
        rintro e w1 ⟨rfl, rfl⟩
        go_wp2_with fail
        go_ret2
        exact ⟨_, _, rfl, fun l r h => (by injection h with h; injection h with h1 h2; subst h1 h2; exact ⟨rfl, rfl, HI.out⟩), fun h => (by cases h)⟩
      · have ho : Asd (itemsD one (91 :: t) = itemsL one t []) := ⟨by
          cases t with
          | nil => rfl
          | cons e t2 =>
            show (if (91 : UInt8) = 91 then (if e = 93 then some ([], t2) else itemsL one (e :: t2) []) else none) = _
            rw [if_pos rfl, if_neg (fun h => h93 ⟨t2, by rw [h]⟩)]⟩
        have C93' : Asd (∀ W, Calls Tryz.prog 72 #[.string (str t), .string ⟨#[93]⟩] W fun e w' => e = .returned (.tuple #[.string (str t), .bool false]) ∧ W = w') := ⟨fun W => by
          cases t with
          | nil => exact CE.out 93 W
          | cons e t2 => exact CN.out e 93 (fun h => h93 ⟨t2, by rw [h]⟩) t2 W⟩
        rw [ho.out]
        clear h93 ho
        go_enter Tryz.func91, Tryz.ntmps91
        go_wp2_with fail
        refine (C91.out _ _).mono ?_
        rintro e w1 ⟨rfl, rfl⟩
        go_wp2_with fail
        refine (C93'.out _).mono ?_
        rintro e w1 ⟨rfl, rfl⟩
        go_wp2_with fail
        go_loopw [0] (fun v0 wr => ∃ sl acc, Asd (v0 = .string (str sl)) ∧ Asd (acc.length + sl.length ≤ 1048576) ∧ Asd (itemsL one sl acc = itemsL one t []) ∧ Asd (I acc wr)) (fun v0 _ => strLen v0)
        case atStart => exact ⟨t, [], ⟨rfl⟩, ⟨by have := Ht.out; simpa using this⟩, ⟨rfl⟩, HI⟩
        case round =>
          obtain ⟨sl, acc, ⟨hv⟩, hl, ht, hI⟩ := hrel
          subst hv
          have hcall := Asd.mk (HF.out wr acc (str sl) hI.out (by show acc.length + (List.toArray _).size ≤ _; rw [List.size_toArray]; exact hl.out))
          rw [data_str] at hcall
          cases ho : one sl with
          | none =>
            rw [ho] at hcall
            have hn : Asd (itemsL one t [] = none) := ⟨by rw [← ht.out, itemsL_none acc ho]⟩
            clear ho ht
            go_wp2_with fail
            refine Calls.mono hcall.out ?_
            rintro e w2 ⟨rest, ok, rfl, _, hno⟩
            obtain ⟨rfl, hj⟩ := hno rfl
            have hJ := Asd.mk hj
            clear hno hj hcall
            go_wp2_with fail
            go_ret2
            exact Bad.out _ _ _ hn.out hJ.out rfl
          | some xr =>
            obtain ⟨x, r⟩ := xr
            rw [ho] at hcall
            have hrl := HL.out _ _ _ ho
            have ht2 := ht.out
            rw [itemsL_some acc ho hrl] at ht2
            have Ht2 := Asd.mk ht2
            have Hrl := Asd.mk hrl
            clear ho ht ht2 hrl
            go_wp2_with fail
            refine Calls.mono hcall.out ?_
            rintro e w2 ⟨rest, ok, rfl, hyes, _⟩
            obtain ⟨rfl, rfl, hi⟩ := hyes [x] r rfl
            have hI2 := Asd.mk hi
            clear hyes hi hcall hI
            cases r with
            | nil =>
              go_wp2_with fail
              refine (CE.out 93 _).mono ?_
              rintro e w3 ⟨rfl, rfl⟩
              go_wp2_with fail
              refine (CE.out 32 _).mono ?_
              rintro e w3 ⟨rfl, rfl⟩
              go_wp2_with fail
              go_ret2
              exact Bad.out _ _ _ Ht2.out.symm (HIJ.out _ _ hI2.out) rfl
            | cons c t2 =>
              by_cases h93 : c = 93
              · subst h93
                go_wp2_with fail
                refine (C93.out _ _).mono ?_
                rintro e w3 ⟨rfl, rfl⟩
                go_wp2_with fail
                go_ret2
                refine ⟨_, _, rfl, fun l r h => ?_, fun h => ?_⟩
                · rw [← Ht2.out] at h
                  simp only [itemsNext, if_true] at h
                  injection h with h
                  injection h with h1 h2
                  subst h1 h2
                  exact ⟨rfl, rfl, by simpa using hI2.out⟩
                · rw [← Ht2.out] at h; simp [itemsNext] at h
              · by_cases h32 : c = 32
                · subst h32
                  have Ht3 : Asd (itemsL one t2 (acc ++ [x]) = itemsL one t []) := ⟨by rw [← Ht2.out]; simp [itemsNext]⟩
                  clear Ht2
                  go_wp2_with fail
                  refine (CN.out 32 93 (by decide) _ _).mono ?_
                  rintro e w3 ⟨rfl, rfl⟩
                  go_wp2_with fail
                  refine (C32.out _ _).mono ?_
                  rintro e w3 ⟨rfl, rfl⟩
                  go_wp2_with fail
                  refine ⟨⟨t2, acc ++ [x], ⟨rfl⟩, ⟨by have := Hrl.out; have := hl.out; simp at *; omega⟩, Ht3, hI2⟩, ?_⟩
                  show (str t2).size < (str sl).size
                  have := Hrl.out
                  show (List.toArray t2).size < (List.toArray sl).size
                  simp at this ⊢
                  omega
                · have Hn : Asd (itemsL one t [] = none) := ⟨by rw [← Ht2.out]; simp only [itemsNext]; rw [if_neg h93, if_neg h32]⟩
                  clear Ht2
                  go_wp2_with fail
                  refine (CN.out c 93 h93 _ _).mono ?_
                  rintro e w3 ⟨rfl, rfl⟩
                  go_wp2_with fail
                  refine (CN.out c 32 h32 _ _).mono ?_
                  rintro e w3 ⟨rfl, rfl⟩
                  go_wp2_with fail
                  go_ret2
                  exact Bad.out _ _ _ Hn.out (HIJ.out _ _ hI2.out) rfl
    · have e3 : itemsD one (c :: t) = none := by
        show (if c = 91 then _ else none) = none
        rw [if_neg h91]
      rw [e3]
      clear e3
      go_enter Tryz.func91, Tryz.ntmps91
      go_wp2_with fail
      refine (CN.out c 91 h91 _ _).mono ?_
      rintro e w1 ⟨rfl, rfl⟩
      go_wp2_with fail
      go_ret2
      exact Bad.out _ _ _ rfl (HIJ.out _ _ HI.out) rfl
end

section
open Go.RowKit

section
variable {P : Program} {ops : Array Oper}
/-- append(v0, x) as a step of a region that draws its order. -/
theorem step_append_one {o : Oper} {a : Act} {w : World} {K : Act → World → Prop} {Q : Exit → Act → World → Prop} {E : Prop} (hgd : o.guard = none) (s x : Operand) (t : TypeId) (ho : o.op = .call { callee := .builtin .append, args := #[s, x], argTypes := #[t, t] })
    {α : Type} {enc : α → Value} (henc : ∀ x, (enc x).oneCell' = true) (e : TypeId) {bytes : Nat} (ht : P.underlying t = some (.slice e)) (hi : (P.info? e).map (fun i => (i.zero.map (·.cells.size), i.size, i.bytes)) = some (some 1, 1, bytes))
    (B : Nat) (v0 : Value) (hs : a.eval s = v0) (xs : List α) (h0 : OR w B e enc v0 xs) (g c : Nat) (y : α) (hx : a.eval x = .slice (some ⟨g, 0, none⟩) 1 c) (hc : w.cell? ⟨g, 0, none⟩ = some (enc y))
    (hB : B ≤ w.heap.size) (hb : (xs.length + 1) * bytes ≤ 140737488355328) (hm : xs.length + 1 ≤ maxLen)
    (hK : ∀ v' w', OR w' B e enc v' (xs ++ [y]) → w.grownBy w' v0.ownBlock → K (a.put o.dst v') w') : if Region.wanted o (yielded ops a.tmps) = true then Oper.wp P o a w K Q else E := by
  have hw : Region.wanted o (yielded ops a.tmps) = true := by simp [Region.wanted, hgd]
  rw [if_pos hw]
  obtain ⟨v', w', hr, h2, h3, h4⟩ := run_append_or (P := P) henc t o.type e ht hi w B hB v0 xs h0 ⟨g, 0, none⟩ c [y] (fun j x hj => by
    cases j with
    | zero => simp at hj; subst hj; simpa [Addr.add] using hc
    | succ j => simp at hj) hb hm
  unfold Oper.wp execOp
  have e1 : ([y] : List α).length = 1 := rfl
  rw [e1] at hr
  simp only [ho, resolve, invoke, builtin, Sem.run_bind, Sem.run_pure, Result.andThen_ok, List.map_toArray, List.map_cons, List.map_nil, hs, hx, hr]
  exact hK v' w' h2 h3
end

/-- Cell i of the command at block cb holds a row of its own that reads as acc; all else that was there at W is as it was. -/
structure ListInv {α : Type} (i : Nat) (e : TypeId) (enc : α → Value) (W : World) (cb pk : Nat) (cs : Array Value) (acc : List α) (V : World) : Prop where
  row : ∃ v, V.heap[cb]? = some (.cells (cs.setIfInBounds i v) 28 (0, 0)) ∧ OR V (pk + 1) e enc v acc ∧ (acc = [] → v = .slice none 0 0)
  box : V.heap[pk]? = some (.cells #[.pointer (some ⟨cb, 0, none⟩)] 64 (0, 0))
  grown : W.grownBy V (some cb)
theorem ListInv.later {α : Type} {i : Nat} {e : TypeId} {enc : α → Value} {W V V' : World} {cb pk : Nat} {cs : Array Value} {acc : List α} (h : ListInv i e enc W cb pk cs acc V) (hb : Below V.heap.size V V') : ListInv i e enc W cb pk cs acc V' := by
  obtain ⟨v, h1, h2, h3⟩ := h.row
  exact ⟨⟨v, bk_below h1 hb (bk_lt h1), h2.below hb, h3⟩, bk_below h.box hb (bk_lt h.box), grown_trans h.grown (below_to_grown hb _)⟩
theorem ListInv.append {α : Type} {i : Nat} {e : TypeId} {enc : α → Value} {W V V' W' : World} {cb pk : Nat} {cs : Array Value} {acc : List α} {x : α} (hcp : cb < pk) (hWp : W.heap.size ≤ pk) (h : ListInv i e enc W cb pk cs acc V) {v : Value} (hv : V.heap[cb]? = some (.cells (cs.setIfInBounds i v) 28 (0, 0)))
    (hO : OR V (pk + 1) e enc v acc) (hb : Below V.heap.size V V') {v' : Value} (h' : OR W' (pk + 1) e enc v' (acc ++ [x])) (hg : V'.grownBy W' v.ownBlock) : ListInv i e enc W cb pk cs (acc ++ [x]) (W'.setCell ⟨cb, i, none⟩ v') := by
  have hlt := hO.lt
  have hne : ∀ g, g ≤ pk → some g ≠ v.ownBlock := fun g hg e => by have := (hlt g e.symm).1; omega
  have hcb := bk_lt hv
  have hpk := bk_lt h.box
  have hVV := hb.size
  have e1 : W'.heap[cb]? = some (.cells (cs.setIfInBounds i v) 28 (0, 0)) := bk_grown (bk_below hv hb hcb) hg (hne cb (by omega))
  refine ⟨⟨v', ?_, ?_, fun hn => by simp at hn⟩, ?_, ?_⟩
  · have := bk_set e1 i v'
    rw [Array.setIfInBounds_setIfInBounds] at this
    exact this
  · refine h'.grown (row := some cb) ⟨rfl, rfl, rfl, by simp [World.setCell], fun k _ hk => Below.heap_setCell W' ⟨cb, i, none⟩ v' k (fun e => hk (by rw [e]))⟩ ?_
    by_cases hn : v'.ownBlock = none
    · exact .inl hn
    · right
      intro e
      have := (h'.lt cb e).1
      omega
  · exact (Below.heap_setCell W' ⟨cb, i, none⟩ v' pk (show pk ≠ cb by omega)).trans (bk_grown (bk_below h.box hb hpk) hg (hne pk (Nat.le_refl _)))
  · refine ⟨hg.os.trans (hb.os.trans h.grown.os), hg.tape.trans (hb.tape.trans h.grown.tape), hg.output.trans (hb.output.trans h.grown.output), ?_, fun g hgl hgn => ?_⟩
    · show _ ≤ (World.setCell _ _ _).heap.size
      have h1 := h.grown.size
      have h2 := hg.size
      simp [World.setCell]
      omega
    · have hgc : g ≠ cb := fun e => hgn (by rw [e])
      have h1 := h.grown.size
      exact (Below.heap_setCell W' ⟨cb, i, none⟩ v' g hgc).trans ((hg.block g (by omega) (hne g (by omega))).trans ((hb.block g (by omega)).trans (h.grown.block g hgl hgn)))
theorem OR.drew {α : Type} {W : World} {B : Nat} {e : TypeId} {enc : α → Value} {v : Value} {xs : List α} (h : OR W B e enc v xs) : OR W.drew B e enc v xs := h

set_option maxHeartbeats 8000000 in
set_option maxRecDepth 100000 in
theorem list1_calls {B : Nat} {W : World} (hG : Glob B W) {cb pk : Nat} (hBc : B ≤ cb) {cs : Array Value} (hcp : cb < pk) (hWp : W.heap.size ≤ pk) (hcs : 9 < cs.size) (acc : List Int) (hacc : acc.length ≤ 1048576) (s : ByteArray) (hs : s.size ≤ 1048576) (V : World) (hI : ListInv 9 3 encI W cb pk cs acc V) :
    Calls Tryz.prog 92 #[.string s, .pointer (some ⟨pk, 0, none⟩)] V fun e w' =>
      e = .returned (.tuple #[.string (str (((numD s.data.toList).map (·.2)).getD [])), .bool (numD s.data.toList).isSome]) ∧ ListInv 9 3 encI W cb pk cs (acc ++ [((numD s.data.toList).map (·.1)).getD 0]) w' := by
  have hGV : Glob B V := hG.grown hI.grown hBc
  have HN := Asd.mk (number_calls B s hs V hGV)
  unfold NumPost at HN
  obtain ⟨n, hn⟩ : ∃ n, n = ((numD s.data.toList).map (·.1)).getD 0 := ⟨_, rfl⟩
  obtain ⟨r, hr⟩ : ∃ r, r = str (((numD s.data.toList).map (·.2)).getD []) := ⟨_, rfl⟩
  obtain ⟨k, hk⟩ : ∃ k, k = (numD s.data.toList).isSome := ⟨_, rfl⟩
  rw [← hn, ← hr, ← hk] at HN
  rw [← hn, ← hr, ← hk]
  have HI := Asd.mk hI
  have Hcs := Asd.mk hcs
  have Hacc := Asd.mk hacc
  clear hn hr hk hG hGV hI hcs hacc
  go_enter Tryz.func92, Tryz.ntmps92
  go_wp2_with fail
  refine HN.out.mono ?_
  rintro e w1 ⟨rfl, hb1⟩
  have hI1 := HI.out.later hb1
  obtain ⟨v, hv, hO, _⟩ := hI1.row
  have hc9 := bk_cell hv 9
  have hf9 := bk_free hv 9
  have hbx := bk_cell hI1.box 0
  obtain ⟨A, c, rfl⟩ := hO.len
  obtain ⟨m, hm⟩ : ∃ m, m = acc.length := ⟨_, rfl⟩
  rw [← hm] at hv hO hc9
  have hset : (cs.setIfInBounds 9 (.slice A m c))[9]? = some (.slice A m c) := by rw [Array.getElem?_setIfInBounds_self_of_lt Hcs.out]
  rw [hset] at hc9
  simp only [List.getElem?_toArray, List.getElem?_cons_zero] at hbx
  have hcl := bk_lt hv
  have hpl := bk_lt hI1.box
  have HI1 := Asd.mk hI1
  have HV := Asd.mk hv
  have HO := Asd.mk hO
  have Hm := Asd.mk hm
  clear hI1 hv hO hb1 hset hm HI HN
  go_wp2_with fail
  have O2 := Asd.mk (OR.alloc (OR.drew HO.out) (.cells #[.int .i64 n] 3))
  have C2 := Asd.mk (bk_cell (bk_new w1.drew (.cells #[.int .i64 n] 3)) 0)
  have V2 : Asd ((w1.drew.alloc (.cells #[.int .i64 n] 3)).heap[cb]? = some (.cells (cs.setIfInBounds 9 (.slice A m c)) 28 (0, 0))) := ⟨bk_alloc (bk_drewN HV.out 1) _⟩
  have X2 : Asd ((w1.drew.alloc (.cells #[.int .i64 n] 3)).heap[pk]? = some (.cells #[.pointer (some ⟨cb, 0, none⟩)] 64 (0, 0))) := ⟨bk_alloc (bk_drewN HI1.out.box 1) _⟩
  have Bl : Asd (Below w1.heap.size w1 (w1.drew.alloc (.cells #[.int .i64 n] 3))) := ⟨bl_alloc (below_drewN (Below.refl _ _) 1) _⟩
  have Hlt := Asd.mk HO.out.lt
  go_region_law (refine step_append_one rfl _ _ 25 rfl encI_one 3 Tryz.underlying25 infoL (pk + 1) (.slice A m c) rfl acc O2.out w1.heap.size 1 n rfl C2.out (by simp [World.alloc, -World.alloc_eq]; omega) (by have := Hacc.out; omega) (by have := Hacc.out; simp only [maxLen]; omega) ?_; intro v' w' h' g'; have e1 := bk_grown V2.out g' (by intro e; have := (Hlt.out cb e.symm).1; omega); have hc9' := bk_cell e1 9; rw [Array.getElem?_setIfInBounds_self_of_lt Hcs.out] at hc9'; have hf9' := bk_free e1 9; have hbx' := bk_cell (bk_grown X2.out g' (by intro e; have := (Hlt.out pk e.symm).1; omega)) 0; simp only [List.getElem?_toArray, List.getElem?_cons_zero] at hbx'; have FIN := Asd.mk (ListInv.append hcp hWp HI1.out HV.out HO.out Bl.out h' g'); obtain ⟨A', c', hv'⟩ := h'.len; generalize (acc ++ [n]).length = m' at hv'; subst hv'; clear h' g' e1)
  all_goals
    go_wp2_with fail
    go_ret2
    exact ⟨rfl, FIN.out⟩

set_option maxHeartbeats 16000000 in
set_option maxRecDepth 100000 in
theorem names1_calls {W : World} {cb pk : Nat} {cs : Array Value} (hcp : cb < pk) (hWp : W.heap.size ≤ pk) (hcs : 10 < cs.size) (acc : List (List UInt8)) (hacc : acc.length ≤ 1048576) (s : ByteArray) (hs : s.size ≤ 1048576) (V : World) (hI : ListInv 10 9 encS W cb pk cs acc V) :
    Calls Tryz.prog 94 #[.string s, .pointer (some ⟨pk, 0, none⟩)] V fun e w' =>
      e = .returned (.tuple #[.string (str (((unquoteD 2 120 s.data.toList).map (·.2)).getD [])), .bool (unquoteD 2 120 s.data.toList).isSome]) ∧ ListInv 10 9 encS W cb pk cs (acc ++ [bytesOf (((unquoteD 2 120 s.data.toList).map (·.1)).getD [])]) w' := by
  have HQ := Asd.mk (unquote2_calls s hs V)
  unfold UnqPost at HQ
  obtain ⟨h1, h2⟩ := unq2_getD s.data.toList
  obtain ⟨l, hl⟩ : ∃ l, l = ((unquoteD 2 120 s.data.toList).map (·.1)).getD [] := ⟨_, rfl⟩
  obtain ⟨r, hr⟩ : ∃ r, r = str (((unquoteD 2 120 s.data.toList).map (·.2)).getD []) := ⟨_, rfl⟩
  obtain ⟨k, hk⟩ : ∃ k, k = (unquoteD 2 120 s.data.toList).isSome := ⟨_, rfl⟩
  rw [← hl, ← hr, ← hk] at HQ
  rw [← hl] at h1 h2
  rw [← hl, ← hr, ← hk]
  have h2' : l.length ≤ 1073741824 := by have : s.data.toList.length = s.size := by simp
                                         omega
  obtain ⟨x, hx⟩ : ∃ x, x = bytesOf l := ⟨_, rfl⟩
  obtain ⟨sx, hsx⟩ : ∃ sx, sx = str x := ⟨_, rfl⟩
  have HN := Asd.mk (fun W v (B : Nat) (ho : OR W B 115 encU v l) => narrow_calls l h2' h1 v W ho.rd)
  have Hstr := Asd.mk (fun W (B : Nat) v (ho : OR W B 5 encB v (bytesOf l)) => run_string_or (P := Tryz.prog) Tryz.underlying57 Tryz.underlying5 Tryz.underlying9 ho)
  rw [← hx, ← hsx] at Hstr
  rw [← hx]
  have Hsx : Asd (Value.string sx = encS x) := ⟨by rw [hsx]; rfl⟩
  have HI := Asd.mk hI
  have Hcs := Asd.mk hcs
  have Hacc := Asd.mk hacc
  have Hx := Asd.mk hx
  clear hl hr hk hI hcs hacc h1 h2 h2' hx hsx
  go_enter Tryz.func94, Tryz.ntmps94
  go_wp2_with fail
  refine HQ.out.mono ?_
  rintro e w1 ⟨v5, rfl, hO5, hb1⟩
  have hI1 := HI.out.later hb1
  obtain ⟨v, hv, hO, _⟩ := hI1.row
  have hc9 := bk_cell hv 10
  have hf9 := bk_free hv 10
  have hbx := bk_cell hI1.box 0
  obtain ⟨A, c, rfl⟩ := hO.len
  obtain ⟨m, hm⟩ : ∃ m, m = acc.length := ⟨_, rfl⟩
  rw [← hm] at hv hO hc9
  rw [Array.getElem?_setIfInBounds_self_of_lt Hcs.out] at hc9
  simp only [List.getElem?_toArray, List.getElem?_cons_zero] at hbx
  have hcl := bk_lt hv
  have hpl := bk_lt hI1.box
  have HI1 := Asd.mk hI1
  have HV := Asd.mk hv
  have HO := Asd.mk hO
  have Hm := Asd.mk hm
  have O5 := Asd.mk (OR.drew hO5)
  clear hI1 hv hO hb1 hm HI HQ hO5
  go_wp2_with fail
  have Hlt := Asd.mk HO.out.lt
  have B0 : Asd (Below w1.heap.size w1 w1.drew) := ⟨below_drewN (Below.refl _ _) 1⟩
  go_region_law (first
    | (refine step_append_one rfl _ _ 26 rfl encS_one 9 Tryz.underlying26 infoK (pk + 1) (.slice A m c) rfl acc O2.out w2.heap.size 1 x rfl C2.out (by simp [World.alloc, -World.alloc_eq]; omega) (by have := Hacc.out; omega) (by have := Hacc.out; simp only [maxLen]; omega) ?_; intro v' w' h' g'; have e1 := bk_grown V2.out g' (by intro e; have := (Hlt.out cb e.symm).1; omega); have hc9' := bk_cell e1 10; rw [Array.getElem?_setIfInBounds_self_of_lt Hcs.out] at hc9'; have hf9' := bk_free e1 10; have hbx' := bk_cell (bk_grown X2.out g' (by intro e; have := (Hlt.out pk e.symm).1; omega)) 0; simp only [List.getElem?_toArray, List.getElem?_cons_zero] at hbx'; have FIN := Asd.mk (ListInv.append hcp hWp HI1.out HV.out HO.out Bl.out h' g'); obtain ⟨A', c', hv'⟩ := h'.len; generalize (acc ++ [x]).length = m' at hv'; subst hv'; clear h' g' e1)
    | (rw [if_pos (by rfl)]; go_simp; go_at_call 88; refine (HN.out _ _ _ O5.out).mono ?_; rintro e w2 ⟨v2, rfl, hO2, hb2⟩; rw [← Hx.out] at hO2; have hcv := Hstr.out _ _ _ hO2; have hb2' := bl_trans B0.out hb2; have O2 := Asd.mk (OR.alloc (HO.out.below hb2') (.cells #[.string sx] 9)); have C2 : Asd ((w2.alloc (.cells #[.string sx] 9)).cell? ⟨w2.heap.size, 0, none⟩ = some (encS x)) := ⟨by rw [← Hsx.out]; exact bk_cell (bk_new w2 (.cells #[.string sx] 9)) 0⟩; have hV2 := bk_below HV.out hb2' hcl; have hX2 := bk_below HI1.out.box hb2' hpl; have V2 := Asd.mk (bk_alloc hV2 (.cells #[.string sx] 9)); have X2 := Asd.mk (bk_alloc hX2 (.cells #[.string sx] 9)); have Bl := Asd.mk (bl_alloc hb2' (.cells #[.string sx] 9)); have hc2 := bk_cell hV2 10; rw [Array.getElem?_setIfInBounds_self_of_lt Hcs.out] at hc2; have hx2 := bk_cell hX2 0; simp only [List.getElem?_toArray, List.getElem?_cons_zero] at hx2; have hcl2 := bk_lt hV2; have hpl2 := bk_lt hX2; clear hb2 hO2 hb2' hV2 hX2))
  all_goals
    go_wp2_with fail
    go_ret2
    exact ⟨rfl, FIN.out⟩
end

section
open Go.RowKit

theorem readYes_calls (c : Nat) (b : Bool) (s : ByteArray) (w : World) (hc : w.cell? ⟨c, 11, none⟩ = some (.bool b)) (hf : w.frozen? ⟨c, 11, none⟩ = false) : Calls Tryz.prog 68 #[.pointer (some ⟨c, 0, none⟩), .string s] w fun e w' =>
    ∃ rest ok, e = .returned (.tuple #[.string rest, .bool ok]) ∧ (∀ x r, yesD s.data.toList = some (x, r) → ok = true ∧ rest = str r ∧ (w' = if x then w.setCell ⟨c, 11, none⟩ (.bool true) else w)) ∧ (yesD s.data.toList = none → ok = false ∧ w' = w) := by
  have h1 := fun W => cutPrefix_calls s ⟨#[121, 101, 115]⟩ W
  have h2 := fun W => cutPrefix_calls s ⟨#[110, 111]⟩ W
  have q1 : (ByteArray.mk #[121, 101, 115]).data.toList = [121, 101, 115] := rfl
  have q2 : (ByteArray.mk #[110, 111]).data.toList = [110, 111] := rfl
  rw [q1] at h1
  rw [q2] at h2
  obtain ⟨t1, ht1⟩ : ∃ t, t = str (Lib.trimPrefix s.data.toList [121, 101, 115]) := ⟨_, rfl⟩
  obtain ⟨t2, ht2⟩ : ∃ t, t = str (Lib.trimPrefix s.data.toList [110, 111]) := ⟨_, rfl⟩
  rw [← ht1] at h1
  rw [← ht2] at h2
  have HT1 := Asd.mk ht1
  have HT2 := Asd.mk ht2
  by_cases hy : Lib.hasPrefix s.data.toList [121, 101, 115] = true
  · have e : yesD s.data.toList = some (true, Lib.trimPrefix s.data.toList [121, 101, 115]) := by unfold yesD; rw [if_pos hy]
    rw [hy] at h1
    have H1 := Asd.mk h1
    have E := Asd.mk e
    clear h1 h2 hy e ht1 ht2
    go_enter Tryz.func68, Tryz.ntmps68
    go_wp2_with fail
    refine (H1.out _).mono ?_
    rintro e w1 ⟨rfl, rfl⟩
    go_wp2_with fail
    go_ret2
    refine ⟨_, _, rfl, fun x r h => ?_, fun h => (by rw [E.out] at h; cases h)⟩
    rw [E.out] at h
    injection h with h
    injection h with h3 h4
    subst h3 h4
    exact ⟨rfl, HT1.out, rfl⟩
  · have hy : Lib.hasPrefix s.data.toList [121, 101, 115] = false := by simpa using hy
    rw [hy] at h1
    have H1 := Asd.mk h1
    cases hn : Lib.hasPrefix s.data.toList [110, 111] with
    | true =>
      have e : yesD s.data.toList = some (false, Lib.trimPrefix s.data.toList [110, 111]) := by unfold yesD; rw [if_neg (by simp [hy]), if_pos hn]
      rw [hn] at h2
      have H2 := Asd.mk h2
      have E := Asd.mk e
      clear h1 h2 hy e ht1 ht2 hn
      go_enter Tryz.func68, Tryz.ntmps68
      go_wp2_with fail
      refine (H1.out _).mono ?_
      rintro e w1 ⟨rfl, rfl⟩
      go_wp2_with fail
      refine (H2.out _).mono ?_
      rintro e w1 ⟨rfl, rfl⟩
      go_wp2_with fail
      go_ret2
      refine ⟨_, _, rfl, fun x r h => ?_, fun h => (by rw [E.out] at h; cases h)⟩
      rw [E.out] at h
      injection h with h
      injection h with h3 h4
      subst h3 h4
      exact ⟨rfl, HT2.out, rfl⟩
    | false =>
      have e : yesD s.data.toList = none := by unfold yesD; rw [if_neg (by simp [hy]), if_neg (by simp [hn])]
      rw [hn] at h2
      have H2 := Asd.mk h2
      have E := Asd.mk e
      clear h1 h2 hy e ht1 ht2 hn
      go_enter Tryz.func68, Tryz.ntmps68
      go_wp2_with fail
      refine (H1.out _).mono ?_
      rintro e w1 ⟨rfl, rfl⟩
      go_wp2_with fail
      refine (H2.out _).mono ?_
      rintro e w1 ⟨rfl, rfl⟩
      go_wp2_with fail
      go_ret2
      exact ⟨_, _, rfl, fun x r h => (by rw [E.out] at h; cases h), fun _ => ⟨rfl, rfl⟩⟩

theorem ListInv.start {α : Type} {i : Nat} {e : TypeId} {enc : α → Value} {W : World} {cb : Nat} {cs : Array Value} (hrow : W.heap[cb]? = some (.cells cs 28 (0, 0))) (hnil : cs[i]? = some (.slice none 0 0)) :
    ListInv i e enc W cb W.heap.size cs [] (W.alloc (.cells #[.pointer (some ⟨cb, 0, none⟩)] 64)) := by
  have hi : i < cs.size := (Array.getElem?_eq_some_iff.1 hnil).1
  have hv : cs[i] = .slice none 0 0 := (Array.getElem?_eq_some_iff.1 hnil).2
  have hset : cs.setIfInBounds i (.slice none 0 0) = cs := by
    rw [← hv]
    apply Array.ext
    · simp
    · intro k h1 h2
      rw [Array.getElem_setIfInBounds]
      split
      · rename_i h; subst h; rfl
      · rfl
  refine ⟨⟨.slice none 0 0, ?_, OR.nil _ _ _ _, fun _ => rfl⟩, bk_new W _, below_to_grown (bl_alloc (Below.refl _ _) _) _⟩
  rw [hset]
  exact bk_alloc hrow _
set_option maxHeartbeats 2000000 in
set_option maxRecDepth 100000 in
theorem readList_calls {B : Nat} {W : World} (hG : Glob B W) {cb : Nat} (hBc : B ≤ cb) {cs : Array Value} (hrow : W.heap[cb]? = some (.cells cs 28 (0, 0))) (hnil : cs[9]? = some (.slice none 0 0)) (s : ByteArray) (hs : s.size ≤ 1048576) :
    Calls Tryz.prog 64 #[.pointer (some ⟨cb, 0, none⟩), .string s] W (ItemPost (fun acc V => ListInv 9 3 encI W cb W.heap.size cs acc V) (fun V => ∃ acc, ListInv 9 3 encI W cb W.heap.size cs acc V) [] (itemsD numD s.data.toList)) := by
  have hcb := bk_lt hrow
  have hcs : 9 < cs.size := (Array.getElem?_eq_some_iff.1 hnil).1
  have H := Asd.mk (items_calls numD (fun s x r h => numD_len (l := s) (n := x) h) (fun acc V => ListInv 9 3 encI W cb W.heap.size cs acc V) (fun V => ∃ acc, ListInv 9 3 encI W cb W.heap.size cs acc V) 92 #[.pointer (some ⟨W.heap.size, 0, none⟩)]
    (enters_of Tryz.func92 (by kernel_rfl) rfl)
    (fun V acc t hI ht => (list1_calls hG hBc hcb (Nat.le_refl _) hcs acc (by omega) t (by omega) V hI).mono fun e w' ⟨h1, h2⟩ => ⟨_, _, h1, fun l r h => by
        cases hn : numD t.data.toList with
        | none => rw [hn] at h; cases h
        | some x =>
          rw [hn] at h h2
          simp only [Option.map_some, Option.some.injEq, Prod.mk.injEq] at h
          obtain ⟨rfl, rfl⟩ := h
          exact ⟨rfl, rfl, h2⟩, fun h => by
        cases hn : numD t.data.toList with
        | none => exact ⟨rfl, _, h2⟩
        | some x => rw [hn] at h; cases h⟩)
    (fun acc V h => ⟨acc, h⟩) s hs (W.alloc (.cells #[.pointer (some ⟨cb, 0, none⟩)] 64)) (ListInv.start hrow hnil))
  have hm := hmf
  clear hrow hnil hcs hcb
  obtain ⟨Q, hQ⟩ : ∃ Q, Q = ItemPost (fun acc V => ListInv 9 3 encI W cb W.heap.size cs acc V) (fun V => ∃ acc, ListInv 9 3 encI W cb W.heap.size cs acc V) [] (itemsD numD s.data.toList) := ⟨_, rfl⟩
  have HQ := Asd.mk hQ
  clear hQ
  go_enter Tryz.func64, Tryz.ntmps64
  go_wp2_with fail
  refine H.out.mono ?_
  rintro e w2 ⟨rest, ok, rfl, h1, h2⟩
  have H1 := Asd.mk h1
  have H2 := Asd.mk h2
  clear h1 h2
  go_wp2_with fail
  go_ret2
  exact ⟨rest, ok, rfl, H1.out, H2.out⟩
set_option maxHeartbeats 2000000 in
set_option maxRecDepth 100000 in
theorem readNames_calls {W : World} {cb : Nat} {cs : Array Value} (hrow : W.heap[cb]? = some (.cells cs 28 (0, 0))) (hnil : cs[10]? = some (.slice none 0 0)) (s : ByteArray) (hs : s.size ≤ 1048576) :
    Calls Tryz.prog 66 #[.pointer (some ⟨cb, 0, none⟩), .string s] W (ItemPost (fun acc V => ListInv 10 9 encS W cb W.heap.size cs acc V) (fun V => ∃ acc, ListInv 10 9 encS W cb W.heap.size cs acc V) [] (itemsD textD s.data.toList)) := by
  have hcb := bk_lt hrow
  have hcs : 10 < cs.size := (Array.getElem?_eq_some_iff.1 hnil).1
  have H := Asd.mk (items_calls textD (fun s x r h => by rw [txt_text h, List.length_append]; omega) (fun acc V => ListInv 10 9 encS W cb W.heap.size cs acc V) (fun V => ∃ acc, ListInv 10 9 encS W cb W.heap.size cs acc V) 94 #[.pointer (some ⟨W.heap.size, 0, none⟩)]
    (enters_of Tryz.func94 (by kernel_rfl) rfl)
    (fun V acc t hI ht => (names1_calls hcb (Nat.le_refl _) hcs acc (by omega) t (by omega) V hI).mono fun e w' ⟨h1, h2⟩ => ⟨_, _, h1, fun l r h => by
        cases hn : unquoteD 2 120 t.data.toList with
        | none => simp [textD, hn] at h
        | some x =>
          rw [hn] at h2
          simp only [textD, hn, Option.map_some, Option.some.injEq, Prod.mk.injEq] at h
          obtain ⟨rfl, rfl⟩ := h
          exact ⟨rfl, rfl, h2⟩, fun h => by
        cases hn : unquoteD 2 120 t.data.toList with
        | none => exact ⟨rfl, _, h2⟩
        | some x => simp [textD, hn] at h⟩)
    (fun acc V h => ⟨acc, h⟩) s hs (W.alloc (.cells #[.pointer (some ⟨cb, 0, none⟩)] 64)) (ListInv.start hrow hnil))
  have hm := hmf
  clear hrow hnil hcs hcb
  go_enter Tryz.func66, Tryz.ntmps66
  go_wp2_with fail
  refine H.out.mono ?_
  rintro e w2 ⟨rest, ok, rfl, h1, h2⟩
  have H1 := Asd.mk h1
  have H2 := Asd.mk h2
  clear h1 h2
  go_wp2_with fail
  go_ret2
  exact ⟨rest, ok, rfl, H1.out, H2.out⟩

/-- What a reader of a text or of units left. -/
theorem set_cmd {W w1 : World} {cb i : Nat} {cs : Array Value} {v : Value} (hC : W.heap[cb]? = some (.cells cs 28 (0, 0))) (hb : Below W.heap.size W w1) : (w1.setCell ⟨cb, i, none⟩ v).heap[cb]? = some (.cells (cs.setIfInBounds i v) 28 (0, 0)) ∧ W.grownBy (w1.setCell ⟨cb, i, none⟩ v) (some cb) ∧
    (∀ g c t f, cb < g → W.heap[g]? = some (.cells c t f) → (w1.setCell ⟨cb, i, none⟩ v).heap[g]? = W.heap[g]? ∧ cb < g) := by
  refine ⟨bk_set (bk_below hC hb (bk_lt hC)) i v, grown_set (below_to_grown hb _) i v, fun g c t f hg e => ⟨(Below.heap_setCell w1 ⟨cb, i, none⟩ v g (show g ≠ cb by omega)).trans (hb.block g (bk_lt e)), hg⟩⟩
theorem inv_cmd {α : Type} {i : Nat} {e : TypeId} {enc : α → Value} {W V : World} {cb : Nat} {cs : Array Value} {acc : List α} (hcb : cb < W.heap.size) (h : ListInv i e enc W cb W.heap.size cs acc V) : ∃ v, V.heap[cb]? = some (.cells (cs.setIfInBounds i v) 28 (0, 0)) ∧ Rd V (cb < ·) enc v acc ∧ (acc = [] → v = .slice none 0 0) ∧ W.grownBy V (some cb) ∧
    (∀ g c t f, cb < g → W.heap[g]? = some (.cells c t f) → V.heap[g]? = W.heap[g]? ∧ cb < g) := by
  obtain ⟨v, h1, h2, h3⟩ := h.row
  exact ⟨v, h1, h2.rd.kept fun g _ _ _ hg _ => ⟨rfl, by omega⟩, h3, h.grown, fun g c t f hg e => ⟨h.grown.block g (bk_lt e) (by intro e; injection e with e; omega), hg⟩⟩

theorem readOk_all {c : UInt8} (hc : c ∈ letters) : ReadOk rdD c := by
  by_cases hn : isNum c
  · exact read_num rdD c hn fun s m => by rcases hn with rfl | rfl | rfl | rfl | rfl <;> rfl
  · simp only [letters, List.mem_cons, List.not_mem_nil, or_false] at hc
    have hc' : (c = 83 ∨ c = 84) ∨ c = 68 ∨ c = 76 ∨ c = 75 ∨ c = 89 := by
      simp only [isNum, not_or] at hn
      rcases hc with h | h | h | h | h | h | h | h | h | h | h
      · exact absurd h hn.1
      · exact absurd h hn.2.1
      · exact absurd h hn.2.2.1
      · exact absurd h hn.2.2.2.1
      · exact absurd h hn.2.2.2.2
      · exact .inl (.inl h)
      · exact .inl (.inr h)
      · exact .inr (.inl h)
      · exact .inr (.inr (.inl h))
      · exact .inr (.inr (.inr (.inl h)))
      · exact .inr (.inr (.inr (.inr h)))
    clear hc hn
    rcases hc' with hc | rfl | rfl | rfl | rfl
    · intro W B lo hi r cb m s hG hB hF ⟨cs, hC, ⟨vD, vL, vK, hcs, d1, d2, d3⟩, hne⟩ _ hs
      subst hcs
      obtain ⟨b, g, i, hl, hbx, hL, he, hv, hset⟩ := text_place hF hc m vD vL vK
      refine ⟨86, #[.pointer (some ⟨b, 0, none⟩)], _, hl, enters_of Tryz.func86 (by kernel_rfl) rfl, fun w => fr_text b _ w, ?_⟩
      refine (text2_calls hL he cb b _ s hs W (bk_cell hbx 0) ((bk_cell hC i).trans hv) (bk_free hC i)).mono ?_
      rintro e w' ⟨rfl, w1, v, hb1, rfl, rfl⟩
      obtain ⟨q1, q2, q3⟩ := set_cmd (i := i) (v := .string (str (bytesOf (((unquoteD 2 120 s.data.toList).map (·.1)).getD [])))) hC hb1
      rw [hset] at q1
      refine ⟨_, _, _, rfl, q2, ⟨_, q1, ⟨vD, vL, vK, rfl, ?_, ?_, ?_⟩, ?_⟩, ?_, ?_⟩
      · split <;> exact d1.kept q3
      · split <;> exact d2.kept q3
      · split <;> exact d3.kept q3
      · split <;> exact hne
      · intro m2 r2 h
        cases hn : unquoteD 2 120 s.data.toList with
        | none => rcases hc with rfl | rfl <;> (simp [rdD, textD, hn] at h)
        | some x =>
          rcases hc with rfl | rfl
          · have h : ((textD s.data.toList).map fun x => ({ m with S := x.1 }, x.2)) = some (m2, r2) := h
            simp only [textD, hn, Option.map_some, Option.some.injEq, Prod.mk.injEq] at h
            obtain ⟨rfl, rfl⟩ := h
            exact ⟨rfl, rfl, rfl⟩
          · have h : ((textD s.data.toList).map fun x => ({ m with T := x.1 }, x.2)) = some (m2, r2) := h
            simp only [textD, hn, Option.map_some, Option.some.injEq, Prod.mk.injEq] at h
            obtain ⟨rfl, rfl⟩ := h
            exact ⟨rfl, rfl, rfl⟩
      · intro h
        cases hn : unquoteD 2 120 s.data.toList with
        | none => rfl
        | some x => rcases hc with rfl | rfl <;> (simp [rdD, textD, hn] at h)
    · intro W B lo hi r cb m s hG hB hF ⟨cs, hC, ⟨vD, vL, vK, hcs, d1, d2, d3⟩, hne⟩ _ hs
      subst hcs
      refine ⟨62, #[], _, (plain_place hF).1, enters_of Tryz.func62 (by kernel_rfl) rfl, fun w => fr_plain _ _ w, ?_⟩
      refine (readData_calls cb _ s hs W (bk_cell hC 8) (bk_free hC 8)).mono ?_
      rintro e w' ⟨rfl, w1, v, hb1, hO, rfl⟩
      obtain ⟨q1, q2, q3⟩ := set_cmd (i := 8) (v := v) hC hb1
      have hcb := bk_lt hC
      have hOr : Rd (w1.setCell ⟨cb, 8, none⟩ v) (cb < ·) encU v (((unquoteD 4 117 s.data.toList).map (·.1)).getD []) := hO.rd.kept fun g _ _ _ hg _ => ⟨Below.heap_setCell w1 ⟨cb, 8, none⟩ v g (show g ≠ cb by omega), by omega⟩
      refine ⟨_, _, { m with data := ((unquoteD 4 117 s.data.toList).map (·.1)).getD [] }, rfl, q2, ⟨_, q1, ⟨v, vL, vK, rfl, hOr, d2.kept q3, d3.kept q3⟩, hne⟩, ?_, ?_⟩
      · intro m2 r2 h
        have h : ((unquoteD 4 117 s.data.toList).map fun x => ({ m with data := x.1 }, x.2)) = some (m2, r2) := h
        cases hn : unquoteD 4 117 s.data.toList with
        | none => rw [hn] at h; cases h
        | some x =>
          rw [hn] at h
          simp only [Option.map_some, Option.some.injEq, Prod.mk.injEq] at h
          obtain ⟨rfl, rfl⟩ := h
          exact ⟨rfl, rfl, rfl⟩
      · intro h
        have h : ((unquoteD 4 117 s.data.toList).map fun x => (({ m with data := x.1 } : Cmd), x.2)) = none := h
        cases hn : unquoteD 4 117 s.data.toList with
        | none => rfl
        | some x => rw [hn] at h; cases h
    · intro W B lo hi r cb m s hG hB hF ⟨cs, hC, ⟨vD, vL, vK, hcs, d1, d2, d3⟩, hne⟩ hz hs
      have hm := hz.1 rfl
      refine ⟨64, #[], _, (plain_place hF).2.1, enters_of Tryz.func64 (by kernel_rfl) rfl, fun w => fr_plain _ _ w, ?_⟩
      refine (readList_calls hG hB hC (hne.1 hm) s hs).mono ?_
      rintro e w' ⟨rest, ok, rfl, hy, hnn⟩
      have hcb := bk_lt hC
      have mk : ∀ acc, ListInv 9 3 encI W cb W.heap.size cs acc w' → W.grownBy w' (some cb) ∧ CmdAt w' cb { m with list := acc } := fun acc hI => by
        obtain ⟨v, e1, e2, e3, e4, e5⟩ := inv_cmd hcb hI
        subst hcs
        exact ⟨e4, _, e1, ⟨vD, v, vK, rfl, d1.kept e5, e2, d3.kept e5⟩, fun h => by rw [e3 h]; rfl, hne.2⟩
      cases ho : itemsD numD s.data.toList with
      | none =>
        obtain ⟨h1, acc, h2⟩ := hnn ho
        obtain ⟨g1, g2⟩ := mk acc h2
        refine ⟨_, _, _, rfl, g1, g2, fun m2 r2 h => ?_, fun _ => h1⟩
        have h : ((itemsD numD s.data.toList).map fun x => ({ m with list := m.list ++ x.1 }, x.2)) = some (m2, r2) := h
        rw [ho] at h; cases h
      | some x =>
        obtain ⟨l, r'⟩ := x
        obtain ⟨h1, h2, h3⟩ := hy l r' ho
        obtain ⟨g1, g2⟩ := mk l (by simpa using h3)
        refine ⟨_, _, _, rfl, g1, g2, fun m2 r2 h => ?_, fun h => ?_⟩
        · have h : ((itemsD numD s.data.toList).map fun x => ({ m with list := m.list ++ x.1 }, x.2)) = some (m2, r2) := h
          rw [ho, hm] at h
          simp only [Option.map_some, Option.some.injEq, Prod.mk.injEq, List.nil_append] at h
          obtain ⟨rfl, rfl⟩ := h
          exact ⟨h1, rfl, h2⟩
        · have h : ((itemsD numD s.data.toList).map fun x => (({ m with list := m.list ++ x.1 } : Cmd), x.2)) = none := h
          rw [ho] at h; cases h
    · intro W B lo hi r cb m s hG hB hF ⟨cs, hC, ⟨vD, vL, vK, hcs, d1, d2, d3⟩, hne⟩ hz hs
      have hm := hz.2.1 rfl
      refine ⟨66, #[], _, (plain_place hF).2.2.1, enters_of Tryz.func66 (by kernel_rfl) rfl, fun w => fr_plain _ _ w, ?_⟩
      refine (readNames_calls hC (hne.2 hm) s hs).mono ?_
      rintro e w' ⟨rest, ok, rfl, hy, hnn⟩
      have hcb := bk_lt hC
      have mk : ∀ acc, ListInv 10 9 encS W cb W.heap.size cs acc w' → W.grownBy w' (some cb) ∧ CmdAt w' cb { m with names := acc } := fun acc hI => by
        obtain ⟨v, e1, e2, e3, e4, e5⟩ := inv_cmd hcb hI
        subst hcs
        exact ⟨e4, _, e1, ⟨vD, vL, v, rfl, d1.kept e5, d2.kept e5, e2⟩, hne.1, fun h => by rw [e3 h]; rfl⟩
      cases ho : itemsD textD s.data.toList with
      | none =>
        obtain ⟨h1, acc, h2⟩ := hnn ho
        obtain ⟨g1, g2⟩ := mk acc h2
        refine ⟨_, _, _, rfl, g1, g2, fun m2 r2 h => ?_, fun _ => h1⟩
        have h : ((itemsD textD s.data.toList).map fun x => ({ m with names := m.names ++ x.1 }, x.2)) = some (m2, r2) := h
        rw [ho] at h; cases h
      | some x =>
        obtain ⟨l, r'⟩ := x
        obtain ⟨h1, h2, h3⟩ := hy l r' ho
        obtain ⟨g1, g2⟩ := mk l (by simpa using h3)
        refine ⟨_, _, _, rfl, g1, g2, fun m2 r2 h => ?_, fun h => ?_⟩
        · have h : ((itemsD textD s.data.toList).map fun x => ({ m with names := m.names ++ x.1 }, x.2)) = some (m2, r2) := h
          rw [ho, hm] at h
          simp only [Option.map_some, Option.some.injEq, Prod.mk.injEq, List.nil_append] at h
          obtain ⟨rfl, rfl⟩ := h
          exact ⟨h1, rfl, h2⟩
        · have h : ((itemsD textD s.data.toList).map fun x => (({ m with names := m.names ++ x.1 } : Cmd), x.2)) = none := h
          rw [ho] at h; cases h
    · intro W B lo hi r cb m s hG hB hF ⟨cs, hC, ⟨vD, vL, vK, hcs, d1, d2, d3⟩, hne⟩ hz hs
      have hm := hz.2.2 rfl
      subst hcs
      refine ⟨68, #[], _, (plain_place hF).2.2.2, enters_of Tryz.func68 (by kernel_rfl) rfl, fun w => fr_plain _ _ w, ?_⟩
      refine (readYes_calls cb m.yes s W (bk_cell hC 11) (bk_free hC 11)).mono ?_
      rintro e w' ⟨rest, ok, rfl, hy, hnn⟩
      cases ho : yesD s.data.toList with
      | none =>
        obtain ⟨h1, rfl⟩ := hnn ho
        refine ⟨_, _, m, rfl, World.grownBy.refl _ _, ⟨_, hC, ⟨vD, vL, vK, rfl, d1, d2, d3⟩, hne⟩, fun m2 r2 h => ?_, fun _ => h1⟩
        have h : ((yesD s.data.toList).map fun x => ({ m with yes := m.yes || x.1 }, x.2)) = some (m2, r2) := h
        rw [ho] at h; cases h
      | some x =>
        obtain ⟨b, r'⟩ := x
        obtain ⟨h1, h2, h3⟩ := hy b r' ho
        have hno : rdD 89 s.data.toList m ≠ none := fun h => by
          have h : ((yesD s.data.toList).map fun x => (({ m with yes := m.yes || x.1 } : Cmd), x.2)) = none := h
          rw [ho] at h; cases h
        have hyes : ∀ m2 r2, rdD 89 s.data.toList m = some (m2, r2) → ({ m with yes := b } : Cmd) = m2 ∧ r' = r2 := fun m2 r2 h => by
          have h : ((yesD s.data.toList).map fun x => ({ m with yes := m.yes || x.1 }, x.2)) = some (m2, r2) := h
          rw [ho, hm] at h
          simpa using h
        cases b with
        | true =>
          simp only [if_true] at h3
          subst h3
          obtain ⟨q1, q2, q3⟩ := set_cmd (i := 11) (v := .bool true) hC (Below.refl _ _)
          refine ⟨_, _, { m with yes := true }, rfl, q2, ⟨_, q1, ⟨vD, vL, vK, rfl, d1.kept q3, d2.kept q3, d3.kept q3⟩, hne⟩, fun m2 r2 h => ?_, fun h => absurd h hno⟩
          obtain ⟨e1, e2⟩ := hyes m2 r2 h
          exact ⟨h1, e1, by rw [h2, e2]⟩
        | false =>
          simp only [Bool.false_eq_true, if_false] at h3
          subst h3
          refine ⟨_, _, m, rfl, World.grownBy.refl _ _, ⟨_, hC, ⟨vD, vL, vK, rfl, d1, d2, d3⟩, hne⟩, fun m2 r2 h => ?_, fun h => absurd h hno⟩
          obtain ⟨e1, e2⟩ := hyes m2 r2 h
          refine ⟨h1, ?_, by rw [h2, e2]⟩
          rw [← e1, ← hm]

theorem keepsZ_all {c : UInt8} (hc : c ∈ letters) : KeepsZ rdD c := by
  intro s m m2 r2 h
  have num : ∀ c, (numD s).map (fun x => (setNum c x.1 m, x.2)) = some (m2, r2) → r2.length ≤ s.length ∧ ∀ c', c' ≠ c → ZeroF m c' → ZeroF m2 c' := fun c h => by
    rw [Option.map_eq_some_iff] at h
    obtain ⟨⟨v, r⟩, h1, h2⟩ := h
    simp only [Prod.mk.injEq] at h2
    obtain ⟨rfl, rfl⟩ := h2
    exact ⟨numD_len (n := v) h1, fun c' _ hz => zeroF_num c v m hz⟩
  simp only [letters, List.mem_cons, List.not_mem_nil, or_false] at hc
  rcases hc with rfl | rfl | rfl | rfl | rfl | rfl | rfl | rfl | rfl | rfl | rfl
  · exact num 65 h
  · exact num 66 h
  · exact num 67 h
  · exact num 78 h
  · exact num 77 h
  · have h : (textD s).map (fun x => ({ m with S := x.1 }, x.2)) = some (m2, r2) := h
    rw [Option.map_eq_some_iff] at h
    obtain ⟨⟨v, r⟩, h1, h2⟩ := h
    simp only [Prod.mk.injEq] at h2
    obtain ⟨rfl, rfl⟩ := h2
    exact ⟨by rw [txt_text h1, List.length_append]; omega, fun c' _ hz => hz⟩
  · have h : (textD s).map (fun x => ({ m with T := x.1 }, x.2)) = some (m2, r2) := h
    rw [Option.map_eq_some_iff] at h
    obtain ⟨⟨v, r⟩, h1, h2⟩ := h
    simp only [Prod.mk.injEq] at h2
    obtain ⟨rfl, rfl⟩ := h2
    exact ⟨by rw [txt_text h1, List.length_append]; omega, fun c' _ hz => hz⟩
  · have h : (unquoteD 4 117 s).map (fun x => ({ m with data := x.1 }, x.2)) = some (m2, r2) := h
    rw [Option.map_eq_some_iff] at h
    obtain ⟨⟨v, r⟩, h1, h2⟩ := h
    simp only [Prod.mk.injEq] at h2
    obtain ⟨rfl, rfl⟩ := h2
    exact ⟨by rw [(quote_unquote (by decide) h1).1, List.length_append]; omega, fun c' _ hz => hz⟩
  · have h : (itemsD numD s).map (fun x => ({ m with list := m.list ++ x.1 }, x.2)) = some (m2, r2) := h
    rw [Option.map_eq_some_iff] at h
    obtain ⟨⟨v, r⟩, h1, h2⟩ := h
    simp only [Prod.mk.injEq] at h2
    obtain ⟨rfl, rfl⟩ := h2
    refine ⟨?_, fun c' hne hz => ⟨fun e => absurd e hne, hz.2.1, hz.2.2⟩⟩
    rw [(items_back numD Lib.itoa (fun _ => True) (fun s x r h => ⟨(itoa_numD h).1, trivial⟩) h1).1]
    simp only [List.length_append]; omega
  · have h : (itemsD textD s).map (fun x => ({ m with names := m.names ++ x.1 }, x.2)) = some (m2, r2) := h
    rw [Option.map_eq_some_iff] at h
    obtain ⟨⟨v, r⟩, h1, h2⟩ := h
    simp only [Prod.mk.injEq] at h2
    obtain ⟨rfl, rfl⟩ := h2
    refine ⟨?_, fun c' hne hz => ⟨hz.1, fun e => absurd e hne, hz.2.2⟩⟩
    rw [(items_back textD txtD (fun _ => True) (fun s x r h => ⟨txt_text h, trivial⟩) h1).1]
    simp only [List.length_append]; omega
  · have h : (yesD s).map (fun x => ({ m with yes := m.yes || x.1 }, x.2)) = some (m2, r2) := h
    rw [Option.map_eq_some_iff] at h
    obtain ⟨⟨v, r⟩, h1, h2⟩ := h
    simp only [Prod.mk.injEq] at h2
    obtain ⟨rfl, rfl⟩ := h2
    refine ⟨?_, fun c' hne hz => ⟨hz.1, hz.2.1, fun e => absurd e hne⟩⟩
    unfold yesD at h1
    split at h1
    · simp only [Option.some.injEq, Prod.mk.injEq] at h1
      rw [← h1.2]; exact Lib.trimPrefix_le _ _
    · split at h1
      · simp only [Option.some.injEq, Prod.mk.injEq] at h1
        rw [← h1.2]; exact Lib.trimPrefix_le _ _
      · cases h1
/-- Whatever line: its fields are read as rdD says. -/
theorem covered_all (l : List UInt8) : Covered rdD l := fun c hc => ⟨letter_lt (flds_letter hc), readOk_all (flds_letter hc), keepsZ_all (flds_letter hc)⟩
end
end Go.Proofs.YthclgijnfopikaaGreatDoor
