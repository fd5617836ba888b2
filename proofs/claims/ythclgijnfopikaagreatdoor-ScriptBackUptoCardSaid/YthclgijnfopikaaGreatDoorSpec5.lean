/- Facts on the reader's model. -/
import Derived.Test.YthclgijnfopikaaGreatDoorSpec4
namespace Go.Proofs.YthclgijnfopikaaGreatDoor
theorem index_nil : Lib.index [] [10] = -1 := by decide +kernel
theorem cut_rest {l : List UInt8} (h : (Lib.cut l [10]).2.2 = true) : ∃ k, (Lib.cut l [10]).2.1 = l.drop (k + 1) ∧ (Lib.cut l [10]).2.1.length < l.length := by
  unfold Lib.cut at h ⊢
  split at h
  · rename_i h0
    rw [if_pos h0]
    refine ⟨(Lib.index l [10]).toNat, rfl, ?_⟩
    cases l with
    | nil => rw [index_nil] at h0; exact absurd h0 (by decide)
    | cons a r => simp; omega
  · simp at h
theorem rl_some {r r1 : RS} {l : List UInt8} (h : r.lineD = (some l, r1)) : r1.left.length < r.left.length ∧ r1.at_ = r.at_ + 1 ∧ r1.many = r.many ∧ r1.why = r.why ∧ l = (Lib.cut r.left [10]).1 ∧ ∃ k, r1.left = r.left.drop (k + 1) := by
  unfold RS.lineD at h
  split at h
  · rename_i h0
    obtain ⟨k, hk, hl⟩ := cut_rest h0
    injection h with h1 h2
    injection h1 with h1
    subst h1 h2
    exact ⟨hl, rfl, rfl, rfl, rfl, k, hk⟩
  · cases h
theorem rl_no {r r1 : RS} (h : r.lineD = (none, r1)) : r1 = ⟨r.left, r.at_ + 1, r.many, 20⟩ := by
  unfold RS.lineD at h
  split at h
  · cases h
  · injection h with h1 h2; exact h2.symm
theorem cmd_left (rd : Reader) (l : List UInt8) (r : RS) : (r.cmdD rd l).2.left = r.left ∧ (r.cmdD rd l).2.at_ = r.at_ ∧ (r.cmdD rd l).2.many = r.many + 1 := ⟨rfl, rfl, rfl⟩
theorem mainD_end (rd : Reader) (n : Nat) (acc : List Cmd) {r : RS} (h : r.left = []) : mainD rd n acc r = (acc, r) := by
  cases n with
  | zero => rfl
  | succ n => unfold mainD; rw [if_pos h]
theorem mainD_step (rd : Reader) (n : Nat) (acc : List Cmd) {r : RS} (h : r.left ≠ []) : mainD rd (n + 1) acc r = match r.lineD with
      | (none, r1) => ([], r1)
      | (some l, r1) => match r1.cmdD rd l with
        | (none, r2) => ([], r2)
        | (some m, r2) => mainD rd n (acc ++ [m]) r2 := by
  rw [mainD, if_neg h]
  rfl
theorem mainD_no (rd : Reader) (n : Nat) (acc : List Cmd) {r r1 : RS} (h : r.left ≠ []) (hl : r.lineD = (none, r1)) : mainD rd (n + 1) acc r = ([], r1) := by
  rw [mainD_step rd n acc h, hl]
theorem mainD_bad (rd : Reader) (n : Nat) (acc : List Cmd) {r r1 : RS} {l : List UInt8} (h : r.left ≠ []) (hl : r.lineD = (some l, r1)) (hc : (r1.cmdD rd l).1 = none) : mainD rd (n + 1) acc r = ([], (r1.cmdD rd l).2) := by
  rw [mainD_step rd n acc h, hl]
  simp only []
  rw [show r1.cmdD rd l = ((r1.cmdD rd l).1, (r1.cmdD rd l).2) from rfl, hc]
theorem mainD_good (rd : Reader) (n : Nat) (acc : List Cmd) {r r1 : RS} {l : List UInt8} {m : Cmd} (h : r.left ≠ []) (hl : r.lineD = (some l, r1)) (hc : (r1.cmdD rd l).1 = some m) : mainD rd (n + 1) acc r = mainD rd n (acc ++ [m]) (r1.cmdD rd l).2 := by
  rw [mainD_step rd n acc h, hl]
  simp only []
  rw [show r1.cmdD rd l = ((r1.cmdD rd l).1, (r1.cmdD rd l).2) from rfl, hc]
theorem progD_no (rd : Reader) (n : Nat) (acc : List Cmd) {r r1 : RS} (hl : r.lineD = (none, r1)) : progD rd (n + 1) acc r = (acc, r1) := by
  rw [progD, hl]
theorem progD_end (rd : Reader) (n : Nat) (acc : List Cmd) {r r1 : RS} (hl : r.lineD = (some [101, 110, 100], r1)) : progD rd (n + 1) acc r = (acc, r1) := by
  rw [progD, hl]; rfl
theorem progD_step (rd : Reader) (n : Nat) (acc : List Cmd) {r r1 : RS} {l : List UInt8} (hl : r.lineD = (some l, r1)) (he : l ≠ [101, 110, 100]) : progD rd (n + 1) acc r = match r1.cmdD rd l with
        | (none, r2) => ([], r2)
        | (some m, r2) => progD rd n (acc ++ [m]) r2 := by
  rw [progD, hl]; simp only []; rw [if_neg he]; rfl
theorem progD_bad (rd : Reader) (n : Nat) (acc : List Cmd) {r r1 : RS} {l : List UInt8} (hl : r.lineD = (some l, r1)) (he : l ≠ [101, 110, 100]) (hc : (r1.cmdD rd l).1 = none) : progD rd (n + 1) acc r = ([], (r1.cmdD rd l).2) := by
  rw [progD_step rd n acc hl he, show r1.cmdD rd l = ((r1.cmdD rd l).1, (r1.cmdD rd l).2) from rfl, hc]
theorem progD_good (rd : Reader) (n : Nat) (acc : List Cmd) {r r1 : RS} {l : List UInt8} {m : Cmd} (hl : r.lineD = (some l, r1)) (he : l ≠ [101, 110, 100]) (hc : (r1.cmdD rd l).1 = some m) : progD rd (n + 1) acc r = progD rd n (acc ++ [m]) (r1.cmdD rd l).2 := by
  rw [progD_step rd n acc hl he, show r1.cmdD rd l = ((r1.cmdD rd l).1, (r1.cmdD rd l).2) from rfl, hc]
theorem loop_why (rd : Reader) (n : Nat) (ps : List (List Cmd)) {r : RS} (h : r.why ≠ 0) : loopD rd n ps r = (ps, [], r) := by
  cases n with
  | zero => rfl
  | succ n => rw [loopD, if_pos h]
theorem loop_no (rd : Reader) (n : Nat) (ps : List (List Cmd)) {r r1 : RS} (h : r.why = 0) (hl : r.lineD = (none, r1)) : loopD rd (n + 1) ps r = (ps, [], r1) := by
  rw [loopD, if_neg (by simp [h]), hl]
theorem loop_main (rd : Reader) (n : Nat) (ps : List (List Cmd)) {r r1 : RS} (h : r.why = 0) (hl : r.lineD = (some [109, 97, 105, 110], r1)) : loopD rd (n + 1) ps r = (ps, mainD rd r1.left.length [] r1) := by
  rw [loopD, if_neg (by simp [h]), hl]; rfl
theorem loop_bad (rd : Reader) (n : Nat) (ps : List (List Cmd)) {r r1 : RS} {l : List UInt8} (h : r.why = 0) (hl : r.lineD = (some l, r1)) (h1 : l ≠ [109, 97, 105, 110]) (h2 : l ≠ [112, 114, 111, 103, 114, 97, 109]) : loopD rd (n + 1) ps r = (ps, [], ⟨r1.left, r1.at_, r1.many, 20⟩) := by
  rw [loopD, if_neg (by simp [h]), hl]; simp only []; rw [if_neg h1, if_pos h2]
theorem loop_many (rd : Reader) (n : Nat) (ps : List (List Cmd)) {r r1 : RS} (h : r.why = 0) (hl : r.lineD = (some [112, 114, 111, 103, 114, 97, 109], r1)) (h3 : ps.length = 256) : loopD rd (n + 1) ps r = (ps, [], ⟨r1.left, r1.at_, r1.many, 3⟩) := by
  rw [loopD, if_neg (by simp [h]), hl]; simp only []; rw [if_neg (by decide), if_neg (by decide), if_pos h3]
theorem loop_prog (rd : Reader) (n : Nat) (ps : List (List Cmd)) {r r1 : RS} (h : r.why = 0) (hl : r.lineD = (some [112, 114, 111, 103, 114, 97, 109], r1)) (h3 : ps.length ≠ 256) : loopD rd (n + 1) ps r = loopD rd n (ps ++ [(progD rd (r1.left.length + 1) [] r1).1]) (progD rd (r1.left.length + 1) [] r1).2 := by
  rw [loopD, if_neg (by simp [h]), hl]; simp only []; rw [if_neg (by decide), if_neg (by decide), if_neg h3]
end Go.Proofs.YthclgijnfopikaaGreatDoor
