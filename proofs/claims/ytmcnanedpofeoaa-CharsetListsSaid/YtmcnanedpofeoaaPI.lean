/-
  CharsetLists.
-/
import Derived.Test.YtmcnanedpofeoaaPH
import Derived.Test.YtmcnanedpofeoaaPE
namespace Go.Vc
open Go

theorem SameRuns_l1 {l : List Run} (hl : l.length < 1000) (d : Nat) : ∀ (j i : Nat), i + d = l.length → d < j → F.ref01.SameRuns_l1 l l j (i : Int) = some (.done ()) := by
  induction d with
  | zero =>
    intro j i hi hj
    cases j with
    | zero => omega
    | succ j =>
      simp only [F.ref01.SameRuns_l1]
      rw [if_neg (by rw [decide_eq_true_eq]; omega)]
  | succ d ih =>
    intro j i hi hj
    cases j with
    | zero => omega
    | succ j =>
      simp only [F.ref01.SameRuns_l1]
      have h3 : IntKind.wrap .i64 ((i : Int) + 1) = ((i + 1 : Nat) : Int) := by rw [wrap_i64 (by omega) (by omega)]; rfl
      rw [if_pos (by rw [decide_eq_true_eq]; omega), if_pos (by rw [inR_iff]; omega), if_pos (by rw [inR_iff]; omega), if_neg (by simp), h3]
      exact ih j (i + 1) (by omega) (by omega)
theorem SameRuns_self {l : List Run} (hl : l.length < 1000) {k : Nat} (hk : l.length < k) : F.ref01.SameRuns k l l = some true := by
  unfold F.ref01.SameRuns
  rw [if_neg (by simp)]
  have := SameRuns_l1 hl l.length k 0 (by omega) hk
  have h2 : F.ref01.SameRuns_l1 l l k 0 = some (.done ()) := this
  rw [h2]; rfl
theorem Lists_l1 (d : Nat) : ∀ (l : List Int) (j i : Nat), l.length < 1000 → i + d = l.length → d < j → ∃ o, F.law01.CharsetLists_l1 j l (i : Int) = some o := by
  induction d with
  | zero =>
    intro l j i hl hi hj
    cases j with
    | zero => omega
    | succ j =>
      simp only [F.law01.CharsetLists_l1]
      rw [if_neg (by rw [decide_eq_true_eq]; omega)]
      exact ⟨_, rfl⟩
  | succ d ih =>
    intro l j i hl hi hj
    cases j with
    | zero => omega
    | succ j =>
      simp only [F.law01.CharsetLists_l1]
      have h3 : IntKind.wrap .i64 ((i : Int) + 1) = ((i + 1 : Nat) : Int) := by rw [wrap_i64 (by omega) (by omega)]; rfl
      rw [if_pos (by rw [decide_eq_true_eq]; omega), if_pos (by rw [inR_iff]; omega), h3]
      exact ih _ j (i + 1) (by rw [set_len]; exact hl) (by rw [set_len]; omega) (by omega)
theorem Lists_l2 (d : Nat) : ∀ (l : List Run) (j i : Nat), l.length < 1000 → i + d = l.length → d < j → ∃ o, F.law01.CharsetLists_l2 j l (i : Int) = some o := by
  induction d with
  | zero =>
    intro l j i hl hi hj
    cases j with
    | zero => omega
    | succ j =>
      simp only [F.law01.CharsetLists_l2]
      rw [if_neg (by rw [decide_eq_true_eq]; omega)]
      exact ⟨_, rfl⟩
  | succ d ih =>
    intro l j i hl hi hj
    cases j with
    | zero => omega
    | succ j =>
      simp only [F.law01.CharsetLists_l2]
      have h3 : IntKind.wrap .i64 ((i : Int) + 1) = ((i + 1 : Nat) : Int) := by rw [wrap_i64 (by omega) (by omega)]; rfl
      rw [if_pos (by rw [decide_eq_true_eq]; omega), if_pos (by rw [inR_iff]; omega), h3]
      exact ih _ j (i + 1) (by rw [set_len]; exact hl) (by rw [set_len]; omega) (by omega)
theorem law_Lists {s : S4} (hs : okS s) : F.law01.CharsetLists 300 s = some true := by
  have hb := upTo_len s 256
  have hc := Cr_len s 256
  obtain ⟨o1, h1⟩ := Lists_l1 (allB s).length (allB s) 300 0 (by unfold allB; omega) (by omega) (by unfold allB; omega)
  obtain ⟨o2, h2⟩ := Lists_l2 (Cr s 256).length (Cr s 256) 300 0 (by omega) (by omega) (by omega)
  have h1' : F.law01.CharsetLists_l1 300 (allB s) 0 = some o1 := h1
  have h2' : F.law01.CharsetLists_l2 300 (Cr s 256) 0 = some o2 := h2
  unfold F.law01.CharsetLists
  rw [Bytes_eq, Option.bind_some, Runs_eq hs, Option.bind_some, refBytes hs (by omega), Option.bind_some]
  simp only [F.ref01.SameBytes, BEq.rfl, Option.bind_some, Bool.not_true, Bool.false_eq_true, if_false]
  rw [refRuns hs (by omega), Option.bind_some, SameRuns_self (by omega) (by omega), Option.bind_some, h1', h2', alive_ok]
  rfl
end Go.Vc
