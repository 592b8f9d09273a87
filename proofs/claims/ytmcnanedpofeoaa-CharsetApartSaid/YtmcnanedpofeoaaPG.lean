/-
  Runs.
-/
import Derived.Test.YtmcnanedpofeoaaPF
namespace Go.Vc
open Go

def bt (s : S4) (i : Int) : Bool := if 0 ≤ i ∧ i < 256 then bit s i.toNat else false
theorem bt_nat {s : S4} {i : Nat} (hi : i < 256) : bt s (i : Int) = bit s i := by
  unfold bt
  rw [if_pos (by omega)]
  simp
theorem bt_out {s : S4} {i : Int} (hi : i < 0 ∨ 255 < i) : bt s i = false := by
  unfold bt
  rw [if_neg (by omega)]
theorem refHas_bt {s : S4} (hs : okS s) {k : Nat} (hk : 100 ≤ k) (i : Int) : F.ref01.Has k s i = some (bt s i) := by
  by_cases h1 : i < 0
  · unfold F.ref01.Has
    rw [if_pos (by rw [decide_eq_true_eq]; exact h1), bt_out (.inl h1)]
  · by_cases h2 : 255 < i
    · unfold F.ref01.Has
      rw [if_neg (by rw [decide_eq_true_eq]; exact h1), if_pos (by rw [decide_eq_true_eq]; exact h2), bt_out (.inr h2)]
    · have e : i = ((i.toNat : Nat) : Int) := by omega
      rw [e, refHas_bit hs (by omega) hk, bt_nat (by omega)]

def ext (s : S4) : Nat → Nat → Nat
  | 0, h => h
  | f + 1, h => if bt s ((h : Int) + 1) then ext s f (h + 1) else h
theorem ext_spec {s : S4} (f : Nat) : ∀ h : Nat, h < 256 → 256 ≤ h + f → h ≤ ext s f h ∧ ext s f h < 256 ∧ (∀ j : Nat, h < j → j ≤ ext s f h → bt s (j : Int) = true) ∧ bt s ((ext s f h : Int) + 1) = false := by
  induction f with
  | zero => intro h h1 h2; omega
  | succ f ih =>
    intro h h1 h2
    simp only [ext]
    cases hb : bt s ((h : Int) + 1) with
    | true =>
      simp only [if_true]
      have hlt : h + 1 < 256 := by
        rcases Nat.lt_or_ge (h + 1) 256 with h3 | h3
        · exact h3
        · rw [bt_out (.inr (by omega))] at hb; cases hb
      obtain ⟨g1, g2, g3, g4⟩ := ih (h + 1) hlt (by omega)
      refine ⟨by omega, g2, fun j hj1 hj2 => ?_, g4⟩
      rcases Nat.eq_or_lt_of_le (show h + 1 ≤ j by omega) with h3 | h3
      · subst h3; exact hb
      · exact g3 j h3 hj2
    | false =>
      simp only [Bool.false_eq_true, if_false]
      exact ⟨Nat.le_refl _, h1, fun j a b => by omega, hb⟩
theorem refRuns_l4 {s : S4} (hs : okS s) {k : Nat} (hk : 100 ≤ k) (f : Nat) : ∀ (j h : Nat), h < 256 → 256 ≤ h + f → f < j → F.ref01.Runs_l4 k s j (h : Int) = some ((ext s f h : Int), false) := by
  induction f with
  | zero => intro j h h1 h2; omega
  | succ f ih =>
    intro j h h1 h2 h3
    cases j with
    | zero => omega
    | succ j =>
      have hw : IntKind.wrap .i64 ((h : Int) + 1) = (h : Int) + 1 := wrap_i64 (by omega) (by omega)
      simp only [F.ref01.Runs_l4, ext, hw]
      rw [refHas_bt hs hk, Option.bind_some]
      cases hb : bt s ((h : Int) + 1) with
      | true =>
        have hlt : h + 1 < 256 := by
          rcases Nat.lt_or_ge (h + 1) 256 with h4 | h4
          · exact h4
          · rw [bt_out (.inr (by omega))] at hb; cases hb
        simp only [if_true]
        have := ih j (h + 1) hlt (by omega) (by omega)
        simpa using this
      | false => simp
def Cr (s : S4) : Nat → List Run
  | 0 => []
  | n + 1 => Cr s n ++ (if bt s (n : Int) && !bt s ((n : Int) - 1) then [⟨(n : Int), (ext s 256 n : Int)⟩] else [])
theorem Cr_succ (s : S4) (n : Nat) : Cr s (n + 1) = Cr s n ++ (if bt s (n : Int) && !bt s ((n : Int) - 1) then [⟨(n : Int), (ext s 256 n : Int)⟩] else []) := rfl
theorem Cr_len (s : S4) : ∀ n, (Cr s n).length ≤ n
  | 0 => by simp [Cr]
  | n + 1 => by
    have := Cr_len s n
    simp only [Cr, List.length_append]
    split <;> simp <;> omega
theorem refRuns_l1 {s : S4} (hs : okS s) {k : Nat} (hk : 300 ≤ k) (d : Nat) : ∀ (j i : Nat), i + d = 256 → d < j → F.ref01.Runs_l1 k s j (Cr s i) (i : Int) = some (Cr s 256) := by
  induction d with
  | zero =>
    intro j i hi hj
    cases j with
    | zero => omega
    | succ j =>
      obtain rfl : i = 256 := by omega
      simp only [F.ref01.Runs_l1]
      rw [if_neg (by decide)]
  | succ d ih =>
    intro j i hi hj
    cases j with
    | zero => omega
    | succ j =>
      have hlen := Cr_len s i
      have h3 : IntKind.wrap .i64 ((i : Int) + 1) = ((i + 1 : Nat) : Int) := by rw [wrap_i64 (by omega) (by omega)]; rfl
      have h4 : IntKind.wrap .i64 ((i : Int) - 1) = (i : Int) - 1 := wrap_i64 (by omega) (by omega)
      have hn := ih j (i + 1) (by omega) (by omega)
      simp only [F.ref01.Runs_l1, h4]
      rw [if_pos (by rw [decide_eq_true_eq]; omega), refHas_bt hs (by omega), Option.bind_some, refHas_bt hs (by omega), Option.bind_some]
      cases hx : bt s (i : Int) with
      | false =>
        simp only [Bool.not_false, if_true, F.ref01.Runs_j3, F.ref01.Runs_j2, h3]
        rw [Cr_succ, hx, Bool.false_and, if_neg (by simp), List.append_nil] at hn
        exact hn
      | true =>
        simp only [Bool.not_true, Bool.false_eq_true, if_false, F.ref01.Runs_j3, F.ref01.Runs_j2, h3]
        cases hy : bt s ((i : Int) - 1) with
        | true =>
          simp only [if_true]
          rw [Cr_succ, hx, hy, Bool.not_true, Bool.and_false, if_neg (by simp), List.append_nil] at hn
          exact hn
        | false =>
          simp only [Bool.false_eq_true, if_false]
          rw [refRuns_l4 hs (by omega) 256 k i (by omega) (by omega) (by omega), Option.bind_some, if_pos (by rw [decide_eq_true_eq]; simp; omega), if_pos (by rw [decide_eq_true_eq]; simp; omega)]
          rw [Cr_succ, hx, hy, Bool.not_false, Bool.and_true, if_pos rfl] at hn
          exact hn
theorem refRuns {s : S4} (hs : okS s) {k : Nat} (hk : 300 ≤ k) : F.ref01.Runs k s = some (Cr s 256) := by
  unfold F.ref01.Runs
  have := refRuns_l1 hs hk 256 k 0 rfl (by omega)
  have h2 : F.ref01.Runs_l1 k s k [] 0 = some (Cr s 256) := this
  rw [h2]; rfl
end Go.Vc
