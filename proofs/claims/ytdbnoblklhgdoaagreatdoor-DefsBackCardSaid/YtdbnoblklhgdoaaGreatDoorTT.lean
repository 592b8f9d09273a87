import Derived.Test.YtdbnoblklhgdoaaGreatDoorTA
set_option linter.unusedVariables false
set_option linter.unusedSimpArgs false
namespace Go.Vc.Rg
open Go
theorem zO {n : Int} (h1 : -9223372036854775808 <= n) (h2 : n < 9223372036854775808) : IntKind.wrap .i64 n = n := by
 simp only [IntKind.wrap, IntKind.bits, IntKind.signed]
 simp
 omega
theorem steps_cons {V : Type} {f : Int -> V -> Option (RS V)} {v0 v : V} {x : Int} {pre : List Int} (h : wS f v0 (x :: pre) = some v) : ∃ v1, f x v0 = some (.next v1) /\ wS f v1 pre = some v := by
 simp only [wS] at h
 split at h
 ·rename_i v' hx; exact ⟨v', hx, h⟩
 ·cases h
theorem at_snoc {α : Type} [Inhabited α] (xs : List α) (y : α) : at_ (xs ++ [y]) (xs.length : Int) = y := by simp [at_]
theorem set_len {α : Type} (xs : List α) (i : Int) (x : α) : (jG xs i x).length = xs.length := by simp [jG]
theorem Runs_tot {x : Int} {v : List vw} (h : v.length < 1000) : ∃ o, qc.Runs_b1 x v = some (.next o) /\ o.length <= v.length + 1 := by
 have hj : ∀ t : Bool, (0 < v.length \/ t = false) -> ∃ o, qc.Runs_j3 v x t = some (.next o) /\ o.length <= v.length + 1 := by
  intro t ht
  unfold qc.Runs_j3
  cases t with
  | true =>
   have h0 : 0 < v.length := by rcases ht with h | h; exact h; cases h
   have hw : IntKind.wrap .i64 ((v.length : Int) - 1) = (v.length : Int) - 1 := zO (by omega) (by omega)
   rw [if_pos rfl, if_pos (by rw [hw, yy]; omega)]
   exact ⟨_, rfl, by rw [set_len]; omega⟩
  | false =>
   rw [if_neg (by simp), if_pos (by simp; omega), if_pos (by simp; omega)]
   exact ⟨_, rfl, by simp⟩
 unfold qc.Runs_b1
 by_cases h0 : 0 < v.length
 ·have hw : IntKind.wrap .i64 ((v.length : Int) - 1) = (v.length : Int) - 1 := zO (by omega) (by omega)
  rw [if_pos (by rw [decide_eq_true_eq]; omega), if_pos (by rw [hw, yy]; omega)]
  exact hj _ (.inl h0)
 ·rw [if_neg (by rw [decide_eq_true_eq]; omega)]
  exact hj _ (.inr rfl)
theorem Runs_len : ∀ (pre : List Int) (v0 v : List vw), v0.length + pre.length < 1000 -> wS qc.Runs_b1 v0 pre = some v -> v.length <= v0.length + pre.length
 | [], v0, v, _, h => by simp only [wS, Option.some.injEq] at h; subst h; simp
 | x :: pre, v0, v, hl, h => by
  simp only [List.length_cons] at hl ⊢
  obtain ⟨v1, h1, h2⟩ := steps_cons h
  obtain ⟨o, h3, h4⟩ := Runs_tot (x := x) (v := v0) (by omega)
  rw [h1] at h3
  simp only [Option.some.injEq, RS.next.injEq] at h3
  subst h3
  have := Runs_len pre v1 v (by omega) h2
  omega
end Go.Vc.Rg
namespace Go.Vc
open Go Rg
theorem gm : ∀ pre_ x_ v_, wS (qc.Runs_b1) ([] : List vw) pre_ = some v_ -> pre_.length < 256 -> ∃ o, qc.Runs_b1 x_ v_ = some o := by
 intro pre x v h hl
 have := Runs_len pre [] v (by simp; omega) h
 obtain ⟨o, h3, _⟩ := Runs_tot (x := x) (v := v) (by simp at this; omega)
 exact ⟨_, h3⟩
end Go.Vc
