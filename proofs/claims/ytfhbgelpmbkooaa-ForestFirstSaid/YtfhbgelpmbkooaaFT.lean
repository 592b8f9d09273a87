/-
  The laws ForestFirst and ForestSound (the laws).
-/
import Derived.Test.YtfhbgelpmbkooaaFR
import Derived.Test.YtfhbgelpmbkooaaFM
set_option linter.unusedVariables false
set_option linter.unusedSimpArgs false
namespace Go.Vc
open Go Ea
section
variable {g : Gram} {w : List Int}
theorem tr_low (hg : RightG g) {ρ : Nat → Nat} (hρ : Falls (Rs g w) ρ g.Nts.toNat) (hn : g.Nts.toNat ≤ 300) (hwl : w.length ≤ 20) : ∀ t ∈ trees (Rs g w) ρ g.Nts.toNat g.Start.toNat 0 w.length, Low 8001 (trT w t) := by
  intro t ht
  rw [trees_h (h := 8000) hρ (by have := rk_le (R := Rs g w) hρ hn (a := g.Start.toNat) (i := 0) (j := w.length) hwl; omega)] at ht
  exact treesL_low hg 8000 _ _ _ t ht
theorem law_First {k : Nat} (hk : 1000000 ≤ k) (hal : F.law08.alive k = some true) (hR : ReachG g) (hw : Bytes w) (a b : Int) : F.law08.ForestFirst k g w a b = some true := by
  unfold F.law08.ForestFirst
  obtain ⟨bb, eb, hb⟩ := Heavy_ok (k := k) (by omega) hR w
  have ht : F.law08.ForestFirst_j1 k g w a b true = some true := by
    unfold F.law08.ForestFirst_j1
    rw [if_pos rfl, hal]; rfl
  rw [eb, Option.bind_some, ht]
  cases bb with
  | true => rfl
  | false =>
    obtain ⟨hwl, hn, hrl, hsum⟩ := hb rfl
    simp only [Bool.false_eq_true, if_false]
    by_cases h1 : a < 0
    · simp [h1]
    by_cases h2 : b < a
    · simp [h1, h2]
    by_cases h3 : 40 < b
    · simp [h1, h2, h3, ht]
    simp only [h1, h2, h3, decide_false, Bool.false_eq_true, if_false]
    unfold F.law08.ForestFirst_j1
    rw [if_neg (by simp)]
    have hsm : rightB g = true → SmallG g := small_of hn hsum
    have hwl' : w.length ≤ 20 ∨ 512 < (w.length : Int) := by omega
    obtain ⟨e, he, h0, _⟩ := fit_ok (k := k) (by omega) hsm w
    obtain ⟨t1, t2⟩ := Trees_all hk hsm hw hwl' he
    have fin : ∀ (x y : List Tree) (c : Int), (y.take x.length = x) → (∀ t ∈ x, Low 8001 t) → x.length ≤ 40 → ((x.length : Int) < a → x.length = y.length) →
        (if (c != c) = true then F.law08.ForestFirst_j2 k (x, c) (y, c) true else if decide ((y.length : Int) < (x.length : Int)) = true then F.law08.ForestFirst_j2 k (x, c) (y, c) true else if decide ((x.length : Int) < a) = true then F.law08.ForestFirst_j2 k (x, c) (y, c) (decide ((x.length : Int) < (y.length : Int))) else F.law08.ForestFirst_j2 k (x, c) (y, c) false) = some true := by
      intro x y c hxy hlow hx40 hxa
      have hle : x.length ≤ y.length := by rw [← hxy, List.length_take]; omega
      have d0 : (c != c) = false := by simp
      have d1 : decide ((y.length : Int) < (x.length : Int)) = false := decide_eq_false (by omega)
      have hj2 : F.law08.ForestFirst_j2 k (x, c) (y, c) false = some true := by
        unfold F.law08.ForestFirst_j2
        have ok : okSub 0 ((x.length : Nat) : Int) y.length = true := okSub_iff.2 ⟨⟨by omega, by omega⟩, by omega⟩
        have sb : sub y 0 ((x.length : Nat) : Int) = x := by unfold sub; simp [hxy]
        simp only [Bool.false_eq_true, if_false, hal, Option.bind_some, if_true, ok, sb, SameTrees_refl (h := 8001) (k := k) (by omega) (show x.length ≤ 2000 by omega) hlow]
      rw [d0, if_neg (by simp), d1, if_neg (by simp), hj2]
      by_cases hxa' : (x.length : Int) < a
      · have := hxa hxa'
        have d2 : decide ((x.length : Int) < (y.length : Int)) = false := decide_eq_false (by omega)
        rw [decide_eq_true hxa', if_pos rfl, d2, hj2]
      · rw [decide_eq_false hxa', if_neg (by simp)]
    by_cases hee : e = 0
    · obtain ⟨hr, hl, ρ, hρ⟩ := h0.1 hee
      have hw20 : w.length ≤ 20 := by omega
      rw [t2 hee ρ hρ a, t2 hee ρ hρ b, if_neg (by omega), if_neg (by omega), Option.bind_some, Option.bind_some]
      have hlow := tr_low (rightG hr) hρ (by have := (hsm hr).nts; omega) hw20
      generalize trees (Rs g w) ρ g.Nts.toNat g.Start.toNat 0 w.length = T at hlow
      refine fin _ _ _ ?_ (fun t ht => ?_) ?_ (fun hlt => ?_)
      · rw [List.length_map, List.length_take, ← List.map_take, List.take_take]
        congr 1
        rw [Nat.min_assoc, List.take_eq_take_iff]
        omega
      · obtain ⟨y, hy, rfl⟩ := List.mem_map.1 ht
        exact hlow y (List.mem_of_mem_take hy)
      · rw [List.length_map, List.length_take]; omega
      · rw [List.length_map, List.length_take] at hlt
        rw [List.length_map, List.length_take, List.length_map, List.length_take]
        omega
    · rw [t1 hee a, t1 hee b, Option.bind_some, Option.bind_some]
      exact fin [] [] e rfl (fun t ht => by cases ht) (by simp) (fun _ => rfl)
end
end Go.Vc
