/-
  The law ForestTwo.
-/
import Derived.Test.YtfhbgelpmbkooaaFV
import Derived.Test.YtfhbgelpmbkooaaA1
set_option linter.unusedVariables false
set_option linter.unusedSimpArgs false
namespace Go.Vc
open Go Ea
section
variable {g : Gram} {w : List Int}
theorem trees_h {R : List Ru} {ρ : Nat → Nat} {K : Nat} (hρ : Falls R ρ K) {a i j h : Nat} (hh : rk ρ K a i j < h) : trees R ρ K a i j = treesL R h a i j :=
  treesL_stable hρ _ a i j _ h rfl (by omega) hh
theorem rk_le {ρ : Nat → Nat} {K : Nat} {R : List Ru} (hρ : Falls R ρ K) (hK : K ≤ 300) {a i j : Nat} (hj : j ≤ 20) : rk ρ K a i j ≤ 7000 := by
  unfold rk
  have h1 := hρ.le a
  have h2 : (j - i) * (K + 1) ≤ 20 * 301 := Nat.mul_le_mul (by omega) (by omega)
  omega
theorem below (hg : RightG g) : Below (Rs g w) g.Nts.toNat := by
  intro r hr
  obtain ⟨x, hx, rfl⟩ := List.mem_map.1 hr
  have h1 := hg.lhs1 x hx
  have h2 := hg.lhs2 x hx
  refine ⟨show x.Lhs.toNat < _ by omega, fun b hb => ?_⟩
  obtain ⟨s, hs, e⟩ := List.mem_map.1 (show Sy.nt b ∈ x.Rhs.map (toSy w) from hb)
  have h3 := hg.nt2 x hx s hs
  unfold toSy at e
  by_cases h0 : 0 ≤ s.Nt
  · rw [if_pos h0] at e
    cases e
    omega
  · rw [if_neg h0] at e
    cases e
end
end Go.Vc
