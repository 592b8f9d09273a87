/-
  Counts that stay at a greatest number; the first of a list of pairs; counts of rows.
-/
import Derived.Test.YtfhbgelpmbkooaaGB
set_option linter.unusedVariables false
set_option linter.unusedSimpArgs false
namespace Go.Vc.Ea
def top : Nat := 4611686018427387904
def sat (n : Nat) : Nat := min n top
theorem sat_le (n : Nat) : sat n ≤ top := Nat.min_le_right _ _
theorem sat_of_le {n : Nat} (h : n ≤ top) : sat n = n := Nat.min_eq_left h
theorem sat_ge {n : Nat} (h : top ≤ n) : sat n = top := Nat.min_eq_right h
theorem sat_zero_iff {n : Nat} : sat n = 0 ↔ n = 0 := by
  unfold sat top
  omega
theorem sat_add (a b : Nat) : sat (sat a + sat b) = sat (a + b) := by
  unfold sat top
  omega
theorem sat_mul (a b : Nat) : sat (sat a * sat b) = sat (a * b) := by
  by_cases ha : a ≤ top
  · by_cases hb : b ≤ top
    · rw [sat_of_le ha, sat_of_le hb]
    · have hb' : top ≤ b := Nat.le_of_not_le hb
      rw [sat_of_le ha, sat_ge hb']
      rcases Nat.eq_zero_or_pos a with rfl | h
      · simp
      · have h1 : 1 * top ≤ a * top := Nat.mul_le_mul_right _ h
        have h2 : a * top ≤ a * b := Nat.mul_le_mul_left _ hb'
        rw [sat_ge (by omega), sat_ge (by omega)]
  · have ha' : top ≤ a := Nat.le_of_not_le ha
    rw [sat_ge ha']
    rcases Nat.eq_zero_or_pos b with rfl | h
    · simp [sat]
    · have hs : 1 ≤ sat b := by
        unfold sat top
        omega
      have h1 : top * 1 ≤ top * sat b := Nat.mul_le_mul_left _ hs
      have h2 : top * 1 ≤ a * b := Nat.mul_le_mul ha' h
      rw [sat_ge (by omega), sat_ge (by omega)]
theorem add_sat {a b : Nat} : (if (top : Int) - (b : Int) < (a : Int) then (top : Int) else (a : Int) + (b : Int)) = ((sat (a + b) : Nat) : Int) := by
  unfold sat
  split <;> omega
theorem mul_gt {a b : Nat} (ha : 0 < a) : top / a < b ↔ top < a * b := by
  rw [Nat.div_lt_iff_lt_mul ha, Nat.mul_comm]
section
variable {α β γ : Type}
end
variable {R : List Ru}
theorem length_pairs {α β γ : Type} (xs : List α) (ys : List β) (f : α → β → γ) : (xs.flatMap fun x => ys.map (f x)).length = xs.length * ys.length := by
  induction xs with
  | nil => simp
  | cons x xs ih => rw [List.flatMap_cons, List.length_append, ih, List.length_map, List.length_cons, Nat.add_mul]; omega
theorem count_snoc (L : Nat → Nat → Nat → List Tr) (α : List Sy) (s : Sy) (i j : Nat) : (rowsL L (α ++ [s]) i j).length = ((List.range' i (j + 1 - i)).map fun m => (rowsL L α i m).length * (symL L s m j).length).sum := by
  rw [rowsL_snoc]
  unfold stepL
  rw [List.length_flatMap]
  congr 1
  exact List.map_congr_left fun m _ => length_pairs _ _ _
theorem count_trees {ρ : Nat → Nat} {K : Nat} (hρ : Falls R ρ K) (a i j : Nat) : (trees R ρ K a i j).length = (R.zipIdx.map fun x => if x.1.lhs = a then (rowsL (trees R ρ K) x.1.rhs i j).length else 0).sum := by
  rw [trees_eq hρ, List.length_flatMap]
  congr 1
  refine List.map_congr_left fun x _ => ?_
  split
  · rw [List.length_map]
  · rfl
end Go.Vc.Ea
