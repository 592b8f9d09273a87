/-
  A rule more, of a nonterminal more: two of the start's, one behind the other.
-/
import Derived.Test.YtfhbgelpmbkooaaGI
set_option linter.unusedVariables false
set_option linter.unusedSimpArgs false
namespace Go.Vc.Ea
variable {R : List Ru}
theorem rowsL_ext {L L' : Nat → Nat → Nat → List Tr} (i : Nat) : ∀ (α : List Sy), (∀ s ∈ α, ∀ m j, symL L s m j = symL L' s m j) → ∀ j, rowsL L α i j = rowsL L' α i j := by
  refine list_snoc (fun _ j => rfl) (fun α s ih h j => ?_)
  rw [rowsL_snoc, rowsL_snoc]
  unfold stepL
  congr 1
  funext m
  rw [ih (fun x hx => h x (List.mem_append_left _ hx)) m, h s (by simp) m j]
def Below (R : List Ru) (N : Nat) : Prop := ∀ r ∈ R, r.lhs < N ∧ ∀ b, Sy.nt b ∈ r.rhs → b < N
theorem treesL_more {N S : Nat} (hN : Below R N) : ∀ (h a i j : Nat), a < N → treesL (R ++ [⟨N, [.nt S, .nt S]⟩]) h a i j = treesL R h a i j := by
  intro h
  induction h with
  | zero => exact fun _ _ _ _ => rfl
  | succ h ih =>
    intro a i j ha
    simp only [treesL]
    rw [List.zipIdx_append, List.flatMap_append]
    have e2 : (([⟨N, [.nt S, .nt S]⟩] : List Ru).zipIdx (0 + R.length)).flatMap (fun x => if x.1.lhs = a then (rowsL (treesL (R ++ [⟨N, [.nt S, .nt S]⟩]) h) x.1.rhs i j).map (Tr.node x.2) else []) = [] := by
      simp only [List.zipIdx_cons, List.zipIdx_nil, List.flatMap_cons, List.flatMap_nil, List.append_nil]
      rw [if_neg (by omega)]
    rw [e2, List.append_nil, List.flatMap_def, List.flatMap_def]
    congr 1
    refine List.map_congr_left fun x hx => ?_
    split
    · rw [rowsL_ext i x.1.rhs (fun s hs m j => ?_) j]
      cases s with
      | tm p => rfl
      | nt b =>
        have hr : x.1 ∈ R := (List.mem_zipIdx hx).2.2 ▸ List.getElem_mem _
        exact ih b m j ((hN x.1 hr).2 b hs)
    · rfl
theorem rows_one (T : Nat → Nat → Nat → List Tr) (S i m : Nat) (hm : i ≤ m) : (rowsL T [.nt S] i m).length = (T S i m).length := by
  rw [show ([.nt S] : List Sy) = [] ++ [.nt S] from rfl, count_snoc]
  have e : ∀ p, (rowsL T [] i p).length * (symL T (Sy.nt S) p m).length = if i = p then (T S i m).length else 0 := fun p => by
    rw [rowsL_nil]
    by_cases e : i = p
    · rw [if_pos e, if_pos e, e]
      show 1 * (T S p m).length = _
      rw [Nat.one_mul]
    · rw [if_neg e, if_neg e]; simp
  rw [List.map_congr_left fun p _ => e p, show m + 1 - i = (m - i) + 1 by omega, List.range'_succ, List.map_cons, List.sum_cons, if_pos rfl]
  have hz : ((List.range' (i + 1) (m - i)).map fun p => if i = p then (T S i m).length else 0) = List.replicate (m - i) 0 := by
    refine List.ext_getElem (by simp) fun k h1 h2 => ?_
    simp
    omega
  rw [hz]
  simp
theorem rows_two (T : Nat → Nat → Nat → List Tr) (S i j : Nat) : (rowsL T [.nt S, .nt S] i j).length = ((List.range' i (j + 1 - i)).map fun m => (T S i m).length * (T S m j).length).sum := by
  rw [show ([.nt S, .nt S] : List Sy) = [.nt S] ++ [.nt S] from rfl, count_snoc]
  congr 1
  refine List.map_congr_left fun m hm => ?_
  rw [List.mem_range'_1] at hm
  rw [rows_one T S i m hm.1]
  rfl
theorem treesL_two {N S : Nat} (hN : Below R N) (hS : S < N) (h i j : Nat) : (treesL (R ++ [⟨N, [.nt S, .nt S]⟩]) (h + 1) N i j).length = ((List.range' i (j + 1 - i)).map fun m => (treesL R h S i m).length * (treesL R h S m j).length).sum := by
  simp only [treesL]
  rw [List.zipIdx_append, List.flatMap_append]
  have e1 : (R.zipIdx.flatMap fun x => if x.1.lhs = N then (rowsL (treesL (R ++ [⟨N, [.nt S, .nt S]⟩]) h) x.1.rhs i j).map (Tr.node x.2) else []) = [] := by
    rw [List.flatMap_eq_nil_iff]
    intro x hx
    have hr : x.1 ∈ R := (List.mem_zipIdx hx).2.2 ▸ List.getElem_mem _
    have := (hN x.1 hr).1
    rw [if_neg (by omega)]
  rw [e1, List.nil_append]
  simp only [List.zipIdx_cons, List.zipIdx_nil, List.flatMap_cons, List.flatMap_nil, List.append_nil, if_true, List.length_map]
  rw [rows_two]
  congr 1
  refine List.map_congr_left fun m _ => ?_
  rw [treesL_more hN h S i m hS, treesL_more hN h S m j hS]
end Go.Vc.Ea
