/-
  A part of a text has as many trees as stand there in the whole; a rule more.
-/
import Derived.Test.YtfhbgelpmbkooaaGH
set_option linter.unusedVariables false
set_option linter.unusedSimpArgs false
namespace Go.Vc.Ea
def Like (lo n : Nat) : Sy → Sy → Prop
  | .nt a, .nt b => a = b
  | .tm p, .tm q => ∀ m, m < n → q m = p (lo + m)
  | _, _ => False
section
variable {γ σ : Type} (lhs : γ → Nat) (rhs : γ → List σ)
def gram (s : σ → Sy) (G : List γ) : List Ru := G.map fun x => ⟨lhs x, (rhs x).map s⟩
end
theorem symL_like {L L' : Nat → Nat → Nat → List Tr} {lo n : Nat} (hL : ∀ a i j, j ≤ n → (L' a i j).length = (L a (lo + i) (lo + j)).length) {s s' : Sy} (h : Like lo n s s') {m j : Nat} (hj : j ≤ n) : (symL L' s' m j).length = (symL L s (lo + m) (lo + j)).length := by
  cases s with
  | nt a => cases s' with
    | nt b => obtain rfl : a = b := h; exact hL a m j hj
    | tm q => exact h.elim
  | tm p => cases s' with
    | nt b => exact h.elim
    | tm q =>
      have h' : ∀ m, m < n → q m = p (lo + m) := h
      unfold symL
      by_cases e : j = m + 1
      · have e2 : lo + j = lo + m + 1 := by omega
        simp only
        rw [h' m (by omega)]
        by_cases hp : p (lo + m) = true
        · rw [if_pos ⟨e, hp⟩, if_pos ⟨e2, hp⟩]
          rfl
        · rw [if_neg (fun x => hp x.2), if_neg (fun x => hp x.2)]
      · simp only
        rw [if_neg (fun x => e x.1), if_neg (fun x => e (by omega))]
theorem rowsL_like {σ : Type} {s s' : σ → Sy} {L L' : Nat → Nat → Nat → List Tr} {lo n : Nat} (hL : ∀ a i j, j ≤ n → (L' a i j).length = (L a (lo + i) (lo + j)).length) (hs : ∀ c, Like lo n (s c) (s' c)) :
    ∀ (cs : List σ) (i j : Nat), j ≤ n → (rowsL L' (cs.map s') i j).length = (rowsL L (cs.map s) (lo + i) (lo + j)).length := by
  refine list_snoc (fun i j _ => ?_) (fun cs c ih i j hj => ?_)
  · simp only [List.map_nil, rowsL_nil]
    by_cases e : i = j
    · rw [if_pos e, if_pos (by omega)]
    · rw [if_neg e, if_neg (by omega)]
  · rw [List.map_append, List.map_append]
    show (rowsL L' (cs.map s' ++ [s' c]) i j).length = (rowsL L (cs.map s ++ [s c]) (lo + i) (lo + j)).length
    rw [count_snoc, count_snoc, show lo + j + 1 - (lo + i) = j + 1 - i by omega, ← List.map_add_range', List.map_map]
    congr 1
    refine List.map_congr_left fun m hm => ?_
    rw [List.mem_range'_1] at hm
    simp only [Function.comp]
    rw [ih i m (by omega), symL_like hL (hs c) hj]
theorem treesL_like {γ σ : Type} {lhs : γ → Nat} {rhs : γ → List σ} {s s' : σ → Sy} {lo n : Nat} (hs : ∀ c, Like lo n (s c) (s' c)) (G : List γ) : ∀ (h a i j : Nat), j ≤ n → (treesL (gram lhs rhs s' G) h a i j).length = (treesL (gram lhs rhs s G) h a (lo + i) (lo + j)).length := by
  intro h
  induction h with
  | zero => exact fun _ _ _ _ => rfl
  | succ h ih =>
    intro a i j hj
    unfold treesL
    rw [List.length_flatMap, List.length_flatMap]
    unfold gram
    rw [List.zipIdx_map, List.zipIdx_map, List.map_map, List.map_map]
    congr 1
    refine List.map_congr_left fun x hx => ?_
    simp only [Function.comp, Prod.map]
    split
    · rw [List.length_map, List.length_map]
      exact rowsL_like (fun a i j hj => ih a i j hj) hs _ i j hj
    · rfl
end Go.Vc.Ea
