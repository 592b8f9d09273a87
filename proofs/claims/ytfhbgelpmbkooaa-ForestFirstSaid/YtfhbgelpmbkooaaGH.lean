/-
  Trees: how far they reach; none is told twice.
-/
import Derived.Test.YtfhbgelpmbkooaaGG
set_option linter.unusedVariables false
set_option linter.unusedSimpArgs false
namespace Go.Vc.Ea
variable {R : List Ru}
mutual
def sp : Tr → Nat
  | .leaf _ => 1
  | .node _ ks => sps ks
def sps : List Tr → Nat
  | [] => 0
  | t :: ts => sp t + sps ts
end
theorem sps_app (a b : List Tr) : sps (a ++ b) = sps a + sps b := by
  induction a with
  | nil => simp [sps]
  | cons t a ih => rw [List.cons_append, sps, sps, ih, Nat.add_assoc]
def Spans (L : Nat → Nat → Nat → List Tr) : Prop := ∀ a i j t, t ∈ L a i j → j = i + sp t
theorem symL_sp {L : Nat → Nat → Nat → List Tr} (h : Spans L) {s : Sy} {m j : Nat} {t : Tr} (ht : t ∈ symL L s m j) : j = m + sp t := by
  cases s with
  | nt a => exact h a m j t ht
  | tm p =>
    unfold symL at ht
    simp only at ht
    split at ht
    · rename_i hc
      rw [List.mem_singleton] at ht
      subst ht
      simp [sp, hc.1]
    · cases ht
theorem mem_step {L : Nat → Nat → Nat → List Tr} {i j : Nat} {f : Nat → List (List Tr)} {s : Sy} {l : List Tr} : l ∈ stepL L i f s j ↔ ∃ m, i ≤ m ∧ m ≤ j ∧ ∃ l' ∈ f m, ∃ t ∈ symL L s m j, l = l' ++ [t] := by
  unfold stepL
  simp only [List.mem_flatMap, List.mem_map, List.mem_range'_1]
  constructor
  · rintro ⟨m, hm, l', hl', t, ht, rfl⟩
    exact ⟨m, hm.1, by omega, l', hl', t, ht, rfl⟩
  · rintro ⟨m, h1, h2, l', hl', t, ht, rfl⟩
    exact ⟨m, by omega, l', hl', t, ht, rfl⟩
theorem rowsL_sp {L : Nat → Nat → Nat → List Tr} (h : Spans L) : ∀ (α : List Sy) {i j : Nat} {l : List Tr}, l ∈ rowsL L α i j → j = i + sps l ∧ l.length = α.length := by
  refine list_snoc (fun {i j l} hl => ?_) (fun α s ih {i j l} hl => ?_)
  · rw [rowsL_nil] at hl
    split at hl
    · rename_i e
      rw [List.mem_singleton] at hl
      subst hl
      exact ⟨by simp [sps, e], rfl⟩
    · cases hl
  · rw [rowsL_snoc] at hl
    obtain ⟨m, _, _, l', hl', t, ht, rfl⟩ := mem_step.1 hl
    obtain ⟨h1, h2⟩ := ih hl'
    have h3 := symL_sp h ht
    refine ⟨?_, by simp [h2]⟩
    rw [sps_app, sps, sps]
    omega
theorem treesL_sp (h : Nat) : Spans (treesL R h) := by
  induction h with
  | zero => intro a i j t ht; cases ht
  | succ h ih =>
    intro a i j t ht
    unfold treesL at ht
    obtain ⟨x, hx, ht⟩ := List.mem_flatMap.1 ht
    split at ht
    · obtain ⟨l, hl, rfl⟩ := List.mem_map.1 ht
      exact (rowsL_sp ih _ hl).1
    · cases ht
end Go.Vc.Ea
