import Derived.Test.YtfhbgelpmbkooaaGK
set_option linter.unusedVariables false
set_option linter.unusedSimpArgs false
namespace Go.Vc.Ea
variable {R : List Ru}
end Go.Vc.Ea
namespace Go.Vc.Ea
variable {R : List Ru}
theorem sum_sub {α : Type} [DecidableEq α] (f : α → Nat) : ∀ (l u : List α), l.Nodup → (∀ x ∈ l, x ∈ u) → (l.map f).sum ≤ (u.map f).sum
  | [], _, _, _ => Nat.zero_le _
  | x :: l, u, hn, hs => by
    have hx := hs x List.mem_cons_self
    have h1 := List.nodup_cons.1 hn
    have ih := sum_sub f l (u.erase x) h1.2 (fun y hy => by
      have hne : y ≠ x := fun e => h1.1 (e ▸ hy)
      exact (List.mem_erase_of_ne hne).2 (hs y (List.mem_cons_of_mem _ hy)))
    have hp := (List.perm_cons_erase hx).map f
    have := hp.sum_nat
    rw [List.map_cons, List.sum_cons] at this ⊢
    omega
def size (R : List Ru) : Nat := (R.map fun r => r.rhs.length + 1).sum
def lens (R : List Ru) : Nat := (R.map fun r => r.rhs.length).sum
theorem size_eq (R : List Ru) : size R = lens R + R.length := by
  unfold size lens
  induction R with
  | nil => rfl
  | cons r R ih => rw [List.map_cons, List.map_cons, List.sum_cons, List.sum_cons, ih, List.length_cons]; omega
def wt (R : List Ru) (p : Nat) : Qu → Nat
  | .c a _ _ => 1 + (R.filter fun r => r.lhs == a).length
  | .r _ _ _ _ => 1 + p
def nub : List Nat → List Nat
  | [] => []
  | x :: l => if x ∈ l then nub l else x :: nub l
theorem mem_nub {x : Nat} : ∀ {l : List Nat}, x ∈ nub l ↔ x ∈ l
  | [] => Iff.rfl
  | y :: l => by
    unfold nub
    by_cases h : y ∈ l
    · rw [if_pos h, mem_nub, List.mem_cons]
      exact ⟨.inr, fun h' => h'.elim (fun e => e ▸ h) id⟩
    · rw [if_neg h, List.mem_cons, List.mem_cons, mem_nub]
theorem nub_nodup : ∀ l : List Nat, (nub l).Nodup
  | [] => List.nodup_nil
  | y :: l => by
    unfold nub
    split
    · exact nub_nodup l
    · rename_i h
      exact List.nodup_cons.2 ⟨fun h' => h (mem_nub.1 h'), nub_nodup l⟩
def allQ (R : List Ru) (p : Nat) : List Qu :=
  ((nub (R.map fun r => r.lhs)).flatMap fun a => (List.range p).flatMap fun i => (List.range p).map fun j => Qu.c a i j) ++
  (R.zipIdx.flatMap fun x => (List.range x.1.rhs.length).flatMap fun d => (List.range p).flatMap fun i => (List.range p).map fun j => Qu.r x.2 (d + 1) i j)
theorem sum_const (c m : Nat) : (List.map (fun _ => c) (List.range m)).sum = m * c := by
  induction m with
  | zero => simp
  | succ m ih => rw [List.range_succ, List.map_append, List.sum_append, ih, Nat.succ_mul]; simp
theorem sum_flatMap {α β : Type} (f : β → Nat) (g : α → List β) (l : List α) : ((l.flatMap g).map f).sum = (l.map fun x => ((g x).map f).sum).sum := by
  induction l with
  | nil => rfl
  | cons x l ih => rw [List.flatMap_cons, List.map_append, List.sum_append, ih, List.map_cons, List.sum_cons]
theorem sum_le {α : Type} {f g : α → Nat} : ∀ {l : List α}, (∀ x ∈ l, f x ≤ g x) → (l.map f).sum ≤ (l.map g).sum
  | [], _ => Nat.le_refl _
  | x :: l, h => by
    rw [List.map_cons, List.map_cons, List.sum_cons, List.sum_cons]
    exact Nat.add_le_add (h x List.mem_cons_self) (sum_le fun y hy => h y (List.mem_cons_of_mem _ hy))
theorem sum_mul {α : Type} (f : α → Nat) (c : Nat) (l : List α) : (l.map fun x => f x * c).sum = (l.map f).sum * c := by
  induction l with
  | nil => simp
  | cons x l ih => rw [List.map_cons, List.map_cons, List.sum_cons, List.sum_cons, ih, Nat.add_mul]
theorem dups_filter (R : List Ru) : ∀ (as : List Nat), as.Nodup → (as.map fun a => 1 + (R.filter fun r => r.lhs == a).length).sum ≤ as.length + R.length := by
  intro as hn
  have h1 : (as.map fun a => 1 + (R.filter fun r => r.lhs == a).length).sum = as.length + (as.map fun a => (R.filter fun r => r.lhs == a).length).sum := by
    clear hn
    induction as with
    | nil => rfl
    | cons a as ih => rw [List.map_cons, List.map_cons, List.sum_cons, List.sum_cons, ih, List.length_cons]; omega
  rw [h1]
  refine Nat.add_le_add_left ?_ _
  induction R with
  | nil =>
    have : ∀ as : List Nat, (as.map fun a => (([] : List Ru).filter fun r => r.lhs == a).length).sum = 0 := by
      intro as
      induction as with
      | nil => rfl
      | cons a as ih => rw [List.map_cons, List.sum_cons, ih]; rfl
    rw [this]
    exact Nat.zero_le _
  | cons r R ih =>
    have hsplit : (as.map fun a => ((r :: R).filter fun r => r.lhs == a).length).sum = (as.map fun a => (R.filter fun r => r.lhs == a).length).sum + as.count r.lhs := by
      clear ih hn h1
      induction as with
      | nil => rfl
      | cons a as ih2 =>
        rw [List.map_cons, List.map_cons, List.sum_cons, List.sum_cons, ih2, List.filter_cons, List.count_cons]
        by_cases e : r.lhs = a
        · rw [if_pos (by simpa using e), if_pos (by simp [e]), List.length_cons]; omega
        · rw [if_neg (by simpa using e), if_neg (by simpa using fun h => e h.symm)]; omega
    have hc : as.count r.lhs ≤ 1 := List.nodup_iff_count.1 hn _
    rw [hsplit, List.length_cons]
    have := ih (by
      have : ∀ as : List Nat, (as.map fun a => 1 + (R.filter fun r => r.lhs == a).length).sum = as.length + (as.map fun a => (R.filter fun r => r.lhs == a).length).sum := by
        intro as
        induction as with
        | nil => rfl
        | cons a as ih => rw [List.map_cons, List.map_cons, List.sum_cons, List.sum_cons, ih, List.length_cons]; omega
      exact this as)
    omega
theorem dups_le (l : List Nat) : (nub l).length ≤ l.length := (nub_nodup l).length_le_of_subset fun x hx => mem_nub.1 hx
theorem allQ_sum (R : List Ru) (p : Nat) (hp : 1 ≤ p) : ((allQ R p).map (wt R p)).sum ≤ 4 * size R * p * p * p := by
  unfold allQ
  rw [List.map_append, List.sum_append, sum_flatMap, sum_flatMap]
  have e1 : ∀ a, (((List.range p).flatMap fun i => (List.range p).map fun j => Qu.c a i j).map (wt R p)).sum = (1 + (R.filter fun r => r.lhs == a).length) * (p * p) := by
    intro a
    rw [sum_flatMap]
    simp only [List.map_map, Function.comp_def, wt]
    rw [sum_const, sum_const, ← Nat.mul_assoc, Nat.mul_comm (p * p)]
  have e2 : ∀ x : Ru × Nat, (((List.range x.1.rhs.length).flatMap fun d => (List.range p).flatMap fun i => (List.range p).map fun j => Qu.r x.2 (d + 1) i j).map (wt R p)).sum = x.1.rhs.length * ((1 + p) * (p * p)) := by
    intro x
    rw [sum_flatMap]
    have : ∀ d, (((List.range p).flatMap fun i => (List.range p).map fun j => Qu.r x.2 (d + 1) i j).map (wt R p)).sum = (1 + p) * (p * p) := by
      intro d
      rw [sum_flatMap]
      simp only [List.map_map, Function.comp_def, wt]
      rw [sum_const, sum_const, ← Nat.mul_assoc, Nat.mul_comm (p * p)]
    simp only [this]
    rw [sum_const]
  rw [List.map_congr_left (fun a _ => e1 a), List.map_congr_left (fun x _ => e2 x), sum_mul (fun a => 1 + (R.filter fun r => r.lhs == a).length), sum_mul (fun x : Ru × Nat => x.1.rhs.length)]
  have h1 := dups_filter R _ (nub_nodup (R.map fun r => r.lhs))
  have h2 := dups_le (R.map fun r => r.lhs)
  rw [List.length_map] at h2
  have h3 : (R.zipIdx.map fun x : Ru × Nat => x.1.rhs.length).sum = lens R := by
    unfold lens
    rw [show (fun x : Ru × Nat => x.1.rhs.length) = (fun r : Ru => r.rhs.length) ∘ Prod.fst from rfl, ← List.map_map, List.zipIdx_map_fst]
  rw [h3, size_eq]
  have h4 : ((nub (R.map fun r => r.lhs)).map fun a => 1 + (R.filter fun r => r.lhs == a).length).sum * (p * p) ≤ (2 * R.length) * (p * p * p) := by
    refine Nat.le_trans (Nat.mul_le_mul_right _ (show _ ≤ 2 * R.length by omega)) (Nat.mul_le_mul_left _ ?_)
    exact Nat.le_mul_of_pos_right _ hp
  have h5 : lens R * ((1 + p) * (p * p)) ≤ lens R * (2 * (p * p * p)) := by
    refine Nat.mul_le_mul_left _ ?_
    have : (1 + p) * (p * p) ≤ (2 * p) * (p * p) := Nat.mul_le_mul_right _ (by omega)
    refine Nat.le_trans this (Nat.le_of_eq ?_)
    simp only [Nat.mul_assoc]
  have e5 : 4 * (lens R + R.length) * p * p * p = 4 * (lens R + R.length) * (p * p * p) := by
    simp only [Nat.mul_assoc]
  rw [e5]
  have e6 : 4 * (lens R + R.length) * (p * p * p) = 4 * (lens R * (p * p * p)) + 4 * (R.length * (p * p * p)) := by rw [Nat.mul_assoc, Nat.add_mul, Nat.mul_add]
  have e7 : 2 * R.length * (p * p * p) = 2 * (R.length * (p * p * p)) := Nat.mul_assoc _ _ _
  have e8 : lens R * (2 * (p * p * p)) = 2 * (lens R * (p * p * p)) := Nat.mul_left_comm _ _ _
  rw [e7] at h4
  rw [e8] at h5
  rw [e6]
  omega
end Go.Vc.Ea
namespace Go.Vc.Ea
variable {R : List Ru}
inductive Tb (β : Type) where
  | leaf (b : β)
  | node (r : Nat) (kids : List (Tb β))
mutual
def dress {β : Type} (f : Nat → β) : Tr → Tb β
  | .leaf m => .leaf (f m)
  | .node q ks => .node q (dressS f ks)
def dressS {β : Type} (f : Nat → β) : List Tr → List (Tb β)
  | [] => []
  | t :: ts => dress f t :: dressS f ts
end
end Go.Vc.Ea
