/-
  The program's chart: what a step comes to is the plain step.
-/
import Derived.Test.YtfhbgelpmbkooaaFY
set_option linter.unusedVariables false
set_option linter.unusedSimpArgs false
namespace Go.Vc
open Go Ea
def itE (x : It) : EItem := ⟨(x.rule : Int), (x.dot : Int), (x.from_ : Int)⟩
theorem itE_inj {x y : It} (h : itE x = itE y) : x = y := by
  cases x; cases y
  simp only [itE, EItem.mk.injEq, Int.natCast_inj] at h
  obtain ⟨rfl, rfl, rfl⟩ := h
  rfl
def setsE (S : List (List It)) : List (List EItem) := S.map fun l => l.map itE
theorem setsE_len (S : List (List It)) : (setsE S).length = S.length := by simp [setsE]
theorem setsE_at (S : List (List It)) (j : Nat) : at_ (setsE S) (j : Int) = (at' S j).map itE := by
  unfold at_ setsE at'
  rw [Int.toNat_natCast, List.getD_eq_getElem?_getD, List.getD_eq_getElem?_getD, List.getElem?_map]
  cases S[j]? <;> rfl
theorem qE_iff {a b : EItem} : qEItem a b = true ↔ a = b := by
  cases a; cases b
  simp [qEItem]
theorem intE_iff {a b : Int} : intE a b = true ↔ a = b := by simp [intE]
theorem tget_tput {κ : Type} [DecidableEq κ] {eq : κ → κ → Bool} (he : ∀ a b, eq a b = true ↔ a = b) (a b : κ) (v : Int) : ∀ m : List (κ × Int), tget eq a (tput eq b v m) = if a = b then some v else tget eq a m
  | [] => by
    unfold tput tget
    by_cases h : a = b
    · rw [if_pos ((he a b).2 h), if_pos h]
    · rw [if_neg (fun e => h ((he a b).1 e)), if_neg h]; rfl
  | p :: r => by
    unfold tput
    by_cases hb : eq b p.1 = true
    · rw [if_pos hb]
      have hbp := (he b p.1).1 hb
      unfold tget
      by_cases h : a = b
      · rw [if_pos ((he a p.1).2 (h.trans hbp)), if_pos h]
      · rw [if_neg (fun e => h (((he a p.1).1 e).trans hbp.symm)), if_neg h, if_neg (fun e => h (((he a p.1).1 e).trans hbp.symm))]
    · rw [if_neg hb]
      show (if eq a p.1 = true then some p.2 else tget eq a (tput eq b v r)) = _
      rw [tget_tput he a b v r]
      show _ = if a = b then some v else (if eq a p.1 = true then some p.2 else tget eq a r)
      by_cases h : a = b
      · rw [if_pos h, if_pos h, if_neg (fun e => hb ((he b p.1).2 (h.symm.trans ((he a p.1).1 e))))]
      · rw [if_neg h, if_neg h]
instance : DecidableEq EItem := fun a b => if h : qEItem a b = true then isTrue (qE_iff.1 h) else isFalse fun e => h (qE_iff.2 e)
structure MetR (S : List (List It)) (met : List (List (EItem × Int))) : Prop where
  len : met.length = S.length
  mem : ∀ (j : Nat) (x : It), 0 < (tget qEItem (itE x) (met.getD j [])).getD 0 ↔ x ∈ at' S j
structure Pre (S S' : List (List It)) : Prop where
  len : S'.length = S.length
  pre : ∀ k, at' S k <+: at' S' k
theorem Pre.refl (S : List (List It)) : Pre S S := ⟨rfl, fun _ => List.prefix_refl _⟩
theorem Pre.trans {a b c : List (List It)} (h : Pre a b) (h2 : Pre b c) : Pre a c := ⟨h2.len.trans h.len, fun k => (h.pre k).trans (h2.pre k)⟩
theorem addI_pre {S : List (List It)} {j : Nat} (x : It) : Pre S (addI S j x) := by
  unfold addI
  split
  · exact .refl S
  · by_cases hj : j < S.length
    · refine ⟨by simp, fun k => ?_⟩
      rw [at_set hj]
      split
      · rename_i h; subst h; exact List.prefix_append _ _
      · exact List.prefix_refl _
    · rw [List.set_eq_of_length_le (by omega)]
      exact .refl S
theorem adds_pre {j : Nat} : ∀ (qs : List Nat) (S : List (List It)), Pre S (qs.foldl (fun S q => addI S j ⟨q, 0, j⟩) S)
  | [], S => .refl S
  | q :: qs, S => (addI_pre _).trans (adds_pre qs _)
section
variable {R : List Ru}
theorem compL_pre {j k a : Nat} : ∀ (f i : Nat) (S S' : List (List It)), compL R j k a f i S = some S' → Pre S S'
  | 0, _, _, _, h => by cases h
  | f + 1, i, S, S', h => by
    unfold compL at h
    split at h
    · refine Pre.trans ?_ (compL_pre f (i + 1) _ S' h)
      split
      · exact addI_pre _
      · exact .refl S
    · cases h; exact .refl _
theorem stepE_pre {by_ : Nat → List Nat} {n f j : Nat} {x : It} {S : List (List It)} {em : List Nat} {v : List (List It) × List Nat} (h : stepE R by_ n f j x S em = some v) : Pre S v.1 := by
  unfold stepE at h
  split at h
  · cases h
  · split at h
    · obtain ⟨S', e, rfl⟩ := Option.map_eq_some_iff.1 h
      exact compL_pre _ _ _ _ e
    · cases h
      show Pre S (if _ then _ else _)
      split
      · exact addI_pre _
      · exact .refl S
    · cases h
      show Pre S (if _ then _ else _)
      split
      · exact (adds_pre _ _).trans (addI_pre _)
      · exact adds_pre _ _
theorem setL_pre {by_ : Nat → List Nat} {n f j : Nat} : ∀ (g i : Nat) (S S' : List (List It)) (em : List Nat), setL R by_ n f j g i S em = some S' → Pre S S'
  | 0, _, _, _, _, h => by cases h
  | g + 1, i, S, S', em, h => by
    unfold setL at h
    split at h
    · split at h
      · cases h
      · rename_i S1 em1 e
        exact (stepE_pre e).trans (setL_pre g (i + 1) S1 S' em1 h)
    · cases h; exact .refl _
theorem allL_pre {by_ : Nat → List Nat} {n f : Nat} : ∀ (c j : Nat) (S S' : List (List It)), allL R by_ n f c j S = some S' → Pre S S'
  | 0, _, _, _, h => by cases h; exact .refl _
  | c + 1, j, S, S', h => by
    unfold allL at h
    split at h
    · cases h
    · rename_i S1 e
      exact (setL_pre _ _ _ _ _ e).trans (allL_pre c (j + 1) S1 S' h)
end
structure Bnd (R : List Ru) (S : List (List It)) : Prop where
  sz : ∀ k, (at' S k).length ≤ 90000
  it : ∀ k, ∀ y ∈ at' S k, (∃ r, R[y.rule]? = some r ∧ y.dot ≤ r.rhs.length) ∧ y.from_ < S.length
theorem Bnd.of_pre {R : List Ru} {S S' : List (List It)} (h : Bnd R S') (p : Pre S S') : Bnd R S :=
  ⟨fun k => Nat.le_trans (p.pre k).length_le (h.sz k), fun k y hy => by
    have := h.it k y ((p.pre k).subset hy)
    rw [p.len] at this
    exact this⟩
theorem add_ok {R : List Ru} {S : List (List It)} {c : Earley_chart} (hs : c.sets = setsE S) (hm : MetR S c.met) {j : Nat} (hj : j < S.length) (hB : (at' S j).length ≤ 90000) (x : It) :
    ∃ met', F.earley.chart_add c (j : Int) (itE x) = some ⟨c.g, c.w_, c.by_, setsE (addI S j x), met', c.empty⟩ ∧ MetR (addI S j x) met' := by
  have hin : inR (j : Int) c.met.length = true := inR_iff.2 ⟨by omega, by rw [hm.len]; omega⟩
  have hin2 : inR (j : Int) c.sets.length = true := inR_iff.2 ⟨by omega, by rw [hs, setsE_len]; omega⟩
  have hat : at_ c.met (j : Int) = c.met.getD j [] := rfl
  have hat2 : at_ c.sets (j : Int) = (at' S j).map itE := by rw [hs, setsE_at]
  unfold F.earley.chart_add
  simp only [hin, hin2, if_true, hat]
  by_cases h : x ∈ at' S j
  · have h1 : 0 < (tget qEItem (itE x) (c.met.getD j [])).getD 0 := (hm.mem j x).2 h
    have e : addI S j x = S := by unfold addI; rw [if_pos h]
    rw [e]
    refine ⟨c.met, ?_, hm⟩
    rw [decide_eq_true h1, if_pos rfl, ← hs]
  · have h1 : ¬ 0 < (tget qEItem (itE x) (c.met.getD j [])).getD 0 := fun h2 => h ((hm.mem j x).1 h2)
    have e : addI S j x = S.set j (at' S j ++ [x]) := by unfold addI; rw [if_neg h]
    have e1 : decide (((at_ c.sets (j : Int)).length + ([itE x] : List EItem).length) * 24 ≤ 140737488355328) = true := decide_eq_true (by rw [hat2]; simp only [List.length_map, List.length_singleton]; omega)
    have e2 : decide ((at_ c.sets (j : Int)).length + ([itE x] : List EItem).length ≤ 9223372036854775807) = true := decide_eq_true (by rw [hat2]; simp only [List.length_map, List.length_singleton]; omega)
    rw [e, decide_eq_false h1]
    simp only [Bool.false_eq_true, if_false, e1, e2, if_true]
    refine ⟨_, by
      have : set_ c.sets (j : Int) (at_ c.sets (j : Int) ++ [itE x]) = setsE (S.set j (at' S j ++ [x])) := by
        rw [hat2, hs]
        unfold set_ setsE
        rw [Int.toNat_natCast, List.map_set, List.map_append]; rfl
      rw [this], ?_⟩
    have hjm : j < c.met.length := by rw [hm.len]; exact hj
    refine ⟨by rw [set_len, List.length_set]; exact hm.len, fun q y => ?_⟩
    rw [at_set hj]
    have hg : (set_ c.met (j : Int) (tput qEItem (itE x) 1 (c.met.getD j []))).getD q [] = if q = j then tput qEItem (itE x) 1 (c.met.getD j []) else c.met.getD q [] := by
      have := set_get (xs := c.met) (i := (j : Int)) (by omega) (by omega) (tput qEItem (itE x) 1 (c.met.getD j [])) q
      simpa using this
    rw [hg]
    by_cases hq : q = j
    · subst hq
      rw [if_pos rfl, if_pos rfl, tget_tput (fun a b => qE_iff), List.mem_append, List.mem_singleton]
      by_cases hy : y = x
      · subst hy
        simp
      · rw [if_neg (fun e => hy (itE_inj e)), hm.mem]
        simp [hy]
    · rw [if_neg hq, if_neg hq]
      exact hm.mem q y
end Go.Vc
