/-
  The chart comes to an end: no more items than there can be.
-/
import Derived.Test.YtfhbgelpmbkooaaGF
set_option linter.unusedVariables false
set_option linter.unusedSimpArgs false
namespace Go.Vc.Ea
variable {R : List Ru}
def univ (R : List Ru) (n : Nat) : List It := R.zipIdx.flatMap fun x => (List.range (x.1.rhs.length + 1)).flatMap fun d => (List.range (n + 1)).map fun k => ⟨x.2, d, k⟩
def bound (R : List Ru) (n : Nat) : Nat := (R.map fun r => (r.rhs.length + 1) * (n + 1)).sum
theorem univ_len (R : List Ru) (n : Nat) : (univ R n).length = bound R n := by
  unfold univ bound
  rw [List.length_flatMap]
  have hc : ∀ (c m : Nat), (List.map (fun _ => c) (List.range m)).sum = m * c := by
    intro c m
    induction m with
    | zero => simp
    | succ m ih => rw [List.range_succ, List.map_append, List.sum_append, ih, Nat.succ_mul]; simp
  have e : (fun x : Ru × Nat => ((List.range (x.1.rhs.length + 1)).flatMap fun d => (List.range (n + 1)).map fun k => (⟨x.2, d, k⟩ : It)).length) = (fun r : Ru => (r.rhs.length + 1) * (n + 1)) ∘ Prod.fst := by
    funext x
    rw [List.length_flatMap]
    simp only [List.length_map, List.length_range, Function.comp]
    exact hc _ _
  rw [e, ← List.map_map, List.zipIdx_map_fst]
theorem mem_univ {n j : Nat} (hj : j ≤ n) {x : It} (h : Says R j x) : x ∈ univ R n := by
  obtain ⟨r, hr, hd, hder⟩ := h
  have hle := hder.le
  unfold univ
  refine List.mem_flatMap.2 ⟨(r, x.rule), List.mem_zipIdx_iff_getElem?.2 hr, List.mem_flatMap.2 ⟨x.dot, List.mem_range.2 (by show x.dot < r.rhs.length + 1; omega), List.mem_map.2 ⟨x.from_, List.mem_range.2 (by omega), rfl⟩⟩⟩
def Nd (S : List (List It)) : Prop := ∀ k, (at' S k).Nodup
theorem at_over {S : List (List It)} {k : Nat} (h : S.length ≤ k) : at' S k = [] := by
  unfold at'
  rw [List.getD_eq_getElem?_getD, List.getElem?_eq_none h]
  rfl
theorem set_le {n : Nat} {S : List (List It)} (hl : S.length = n + 1) (hs : Sound R S) (hn : Nd S) (k : Nat) : (at' S k).length ≤ bound R n := by
  rw [← univ_len]
  by_cases hk : k ≤ n
  · exact (hn k).length_le_of_subset fun x hx => mem_univ hk (hs k x hx)
  · rw [at_over (by omega)]; exact Nat.zero_le _
theorem nd_add {S : List (List It)} (hn : Nd S) {j : Nat} (hj : j < S.length) (x : It) : Nd (addI S j x) := by
  unfold addI
  split
  · exact hn
  · rename_i h
    intro k
    rw [at_set hj]
    split
    · rw [List.nodup_append]
      exact ⟨hn j, by simp, fun a ha b hb e => h (by rw [List.mem_singleton] at hb; rw [← hb, ← e]; exact ha)⟩
    · exact hn k
theorem adds_nd {j : Nat} : ∀ (qs : List Nat) (S : List (List It)), j < S.length → Nd S → Nd (qs.foldl (fun S q => addI S j ⟨q, 0, j⟩) S)
  | [], S, _, hn => hn
  | q :: qs, S, hj, hn => by
    rw [List.foldl_cons]
    have := (addI_ok hj (Nat.le_refl j) (⟨q, 0, j⟩ : It)).1.len
    exact adds_nd qs _ (by rw [this]; exact hj) (nd_add hn hj _)
theorem compL_some {n j k a : Nat} (hjn : j ≤ n) : ∀ (f i : Nat) (S : List (List It)), S.length = n + 1 → Sound R S → Nd S → DerY R (.nt a) k j → i ≤ bound R n → bound R n + 1 ≤ f + i → ∃ S', compL R j k a f i S = some S' ∧ Nd S' := by
  intro f
  induction f with
  | zero => intro i S _ _ _ _ h1 h2; omega
  | succ f ih =>
    intro i S hl hs hn hd hi hf
    have hb := set_le hl hs hn k
    unfold compL
    by_cases h : i < (at' S k).length
    · rw [if_pos h]
      have hy : (at' S k).getD i default ∈ at' S k := by rw [getD_get h]; exact List.getElem_mem _
      generalize (at' S k).getD i default = y at *
      by_cases hw : waits R y a = true
      · rw [if_pos hw]
        obtain ⟨r, hr, hget⟩ := waits_iff.1 hw
        have hsay := says_next (hs k y hy) hr hget hd
        have g := (addI_ok (S := S) (j := j) (by omega) (Nat.le_refl j) (nx y)).1
        exact ih (i + 1) _ (by rw [g.len]; exact hl) (sound_add (by omega) hs hsay) (nd_add hn (by omega) _) hd (by omega) (by omega)
      · rw [if_neg hw]
        exact ih (i + 1) S hl hs hn hd (by omega) (by omega)
    · rw [if_neg h]
      exact ⟨S, rfl, hn⟩
theorem stepE_some {by_ : Nat → List Nat} {n f j : Nat} {x : It} {S : List (List It)} {em : List Nat} (hf : bound R n + 1 ≤ f) (hl : S.length = n + 1) (hj : j ≤ n) (hx : x ∈ at' S j) (hs : Sound R S) (hn : Nd S) : ∃ v, stepE R by_ n f j x S em = some v ∧ Nd v.1 := by
  obtain ⟨r, hr, hdot, hder⟩ := hs j x hx
  have hfrom := hder.le
  unfold stepE
  rw [hr]
  simp only
  cases hg : r.rhs[x.dot]? with
  | none =>
    have hend : x.dot = r.rhs.length := by
      rw [List.getElem?_eq_none_iff] at hg
      omega
    obtain ⟨S', e, h'⟩ := compL_some (n := n) hj f 0 S hl hs hn (says_end (hs j x hx) hr hend) (Nat.zero_le _) (by omega)
    simp only
    rw [e]
    exact ⟨_, rfl, h'⟩
  | some s =>
    cases s with
    | tm p =>
      refine ⟨_, rfl, ?_⟩
      simp only
      split
      · exact nd_add hn (by omega) _
      · exact hn
    | nt a =>
      refine ⟨_, rfl, ?_⟩
      simp only
      have h1 := adds_nd (by_ a) S (by omega) hn (j := j)
      split
      · refine nd_add h1 ?_ _
        have : ∀ (qs : List Nat) (S : List (List It)), (qs.foldl (fun S q => addI S j ⟨q, 0, j⟩) S).length = S.length := by
          intro qs
          induction qs with
          | nil => intro S; rfl
          | cons q qs ih =>
            intro S
            rw [List.foldl_cons, ih]
            unfold addI
            split
            · rfl
            · rw [List.length_set]
        rw [this]
        omega
      · exact h1
theorem setL_some {by_ : Nat → List Nat} (hby : Bys R by_) {n f j : Nat} (hj : j ≤ n) (hf : bound R n + 1 ≤ f) : ∀ (g i : Nat) (S : List (List It)) (em : List Nat), S.length = n + 1 → Sound R S → Nd S → (∀ a ∈ em, DerY R (.nt a) j j) → i ≤ bound R n → bound R n + 1 ≤ g + i → ∃ S', setL R by_ n f j g i S em = some S' ∧ Nd S' := by
  intro g
  induction g with
  | zero => intro i S em _ _ _ _ h1 h2; omega
  | succ g ih =>
    intro i S em hl hs hn he hi hg
    have hb := set_le hl hs hn j
    unfold setL
    by_cases h : i < (at' S j).length
    · rw [if_pos h, getD_get h]
      obtain ⟨⟨S1, em1⟩, e, h1⟩ := stepE_some (by_ := by_) (em := em) hf hl hj (List.getElem_mem h) hs hn
      obtain ⟨g1, g2, _, g4, _⟩ := stepE_ok hby hl hj (List.getElem_mem h) hs he e
      rw [e]
      exact ih (i + 1) S1 em1 (by rw [g1.len]; exact hl) g2 h1 g4 (by omega) (by omega)
    · rw [if_neg h]
      exact ⟨S, rfl, hn⟩
theorem allL_some {by_ : Nat → List Nat} (hby : Bys R by_) {n f : Nat} (hf : bound R n + 1 ≤ f) : ∀ (c j : Nat) (S : List (List It)), j + c = n + 1 → S.length = n + 1 → Sound R S → Nd S → ∃ S', allL R by_ n f c j S = some S' ∧ Nd S'
  | 0, j, S, _, _, _, hn => ⟨S, rfl, hn⟩
  | c + 1, j, S, hc, hl, hs, hn => by
    unfold allL
    obtain ⟨S1, e, h1⟩ := setL_some (n := n) (j := j) hby (by omega) hf f 0 S [] hl hs hn (fun a ha => by cases ha) (Nat.zero_le _) (by omega)
    obtain ⟨g1, g2, _⟩ := setL_ok (n := n) hby (by omega) f 0 S S1 [] hl hs (fun a ha => by cases ha) (fun q hq => by omega) e
    rw [e]
    exact allL_some hby hf c (j + 1) S1 (by omega) (by rw [g1.len]; exact hl) g2 h1
def chart (R : List Ru) (by_ : Nat → List Nat) (n f a : Nat) : Option (List (List It)) := allL R by_ n f (n + 1) 0 ((by_ a).foldl (fun S q => addI S 0 ⟨q, 0, 0⟩) (List.replicate (n + 1) []))
theorem chart_ok {by_ : Nat → List Nat} (hby : Bys R by_) {n f : Nat} (hf : bound R n + 1 ≤ f) (a : Nat) : ∃ S, chart R by_ n f a = some S ∧ S.length = n + 1 ∧ Sound R S ∧ Nd S ∧ ∀ j, j ≤ n → ((∃ x ∈ at' S j, ∃ r, R[x.rule]? = some r ∧ r.lhs = a ∧ x.from_ = 0 ∧ x.dot = r.rhs.length) ↔ DerY R (.nt a) 0 j) := by
  have hl : (List.replicate (n + 1) ([] : List It)).length = n + 1 := by simp
  have he : ∀ k, at' (List.replicate (n + 1) ([] : List It)) k = [] := by
    intro k
    unfold at'
    rw [List.getD_eq_getElem?_getD, List.getElem?_replicate]
    split <;> rfl
  have hs : Sound R (List.replicate (n + 1) []) := fun k y hy => by rw [he] at hy; cases hy
  have hn : Nd (List.replicate (n + 1) []) := fun k => by rw [he]; exact List.nodup_nil
  obtain ⟨a1, a2, a3⟩ := adds_ok (R := R) (j := 0) (by_ a) _ (by omega) hs (fun q hq => by obtain ⟨r, h, _⟩ := (hby a q).1 hq; exact ⟨r, h⟩)
  have a4 := adds_nd (j := 0) (by_ a) _ (by omega) hn
  obtain ⟨S, e, h1⟩ := allL_some hby hf (n + 1) 0 _ (by omega) (by rw [a1.len]; exact hl) a2 a4
  obtain ⟨b1, b2, b3⟩ := allL_ok hby (n + 1) 0 _ S (by omega) (by rw [a1.len]; exact hl) a2 (fun k hk => by omega) e
  exact ⟨S, e, by rw [b1.len, a1.len]; exact hl, b2, h1, fun j hj => chart_nt b2 b3 (fun q r h2 h3 => b1.mem (a3 q ((hby a q).2 ⟨r, h2, h3⟩))) hj⟩
end Go.Vc.Ea
