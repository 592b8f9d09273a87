/-
  The program's way to a chart, plain: its sets are closed, and each item is so.
-/
import Derived.Test.YtfhbgelpmbkooaaGD
set_option linter.unusedVariables false
set_option linter.unusedSimpArgs false
namespace Go.Vc.Ea
variable {R : List Ru}
instance : Inhabited It := ⟨⟨0, 0, 0⟩⟩
def at' (S : List (List It)) (j : Nat) : List It := S.getD j []
def waits (R : List Ru) (y : It) (a : Nat) : Bool := match R[y.rule]? with
  | none => false
  | some r => match r.rhs[y.dot]? with
    | some (.nt b) => a == b
    | _ => false
theorem waits_iff {y : It} {a : Nat} : waits R y a = true ↔ ∃ r, R[y.rule]? = some r ∧ r.rhs[y.dot]? = some (.nt a) := by
  unfold waits
  cases h : R[y.rule]? with
  | none => simp
  | some r =>
    simp only [Option.some.injEq, exists_eq_left']
    cases h2 : r.rhs[y.dot]? with
    | none => simp
    | some s => cases s with
      | tm p => simp
      | nt b =>
        simp only [beq_iff_eq, Option.some.injEq, Sy.nt.injEq]
        exact eq_comm
def nx (y : It) : It := ⟨y.rule, y.dot + 1, y.from_⟩
def addI (S : List (List It)) (j : Nat) (x : It) : List (List It) := if x ∈ at' S j then S else S.set j (at' S j ++ [x])
def compL (R : List Ru) (j k a : Nat) : Nat → Nat → List (List It) → Option (List (List It))
  | 0, _, _ => none
  | f + 1, i, S => if i < (at' S k).length then compL R j k a f (i + 1) (if waits R ((at' S k).getD i default) a then addI S j (nx ((at' S k).getD i default)) else S) else some S
def stepE (R : List Ru) (by_ : Nat → List Nat) (n f j : Nat) (x : It) (S : List (List It)) (em : List Nat) : Option (List (List It) × List Nat) := match R[x.rule]? with
  | none => none
  | some r => match r.rhs[x.dot]? with
    | none => (compL R j x.from_ r.lhs f 0 S).map fun S' => (S', if x.from_ = j then r.lhs :: em else em)
    | some (.tm p) => some (if j < n ∧ p j = true then addI S (j + 1) (nx x) else S, em)
    | some (.nt a) => some (if a ∈ em then addI ((by_ a).foldl (fun S q => addI S j ⟨q, 0, j⟩) S) j (nx x) else (by_ a).foldl (fun S q => addI S j ⟨q, 0, j⟩) S, em)
def setL (R : List Ru) (by_ : Nat → List Nat) (n f j : Nat) : Nat → Nat → List (List It) → List Nat → Option (List (List It))
  | 0, _, _, _ => none
  | g + 1, i, S, em => if i < (at' S j).length then (match stepE R by_ n f j ((at' S j).getD i default) S em with
      | none => none
      | some (S', em') => setL R by_ n f j g (i + 1) S' em') else some S
structure Gr (j : Nat) (S S' : List (List It)) : Prop where
  len : S'.length = S.length
  pre : ∀ k, at' S k <+: at' S' k
  low : ∀ k, k < j → at' S' k = at' S k
theorem Gr.refl (j : Nat) (S : List (List It)) : Gr j S S := ⟨rfl, fun _ => List.prefix_refl _, fun _ _ => rfl⟩
theorem Gr.trans {j : Nat} {a b c : List (List It)} (h : Gr j a b) (h2 : Gr j b c) : Gr j a c := ⟨h2.len.trans h.len, fun k => (h.pre k).trans (h2.pre k), fun k hk => (h2.low k hk).trans (h.low k hk)⟩
theorem Gr.mem {j k : Nat} {S S' : List (List It)} {x : It} (h : Gr j S S') (hx : x ∈ at' S k) : x ∈ at' S' k := (h.pre k).subset hx
theorem at_set {S : List (List It)} {j : Nat} (hj : j < S.length) (l : List It) (k : Nat) : at' (S.set j l) k = if k = j then l else at' S k := by
  unfold at'
  rw [List.getD_eq_getElem?_getD, List.getElem?_set]
  by_cases h : k = j
  · subst h; simp [hj]
  · rw [if_neg (fun e => h e.symm), if_neg h, List.getD_eq_getElem?_getD]
theorem addI_ok {S : List (List It)} {j j0 : Nat} (hj : j < S.length) (hj0 : j0 ≤ j) (x : It) : Gr j0 S (addI S j x) ∧ x ∈ at' (addI S j x) j ∧ ∀ k y, y ∈ at' (addI S j x) k → y ∈ at' S k ∨ (k = j ∧ y = x) := by
  unfold addI
  split
  · rename_i h
    exact ⟨.refl _ _, h, fun k y hy => .inl hy⟩
  · refine ⟨⟨by rw [List.length_set], fun k => ?_, fun k hk => ?_⟩, ?_, fun k y hy => ?_⟩
    · rw [at_set hj]
      by_cases h : k = j
      · rw [if_pos h, h]; exact List.prefix_append _ _
      · rw [if_neg h]; exact List.prefix_refl _
    · rw [at_set hj, if_neg (by omega)]
    · rw [at_set hj, if_pos rfl]; simp
    · rw [at_set hj] at hy
      by_cases h : k = j
      · rw [if_pos h] at hy
        rcases List.mem_append.1 hy with hy | hy
        · exact .inl (h ▸ hy)
        · exact .inr ⟨h, by simpa using hy⟩
      · rw [if_neg h] at hy; exact .inl hy
def Sound (R : List Ru) (S : List (List It)) : Prop := ∀ k y, y ∈ at' S k → Says R k y
theorem sound_add {S : List (List It)} {j : Nat} (hj : j < S.length) {x : It} (h : Sound R S) (hx : Says R j x) : Sound R (addI S j x) := fun k y hy => by
  rcases (addI_ok hj (Nat.le_refl _) x).2.2 k y hy with h1 | ⟨rfl, rfl⟩
  · exact h k y h1
  · exact hx
theorem getD_get {l : List It} {i : Nat} (h : i < l.length) : l.getD i default = l[i] := by simp [h]
theorem prefix_get {l l' : List It} (h : l <+: l') {i : Nat} (hi : i < l.length) : l'.getD i default = l.getD i default := by
  obtain ⟨t, rfl⟩ := h
  rw [List.getD_eq_getElem?_getD, List.getD_eq_getElem?_getD, List.getElem?_append_left hi]
theorem compL_ok {j k a : Nat} (hkj : k ≤ j) : ∀ (f i : Nat) (S S' : List (List It)), j < S.length → compL R j k a f i S = some S' → Sound R S → DerY R (.nt a) k j → (∀ q, q < i → q < (at' S k).length → waits R ((at' S k).getD q default) a = true → nx ((at' S k).getD q default) ∈ at' S j) →
    Gr j S S' ∧ Sound R S' ∧ ∀ y ∈ at' S' k, waits R y a = true → nx y ∈ at' S' j := by
  intro f
  induction f with
  | zero => intro i S S' _ h; cases h
  | succ f ih =>
    intro i S S' hj h hs hd hq
    unfold compL at h
    by_cases hi : i < (at' S k).length
    · rw [if_pos hi] at h
      have hy : (at' S k).getD i default ∈ at' S k := by rw [getD_get hi]; exact List.getElem_mem _
      generalize hyd : (at' S k).getD i default = y at *
      by_cases hw : waits R y a = true
      · rw [if_pos hw] at h
        obtain ⟨g1, g2, g3⟩ := addI_ok hj (Nat.le_refl j) (nx y)
        obtain ⟨r, hr, hget⟩ := waits_iff.1 hw
        have hsay := says_next (hs k y hy) hr hget hd
        obtain ⟨q1, q2, q3⟩ := ih (i + 1) _ S' (by rw [g1.len]; exact hj) h (sound_add hj hs hsay) hd (fun q h1 h2 h3 => by
          have hql : q < (at' S k).length := by omega
          rw [prefix_get (g1.pre k) hql] at h3 ⊢
          by_cases e : q = i
          · rw [e, hyd]; exact g2
          · exact g1.mem (hq q (by omega) hql h3))
        exact ⟨g1.trans q1, q2, q3⟩
      · rw [if_neg hw] at h
        exact ih (i + 1) S S' hj h hs hd (fun q h1 h2 h3 => by
          by_cases e : q = i
          · rw [e, hyd] at h3; exact absurd h3 hw
          · exact hq q (by omega) h2 h3)
    · rw [if_neg hi] at h
      cases h
      refine ⟨.refl _ _, hs, fun y hy hw => ?_⟩
      obtain ⟨q, hq1, rfl⟩ := List.mem_iff_getElem.1 hy
      have := hq q (by omega) hq1
      rw [getD_get hq1] at this
      exact this hw
end Go.Vc.Ea
