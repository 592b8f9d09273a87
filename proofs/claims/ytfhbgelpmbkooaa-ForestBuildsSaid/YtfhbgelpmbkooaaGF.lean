/-
  The program's way to a chart, plain: the sets are closed.
-/
import Derived.Test.YtfhbgelpmbkooaaGE
set_option linter.unusedVariables false
set_option linter.unusedSimpArgs false
namespace Go.Vc.Ea
variable {R : List Ru}
def Bys (R : List Ru) (by_ : Nat → List Nat) : Prop := ∀ a q, q ∈ by_ a ↔ ∃ r, R[q]? = some r ∧ r.lhs = a
theorem adds_ok {j : Nat} : ∀ (qs : List Nat) (S : List (List It)), j < S.length → Sound R S → (∀ q ∈ qs, ∃ r, R[q]? = some r) → Gr j S (qs.foldl (fun S q => addI S j ⟨q, 0, j⟩) S) ∧ Sound R (qs.foldl (fun S q => addI S j ⟨q, 0, j⟩) S) ∧ ∀ q ∈ qs, (⟨q, 0, j⟩ : It) ∈ at' (qs.foldl (fun S q => addI S j ⟨q, 0, j⟩) S) j
  | [], S, _, hs, _ => ⟨.refl _ _, hs, fun q hq => by cases hq⟩
  | q :: qs, S, hj, hs, hq => by
    rw [List.foldl_cons]
    obtain ⟨g1, g2, _⟩ := addI_ok hj (Nat.le_refl j) (⟨q, 0, j⟩ : It)
    obtain ⟨r, hr⟩ := hq q List.mem_cons_self
    obtain ⟨a1, a2, a3⟩ := adds_ok qs (addI S j ⟨q, 0, j⟩) (by rw [g1.len]; exact hj) (sound_add hj hs (says_predict hr j)) (fun x hx => hq x (List.mem_cons_of_mem _ hx))
    refine ⟨g1.trans a1, a2, fun x hx => ?_⟩
    rcases List.mem_cons.1 hx with rfl | hx
    · exact a1.mem g2
    · exact a3 x hx
structure Done (R : List Ru) (n j : Nat) (S : List (List It)) (x : It) : Prop where
  predict : ∀ r a, R[x.rule]? = some r → r.rhs[x.dot]? = some (.nt a) → ∀ q r', R[q]? = some r' → r'.lhs = a → (⟨q, 0, j⟩ : It) ∈ at' S j
  scan : ∀ r p, R[x.rule]? = some r → r.rhs[x.dot]? = some (.tm p) → j < n → p j = true → nx x ∈ at' S (j + 1)
  complete : ∀ r, R[x.rule]? = some r → x.dot = r.rhs.length → x.from_ < j → ∀ y ∈ at' S x.from_, waits R y r.lhs = true → nx y ∈ at' S j
theorem Done.grow {n j : Nat} {S S' : List (List It)} {x : It} (h : Done R n j S x) (g : Gr j S S') : Done R n j S' x :=
  ⟨fun r a h1 h2 q r' h3 h4 => g.mem (h.predict r a h1 h2 q r' h3 h4), fun r p h1 h2 h3 h4 => g.mem (h.scan r p h1 h2 h3 h4), fun r h1 h2 h3 y hy hw => g.mem (h.complete r h1 h2 h3 y (by rw [g.low _ h3] at hy; exact hy) hw)⟩
theorem stepE_ok {by_ : Nat → List Nat} (hby : Bys R by_) {n f j : Nat} {x : It} {S S' : List (List It)} {em em' : List Nat} (hl : S.length = n + 1) (hj : j ≤ n) (hx : x ∈ at' S j) (hs : Sound R S) (he : ∀ a ∈ em, DerY R (.nt a) j j) (h : stepE R by_ n f j x S em = some (S', em')) :
    Gr j S S' ∧ Sound R S' ∧ (∀ a ∈ em, a ∈ em') ∧ (∀ a ∈ em', DerY R (.nt a) j j) ∧ Done R n j S' x ∧ (∀ a ∈ em, waits R x a = true → nx x ∈ at' S' j) ∧ (∀ r, R[x.rule]? = some r → x.dot = r.rhs.length → x.from_ = j → r.lhs ∈ em') ∧
    (∀ a ∈ em', a ∈ em ∨ ∀ y ∈ at' S' j, waits R y a = true → nx y ∈ at' S' j) := by
  have hjl : j < S.length := by omega
  obtain ⟨r, hr, hdot, hder⟩ := hs j x hx
  have hfrom := hder.le
  unfold stepE at h
  rw [hr] at h
  simp only at h
  have huniq : ∀ r', R[x.rule]? = some r' → r' = r := fun r' h' => by rw [hr] at h'; cases h'; rfl
  cases hg : r.rhs[x.dot]? with
  | none =>
    rw [hg] at h
    simp only at h
    have hend : x.dot = r.rhs.length := by
      rw [List.getElem?_eq_none_iff] at hg
      omega
    cases hc : compL R j x.from_ r.lhs f 0 S with
    | none => rw [hc] at h; cases h
    | some S1 =>
      rw [hc] at h
      simp only [Option.map_some, Option.some.injEq, Prod.mk.injEq] at h
      obtain ⟨rfl, rfl⟩ := h
      have hd := says_end (hs j x hx) hr hend
      obtain ⟨q1, q2, q3⟩ := compL_ok hfrom f 0 S S1 hjl hc hs hd (fun q h => by omega)
      have hno : ∀ r' s, R[x.rule]? = some r' → r'.rhs[x.dot]? = some s → False := fun r' s h1 h2 => by
        rw [huniq r' h1, hg] at h2
        cases h2
      refine ⟨q1, q2, fun a ha => ?_, fun a ha => ?_, ⟨fun r' a h1 h2 => (hno r' _ h1 h2).elim, fun r' p h1 h2 => (hno r' _ h1 h2).elim, fun r' h1 h2 h3 y hy hw => ?_⟩, fun a ha hw => ?_, fun r' h1 h2 h3 => ?_, fun a ha => ?_⟩
      · split
        · exact List.mem_cons_of_mem _ ha
        · exact ha
      · split at ha
        · rename_i e
          rcases List.mem_cons.1 ha with rfl | ha
          · rw [e] at hd; exact hd
          · exact he a ha
        · exact he a ha
      · rw [huniq r' h1] at hw
        exact q3 y hy hw
      · obtain ⟨r', h1, h2⟩ := waits_iff.1 hw
        exact (hno r' _ h1 h2).elim
      · rw [if_pos h3, huniq r' h1]
        exact List.mem_cons_self
      · split at ha
        · rename_i e
          rcases List.mem_cons.1 ha with rfl | ha
          · refine .inr fun y hy hw => ?_
            rw [e] at q3
            exact q3 y hy hw
          · exact .inl ha
        · exact .inl ha
  | some s =>
    have hnend : ∀ r', R[x.rule]? = some r' → x.dot = r'.rhs.length → False := fun r' h1 h2 => by
      rw [huniq r' h1] at h2
      have := (List.getElem?_eq_some_iff.1 hg).1
      omega
    rw [hg] at h
    cases s with
    | tm p =>
      simp only [Option.some.injEq, Prod.mk.injEq] at h
      obtain ⟨h1, rfl⟩ := h
      have key : Gr j S S' ∧ Sound R S' ∧ (j < n → p j = true → nx x ∈ at' S' (j + 1)) := by
        split at h1
        · rename_i hc
          obtain ⟨g1, g2, _⟩ := addI_ok (S := S) (j := j + 1) (j0 := j) (by omega) (by omega) (nx x)
          rw [← h1]
          exact ⟨g1, sound_add (by omega) hs (says_next (hs j x hx) hr hg (derY_tm.2 ⟨rfl, hc.2⟩)), fun _ _ => g2⟩
        · rename_i hc
          rw [← h1]
          exact ⟨.refl _ _, hs, fun a b => absurd ⟨a, b⟩ hc⟩
      obtain ⟨k1, k2, k3⟩ := key
      refine ⟨k1, k2, fun _ h => h, he, ⟨fun r' a h1 h2 => ?_, fun r' p' h1 h2 h3 h4 => ?_, fun r' h1 h2 => (hnend r' h1 h2).elim⟩, fun a ha hw => ?_, fun r' h1 h2 => (hnend r' h1 h2).elim, fun a ha => .inl ha⟩
      · rw [huniq r' h1, hg] at h2
        cases h2
      · rw [huniq r' h1, hg] at h2
        cases h2
        exact k3 h3 h4
      · obtain ⟨r', h1, h2⟩ := waits_iff.1 hw
        rw [huniq r' h1, hg] at h2
        cases h2
    | nt a =>
      simp only [Option.some.injEq, Prod.mk.injEq] at h
      obtain ⟨h1, rfl⟩ := h
      obtain ⟨g1, g2, g3⟩ := adds_ok (R := R) (by_ a) S hjl hs (fun q hq => by obtain ⟨r', h, _⟩ := (hby a q).1 hq; exact ⟨r', h⟩)
      have key : Gr j S S' ∧ Sound R S' ∧ (∀ q ∈ by_ a, (⟨q, 0, j⟩ : It) ∈ at' S' j) ∧ (a ∈ em → nx x ∈ at' S' j) := by
        split at h1
        · rename_i hc
          obtain ⟨b1, b2, _⟩ := addI_ok (S := (by_ a).foldl (fun S q => addI S j ⟨q, 0, j⟩) S) (j := j) (j0 := j) (by rw [g1.len]; exact hjl) (Nat.le_refl j) (nx x)
          rw [← h1]
          exact ⟨g1.trans b1, sound_add (by rw [g1.len]; exact hjl) g2 (says_next (hs j x hx) hr hg (he a hc)), fun q hq => b1.mem (g3 q hq), fun _ => b2⟩
        · rename_i hc
          rw [← h1]
          exact ⟨g1, g2, g3, fun h => absurd h hc⟩
      obtain ⟨k1, k2, k3, k4⟩ := key
      refine ⟨k1, k2, fun _ h => h, he, ⟨fun r' b h1 h2 q r2 h3 h4 => ?_, fun r' p' h1 h2 => ?_, fun r' h1 h2 => (hnend r' h1 h2).elim⟩, fun b hb hw => ?_, fun r' h1 h2 => (hnend r' h1 h2).elim, fun a ha => .inl ha⟩
      · rw [huniq r' h1, hg] at h2
        cases h2
        exact k3 q ((hby a q).2 ⟨r2, h3, h4⟩)
      · rw [huniq r' h1, hg] at h2
        cases h2
      · obtain ⟨r', h1, h2⟩ := waits_iff.1 hw
        rw [huniq r' h1, hg] at h2
        cases h2
        exact k4 hb
def ClosedAt (R : List Ru) (n : Nat) (S : List (List It)) (j : Nat) : Prop := ∀ x ∈ at' S j, Done R n j S x ∧ ∀ r, R[x.rule]? = some r → x.dot = r.rhs.length → x.from_ = j → ∀ y ∈ at' S j, waits R y r.lhs = true → nx y ∈ at' S j
theorem setL_ok {by_ : Nat → List Nat} (hby : Bys R by_) {n f j : Nat} (hj : j ≤ n) : ∀ (g i : Nat) (S S' : List (List It)) (em : List Nat), S.length = n + 1 → Sound R S → (∀ a ∈ em, DerY R (.nt a) j j) →
    (∀ q, q < i → ∀ hq : q < (at' S j).length, Done R n j S (at' S j)[q] ∧ (∀ r, R[(at' S j)[q].rule]? = some r → (at' S j)[q].dot = r.rhs.length → (at' S j)[q].from_ = j → r.lhs ∈ em) ∧ ∀ a ∈ em, waits R (at' S j)[q] a = true → nx (at' S j)[q] ∈ at' S j) →
    setL R by_ n f j g i S em = some S' → Gr j S S' ∧ Sound R S' ∧ ClosedAt R n S' j := by
  intro g
  induction g with
  | zero => intro i S S' em _ _ _ _ h; cases h
  | succ g ih =>
    intro i S S' em hl hs he hI h
    unfold setL at h
    by_cases hi : i < (at' S j).length
    · rw [if_pos hi, getD_get hi] at h
      cases hst : stepE R by_ n f j (at' S j)[i] S em with
      | none => rw [hst] at h; cases h
      | some v =>
        obtain ⟨S1, em1⟩ := v
        rw [hst] at h
        simp only at h
        obtain ⟨g1, g2, g3, g4, g5, g6, g7, g8⟩ := stepE_ok hby hl hj (List.getElem_mem hi) hs he hst
        have hpre := g1.pre j
        have hget : ∀ q (hq : q < (at' S j).length) (hq' : q < (at' S1 j).length), (at' S1 j)[q] = (at' S j)[q] := fun q hq hq' => by
          have := prefix_get hpre hq
          rw [getD_get hq', getD_get hq] at this
          exact this
        obtain ⟨r1, r2, r3⟩ := ih (i + 1) S1 S' em1 (by rw [g1.len]; exact hl) g2 g4 (fun q hq hq1 => by
          have hq0 : q < (at' S j).length := by omega
          rw [hget q hq0 hq1]
          by_cases e : q = i
          · subst e
            refine ⟨g5, g7, fun a ha hw => ?_⟩
            rcases g8 a ha with h1 | h1
            · exact g6 a h1 hw
            · exact h1 _ (g1.mem (List.getElem_mem hq0)) hw
          · obtain ⟨d1, d2, d3⟩ := hI q (by omega) hq0
            refine ⟨d1.grow g1, fun r h1 h2 h3 => g3 _ (d2 r h1 h2 h3), fun a ha hw => ?_⟩
            rcases g8 a ha with h1 | h1
            · exact g1.mem (d3 a h1 hw)
            · exact h1 _ (g1.mem (List.getElem_mem hq0)) hw) h
        exact ⟨g1.trans r1, r2, r3⟩
    · rw [if_neg hi] at h
      cases h
      refine ⟨.refl _ _, hs, fun x hx => ?_⟩
      obtain ⟨q, hq, rfl⟩ := List.mem_iff_getElem.1 hx
      obtain ⟨d1, d2, d3⟩ := hI q (by omega) hq
      refine ⟨d1, fun r h1 h2 h3 y hy hw => ?_⟩
      obtain ⟨p, hp, rfl⟩ := List.mem_iff_getElem.1 hy
      exact (hI p (by omega) hp).2.2 r.lhs (d2 r h1 h2 h3) hw
def allL (R : List Ru) (by_ : Nat → List Nat) (n f : Nat) : Nat → Nat → List (List It) → Option (List (List It))
  | 0, _, S => some S
  | c + 1, j, S => match setL R by_ n f j f 0 S [] with
    | none => none
    | some S' => allL R by_ n f c (j + 1) S'
theorem ClosedAt.grow {n j j' : Nat} (hj : j < j') {S S' : List (List It)} (h : ClosedAt R n S j) (g : Gr j' S S') : ClosedAt R n S' j := by
  have e : at' S' j = at' S j := g.low j hj
  intro x hx
  rw [e] at hx
  obtain ⟨d, c⟩ := h x hx
  refine ⟨⟨fun r a h1 h2 q r' h3 h4 => by rw [e]; exact d.predict r a h1 h2 q r' h3 h4, fun r p h1 h2 h3 h4 => g.mem (d.scan r p h1 h2 h3 h4), fun r h1 h2 h3 y hy hw => ?_⟩, fun r h1 h2 h3 y hy hw => ?_⟩
  · rw [e]
    rw [g.low _ (by omega)] at hy
    exact d.complete r h1 h2 h3 y hy hw
  · rw [e] at hy ⊢
    exact c r h1 h2 h3 y hy hw
theorem allL_ok {by_ : Nat → List Nat} (hby : Bys R by_) {n f : Nat} : ∀ (c j : Nat) (S S' : List (List It)), j + c = n + 1 → S.length = n + 1 → Sound R S → (∀ k, k < j → ClosedAt R n S k) → allL R by_ n f c j S = some S' → Gr j S S' ∧ Sound R S' ∧ ∀ k, k ≤ n → ClosedAt R n S' k
  | 0, j, S, S', hc, hl, hs, hk, h => by
    cases h
    exact ⟨.refl _ _, hs, fun k h => hk k (by omega)⟩
  | c + 1, j, S, S', hc, hl, hs, hk, h => by
    unfold allL at h
    cases hset : setL R by_ n f j f 0 S [] with
    | none => rw [hset] at h; cases h
    | some S1 =>
      rw [hset] at h
      simp only at h
      obtain ⟨a1, a2, a3⟩ := setL_ok hby (by omega) f 0 S S1 [] hl hs (fun a ha => by cases ha) (fun q hq => by omega) hset
      obtain ⟨b1, b2, b3⟩ := allL_ok hby c (j + 1) S1 S' (by omega) (by rw [a1.len]; exact hl) a2 (fun k hk' => by
        by_cases e : k = j
        · rw [e]; exact a3
        · exact (hk k (by omega)).grow (by omega) a1) h
      exact ⟨a1.trans ⟨b1.len, b1.pre, fun k hk => b1.low k (by omega)⟩, b2, b3⟩
theorem closed_of {n : Nat} {S : List (List It)} (hs : Sound R S) (h : ∀ k, k ≤ n → ClosedAt R n S k) : Closed R n fun j x => x ∈ at' S j :=
  ⟨fun j x r a hj hx h1 h2 q r' h3 h4 => (h j hj x hx).1.predict r a h1 h2 q r' h3 h4, fun j x r p hj hx h1 h2 h3 => (h j (by omega) x hx).1.scan r p h1 h2 hj h3,
    fun j x r y r' hj hx h1 h2 hy h3 h4 => by
      obtain ⟨_, _, _, hd⟩ := hs j x hx
      have hle := hd.le
      have hw : waits R y r.lhs = true := waits_iff.2 ⟨r', h3, h4⟩
      by_cases e : x.from_ = j
      · rw [e] at hy
        exact (h j hj x hx).2 r h1 h2 e y hy hw
      · exact (h j hj x hx).1.complete r h1 h2 (by omega) y hy hw⟩
theorem chart_nt {n : Nat} {S : List (List It)} (hs : Sound R S) (h : ∀ k, k ≤ n → ClosedAt R n S k) {a : Nat} (h0 : ∀ q r, R[q]? = some r → r.lhs = a → (⟨q, 0, 0⟩ : It) ∈ at' S 0) {j : Nat} (hj : j ≤ n) :
    (∃ x ∈ at' S j, ∃ r, R[x.rule]? = some r ∧ r.lhs = a ∧ x.from_ = 0 ∧ x.dot = r.rhs.length) ↔ DerY R (.nt a) 0 j := by
  constructor
  · rintro ⟨x, hx, r, h1, rfl, h3, h4⟩
    have := says_end (hs j x hx) h1 h4
    rw [h3] at this
    exact this
  · intro hd
    obtain ⟨r, hr, rfl, hd'⟩ := derY_nt.1 hd
    obtain ⟨q, hq⟩ := List.mem_iff_getElem?.1 hr
    exact ⟨_, closed_nt (closed_of hs h) hq (h0 q r hq rfl) hj hd', r, hq, rfl, rfl, rfl⟩
def shS (lo : Nat) : Sy → Sy
  | .nt a => .nt a
  | .tm p => .tm fun m => p (lo + m)
def shR (lo : Nat) (r : Ru) : Ru := ⟨r.lhs, r.rhs.map (shS lo)⟩
theorem der_shift {lo : Nat} {α : List Sy} {i j : Nat} : Der R α i j → ∀ i' j', i = lo + i' → j = lo + j' → Der (R.map (shR lo)) (α.map (shS lo)) i' j' := by
  intro h
  induction h with
  | nil i =>
    intro i' j' h1 h2
    have : i' = j' := by omega
    subst this
    exact .nil _
  | @tm α i m p h hp ih =>
    intro i' j' h1 h2
    have hle := h.le
    obtain ⟨m', rfl⟩ : ∃ m', m = lo + m' := ⟨m - lo, by omega⟩
    have : j' = m' + 1 := by omega
    subst this
    rw [List.map_append]
    exact .tm (p := fun m => p (lo + m)) (ih i' m' h1 rfl) hp
  | @nt α i m j r h hr hd ih ih2 =>
    intro i' j' h1 h2
    have hle := h.le
    obtain ⟨m', rfl⟩ : ∃ m', m = lo + m' := ⟨m - lo, by omega⟩
    rw [List.map_append]
    exact Der.nt (r := shR lo r) (ih i' m' h1 rfl) (List.mem_map_of_mem hr) (ih2 m' j' rfl h2)
theorem der_unshift {lo : Nat} {β : List Sy} {i j : Nat} : Der (R.map (shR lo)) β i j → ∀ α, β = α.map (shS lo) → Der R α (lo + i) (lo + j) := by
  intro h
  induction h with
  | nil i =>
    intro α e
    have : α = [] := by simpa using e.symm
    subst this
    exact .nil _
  | @tm β i m p h hp ih =>
    intro α e
    obtain ⟨α1, α2, rfl, e1, e2⟩ := List.map_eq_append_iff.1 e.symm
    obtain ⟨s, rfl⟩ : ∃ s, α2 = [s] := by
      have := congrArg List.length e2
      rw [List.length_map, List.length_singleton] at this
      exact List.length_eq_one_iff.1 this
    simp only [List.map_cons, List.map_nil, List.cons.injEq, and_true] at e2
    cases s with
    | nt a => cases e2
    | tm q =>
      simp only [shS, Sy.tm.injEq] at e2
      rw [← e2] at hp
      exact .tm (ih α1 e1.symm) hp
  | @nt β i m j r h hr hd ih ih2 =>
    intro α e
    obtain ⟨α1, α2, rfl, e1, e2⟩ := List.map_eq_append_iff.1 e.symm
    obtain ⟨s, rfl⟩ : ∃ s, α2 = [s] := by
      have := congrArg List.length e2
      rw [List.length_map, List.length_singleton] at this
      exact List.length_eq_one_iff.1 this
    simp only [List.map_cons, List.map_nil, List.cons.injEq, and_true] at e2
    obtain ⟨r0, hr0, rfl⟩ := List.mem_map.1 hr
    cases s with
    | tm q => cases e2
    | nt a =>
      simp only [shS, Sy.nt.injEq] at e2
      subst e2
      exact Der.nt (r := r0) (ih α1 e1.symm) hr0 (ih2 r0.rhs rfl)
theorem derY_shift {lo a i j : Nat} : DerY (R.map (shR lo)) (.nt a) i j ↔ DerY R (.nt a) (lo + i) (lo + j) :=
  ⟨fun h => der_unshift h [.nt a] rfl, fun h => der_shift h i j rfl rfl⟩
end Go.Vc.Ea
