/-
  Loops; numbers; which grammars are right: both programs tell the same.
-/
import Derived.Test.YtfhbgelpmbkooaaFF
set_option linter.unusedVariables false
set_option linter.unusedSimpArgs false
namespace Go.Vc
open Go
theorem wrap_i64 {n : Int} (h1 : -9223372036854775808 ≤ n) (h2 : n < 9223372036854775808) : IntKind.wrap .i64 n = n := by
  simp only [IntKind.wrap, IntKind.bits, IntKind.signed]
  simp
  omega
theorem ix_inc {i : Nat} (h : i < 4611686018427387904) : IntKind.wrap .i64 ((i : Int) + 1) = ((i + 1 : Nat) : Int) := by
  rw [wrap_i64 (by omega) (by omega)]; omega
section
variable {α : Type} {ks : List α} {i : Nat}
theorem ix_lt (h : i < ks.length) : decide ((i : Int) < (ks.length : Int)) = true := by simpa using h
theorem ix_ge (h : ¬ i < ks.length) : decide ((i : Int) < (ks.length : Int)) = false := by simp; omega
theorem ix_in (h : i < ks.length) : inR (i : Int) ks.length = true := by
  simp only [inR, Bool.and_eq_true, decide_eq_true_eq]; omega
theorem ix_at [Inhabited α] (h : i < ks.length) : at_ ks (i : Int) = ks[i] := by simp [at_, h]
end
theorem loop_inv {σ τ : Type} {n : Nat} {L : Nat → Int → σ → Option τ} {I : Nat → σ → Prop} {Q : Option τ → Prop}
    (step : ∀ j i s, i < n → I i s → (∃ s', I (i + 1) s' ∧ L (j + 1) (i : Int) s = L j ((i + 1 : Nat) : Int) s') ∨ Q (L (j + 1) (i : Int) s))
    (fin : ∀ j s, I n s → Q (L (j + 1) (n : Int) s)) : ∀ j i s, i ≤ n → n - i < j → I i s → Q (L j (i : Int) s)
  | 0, _, _, _, h, _ => by omega
  | j + 1, i, s, hi, hj, hI => by
    by_cases h : i < n
    · rcases step j i s h hI with ⟨s', h1, h2⟩ | h1
      · rw [h2]
        exact loop_inv step fin j (i + 1) s' (by omega) (by omega) h1
      · exact h1
    · have : i = n := by omega
      subst this
      exact fin j s hI
theorem loop_inv0 {σ τ : Type} {n k : Nat} {L : Nat → Int → σ → Option τ} {I : Nat → σ → Prop} {Q : Option τ → Prop} (hk : n < k) {s : σ} (h0 : I 0 s)
    (step : ∀ j i s, i < n → I i s → (∃ s', I (i + 1) s' ∧ L (j + 1) (i : Int) s = L j ((i + 1 : Nat) : Int) s') ∨ Q (L (j + 1) (i : Int) s))
    (fin : ∀ j s, I n s → Q (L (j + 1) (n : Int) s)) : Q (L k 0 s) := loop_inv step fin k 0 s (by omega) (by omega) h0
theorem loop_all {α γ β : Type} {xs : List α} {p : α → Bool} {z : γ} {bad : β} {L : Nat → Int → Option (LR γ β)} {k : Nat} (hk : xs.length < k)
    (h1 : ∀ j i, (h : i < xs.length) → L (j + 1) (i : Int) = if p xs[i] then L j ((i + 1 : Nat) : Int) else some (.ret bad))
    (h2 : ∀ j, L (j + 1) (xs.length : Int) = some (.done z)) : L k 0 = some (if xs.all p then .done z else .ret bad) := by
  have key := loop_inv0 (n := xs.length) (σ := Unit) (L := fun j i _ => L j i) (I := fun i _ => (xs.take i).all p = true) (Q := fun o => o = some (if xs.all p then .done z else .ret bad)) hk (s := ()) (by simp)
    (fun j i s hi hI => by
      by_cases hp : p xs[i] = true
      · refine .inl ⟨(), ?_, ?_⟩
        · rw [List.take_succ_eq_append_getElem hi, List.all_append, hI]; simp [hp]
        · rw [h1 j i hi, if_pos hp]
      · refine .inr ?_
        rw [h1 j i hi, if_neg hp]
        have : xs.all p = false := by
          rw [Bool.eq_false_iff]
          intro ha
          exact hp (List.all_eq_true.1 ha _ (List.getElem_mem hi))
        rw [this]; rfl)
    (fun j s hI => by
      rw [h2 j]
      rw [List.take_length] at hI
      rw [hI]; rfl)
  exact key
def noS (s : S4) : Bool := S4.eq (S4.mk s.w0 s.w1 s.w2 s.w3) (S4.mk 0 0 0 0)
def symOk (N : Int) (s : KSym) : Bool := decide (-1 ≤ s.Nt ∧ s.Nt < N) && (decide (s.Nt < 0) || noS s.Set)
def ruleOk (N : Int) (r : Rule) : Bool := decide (0 ≤ r.Lhs ∧ r.Lhs < N ∧ (r.Rhs.length : Int) ≤ 80) && r.Rhs.all (symOk N)
def rightB (g : Gram) : Bool := decide (1 ≤ g.Nts ∧ g.Nts ≤ 4096 ∧ 0 ≤ g.Start ∧ g.Start < g.Nts ∧ (g.Rules.length : Int) ≤ 8192) && g.Rules.all (ruleOk g.Nts)
theorem Right_l3_ok {k : Nat} (hk : 20000 ≤ k) {g : Gram} {i : Nat} (hi : i < g.Rules.length) (hl : (g.Rules[i].Rhs.length : Int) ≤ 80) : ∃ z, F.facts.Right_l3 g (i : Int) k 0 = some (if g.Rules[i].Rhs.all (symOk g.Nts) then .done z else .ret 3) := by
  refine ⟨(g.Rules[i].Rhs.length : Int), loop_all (xs := g.Rules[i].Rhs) (L := fun j t => F.facts.Right_l3 g (i : Int) j t) (by omega) (fun j q hq => ?_) (fun j => ?_)⟩
  · simp only [F.facts.Right_l3, ix_at hi, ix_lt hq, ix_in hq, ix_at hq, if_true]
    unfold F.facts.Right_j4 symOk
    simp only [ix_inc (show q < 4611686018427387904 from by omega)]
    by_cases h1 : g.Rules[i].Rhs[q].Nt < -1
    · have : ¬ (-1 ≤ g.Rules[i].Rhs[q].Nt) := by omega
      simp [h1, this]
    · by_cases h2 : g.Nts ≤ g.Rules[i].Rhs[q].Nt
      · have : ¬ (g.Rules[i].Rhs[q].Nt < g.Nts) := by omega
        simp [h1, h2, this]
      · have e1 : -1 ≤ g.Rules[i].Rhs[q].Nt := by omega
        have e2 : g.Rules[i].Rhs[q].Nt < g.Nts := by omega
        by_cases h3 : 0 ≤ g.Rules[i].Rhs[q].Nt
        · have e3 : ¬ (g.Rules[i].Rhs[q].Nt < 0) := by omega
          simp only [h1, h2, h3, e1, e2, e3, decide_false, decide_true, Bool.false_eq_true, if_false, if_true, and_self, Bool.true_and, Bool.false_or, noS]
          cases S4.eq (S4.mk g.Rules[i].Rhs[q].Set.w0 g.Rules[i].Rhs[q].Set.w1 g.Rules[i].Rhs[q].Set.w2 g.Rules[i].Rhs[q].Set.w3) (S4.mk 0 0 0 0) <;> simp
        · have e3 : g.Rules[i].Rhs[q].Nt < 0 := by omega
          simp [h1, h2, h3, e1, e2, e3]
  · simp only [F.facts.Right_l3, ix_at hi, ix_ge (Nat.lt_irrefl _), Bool.false_eq_true, if_false]
theorem Right_ok {k : Nat} (hk : 20000 ≤ k) (g : Gram) : F.facts.Right k g = some (if rightB g then 0 else 3) := by
  unfold F.facts.Right F.facts.Right_j1 rightB
  by_cases h1 : g.Nts < 1
  · have : ¬ (1 ≤ g.Nts) := by omega
    simp [h1, this]
  by_cases h2 : 4096 < g.Nts
  · have : ¬ (g.Nts ≤ 4096) := by omega
    simp [h1, h2, this]
  by_cases h3 : g.Start < 0
  · have : ¬ (0 ≤ g.Start) := by omega
    simp [h1, h2, h3, this]
  by_cases h4 : g.Nts ≤ g.Start
  · have : ¬ (g.Start < g.Nts) := by omega
    simp [h1, h2, h3, h4, this]
  by_cases h5 : 8192 < (g.Rules.length : Int)
  · have : ¬ ((g.Rules.length : Int) ≤ 8192) := by omega
    simp [h1, h2, h3, h4, h5, this]
  have e : decide (1 ≤ g.Nts ∧ g.Nts ≤ 4096 ∧ 0 ≤ g.Start ∧ g.Start < g.Nts ∧ (g.Rules.length : Int) ≤ 8192) = true := decide_eq_true (by omega)
  simp only [h1, h2, h3, h4, h5, decide_false, Bool.false_eq_true, if_false, e, Bool.true_and]
  have hl : F.facts.Right_l2 k g k 0 = some (if g.Rules.all (ruleOk g.Nts) then .done () else .ret 3) := by
    refine loop_all (xs := g.Rules) (L := fun j t => F.facts.Right_l2 k g j t) (by omega) (fun j q hq => ?_) (fun j => ?_)
    · simp only [F.facts.Right_l2, ix_lt hq, ix_in hq, ix_at hq, if_true]
      unfold ruleOk
      simp only [ix_inc (show q < 4611686018427387904 from by omega)]
      by_cases h1 : g.Rules[q].Lhs < 0
      · have : ¬ (0 ≤ g.Rules[q].Lhs) := by omega
        simp [h1, this]
      by_cases h2 : g.Nts ≤ g.Rules[q].Lhs
      · have : ¬ (g.Rules[q].Lhs < g.Nts) := by omega
        simp [h1, h2, this]
      by_cases h3 : 80 < (g.Rules[q].Rhs.length : Int)
      · have : ¬ ((g.Rules[q].Rhs.length : Int) ≤ 80) := by omega
        simp [h1, h2, h3, this]
      have e : decide (0 ≤ g.Rules[q].Lhs ∧ g.Rules[q].Lhs < g.Nts ∧ (g.Rules[q].Rhs.length : Int) ≤ 80) = true := decide_eq_true (by omega)
      obtain ⟨z, hz⟩ := Right_l3_ok hk hq (by omega)
      simp only [h1, h2, h3, decide_false, Bool.false_eq_true, if_false, e, Bool.true_and, hz, Option.bind_some]
      cases g.Rules[q].Rhs.all (symOk g.Nts) <;> rfl
    · simp only [F.facts.Right_l2, ix_ge (Nat.lt_irrefl _), Bool.false_eq_true, if_false]
  rw [hl, Option.bind_some]
  cases g.Rules.all (ruleOk g.Nts) <;> rfl
theorem Right_l3_ok6 {k : Nat} (hk : 20000 ≤ k) {g : Gram} (hN : 1 ≤ g.Nts) {i : Nat} (hi : i < g.Rules.length) (hl : (g.Rules[i].Rhs.length : Int) ≤ 80) : ∃ z, F.ref06.Right_l3 g (i : Int) k 0 = some (if g.Rules[i].Rhs.all (symOk g.Nts) then .done z else .ret 3) := by
  refine ⟨(g.Rules[i].Rhs.length : Int), loop_all (xs := g.Rules[i].Rhs) (L := fun j t => F.ref06.Right_l3 g (i : Int) j t) (by omega) (fun j q hq => ?_) (fun j => ?_)⟩
  · simp only [F.ref06.Right_l3, ix_at hi, ix_lt hq, ix_in hq, ix_at hq, if_true]
    unfold F.ref06.Right_j4 symOk
    simp only [ix_inc (show q < 4611686018427387904 from by omega)]
    by_cases h0 : g.Rules[i].Rhs[q].Nt = -1
    · have hN : -1 < g.Nts := by omega
      simp [h0, hN]
    · have hb : (g.Rules[i].Rhs[q].Nt != (-1)) = true := by simpa using h0
      simp only [hb, if_true]
      by_cases h1 : g.Rules[i].Rhs[q].Nt < 0
      · have : ¬ (-1 ≤ g.Rules[i].Rhs[q].Nt) := by omega
        simp [h1, this]
      · by_cases h2 : g.Nts ≤ g.Rules[i].Rhs[q].Nt
        · have : ¬ (g.Rules[i].Rhs[q].Nt < g.Nts) := by omega
          simp [h1, h2, this]
        · have e1 : -1 ≤ g.Rules[i].Rhs[q].Nt := by omega
          have e2 : g.Rules[i].Rhs[q].Nt < g.Nts := by omega
          simp only [h1, h2, e1, e2, decide_false, decide_true, Bool.false_eq_true, if_false, and_self, Bool.true_and, Bool.false_or, noS]
          cases S4.eq (S4.mk g.Rules[i].Rhs[q].Set.w0 g.Rules[i].Rhs[q].Set.w1 g.Rules[i].Rhs[q].Set.w2 g.Rules[i].Rhs[q].Set.w3) (S4.mk 0 0 0 0) <;> simp
  · simp only [F.ref06.Right_l3, ix_at hi, ix_ge (Nat.lt_irrefl _), Bool.false_eq_true, if_false]
theorem Right_ok6 {k : Nat} (hk : 20000 ≤ k) (g : Gram) : F.ref06.Right k g = some (if rightB g then 0 else 3) := by
  unfold F.ref06.Right F.ref06.Right_j1 rightB
  by_cases h1 : g.Nts < 1
  · have : ¬ (1 ≤ g.Nts) := by omega
    simp [h1, this]
  by_cases h2 : 4096 < g.Nts
  · have : ¬ (g.Nts ≤ 4096) := by omega
    simp [h1, h2, this]
  by_cases h3 : g.Start < 0
  · have : ¬ (0 ≤ g.Start) := by omega
    simp [h1, h2, h3, this]
  by_cases h4 : g.Nts ≤ g.Start
  · have : ¬ (g.Start < g.Nts) := by omega
    simp [h1, h2, h3, h4, this]
  by_cases h5 : 8192 < (g.Rules.length : Int)
  · have : ¬ ((g.Rules.length : Int) ≤ 8192) := by omega
    simp [h1, h2, h3, h4, h5, this]
  have e : decide (1 ≤ g.Nts ∧ g.Nts ≤ 4096 ∧ 0 ≤ g.Start ∧ g.Start < g.Nts ∧ (g.Rules.length : Int) ≤ 8192) = true := decide_eq_true (by omega)
  simp only [h1, h2, h3, h4, h5, decide_false, Bool.false_eq_true, if_false, e, Bool.true_and]
  have hl : F.ref06.Right_l2 k g k 0 = some (if g.Rules.all (ruleOk g.Nts) then .done () else .ret 3) := by
    refine loop_all (xs := g.Rules) (L := fun j t => F.ref06.Right_l2 k g j t) (by omega) (fun j q hq => ?_) (fun j => ?_)
    · simp only [F.ref06.Right_l2, ix_lt hq, ix_in hq, ix_at hq, if_true]
      unfold ruleOk
      simp only [ix_inc (show q < 4611686018427387904 from by omega)]
      by_cases h1 : g.Rules[q].Lhs < 0
      · have : ¬ (0 ≤ g.Rules[q].Lhs) := by omega
        simp [h1, this]
      by_cases h2 : g.Nts ≤ g.Rules[q].Lhs
      · have : ¬ (g.Rules[q].Lhs < g.Nts) := by omega
        simp [h1, h2, this]
      by_cases h3 : 80 < (g.Rules[q].Rhs.length : Int)
      · have : ¬ ((g.Rules[q].Rhs.length : Int) ≤ 80) := by omega
        simp [h1, h2, h3, this]
      have e : decide (0 ≤ g.Rules[q].Lhs ∧ g.Rules[q].Lhs < g.Nts ∧ (g.Rules[q].Rhs.length : Int) ≤ 80) = true := decide_eq_true (by omega)
      obtain ⟨z, hz⟩ := Right_l3_ok6 hk (by omega) hq (by omega)
      simp only [h1, h2, h3, decide_false, Bool.false_eq_true, if_false, e, Bool.true_and, hz, Option.bind_some]
      cases g.Rules[q].Rhs.all (symOk g.Nts) <;> rfl
    · simp only [F.ref06.Right_l2, ix_ge (Nat.lt_irrefl _), Bool.false_eq_true, if_false]
  rw [hl, Option.bind_some]
  cases g.Rules.all (ruleOk g.Nts) <;> rfl
end Go.Vc
