/-
  Which definitions are right: both say 'defP'.
-/
import Derived.Test.YtdbnoblklhgdoaaGreatDoorPA
set_option linter.unusedVariables false
set_option linter.unusedSimpArgs false
namespace Go.Vc
open Go
def zS (s : S4) : Bool := S4.eq s (S4.mk 0 0 0 0)
def symP (s : Sym) : Bool :=
  if s.Kind = 1 then decide (s.Text.length ≤ 32) && (zS s.Set && (s.Name == [] && s.Sep == []))
  else if s.Kind = 2 then s.Text == [] && (s.Name == [] && s.Sep == [])
  else if s.Kind = 3 then s.Text == [] && (zS s.Set && (isNm s.Name && s.Sep == []))
  else if s.Kind = 4 then s.Text == [] && (s.Sep == [] && (s.Name == [] || (zS s.Set && isNm s.Name)))
  else if s.Kind = 5 ∨ s.Kind = 6 then (if s.Name == [] then s.Text == [] && s.Sep == [] else s.Text == [] && (zS s.Set && (isNm s.Name && decide (s.Sep.length ≤ 32))))
  else false
section
variable {k : Nat} (hk : 100 ≤ k)
include hk
theorem rightSym_ok (s : Sym) : F.defs.rightSym k s = some (symP s) := by
  unfold F.defs.rightSym F.defs.rightSym_j4 F.defs.rightSym_j1 F.defs.rightSym_j2 F.defs.rightSym_j3 F.defs.rightSym_j5 symP zS
  have e : decide ((s.Text.length : Int) ≤ 32) = decide (s.Text.length ≤ 32) := by rw [Bool.eq_iff_iff]; simp only [decide_eq_true_eq]; omega
  have e2 : decide ((s.Sep.length : Int) ≤ 32) = decide (s.Sep.length ≤ 32) := by rw [Bool.eq_iff_iff]; simp only [decide_eq_true_eq]; omega
  simp only [named_ok _ _ hk, nmE, Bool.false_and, Bool.false_or, Option.bind_some, e, e2]
  generalize decide (s.Text.length ≤ 32) = a1
  generalize decide (s.Sep.length ≤ 32) = a2
  generalize S4.eq s.Set (S4.mk 0 0 0 0) = a3
  generalize (s.Name == []) = a4
  generalize (s.Sep == []) = a5
  generalize (s.Text == []) = a6
  generalize isNm s.Name = a7
  by_cases h1 : s.Kind = 1
  · simp only [h1]; cases a1 <;> cases a3 <;> cases a4 <;> cases a5 <;> rfl
  by_cases h2 : s.Kind = 2
  · simp only [h2]; cases a6 <;> cases a4 <;> cases a5 <;> rfl
  by_cases h3 : s.Kind = 3
  · simp only [h3]; cases a6 <;> cases a3 <;> cases a7 <;> cases a5 <;> rfl
  by_cases h4 : s.Kind = 4
  · simp only [h4]; cases a6 <;> cases a5 <;> cases a4 <;> cases a3 <;> cases a7 <;> rfl
  by_cases h5 : s.Kind = 5
  · simp only [h5]; cases a6 <;> cases a5 <;> cases a4 <;> cases a3 <;> cases a7 <;> cases a2 <;> rfl
  by_cases h6 : s.Kind = 6
  · simp only [h6]; cases a6 <;> cases a5 <;> cases a4 <;> cases a3 <;> cases a7 <;> cases a2 <;> rfl
  simp [h1, h2, h3, h4, h5, h6]
theorem RightSym_ok (s : Sym) : F.ref03.RightSym k s = some (symP s) := by
  unfold F.ref03.RightSym F.ref03.RightSym_j5 F.ref03.RightSym_j6 F.ref03.RightSym_j4 F.ref03.RightSym_j3 F.ref03.RightSym_j1 F.ref03.RightSym_j2 symP zS
  have e : decide ((s.Text.length : Int) ≤ 32) = decide (s.Text.length ≤ 32) := by rw [Bool.eq_iff_iff]; simp only [decide_eq_true_eq]; omega
  have e2 : decide ((s.Sep.length : Int) ≤ 32) = decide (s.Sep.length ≤ 32) := by rw [Bool.eq_iff_iff]; simp only [decide_eq_true_eq]; omega
  have e3 : S4.eq s.Set s.Set = true := by simp [S4.eq]
  have e4 : (s.Text == []) = true → decide (s.Text.length ≤ 32) = true := fun h => by rw [beq_iff_eq] at h; rw [h]; rfl
  have e5 : (s.Sep == []) = true → decide (s.Sep.length ≤ 32) = true := fun h => by rw [beq_iff_eq] at h; rw [h]; rfl
  have e6 : (s.Name == []) = true → isNm s.Name = false := fun h => by rw [beq_iff_eq] at h; rw [h]; rfl
  simp only [name_ok _ _ hk, nmE, Option.bind_some, e, e2, e3, BEq.rfl, Bool.true_and, Bool.and_true]
  revert e4 e5 e6
  generalize decide (s.Text.length ≤ 32) = a1
  generalize decide (s.Sep.length ≤ 32) = a2
  generalize S4.eq s.Set (S4.mk 0 0 0 0) = a3
  generalize (s.Name == []) = a4
  generalize (s.Sep == []) = a5
  generalize (s.Text == []) = a6
  generalize isNm s.Name = a7
  intro e4 e5 e6
  by_cases h1 : s.Kind = 1
  · simp only [h1]; cases a1 <;> cases a2 <;> cases a3 <;> cases a4 <;> cases a5 <;> cases a7 <;> first | rfl | exact absurd (e4 rfl) Bool.false_ne_true | exact absurd (e5 rfl) Bool.false_ne_true | exact absurd (e6 rfl).symm Bool.false_ne_true
  by_cases h2 : s.Kind = 2
  · simp only [h2]; cases a6 <;> cases a4 <;> cases a5 <;> cases a1 <;> cases a2 <;> cases a7 <;> first | rfl | exact absurd (e4 rfl) Bool.false_ne_true | exact absurd (e5 rfl) Bool.false_ne_true | exact absurd (e6 rfl).symm Bool.false_ne_true
  by_cases h3 : s.Kind = 3
  · simp only [h3]; cases a6 <;> cases a3 <;> cases a7 <;> cases a5 <;> cases a1 <;> cases a2 <;> cases a4 <;> first | rfl | exact absurd (e4 rfl) Bool.false_ne_true | exact absurd (e5 rfl) Bool.false_ne_true | exact absurd (e6 rfl).symm Bool.false_ne_true
  by_cases h4 : s.Kind = 4
  · simp only [h4]; cases a6 <;> cases a5 <;> cases a4 <;> cases a3 <;> cases a7 <;> cases a1 <;> cases a2 <;> first | rfl | exact absurd (e4 rfl) Bool.false_ne_true | exact absurd (e5 rfl) Bool.false_ne_true | exact absurd (e6 rfl).symm Bool.false_ne_true
  by_cases h5 : s.Kind = 5
  · simp only [h5]; cases a6 <;> cases a5 <;> cases a4 <;> cases a3 <;> cases a7 <;> cases a1 <;> cases a2 <;> first | rfl | exact absurd (e4 rfl) Bool.false_ne_true | exact absurd (e5 rfl) Bool.false_ne_true | exact absurd (e6 rfl).symm Bool.false_ne_true
  by_cases h6 : s.Kind = 6
  · simp only [h6]; cases a6 <;> cases a5 <;> cases a4 <;> cases a3 <;> cases a7 <;> cases a1 <;> cases a2 <;> first | rfl | exact absurd (e4 rfl) Bool.false_ne_true | exact absurd (e5 rfl) Bool.false_ne_true | exact absurd (e6 rfl).symm Bool.false_ne_true
  simp [h1, h2, h3, h4, h5, h6]
end
def prodP (p : Prod) : Bool := isNm p.Sort_ && (nmE p.Cons true && (decide (1 ≤ p.Syms.length ∧ p.Syms.length ≤ 12) && ((if p.Lex then !p.Bracket else p.Bracket == (p.Cons == [])) && p.Syms.all symP)))
section
variable {k : Nat} (hk : 5000 ≤ k)
include hk
theorem syms_ok (xs : List Sym) (hl : xs.length ≤ 4000) : F.slices.ContainsFunc_f93_94 k xs = some (!xs.all symP) := by
  unfold F.slices.ContainsFunc_f93_94 F.slices.IndexFunc_f121_94
  have key : ∀ j i, i ≤ xs.length → xs.length - i < j → ∃ n : Nat, F.slices.IndexFunc_f121_94_l1 k xs j (i : Int) = some (if (xs.drop i).all symP then .done () else .ret (n : Int)) := by
    intro j
    induction j with
    | zero => intro i _ h; omega
    | succ j ih =>
      intro i hi hj
      simp only [F.slices.IndexFunc_f121_94_l1]
      by_cases h : i < xs.length
      · rw [ix_lt h, if_pos rfl, ix_in h, if_pos rfl, ix_at h, F.defs.rightProd_c1, rightSym_ok (by omega), List.drop_eq_getElem_cons h, List.all_cons]
        simp only [Option.bind_some]
        cases hp : symP xs[i] with
        | true =>
          obtain ⟨n, hn⟩ := ih (i + 1) (by omega) (by omega)
          refine ⟨n, ?_⟩
          rw [ix_inc (by omega), hn]
          simp
        | false => exact ⟨i, rfl⟩
      · refine ⟨0, ?_⟩
        have : i = xs.length := by omega
        subst this
        rw [ix_ge h, List.drop_length]
        rfl
  obtain ⟨n, hn⟩ := key k 0 (by omega) (by omega)
  rw [zero_cast, List.drop_zero] at hn
  rw [hn]
  cases xs.all symP <;> simp [LR.fin]
theorem rightProd_ok (p : Prod) (hl : p.Syms.length ≤ 4000) : F.defs.rightProd k p = some (prodP p) := by
  unfold F.defs.rightProd F.defs.rightProd_j1 F.defs.rightProd_j2 prodP
  simp only [named_ok _ _ (show 100 ≤ k by omega), syms_ok hk _ hl, Option.bind_some, nmE, Bool.false_and, Bool.false_or]
  have e1 : ((p.Syms.length : Int) == 0) = decide (p.Syms.length = 0) := by rw [Bool.eq_iff_iff, beq_iff_eq, decide_eq_true_eq]; omega
  have e2 : decide (12 < (p.Syms.length : Int)) = decide (12 < p.Syms.length) := by rw [Bool.eq_iff_iff]; simp only [decide_eq_true_eq]; omega
  have e3 : decide (1 ≤ p.Syms.length ∧ p.Syms.length ≤ 12) = (!decide (p.Syms.length = 0) && !decide (12 < p.Syms.length)) := by
    rw [Bool.eq_iff_iff]; simp only [decide_eq_true_eq, Bool.and_eq_true, Bool.not_eq_true', decide_eq_false_iff_not]; omega
  rw [e1, e2, e3]
  generalize decide (p.Syms.length = 0) = a1
  generalize decide (12 < p.Syms.length) = a2
  generalize isNm p.Sort_ = a3
  generalize (p.Cons == []) = a4
  generalize isNm p.Cons = a5
  generalize p.Lex = a6
  generalize p.Bracket = a7
  generalize p.Syms.all symP = a8
  cases a1 <;> cases a2 <;> cases a3 <;> cases a4 <;> cases a5 <;> cases a6 <;> cases a7 <;> cases a8 <;> rfl
theorem rightProdR_ok (p : Prod) (hl : p.Syms.length ≤ 4000) : F.ref03.rightProd k p = some (prodP p) := by
  have hs : F.ref03.rightProd_l3 k p k 0 = some (if p.Syms.all symP then .done () else .ret false) := by
    refine loop_all0 (by omega) (fun j i h => ?_) (fun j => ?_)
    · simp only [F.ref03.rightProd_l3, ix_lt h, ix_in h, ix_at h, RightSym_ok (show 100 ≤ k by omega), Option.bind_some, ix_inc (show i < 4611686018427387904 by omega), if_true]
      cases symP p.Syms[i] <;> rfl
    · simp only [F.ref03.rightProd_l3, ix_ge (Nat.lt_irrefl _)]
      rfl
  unfold F.ref03.rightProd F.ref03.rightProd_j1 F.ref03.rightProd_j2 prodP
  simp only [name_ok _ _ (show 100 ≤ k by omega), hs, Option.bind_some, nmE, Bool.false_and, Bool.false_or]
  have e1 : decide ((p.Syms.length : Int) < 1) = decide (p.Syms.length = 0) := by rw [Bool.eq_iff_iff, decide_eq_true_eq, decide_eq_true_eq]; omega
  have e2 : decide (12 < (p.Syms.length : Int)) = decide (12 < p.Syms.length) := by rw [Bool.eq_iff_iff]; simp only [decide_eq_true_eq]; omega
  have e3 : decide (1 ≤ p.Syms.length ∧ p.Syms.length ≤ 12) = (!decide (p.Syms.length = 0) && !decide (12 < p.Syms.length)) := by
    rw [Bool.eq_iff_iff]; simp only [decide_eq_true_eq, Bool.and_eq_true, Bool.not_eq_true', decide_eq_false_iff_not]; omega
  rw [e1, e2, e3]
  have e4 : (p.Cons == []) = true → isNm p.Cons = false := fun h => by rw [beq_iff_eq] at h; rw [h]; rfl
  revert e4
  generalize decide (p.Syms.length = 0) = a1
  generalize decide (12 < p.Syms.length) = a2
  generalize isNm p.Sort_ = a3
  generalize (p.Cons == []) = a4
  generalize isNm p.Cons = a5
  generalize p.Lex = a6
  generalize p.Bracket = a7
  generalize p.Syms.all symP = a8
  intro e4
  cases a1 <;> cases a2 <;> cases a3 <;> cases a4 <;> cases a5 <;> cases a6 <;> cases a7 <;> cases a8 <;> first | rfl | simp_all
end
def groupP (g : Group) : Bool := decide (0 ≤ g.Assoc ∧ g.Assoc ≤ 3) && (decide (1 ≤ g.Cons.length ∧ g.Cons.length ≤ 16) && g.Cons.all isNm)
def chainP (l : List Group) : Bool := decide (1 ≤ l.length ∧ l.length ≤ 16) && l.all groupP
section
variable {k : Nat} (hk : 5000 ≤ k)
include hk
theorem rightChain_ok (l : List Group) (hl : l.length ≤ 4000) : F.defs.rightChain k l = some (chainP l) := by
  have hs : F.defs.rightChain_l1 k l k 0 = some (if l.all groupP then .done () else .ret false) := by
    refine loop_all0 (by omega) (fun j i h => ?_) (fun j => ?_)
    · have h3 : l[i].Cons.length ≤ 16 → F.defs.rightChain_l3 k l (i : Int) k 0 = some (if l[i].Cons.all isNm then .done (l[i].Cons.length : Int) else .ret false) := fun h16 => by
        refine loop_all0 (by omega) (fun j i' h' => ?_) (fun j => ?_)
        · simp only [F.defs.rightChain_l3, ix_at h, ix_lt h', ix_in h', ix_at h', named_ok _ _ (show 100 ≤ k by omega), nmE, Bool.false_and, Bool.false_or, Option.bind_some, ix_inc (show i' < 4611686018427387904 by omega), if_true]
          cases isNm l[i].Cons[i'] <;> rfl
        · simp only [F.defs.rightChain_l3, ix_at h, ix_ge (Nat.lt_irrefl _)]
          rfl
      simp only [F.defs.rightChain_l1, F.defs.rightChain_j2, ix_lt h, ix_in h, ix_at h, if_true]
      unfold groupP
      by_cases a1 : l[i].Assoc < 0
      · rw [decide_eq_true a1, decide_eq_false (show ¬ (0 ≤ l[i].Assoc ∧ l[i].Assoc ≤ 3) by omega)]; rfl
      by_cases a2 : 3 < l[i].Assoc
      · rw [decide_eq_false a1, decide_eq_true a2, decide_eq_false (show ¬ (0 ≤ l[i].Assoc ∧ l[i].Assoc ≤ 3) by omega)]; rfl
      rw [decide_eq_false a1, decide_eq_false a2, decide_eq_true (show (0 ≤ l[i].Assoc ∧ l[i].Assoc ≤ 3) by omega)]
      by_cases a3 : l[i].Cons.length = 0
      · rw [show ((l[i].Cons.length : Int) == 0) = true by rw [beq_iff_eq]; omega, decide_eq_false (show ¬ (1 ≤ l[i].Cons.length ∧ l[i].Cons.length ≤ 16) by omega)]; rfl
      rw [show ((l[i].Cons.length : Int) == 0) = false by rw [beq_eq_false_iff_ne]; omega]
      by_cases a4 : 16 < l[i].Cons.length
      · rw [decide_eq_true (show (16 : Int) < (l[i].Cons.length : Int) by omega), decide_eq_false (show ¬ (1 ≤ l[i].Cons.length ∧ l[i].Cons.length ≤ 16) by omega)]; rfl
      rw [decide_eq_false (show ¬ (16 : Int) < (l[i].Cons.length : Int) by omega), decide_eq_true (show (1 ≤ l[i].Cons.length ∧ l[i].Cons.length ≤ 16) by omega), h3 (by omega)]
      simp only [Bool.false_eq_true, if_false, Option.bind_some, Bool.true_and, ix_inc (show i < 4611686018427387904 by omega)]
      cases l[i].Cons.all isNm <;> rfl
    · simp only [F.defs.rightChain_l1, ix_ge (Nat.lt_irrefl _)]
      rfl
  unfold F.defs.rightChain chainP
  rw [hs]
  simp only [Option.bind_some]
  cases l.all groupP with
  | false => rw [Bool.and_false]; rfl
  | true =>
    simp only [if_true, LR.fin, Bool.and_true]
    by_cases h0 : 0 < l.length
    · rw [decide_eq_true (show (0 : Int) < (l.length : Int) by omega), if_pos rfl]
      congr 1
      rw [Bool.eq_iff_iff]; simp only [decide_eq_true_eq]; omega
    · rw [decide_eq_false (show ¬ (0 : Int) < (l.length : Int) by omega), decide_eq_false (show ¬ (1 ≤ l.length ∧ l.length ≤ 16) by omega)]
      rfl
theorem rightChainR_ok (l : List Group) : F.ref03.rightChain k l = some (chainP l) := by
  unfold F.ref03.rightChain chainP
  by_cases h0 : l.length < 1
  · rw [decide_eq_true (show (l.length : Int) < 1 by omega), if_pos rfl, decide_eq_false (by omega)]; rfl
  rw [decide_eq_false (show ¬ (l.length : Int) < 1 by omega), if_neg (by simp)]
  by_cases h1 : 16 < l.length
  · rw [decide_eq_true (show (16 : Int) < (l.length : Int) by omega), if_pos rfl, decide_eq_false (by omega)]; rfl
  rw [decide_eq_false (show ¬ (16 : Int) < (l.length : Int) by omega), if_neg (by simp), decide_eq_true (by omega)]
  have hs : F.ref03.rightChain_l1 k l k 0 = some (if l.all groupP then .done () else .ret false) := by
    refine loop_all0 (by omega) (fun j i h => ?_) (fun j => ?_)
    · have h3 : l[i].Cons.length ≤ 16 → F.ref03.rightChain_l3 k l (i : Int) k 0 = some (if l[i].Cons.all isNm then .done (l[i].Cons.length : Int) else .ret false) := fun h16 => by
        refine loop_all0 (by omega) (fun j i' h' => ?_) (fun j => ?_)
        · simp only [F.ref03.rightChain_l3, ix_at h, ix_lt h', ix_in h', ix_at h', name_ok _ _ (show 100 ≤ k by omega), nmE, Bool.false_and, Bool.false_or, Option.bind_some, ix_inc (show i' < 4611686018427387904 by omega), if_true]
          cases isNm l[i].Cons[i'] <;> rfl
        · simp only [F.ref03.rightChain_l3, ix_at h, ix_ge (Nat.lt_irrefl _)]
          rfl
      simp only [F.ref03.rightChain_l1, F.ref03.rightChain_j2, ix_lt h, ix_in h, ix_at h, if_true]
      unfold groupP
      by_cases a1 : l[i].Assoc < 0
      · rw [decide_eq_true a1, decide_eq_false (show ¬ (0 ≤ l[i].Assoc ∧ l[i].Assoc ≤ 3) by omega)]; rfl
      by_cases a2 : 3 < l[i].Assoc
      · rw [decide_eq_false a1, decide_eq_true a2, decide_eq_false (show ¬ (0 ≤ l[i].Assoc ∧ l[i].Assoc ≤ 3) by omega)]; rfl
      rw [decide_eq_false a1, decide_eq_false a2, decide_eq_true (show (0 ≤ l[i].Assoc ∧ l[i].Assoc ≤ 3) by omega)]
      by_cases a3 : l[i].Cons.length < 1
      · rw [decide_eq_true (show (l[i].Cons.length : Int) < 1 by omega), decide_eq_false (show ¬ (1 ≤ l[i].Cons.length ∧ l[i].Cons.length ≤ 16) by omega)]; rfl
      rw [decide_eq_false (show ¬ (l[i].Cons.length : Int) < 1 by omega)]
      by_cases a4 : 16 < l[i].Cons.length
      · rw [decide_eq_true (show (16 : Int) < (l[i].Cons.length : Int) by omega), decide_eq_false (show ¬ (1 ≤ l[i].Cons.length ∧ l[i].Cons.length ≤ 16) by omega)]; rfl
      rw [decide_eq_false (show ¬ (16 : Int) < (l[i].Cons.length : Int) by omega), decide_eq_true (show (1 ≤ l[i].Cons.length ∧ l[i].Cons.length ≤ 16) by omega), h3 (by omega)]
      simp only [Bool.false_eq_true, if_false, Option.bind_some, Bool.true_and, ix_inc (show i < 4611686018427387904 by omega)]
      cases l[i].Cons.all isNm <;> rfl
    · simp only [F.ref03.rightChain_l1, ix_ge (Nat.lt_irrefl _)]
      rfl
  rw [hs]
  simp only [Option.bind_some]
  cases l.all groupP <;> rfl
end
end Go.Vc
