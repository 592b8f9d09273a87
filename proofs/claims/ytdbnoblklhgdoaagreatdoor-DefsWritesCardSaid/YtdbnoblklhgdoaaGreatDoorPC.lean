/-
  Items that are right; definitions that are.
-/
import Derived.Test.YtdbnoblklhgdoaaGreatDoorPB
set_option linter.unusedVariables false
set_option linter.unusedSimpArgs false
namespace Go.Vc
open Go
def numP (n : Int) : Bool := decide (0 ≤ n) && decide (n ≤ 999999)
def itemP1 (x : Item) : Bool :=
  if x.Kind = 1 then decide (x.Text.length ≤ 32) && (x.N_ == 0 && decide (x.Items.length = 0))
  else if x.Kind = 2 then x.Text == [] && (numP x.N_ && decide (x.Items.length = 0))
  else if x.Kind = 3 ∨ x.Kind = 4 then x.Text == [] && (x.N_ == 0 && decide (x.Items.length = 0))
  else if x.Kind = 5 then x.Text == [] && numP x.N_
  else if x.Kind = 6 then x.Text == [] && x.N_ == 0
  else false
mutual
def itC : Item → Nat → Option Nat
  | .mk _ _ _ _, 0 => none
  | .mk a b c l, n + 1 => if itemP1 ⟨a, b, c, l⟩ then itsC l n else none
def itsC : List Item → Nat → Option Nat
  | [], n => some n
  | x :: r, n => match itC x n with
    | some m => itsC r m
    | none => none
end
theorem itC_zero (x : Item) : itC x 0 = none := by cases x; rw [itC]
theorem itC_succ (x : Item) (n : Nat) : itC x (n + 1) = if itemP1 x then itsC x.Items n else none := by cases x; rw [itC]
mutual
theorem itC_le : ∀ (x : Item) (n m : Nat), itC x n = some m → m ≤ n
  | .mk a b c l, 0, m, h => by rw [itC] at h; cases h
  | .mk a b c l, n + 1, m, h => by
    rw [itC] at h
    split at h
    · have := itsC_le l n m h
      omega
    · cases h
theorem itsC_le : ∀ (l : List Item) (n m : Nat), itsC l n = some m → m ≤ n
  | [], n, m, h => by simp only [itsC, Option.some.injEq] at h; omega
  | x :: r, n, m, h => by
    rw [itsC] at h
    cases hx : itC x n with
    | none => rw [hx] at h; cases h
    | some m' =>
      rw [hx] at h
      have h1 := itC_le x n m' hx
      have h2 := itsC_le r m' m h
      omega
end
theorem rightItems_step {l : List Item} {g : List Item → Int → Option (Bool × Int)} {j i : Nat} {left : Int} (h : i < l.length) (hi : i < 1000000) : F.defs.rightItems_l1 l g (j + 1) (i : Int) left =
    if itemP1 l[i] then (if decide (IntKind.wrap .i64 (left - 1) < 0) then some (.ret (false, IntKind.wrap .i64 (left - 1))) else (g l[i].Items (IntKind.wrap .i64 (left - 1))).bind fun v => if !v.1 then some (.ret (false, v.2)) else F.defs.rightItems_l1 l g j ((i + 1 : Nat) : Int) v.2) else some (.ret (false, IntKind.wrap .i64 (left - 1))) := by
  simp only [F.defs.rightItems_l1, ix_lt h, ix_in h, ix_at h, if_true, F.defs.rightItems_j3, F.defs.rightItems_j6, F.defs.rightItems_j8, F.defs.rightItems_j9, F.defs.rightItems_j11, F.defs.rightItems_j13, F.defs.rightItems_j15, F.defs.rightItems_j14, F.defs.rightItems_j12, F.defs.rightItems_j10, F.defs.rightItems_j7, F.defs.rightItems_j5, F.defs.rightItems_j4, F.defs.rightItems_j2, ix_inc (show i < 4611686018427387904 by omega)]
  generalize F.defs.rightItems_l1 l g j = rec
  generalize l[i] = x
  unfold itemP1 numP
  have e1 : decide ((x.Text.length : Int) ≤ 32) = decide (x.Text.length ≤ 32) := by rw [Bool.eq_iff_iff]; simp only [decide_eq_true_eq]; omega
  have e2 : ((x.Items.length : Int) == 0) = decide (x.Items.length = 0) := by rw [Bool.eq_iff_iff, beq_iff_eq, decide_eq_true_eq]; omega
  rw [e1, e2]
  generalize decide (x.Text.length ≤ 32) = a1
  generalize decide (x.Items.length = 0) = a2
  generalize (x.Text == []) = a3
  generalize (x.N_ == 0) = a4
  generalize decide (0 ≤ x.N_) = a5
  generalize decide (x.N_ ≤ 999999) = a6
  by_cases h1 : x.Kind = 1
  · simp only [h1]; cases a1 <;> cases a4 <;> cases a2 <;> cases a5 <;> rfl
  by_cases h2 : x.Kind = 2
  · simp only [h2]; cases a3 <;> cases a5 <;> cases a6 <;> cases a2 <;> rfl
  by_cases h3 : x.Kind = 3
  · simp only [h3]; cases a3 <;> cases a4 <;> cases a2 <;> cases a5 <;> rfl
  by_cases h4 : x.Kind = 4
  · simp only [h4]; cases a3 <;> cases a4 <;> cases a2 <;> cases a5 <;> rfl
  by_cases h5 : x.Kind = 5
  · simp only [h5]; cases a3 <;> cases a5 <;> cases a6 <;> rfl
  by_cases h6 : x.Kind = 6
  · simp only [h6]; cases a3 <;> cases a4 <;> cases a5 <;> rfl
  simp [h1, h2, h3, h4, h5, h6]
theorem rightItemsR_step {l : List Item} {g : List Item → Int → Option Int} {j i : Nat} {n : Int} (h : i < l.length) (hi : i < 1000000) : F.ref03.rightItems_l1 l g (j + 1) n (i : Int) =
    if decide (64 < IntKind.wrap .i64 (n + 1)) then some (.ret (-1)) else
    if itemP1 l[i] then ((g l[i].Items (IntKind.wrap .i64 (n + 1))).bind fun v => if decide (v < 0) then some (.ret (-1)) else F.ref03.rightItems_l1 l g j v ((i + 1 : Nat) : Int)) else some (.ret (-1)) := by
  simp only [F.ref03.rightItems_l1, ix_lt h, ix_in h, ix_at h, if_true, F.ref03.rightItems_j2, F.ref03.rightItems_j3, ix_inc (show i < 4611686018427387904 by omega)]
  generalize F.ref03.rightItems_l1 l g j = rec
  generalize l[i] = x
  generalize decide (64 < IntKind.wrap .i64 (n + 1)) = a0
  by_cases ho : x.Kind < 1 ∨ 6 < x.Kind
  · have hp : itemP1 x = false := by
      unfold itemP1
      rw [if_neg (by omega), if_neg (by omega), if_neg (by omega), if_neg (by omega), if_neg (by omega)]
    rw [hp]
    generalize decide (x.N_ < 0) = b1
    generalize decide (999999 < x.N_) = b2
    generalize decide (32 < (x.Text.length : Int)) = b3
    rcases ho with ho | ho
    · rw [decide_eq_true ho]
      cases a0 <;> cases b1 <;> cases b2 <;> cases b3 <;> rfl
    · rw [decide_eq_true ho]
      generalize decide (x.Kind < 1) = b4
      cases a0 <;> cases b1 <;> cases b2 <;> cases b3 <;> cases b4 <;> rfl
  unfold itemP1 numP
  have e1 : decide (32 < (x.Text.length : Int)) = !decide (x.Text.length ≤ 32) := by rw [Bool.eq_iff_iff]; simp only [decide_eq_true_eq, Bool.not_eq_true', decide_eq_false_iff_not]; omega
  have e2 : decide (0 < (x.Items.length : Int)) = !decide (x.Items.length = 0) := by rw [Bool.eq_iff_iff]; simp only [decide_eq_true_eq, Bool.not_eq_true', decide_eq_false_iff_not]; omega
  have e3 : decide (x.N_ < 0) = !decide (0 ≤ x.N_) := by rw [Bool.eq_iff_iff]; simp only [decide_eq_true_eq, Bool.not_eq_true', decide_eq_false_iff_not]; omega
  have e4 : decide (999999 < x.N_) = !decide (x.N_ ≤ 999999) := by rw [Bool.eq_iff_iff]; simp only [decide_eq_true_eq, Bool.not_eq_true', decide_eq_false_iff_not]; omega
  have e5 : (x.N_ != 0) = !(x.N_ == 0) := rfl
  have e6 : (x.Text == []) = true → decide (x.Text.length ≤ 32) = true := fun h => by rw [beq_iff_eq] at h; rw [h]; rfl
  have e7 : (x.N_ == 0) = true → decide (0 ≤ x.N_) = true ∧ decide (x.N_ ≤ 999999) = true := fun h => by rw [beq_iff_eq] at h; rw [h]; exact ⟨rfl, rfl⟩
  rw [e1, e2, e3, e4, e5]
  revert e6 e7
  generalize decide (x.Text.length ≤ 32) = a1
  generalize decide (x.Items.length = 0) = a2
  generalize (x.Text == []) = a3
  generalize (x.N_ == 0) = a4
  generalize decide (0 ≤ x.N_) = a5
  generalize decide (x.N_ ≤ 999999) = a6
  intro e6 e7
  by_cases h1 : x.Kind = 1
  · simp only [h1]; cases a0 <;> cases a1 <;> cases a3 <;> cases a4 <;> cases a2 <;> cases a5 <;> cases a6 <;> first | rfl | exact absurd (e6 rfl) Bool.false_ne_true | exact absurd (e7 rfl).1 Bool.false_ne_true | exact absurd (e7 rfl).2 Bool.false_ne_true
  by_cases h2 : x.Kind = 2
  · simp only [h2]; cases a0 <;> cases a1 <;> cases a3 <;> cases a4 <;> cases a2 <;> cases a5 <;> cases a6 <;> first | rfl | exact absurd (e6 rfl) Bool.false_ne_true | exact absurd (e7 rfl).1 Bool.false_ne_true | exact absurd (e7 rfl).2 Bool.false_ne_true
  by_cases h3 : x.Kind = 3
  · simp only [h3]; cases a0 <;> cases a1 <;> cases a3 <;> cases a4 <;> cases a2 <;> cases a5 <;> cases a6 <;> first | rfl | exact absurd (e6 rfl) Bool.false_ne_true | exact absurd (e7 rfl).1 Bool.false_ne_true | exact absurd (e7 rfl).2 Bool.false_ne_true
  by_cases h4 : x.Kind = 4
  · simp only [h4]; cases a0 <;> cases a1 <;> cases a3 <;> cases a4 <;> cases a2 <;> cases a5 <;> cases a6 <;> first | rfl | exact absurd (e6 rfl) Bool.false_ne_true | exact absurd (e7 rfl).1 Bool.false_ne_true | exact absurd (e7 rfl).2 Bool.false_ne_true
  by_cases h5 : x.Kind = 5
  · simp only [h5]; cases a0 <;> cases a1 <;> cases a3 <;> cases a4 <;> cases a2 <;> cases a5 <;> cases a6 <;> first | rfl | exact absurd (e6 rfl) Bool.false_ne_true | exact absurd (e7 rfl).1 Bool.false_ne_true | exact absurd (e7 rfl).2 Bool.false_ne_true
  by_cases h6 : x.Kind = 6
  · simp only [h6]; cases a0 <;> cases a1 <;> cases a3 <;> cases a4 <;> cases a2 <;> cases a5 <;> cases a6 <;> first | rfl | exact absurd (e6 rfl) Bool.false_ne_true | exact absurd (e7 rfl).1 Bool.false_ne_true | exact absurd (e7 rfl).2 Bool.false_ne_true
  omega
def itR (o : Option Nat) (z : Bool × Int) : Prop := match o with
  | some n => z = (true, (n : Int))
  | none => z.1 = false
theorem rightItems_ok : ∀ (n : Nat) (l : List Item) (k : Nat), n ≤ 64 → n + 3 ≤ k → ∃ z, F.defs.rightItems k l (n : Int) = some z ∧ itR (itsC l n) z := by
  intro n
  induction n using Nat.strongRecOn with
  | _ n ih =>
    intro l k hn hk
    obtain ⟨K, rfl⟩ : ∃ K, k = K + 1 := ⟨k - 1, by omega⟩
    simp only [F.defs.rightItems, F.defs.rightItems_B]
    have loop : ∀ (j i m : Nat), i ≤ l.length → m ≤ n → i ≤ n - m → m + 2 ≤ j → ∃ z, ((F.defs.rightItems_l1 l (F.defs.rightItems K) j (i : Int) (m : Int)).bind fun o1 => o1.fin fun d1 => some (true, d1)) = some z ∧ itR (itsC (l.drop i) m) z := by
      intro j
      induction j with
      | zero => intro i m _ _ _ h; omega
      | succ j ihj =>
        intro i m hi hm him hj
        by_cases h : i < l.length
        · rw [rightItems_step h (by omega), List.drop_eq_getElem_cons h, itsC]
          rcases m with _ | m
          · rw [itC_zero, show IntKind.wrap .i64 (((0 : Nat) : Int) - 1) = -1 from rfl]
            by_cases hp : itemP1 l[i] = true
            · rw [if_pos hp]; exact ⟨_, rfl, rfl⟩
            · rw [if_neg hp]; exact ⟨_, rfl, rfl⟩
          · have hw : IntKind.wrap .i64 (((m + 1 : Nat) : Int) - 1) = (m : Int) := by rw [wrap_i64 (by omega) (by omega)]; omega
            rw [itC_succ, hw]
            by_cases hp : itemP1 l[i] = true
            · rw [if_pos hp, if_pos hp, decide_eq_false (show ¬ ((m : Int) < 0) by omega), if_neg (by simp)]
              obtain ⟨z, hz, hr⟩ := ih m (by omega) l[i].Items K (by omega) (by omega)
              rw [hz]
              simp only [Option.bind_some]
              cases hc : itsC l[i].Items m with
              | none =>
                rw [hc] at hr
                have hr' : z.1 = false := hr
                rw [hr']
                exact ⟨_, rfl, rfl⟩
              | some m' =>
                rw [hc] at hr
                obtain rfl : z = (true, (m' : Int)) := hr
                have hle := itsC_le _ _ _ hc
                simp only [Bool.not_true, Bool.false_eq_true, if_false]
                exact ihj (i + 1) m' (by omega) (by omega) (by omega) (by omega)
            · rw [if_neg hp, if_neg hp]; exact ⟨_, rfl, rfl⟩
        · rw [List.drop_eq_nil_of_le (by omega), itsC]
          simp only [F.defs.rightItems_l1, ix_ge h]
          exact ⟨_, rfl, rfl⟩
    have := loop K 0 n (by omega) (by omega) (by omega) (by omega)
    rwa [zero_cast, List.drop_zero] at this
def itRr (n0 : Nat) (o : Option Nat) (z : Int) : Prop := match o with
  | some n => z = ((64 - n : Nat) : Int)
  | none => z < 0
theorem rightItemsR_ok : ∀ (n : Nat) (l : List Item) (k : Nat), n ≤ 64 → n + 3 ≤ k → ∃ z, F.ref03.rightItems k l ((64 - n : Nat) : Int) = some z ∧ itRr n (itsC l n) z := by
  intro n
  induction n using Nat.strongRecOn with
  | _ n ih =>
    intro l k hn hk
    obtain ⟨K, rfl⟩ : ∃ K, k = K + 1 := ⟨k - 1, by omega⟩
    simp only [F.ref03.rightItems, F.ref03.rightItems_B]
    have loop : ∀ (j i m : Nat), i ≤ l.length → m ≤ n → i ≤ n - m → m + 2 ≤ j → ∃ z, ((F.ref03.rightItems_l1 l (F.ref03.rightItems K) j ((64 - m : Nat) : Int) (i : Int)).bind fun o1 => o1.fin fun d1 => some d1) = some z ∧ itRr n (itsC (l.drop i) m) z := by
      intro j
      induction j with
      | zero => intro i m _ _ _ h; omega
      | succ j ihj =>
        intro i m hi hm him hj
        by_cases h : i < l.length
        · rw [rightItemsR_step h (by omega), List.drop_eq_getElem_cons h, itsC]
          rcases m with _ | m
          · rw [itC_zero]
            exact ⟨_, rfl, (show (-1 : Int) < 0 from by decide)⟩
          · have hw : IntKind.wrap .i64 (((64 - (m + 1) : Nat) : Int) + 1) = ((64 - m : Nat) : Int) := by rw [wrap_i64 (by omega) (by omega)]; omega
            rw [itC_succ, hw, decide_eq_false (show ¬ (64 < ((64 - m : Nat) : Int)) by omega), if_neg (by simp)]
            by_cases hp : itemP1 l[i] = true
            · rw [if_pos hp, if_pos hp]
              obtain ⟨z, hz, hr⟩ := ih m (by omega) l[i].Items K (by omega) (by omega)
              rw [hz]
              simp only [Option.bind_some]
              cases hc : itsC l[i].Items m with
              | none =>
                rw [hc] at hr
                have hr' : z < 0 := hr
                rw [decide_eq_true hr']
                exact ⟨_, rfl, (show (-1 : Int) < 0 from by decide)⟩
              | some m' =>
                rw [hc] at hr
                obtain rfl : z = ((64 - m' : Nat) : Int) := hr
                have hle := itsC_le _ _ _ hc
                rw [decide_eq_false (show ¬ (((64 - m' : Nat) : Int) < 0) by omega), if_neg (by simp)]
                exact ihj (i + 1) m' (by omega) (by omega) (by omega) (by omega)
            · rw [if_neg hp, if_neg hp]; exact ⟨_, rfl, (show (-1 : Int) < 0 from by decide)⟩
        · rw [List.drop_eq_nil_of_le (by omega), itsC]
          simp only [F.ref03.rightItems_l1, ix_ge h]
          exact ⟨_, rfl, rfl⟩
    have := loop K 0 n (by omega) (by omega) (by omega) (by omega)
    rwa [zero_cast, List.drop_zero] at this
end Go.Vc
