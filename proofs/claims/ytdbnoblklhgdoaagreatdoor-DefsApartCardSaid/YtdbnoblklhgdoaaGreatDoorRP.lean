import Derived.Test.YtdbnoblklhgdoaaGreatDoorWA
set_option linter.unusedVariables false
set_option linter.unusedSimpArgs false
set_option linter.unusedSectionVars false
namespace Go.Vc
open Go
theorem loop_all {α γ : Type} {xs : List α} {p : α → Bool} {z : γ} {L : Nat → Int → Option (LR γ Bool)}
    (h1 : ∀ j i, (h : i < xs.length) → L (j + 1) (i : Int) = if p xs[i] then L j ((i + 1 : Nat) : Int) else some (.ret false))
    (h2 : ∀ j, L (j + 1) (xs.length : Int) = some (.done z)) : ∀ j i, i ≤ xs.length → xs.length - i < j → L j (i : Int) = some (if (xs.drop i).all p then .done z else .ret false)
  | 0, _, _, h => by omega
  | j + 1, i, hi, hj => by
    by_cases h : i < xs.length
    · rw [h1 j i h, List.drop_eq_getElem_cons h, List.all_cons]
      by_cases hp : p xs[i] = true
      · rw [if_pos hp, hp, Bool.true_and, loop_all h1 h2 j (i + 1) (by omega) (by omega)]
      · rw [if_neg hp, Bool.eq_false_iff.2 hp, Bool.false_and]
        rfl
    · have : i = xs.length := by omega
      subst this
      rw [h2 j, List.drop_length]
      rfl
theorem loop_all0 {α γ : Type} {xs : List α} {p : α → Bool} {z : γ} {L : Nat → Int → Option (LR γ Bool)} {k : Nat} (hk : xs.length < k)
    (h1 : ∀ j i, (h : i < xs.length) → L (j + 1) (i : Int) = if p xs[i] then L j ((i + 1 : Nat) : Int) else some (.ret false))
    (h2 : ∀ j, L (j + 1) (xs.length : Int) = some (.done z)) : L k 0 = some (if xs.all p then .done z else .ret false) := by
  have := loop_all h1 h2 k 0 (by omega) (by omega)
  rwa [List.drop_zero] at this
def all2 {α β : Type} (p : α → β → Bool) : List α → List β → Bool
  | [], _ => true
  | _ :: _, [] => true
  | x :: xs, y :: ys => p x y && all2 p xs ys
theorem loop_all2 {α β γ : Type} {xs : List α} {ys : List β} {p : α → β → Bool} {z : γ} {L : Nat → Int → Option (LR γ Bool)} (hl : xs.length = ys.length)
    (h1 : ∀ j i, (h : i < xs.length) → (h' : i < ys.length) → L (j + 1) (i : Int) = if p xs[i] ys[i] then L j ((i + 1 : Nat) : Int) else some (.ret false))
    (h2 : ∀ j, L (j + 1) (xs.length : Int) = some (.done z)) : ∀ j i, i ≤ xs.length → xs.length - i < j → L j (i : Int) = some (if all2 p (xs.drop i) (ys.drop i) then .done z else .ret false)
  | 0, _, _, h => by omega
  | j + 1, i, hi, hj => by
    by_cases h : i < xs.length
    · have h' : i < ys.length := by omega
      rw [h1 j i h h', List.drop_eq_getElem_cons h, List.drop_eq_getElem_cons h', all2]
      by_cases hp : p xs[i] ys[i] = true
      · rw [if_pos hp, hp, Bool.true_and, loop_all2 hl h1 h2 j (i + 1) (by omega) (by omega)]
      · rw [if_neg hp, Bool.eq_false_iff.2 hp, Bool.false_and]
        rfl
    · have : i = xs.length := by omega
      subst this
      rw [h2 j, List.drop_length]
      rfl
theorem loop_all20 {α β γ : Type} {xs : List α} {ys : List β} {p : α → β → Bool} {z : γ} {L : Nat → Int → Option (LR γ Bool)} {k : Nat} (hk : xs.length < k) (hl : xs.length = ys.length)
    (h1 : ∀ j i, (h : i < xs.length) → (h' : i < ys.length) → L (j + 1) (i : Int) = if p xs[i] ys[i] then L j ((i + 1 : Nat) : Int) else some (.ret false))
    (h2 : ∀ j, L (j + 1) (xs.length : Int) = some (.done z)) : L k 0 = some (if all2 p xs ys then .done z else .ret false) := by
  have := loop_all2 hl h1 h2 k 0 (by omega) (by omega)
  rwa [List.drop_zero, List.drop_zero] at this
theorem all2_eq {α : Type} {p : α → α → Bool} : ∀ (xs ys : List α), xs.length = ys.length → (∀ x ∈ xs, ∀ y ∈ ys, (p x y = true ↔ x = y)) → (all2 p xs ys = true ↔ xs = ys)
  | [], [], _, _ => by simp [all2]
  | [], _ :: _, h, _ => by simp at h
  | _ :: _, [], h, _ => by simp at h
  | x :: xs, y :: ys, h, hp => by
    simp only [all2, Bool.and_eq_true, List.cons.injEq]
    rw [hp x (by simp) y (by simp), all2_eq xs ys (by simpa using h) (fun a ha b hb => hp a (by simp [ha]) b (by simp [hb]))]
def isNm : List UInt8 → Bool
  | [] => false
  | c :: r => decide ((c :: r).length ≤ 32) && (decide (cls c.toNat = 1) && decide (pl (c :: r) = (c :: r).length))
theorem isNm_both {k : Nat} (s : List UInt8) (hk : 100 ≤ k) : F.words.IsName k s = some (isNm s) ∧ F.ref02.IsName k s = some (isNm s) := by
  unfold F.words.IsName F.ref02.IsName F.words.IsName_j1 F.ref02.IsName_j1
  cases s with
  | nil => exact ⟨rfl, rfl⟩
  | cons c r =>
    have h0 : (0 : Nat) < (c :: r).length := by simp
    have hin : inR 0 (c :: r).length = true := ix_in (i := 0) h0
    have hs0 : sAt (c :: r) 0 = ((c.toNat : Nat) : Int) := sAt_get (i := 0) h0
    have hlt := c.toNat_lt
    have d1 : (!((c :: r) == ([] : List UInt8))) = true := rfl
    have d2 : decide ((0 : Int) < ((c :: r).length : Int)) = true := decide_eq_true (by omega)
    simp only [d1, d2, hin, hs0, if_true, isNm]
    by_cases h32 : (c :: r).length ≤ 32
    · have hf := Far_ok (k := k) (s := c :: r) (i := 0) (by omega) (by omega) (by omega)
      rw [zero_cast, List.drop_zero, Nat.zero_add] at hf
      have d3 : decide (((c :: r).length : Int) ≤ 32) = true := decide_eq_true (by omega)
      have e32 : IntKind.wrap .i32 (c.toNat : Int) = (c.toNat : Int) := wrap_i32 (by omega) (by omega)
      have e5 : (((pl (c :: r) : Nat) : Int) == ((c :: r).length : Int)) = decide (pl (c :: r) = (c :: r).length) := by
        rw [Bool.eq_iff_iff, beq_iff_eq, decide_eq_true_eq]; omega
      simp only [d3, if_true, e32, great_ok, class_ok, Option.bind_some, run_ok (k := k) (s := c :: r) (by omega) (by omega), hf, decide_eq_true h32, Bool.true_and, e5]
      by_cases hc : cls c.toNat = 1
      · have d4 : (((cls c.toNat : Nat) : Int) == 1) = true := by rw [hc]; rfl
        simp only [d4, decide_eq_true hc, if_true, Bool.true_and]
        exact ⟨trivial, trivial⟩
      · have d4 : (((cls c.toNat : Nat) : Int) == 1) = false := by rw [beq_eq_false_iff_ne]; omega
        simp only [d4, decide_eq_false hc, Bool.false_eq_true, if_false, Bool.false_and]
        exact ⟨trivial, trivial⟩
    · have d3 : decide (((c :: r).length : Int) ≤ 32) = false := decide_eq_false (by omega)
      simp only [d3, Bool.false_eq_true, if_false, decide_eq_false h32, Bool.false_and]
      exact ⟨trivial, trivial⟩
def nmE (s : List UInt8) (e : Bool) : Bool := (e && s == []) || isNm s
theorem named_ok {k : Nat} (s : List UInt8) (e : Bool) (hk : 100 ≤ k) : F.defs.named k s e = some (nmE s e) := by
  unfold F.defs.named nmE
  rw [(isNm_both s hk).1]
  cases s <;> cases e <;> rfl
def zS (s : S4) : Bool := S4.eq s (S4.mk 0 0 0 0)
def symP (s : Sym) : Bool :=
  if s.Kind = 1 then decide (s.Text.length ≤ 32) && (zS s.Set && (s.Name == [] && s.Sep == []))
  else if s.Kind = 2 then s.Text == [] && (s.Name == [] && s.Sep == [])
  else if s.Kind = 3 then s.Text == [] && (zS s.Set && (isNm s.Name && s.Sep == []))
  else if s.Kind = 4 then s.Text == [] && (s.Sep == [] && (s.Name == [] || (zS s.Set && isNm s.Name)))
  else if s.Kind = 5 ∨ s.Kind = 6 then (if s.Name == [] then s.Text == [] && s.Sep == [] else s.Text == [] && (zS s.Set && (isNm s.Name && decide (s.Sep.length ≤ 32))))
  else false
section
variable {k : Nat} (hk : 100 ≤ k)
include hk
theorem rightSym_ok (s : Sym) : F.defs.rightSym k s = some (symP s) := by
  unfold F.defs.rightSym F.defs.rightSym_j4 F.defs.rightSym_j1 F.defs.rightSym_j2 F.defs.rightSym_j3 F.defs.rightSym_j5 symP zS
  have e : decide ((s.Text.length : Int) ≤ 32) = decide (s.Text.length ≤ 32) := by rw [Bool.eq_iff_iff]; simp only [decide_eq_true_eq]; omega
  have e2 : decide ((s.Sep.length : Int) ≤ 32) = decide (s.Sep.length ≤ 32) := by rw [Bool.eq_iff_iff]; simp only [decide_eq_true_eq]; omega
  simp only [named_ok _ _ hk, nmE, Bool.false_and, Bool.false_or, Option.bind_some, e, e2]
  generalize decide (s.Text.length ≤ 32) = a1
  generalize decide (s.Sep.length ≤ 32) = a2
  generalize S4.eq s.Set (S4.mk 0 0 0 0) = a3
  generalize (s.Name == []) = a4
  generalize (s.Sep == []) = a5
  generalize (s.Text == []) = a6
  generalize isNm s.Name = a7
  by_cases h1 : s.Kind = 1
  · simp only [h1]; cases a1 <;> cases a3 <;> cases a4 <;> cases a5 <;> rfl
  by_cases h2 : s.Kind = 2
  · simp only [h2]; cases a6 <;> cases a4 <;> cases a5 <;> rfl
  by_cases h3 : s.Kind = 3
  · simp only [h3]; cases a6 <;> cases a3 <;> cases a7 <;> cases a5 <;> rfl
  by_cases h4 : s.Kind = 4
  · simp only [h4]; cases a6 <;> cases a5 <;> cases a4 <;> cases a3 <;> cases a7 <;> rfl
  by_cases h5 : s.Kind = 5
  · simp only [h5]; cases a6 <;> cases a5 <;> cases a4 <;> cases a3 <;> cases a7 <;> cases a2 <;> rfl
  by_cases h6 : s.Kind = 6
  · simp only [h6]; cases a6 <;> cases a5 <;> cases a4 <;> cases a3 <;> cases a7 <;> cases a2 <;> rfl
  simp [h1, h2, h3, h4, h5, h6]
end
def prodP (p : Prod) : Bool := isNm p.Sort_ && (nmE p.Cons true && (decide (1 ≤ p.Syms.length ∧ p.Syms.length ≤ 12) && ((if p.Lex then !p.Bracket else p.Bracket == (p.Cons == [])) && p.Syms.all symP)))
section
variable {k : Nat} (hk : 40000 ≤ k)
include hk
theorem syms_ok (xs : List Sym) (hl : xs.length ≤ 30000) : F.slices.ContainsFunc_f93_94 k xs = some (!xs.all symP) := by
  unfold F.slices.ContainsFunc_f93_94 F.slices.IndexFunc_f121_94
  have key : ∀ j i, i ≤ xs.length → xs.length - i < j → ∃ n : Nat, F.slices.IndexFunc_f121_94_l1 k xs j (i : Int) = some (if (xs.drop i).all symP then .done () else .ret (n : Int)) := by
    intro j
    induction j with
    | zero => intro i _ h; omega
    | succ j ih =>
      intro i hi hj
      simp only [F.slices.IndexFunc_f121_94_l1]
      by_cases h : i < xs.length
      · rw [ix_lt h, if_pos rfl, ix_in h, if_pos rfl, ix_at h, F.defs.rightProd_c1, rightSym_ok (by omega), List.drop_eq_getElem_cons h, List.all_cons]
        simp only [Option.bind_some]
        cases hp : symP xs[i] with
        | true =>
          obtain ⟨n, hn⟩ := ih (i + 1) (by omega) (by omega)
          refine ⟨n, ?_⟩
          rw [ix_inc (by omega), hn]
          simp
        | false => exact ⟨i, rfl⟩
      · refine ⟨0, ?_⟩
        have : i = xs.length := by omega
        subst this
        rw [ix_ge h, List.drop_length]
        rfl
  obtain ⟨n, hn⟩ := key k 0 (by omega) (by omega)
  rw [zero_cast, List.drop_zero] at hn
  rw [hn]
  cases xs.all symP <;> simp [LR.fin]
theorem rightProd_ok (p : Prod) (hl : p.Syms.length ≤ 30000) : F.defs.rightProd k p = some (prodP p) := by
  unfold F.defs.rightProd F.defs.rightProd_j1 F.defs.rightProd_j2 prodP
  simp only [named_ok _ _ (show 100 ≤ k by omega), syms_ok hk _ hl, Option.bind_some, nmE, Bool.false_and, Bool.false_or]
  have e1 : ((p.Syms.length : Int) == 0) = decide (p.Syms.length = 0) := by rw [Bool.eq_iff_iff, beq_iff_eq, decide_eq_true_eq]; omega
  have e2 : decide (12 < (p.Syms.length : Int)) = decide (12 < p.Syms.length) := by rw [Bool.eq_iff_iff]; simp only [decide_eq_true_eq]; omega
  have e3 : decide (1 ≤ p.Syms.length ∧ p.Syms.length ≤ 12) = (!decide (p.Syms.length = 0) && !decide (12 < p.Syms.length)) := by
    rw [Bool.eq_iff_iff]; simp only [decide_eq_true_eq, Bool.and_eq_true, Bool.not_eq_true', decide_eq_false_iff_not]; omega
  rw [e1, e2, e3]
  generalize decide (p.Syms.length = 0) = a1
  generalize decide (12 < p.Syms.length) = a2
  generalize isNm p.Sort_ = a3
  generalize (p.Cons == []) = a4
  generalize isNm p.Cons = a5
  generalize p.Lex = a6
  generalize p.Bracket = a7
  generalize p.Syms.all symP = a8
  cases a1 <;> cases a2 <;> cases a3 <;> cases a4 <;> cases a5 <;> cases a6 <;> cases a7 <;> cases a8 <;> rfl
end
def groupP (g : Group) : Bool := decide (0 ≤ g.Assoc ∧ g.Assoc ≤ 3) && (decide (1 ≤ g.Cons.length ∧ g.Cons.length ≤ 16) && g.Cons.all isNm)
def chainP (l : List Group) : Bool := decide (1 ≤ l.length ∧ l.length ≤ 16) && l.all groupP
section
variable {k : Nat} (hk : 40000 ≤ k)
include hk
theorem rightChain_ok (l : List Group) (hl : l.length ≤ 30000) : F.defs.rightChain k l = some (chainP l) := by
  have hs : F.defs.rightChain_l1 k l k 0 = some (if l.all groupP then .done () else .ret false) := by
    refine loop_all0 (by omega) (fun j i h => ?_) (fun j => ?_)
    · have h3 : l[i].Cons.length ≤ 16 → F.defs.rightChain_l3 k l (i : Int) k 0 = some (if l[i].Cons.all isNm then .done (l[i].Cons.length : Int) else .ret false) := fun h16 => by
        refine loop_all0 (by omega) (fun j i' h' => ?_) (fun j => ?_)
        · simp only [F.defs.rightChain_l3, ix_at h, ix_lt h', ix_in h', ix_at h', named_ok _ _ (show 100 ≤ k by omega), nmE, Bool.false_and, Bool.false_or, Option.bind_some, ix_inc (show i' < 4611686018427387904 by omega), if_true]
          cases isNm l[i].Cons[i'] <;> rfl
        · simp only [F.defs.rightChain_l3, ix_at h, ix_ge (Nat.lt_irrefl _)]
          rfl
      simp only [F.defs.rightChain_l1, F.defs.rightChain_j2, ix_lt h, ix_in h, ix_at h, if_true]
      unfold groupP
      by_cases a1 : l[i].Assoc < 0
      · rw [decide_eq_true a1, decide_eq_false (show ¬ (0 ≤ l[i].Assoc ∧ l[i].Assoc ≤ 3) by omega)]; rfl
      by_cases a2 : 3 < l[i].Assoc
      · rw [decide_eq_false a1, decide_eq_true a2, decide_eq_false (show ¬ (0 ≤ l[i].Assoc ∧ l[i].Assoc ≤ 3) by omega)]; rfl
      rw [decide_eq_false a1, decide_eq_false a2, decide_eq_true (show (0 ≤ l[i].Assoc ∧ l[i].Assoc ≤ 3) by omega)]
      by_cases a3 : l[i].Cons.length = 0
      · rw [show ((l[i].Cons.length : Int) == 0) = true by rw [beq_iff_eq]; omega, decide_eq_false (show ¬ (1 ≤ l[i].Cons.length ∧ l[i].Cons.length ≤ 16) by omega)]; rfl
      rw [show ((l[i].Cons.length : Int) == 0) = false by rw [beq_eq_false_iff_ne]; omega]
      by_cases a4 : 16 < l[i].Cons.length
      · rw [decide_eq_true (show (16 : Int) < (l[i].Cons.length : Int) by omega), decide_eq_false (show ¬ (1 ≤ l[i].Cons.length ∧ l[i].Cons.length ≤ 16) by omega)]; rfl
      rw [decide_eq_false (show ¬ (16 : Int) < (l[i].Cons.length : Int) by omega), decide_eq_true (show (1 ≤ l[i].Cons.length ∧ l[i].Cons.length ≤ 16) by omega), h3 (by omega)]
      simp only [Bool.false_eq_true, if_false, Option.bind_some, Bool.true_and, ix_inc (show i < 4611686018427387904 by omega)]
      cases l[i].Cons.all isNm <;> rfl
    · simp only [F.defs.rightChain_l1, ix_ge (Nat.lt_irrefl _)]
      rfl
  unfold F.defs.rightChain chainP
  rw [hs]
  simp only [Option.bind_some]
  cases l.all groupP with
  | false => rw [Bool.and_false]; rfl
  | true =>
    simp only [if_true, LR.fin, Bool.and_true]
    by_cases h0 : 0 < l.length
    · rw [decide_eq_true (show (0 : Int) < (l.length : Int) by omega), if_pos rfl]
      congr 1
      rw [Bool.eq_iff_iff]; simp only [decide_eq_true_eq]; omega
    · rw [decide_eq_false (show ¬ (0 : Int) < (l.length : Int) by omega), decide_eq_false (show ¬ (1 ≤ l.length ∧ l.length ≤ 16) by omega)]
      rfl
end
def numP (n : Int) : Bool := decide (0 ≤ n) && decide (n ≤ 999999)
def itemP1 (x : Item) : Bool :=
  if x.Kind = 1 then decide (x.Text.length ≤ 32) && (x.N_ == 0 && decide (x.Items.length = 0))
  else if x.Kind = 2 then x.Text == [] && (numP x.N_ && decide (x.Items.length = 0))
  else if x.Kind = 3 ∨ x.Kind = 4 then x.Text == [] && (x.N_ == 0 && decide (x.Items.length = 0))
  else if x.Kind = 5 then x.Text == [] && numP x.N_
  else if x.Kind = 6 then x.Text == [] && x.N_ == 0
  else false
mutual
def itC : Item → Nat → Option Nat
  | .mk _ _ _ _, 0 => none
  | .mk a b c l, n + 1 => if itemP1 ⟨a, b, c, l⟩ then itsC l n else none
def itsC : List Item → Nat → Option Nat
  | [], n => some n
  | x :: r, n => match itC x n with
    | some m => itsC r m
    | none => none
end
theorem itC_zero (x : Item) : itC x 0 = none := by cases x; rw [itC]
theorem itC_succ (x : Item) (n : Nat) : itC x (n + 1) = if itemP1 x then itsC x.Items n else none := by cases x; rw [itC]
mutual
theorem itC_le : ∀ (x : Item) (n m : Nat), itC x n = some m → m ≤ n
  | .mk a b c l, 0, m, h => by rw [itC] at h; cases h
  | .mk a b c l, n + 1, m, h => by
    rw [itC] at h
    split at h
    · have := itsC_le l n m h
      omega
    · cases h
theorem itsC_le : ∀ (l : List Item) (n m : Nat), itsC l n = some m → m ≤ n
  | [], n, m, h => by simp only [itsC, Option.some.injEq] at h; omega
  | x :: r, n, m, h => by
    rw [itsC] at h
    cases hx : itC x n with
    | none => rw [hx] at h; cases h
    | some m' =>
      rw [hx] at h
      have h1 := itC_le x n m' hx
      have h2 := itsC_le r m' m h
      omega
end
theorem rightItems_step {l : List Item} {g : List Item → Int → Option (Bool × Int)} {j i : Nat} {left : Int} (h : i < l.length) (hi : i < 1000000) : F.defs.rightItems_l1 l g (j + 1) (i : Int) left =
    if itemP1 l[i] then (if decide (IntKind.wrap .i64 (left - 1) < 0) then some (.ret (false, IntKind.wrap .i64 (left - 1))) else (g l[i].Items (IntKind.wrap .i64 (left - 1))).bind fun v => if !v.1 then some (.ret (false, v.2)) else F.defs.rightItems_l1 l g j ((i + 1 : Nat) : Int) v.2) else some (.ret (false, IntKind.wrap .i64 (left - 1))) := by
  simp only [F.defs.rightItems_l1, ix_lt h, ix_in h, ix_at h, if_true, F.defs.rightItems_j3, F.defs.rightItems_j6, F.defs.rightItems_j8, F.defs.rightItems_j9, F.defs.rightItems_j11, F.defs.rightItems_j13, F.defs.rightItems_j15, F.defs.rightItems_j14, F.defs.rightItems_j12, F.defs.rightItems_j10, F.defs.rightItems_j7, F.defs.rightItems_j5, F.defs.rightItems_j4, F.defs.rightItems_j2, ix_inc (show i < 4611686018427387904 by omega)]
  generalize F.defs.rightItems_l1 l g j = rec
  generalize l[i] = x
  unfold itemP1 numP
  have e1 : decide ((x.Text.length : Int) ≤ 32) = decide (x.Text.length ≤ 32) := by rw [Bool.eq_iff_iff]; simp only [decide_eq_true_eq]; omega
  have e2 : ((x.Items.length : Int) == 0) = decide (x.Items.length = 0) := by rw [Bool.eq_iff_iff, beq_iff_eq, decide_eq_true_eq]; omega
  rw [e1, e2]
  generalize decide (x.Text.length ≤ 32) = a1
  generalize decide (x.Items.length = 0) = a2
  generalize (x.Text == []) = a3
  generalize (x.N_ == 0) = a4
  generalize decide (0 ≤ x.N_) = a5
  generalize decide (x.N_ ≤ 999999) = a6
  by_cases h1 : x.Kind = 1
  · simp only [h1]; cases a1 <;> cases a4 <;> cases a2 <;> cases a5 <;> rfl
  by_cases h2 : x.Kind = 2
  · simp only [h2]; cases a3 <;> cases a5 <;> cases a6 <;> cases a2 <;> rfl
  by_cases h3 : x.Kind = 3
  · simp only [h3]; cases a3 <;> cases a4 <;> cases a2 <;> cases a5 <;> rfl
  by_cases h4 : x.Kind = 4
  · simp only [h4]; cases a3 <;> cases a4 <;> cases a2 <;> cases a5 <;> rfl
  by_cases h5 : x.Kind = 5
  · simp only [h5]; cases a3 <;> cases a5 <;> cases a6 <;> rfl
  by_cases h6 : x.Kind = 6
  · simp only [h6]; cases a3 <;> cases a4 <;> cases a5 <;> rfl
  simp [h1, h2, h3, h4, h5, h6]
def itR (o : Option Nat) (z : Bool × Int) : Prop := match o with
  | some n => z = (true, (n : Int))
  | none => z.1 = false
theorem rightItems_ok : ∀ (n : Nat) (l : List Item) (k : Nat), n ≤ 64 → n + 3 ≤ k → ∃ z, F.defs.rightItems k l (n : Int) = some z ∧ itR (itsC l n) z := by
  intro n
  induction n using Nat.strongRecOn with
  | _ n ih =>
    intro l k hn hk
    obtain ⟨K, rfl⟩ : ∃ K, k = K + 1 := ⟨k - 1, by omega⟩
    simp only [F.defs.rightItems, F.defs.rightItems_B]
    have loop : ∀ (j i m : Nat), i ≤ l.length → m ≤ n → i ≤ n - m → m + 2 ≤ j → ∃ z, ((F.defs.rightItems_l1 l (F.defs.rightItems K) j (i : Int) (m : Int)).bind fun o1 => o1.fin fun d1 => some (true, d1)) = some z ∧ itR (itsC (l.drop i) m) z := by
      intro j
      induction j with
      | zero => intro i m _ _ _ h; omega
      | succ j ihj =>
        intro i m hi hm him hj
        by_cases h : i < l.length
        · rw [rightItems_step h (by omega), List.drop_eq_getElem_cons h, itsC]
          rcases m with _ | m
          · rw [itC_zero, show IntKind.wrap .i64 (((0 : Nat) : Int) - 1) = -1 from rfl]
            by_cases hp : itemP1 l[i] = true
            · rw [if_pos hp]; exact ⟨_, rfl, rfl⟩
            · rw [if_neg hp]; exact ⟨_, rfl, rfl⟩
          · have hw : IntKind.wrap .i64 (((m + 1 : Nat) : Int) - 1) = (m : Int) := by rw [wrap_i64 (by omega) (by omega)]; omega
            rw [itC_succ, hw]
            by_cases hp : itemP1 l[i] = true
            · rw [if_pos hp, if_pos hp, decide_eq_false (show ¬ ((m : Int) < 0) by omega), if_neg (by simp)]
              obtain ⟨z, hz, hr⟩ := ih m (by omega) l[i].Items K (by omega) (by omega)
              rw [hz]
              simp only [Option.bind_some]
              cases hc : itsC l[i].Items m with
              | none =>
                rw [hc] at hr
                have hr' : z.1 = false := hr
                rw [hr']
                exact ⟨_, rfl, rfl⟩
              | some m' =>
                rw [hc] at hr
                obtain rfl : z = (true, (m' : Int)) := hr
                have hle := itsC_le _ _ _ hc
                simp only [Bool.not_true, Bool.false_eq_true, if_false]
                exact ihj (i + 1) m' (by omega) (by omega) (by omega) (by omega)
            · rw [if_neg hp, if_neg hp]; exact ⟨_, rfl, rfl⟩
        · rw [List.drop_eq_nil_of_le (by omega), itsC]
          simp only [F.defs.rightItems_l1, ix_ge h]
          exact ⟨_, rfl, rfl⟩
    have := loop K 0 n (by omega) (by omega) (by omega) (by omega)
    rwa [zero_cast, List.drop_zero] at this
mutual
def izI : Item → Nat
  | .mk _ _ _ l => 1 + izL l
def izL : List Item → Nat
  | [] => 0
  | x :: r => izI x + izL r
end
theorem izI_eq (x : Item) : izI x = 1 + izL x.Items := by cases x; rw [izI]
theorem izL_len : ∀ l : List Item, l.length ≤ izL l
  | [] => Nat.le_refl _
  | x :: r => by
    have := izL_len r
    rw [izL, izI_eq]
    simp only [List.length_cons]
    omega
theorem izL_mem : ∀ (l : List Item) (x : Item), x ∈ l → izL x.Items < izL l
  | [], x, h => by cases h
  | y :: r, x, h => by
    rw [izL, izI_eq]
    rcases List.mem_cons.1 h with rfl | h
    · omega
    · have := izL_mem r x h
      omega
mutual
def okI : Item → Prop
  | .mk _ _ _ l => l.length * 56 ≤ 140737488351232 ∧ okL l
def okL : List Item → Prop
  | [] => True
  | x :: r => okI x ∧ okL r
end
theorem okI_eq (x : Item) : okI x ↔ x.Items.length * 56 ≤ 140737488351232 ∧ okL x.Items := by cases x; rw [okI]
theorem okL_mem : ∀ (l : List Item) (x : Item), okL l → x ∈ l → okI x
  | [], x, _, h => by cases h
  | y :: r, x, ho, h => by
    rw [okL] at ho
    rcases List.mem_cons.1 h with rfl | h
    · exact ho.1
    · exact okL_mem r x ho.2 h
structure Bd (d : Def) : Prop where
  prods : d.Prods.length ≤ 30000
  syms : ∀ p ∈ d.Prods, p.Syms.length ≤ 30000
  chains : d.Chains.length ≤ 30000
  groups : ∀ c ∈ d.Chains, c.length ≤ 30000
  cons : ∀ c ∈ d.Chains, ∀ g ∈ c, g.Cons.length ≤ 30000
  follows : d.Follows.length ≤ 30000
  rejects : d.Rejects.length ≤ 30000
  boxes : d.Boxes.length ≤ 30000
theorem rightItems_box (l : List Item) {k : Nat} (hk : 40000 ≤ k) : ∃ z, F.defs.rightItems k l 64 = some z ∧ z.1 = (itsC l 64).isSome := by
  obtain ⟨z, hz, hr⟩ := rightItems_ok 64 l k (by omega) (by omega)
  refine ⟨z, hz, ?_⟩
  cases hc : itsC l 64 with
  | none => rw [hc] at hr; exact hr
  | some m => rw [hc] at hr; obtain rfl : z = (true, (m : Int)) := hr; rfl
def boxP (b : Box) : Bool := isNm b.Cons && (itsC b.Items 64).isSome
def defP (d : Def) : Bool := nmE d.Start true && (nmE d.Layout true && (decide (d.Prods.length ≤ 200) && (d.Prods.all prodP && (d.Chains.all chainP && (d.Follows.all (fun f => isNm f.Sort_) && (d.Rejects.all (fun r => isNm r.Sort_ && isNm r.By) && d.Boxes.all boxP))))))
section
variable {k : Nat} (hk : 40000 ≤ k) {d : Def} (hd : Bd d)
include hk hd
theorem Right_ok : F.defs.Right k d = some (defP d) := by
  have hk1 : 100 ≤ k := by omega
  have l1 : F.defs.Right_l1 k d k 0 = some (if d.Prods.all prodP then .done () else .ret false) := by
    refine loop_all0 (by have := hd.prods; omega) (fun j i h => ?_) (fun j => ?_)
    · have := hd.prods
      simp only [F.defs.Right_l1, ix_lt h, ix_in h, ix_at h, rightProd_ok hk _ (hd.syms _ (List.getElem_mem h)), Option.bind_some, ix_inc (show i < 4611686018427387904 by omega), if_true]
      cases prodP d.Prods[i] <;> rfl
    · simp only [F.defs.Right_l1, ix_ge (Nat.lt_irrefl _)]
      rfl
  have l2 : F.defs.Right_l2 k d k 0 = some (if d.Chains.all chainP then .done () else .ret false) := by
    refine loop_all0 (by have := hd.chains; omega) (fun j i h => ?_) (fun j => ?_)
    · have := hd.chains
      simp only [F.defs.Right_l2, ix_lt h, ix_in h, ix_at h, rightChain_ok hk _ (hd.groups _ (List.getElem_mem h)), Option.bind_some, ix_inc (show i < 4611686018427387904 by omega), if_true]
      cases chainP d.Chains[i] <;> rfl
    · simp only [F.defs.Right_l2, ix_ge (Nat.lt_irrefl _)]
      rfl
  have l3 : F.defs.Right_l3 k d k 0 = some (if d.Follows.all (fun f => isNm f.Sort_) then .done () else .ret false) := by
    refine loop_all0 (by have := hd.follows; omega) (fun j i h => ?_) (fun j => ?_)
    · have := hd.follows
      simp only [F.defs.Right_l3, ix_lt h, ix_in h, ix_at h, named_ok _ _ hk1, nmE, Bool.false_and, Bool.false_or, Option.bind_some, ix_inc (show i < 4611686018427387904 by omega), if_true]
      cases isNm d.Follows[i].Sort_ <;> rfl
    · simp only [F.defs.Right_l3, ix_ge (Nat.lt_irrefl _)]
      rfl
  have l4 : F.defs.Right_l4 k d k 0 = some (if d.Rejects.all (fun r => isNm r.Sort_ && isNm r.By) then .done () else .ret false) := by
    refine loop_all0 (by have := hd.rejects; omega) (fun j i h => ?_) (fun j => ?_)
    · have := hd.rejects
      simp only [F.defs.Right_l4, ix_lt h, ix_in h, ix_at h, named_ok _ _ hk1, nmE, Bool.false_and, Bool.false_or, Option.bind_some, ix_inc (show i < 4611686018427387904 by omega), if_true]
      cases isNm d.Rejects[i].Sort_ <;> cases isNm d.Rejects[i].By <;> rfl
    · simp only [F.defs.Right_l4, ix_ge (Nat.lt_irrefl _)]
      rfl
  have l5 : F.defs.Right_l5 k d k 0 = some (if d.Boxes.all boxP then .done () else .ret false) := by
    refine loop_all0 (by have := hd.boxes; omega) (fun j i h => ?_) (fun j => ?_)
    · have := hd.boxes
      obtain ⟨z, hz, hr⟩ := rightItems_box d.Boxes[i].Items hk
      rw [show boxP d.Boxes[i] = (isNm d.Boxes[i].Cons && (itsC d.Boxes[i].Items 64).isSome) from rfl]
      simp only [F.defs.Right_l5, ix_lt h, ix_in h, ix_at h, named_ok _ _ hk1, nmE, Bool.false_and, Bool.false_or, Option.bind_some, ix_inc (show i < 4611686018427387904 by omega), if_true, hz, hr]
      cases isNm d.Boxes[i].Cons <;> cases (itsC d.Boxes[i].Items 64).isSome <;> rfl
    · simp only [F.defs.Right_l5, ix_ge (Nat.lt_irrefl _)]
      rfl
  unfold F.defs.Right defP
  have e : decide (200 < (d.Prods.length : Int)) = !decide (d.Prods.length ≤ 200) := by rw [Bool.eq_iff_iff]; simp only [decide_eq_true_eq, Bool.not_eq_true', decide_eq_false_iff_not]; omega
  simp only [named_ok _ _ hk1, Option.bind_some, e, l1, l2, l3, l4, l5]
  cases nmE d.Start true
  · rfl
  cases nmE d.Layout true
  · rfl
  cases decide (d.Prods.length ≤ 200)
  · rfl
  cases d.Prods.all prodP
  · rfl
  cases d.Chains.all chainP
  · rfl
  cases d.Follows.all (fun f => isNm f.Sort_)
  · rfl
  cases d.Rejects.all (fun r => isNm r.Sort_ && isNm r.By)
  · rfl
  cases d.Boxes.all boxP <;> rfl
end
noncomputable def ceq {α : Type} (x y : α) : Bool := @decide (x = y) (Classical.propDecidable _)
theorem ceq_iff {α : Type} {x y : α} : ceq x y = true ↔ x = y := by unfold ceq; simp
theorem cb {α : Type} {x y : α} {c : Bool} (h : c = true ↔ x = y) : c = ceq x y := by rw [Bool.eq_iff_iff, ceq_iff]; exact h
theorem ceq_ne {α : Type} {x y : α} (h : x ≠ y) : ceq x y = false := by
  cases hc : ceq x y with
  | false => rfl
  | true => exact absurd (ceq_iff.1 hc) h
theorem len_ne {a b : Nat} : (((a : Int)) != ((b : Int))) = !decide (a = b) := by
  rw [Bool.eq_iff_iff, bne_iff_ne, Bool.not_eq_true', decide_eq_false_iff_not]; omega
theorem all2_ceq {α : Type} (xs ys : List α) (h : xs.length = ys.length) : all2 ceq xs ys = ceq xs ys := cb (all2_eq xs ys h (fun _ _ _ _ => ceq_iff))
theorem loop_eq {α γ : Type} {xs ys : List α} {z : γ} {L : Nat → Int → Option (LR γ Bool)} {k : Nat} (hk : xs.length < k) (hl : xs.length = ys.length)
    (h1 : ∀ j i, (h : i < xs.length) → (h' : i < ys.length) → L (j + 1) (i : Int) = if ceq xs[i] ys[i] then L j ((i + 1 : Nat) : Int) else some (.ret false))
    (h2 : ∀ j, L (j + 1) (xs.length : Int) = some (.done z)) : L k 0 = some (if ceq xs ys then .done z else .ret false) := by
  rw [loop_all20 hk hl h1 h2, all2_ceq xs ys hl]
theorem eq_fun {α γ : Type} {xs ys : List α} {z : γ} {L : Nat → Int → Option (LR γ Bool)} {k : Nat} (hk : xs.length < k)
    (h1 : ∀ j i, (h : i < xs.length) → (h' : i < ys.length) → L (j + 1) (i : Int) = if ceq xs[i] ys[i] then L j ((i + 1 : Nat) : Int) else some (.ret false))
    (h2 : ∀ j, L (j + 1) (xs.length : Int) = some (.done z)) : (if ((xs.length : Int) != (ys.length : Int)) then some false else (L k 0).bind fun o1 => o1.fin fun _ => some true) = some (ceq xs ys) := by
  rw [len_ne]
  by_cases hl : xs.length = ys.length
  · rw [decide_eq_true hl, loop_eq hk hl h1 h2]
    cases ceq xs ys <;> rfl
  · rw [decide_eq_false hl, ceq_ne (fun e => hl (by rw [e]))]
    rfl
theorem follow_iff (x y : Follow) : ((x.Sort_ == y.Sort_) && ((S4.eq (S4.mk x.Set.w0 x.Set.w1 x.Set.w2 x.Set.w3) (S4.mk y.Set.w0 y.Set.w1 y.Set.w2 y.Set.w3)) && true)) = ceq x y := cb (by
  rcases x with ⟨a, s⟩; rcases s with ⟨_, _, _, _⟩; rcases y with ⟨b, t⟩; rcases t with ⟨_, _, _, _⟩
  simp [S4.eq])
theorem reject_iff (x y : Reject) : ((x.Sort_ == y.Sort_) && ((x.By == y.By) && true)) = ceq x y := cb (by
  rcases x with ⟨a, s⟩; rcases y with ⟨b, t⟩
  simp)
theorem sym_iff (x y : Sym) : ((x.Kind == y.Kind) && ((x.Text == y.Text) && ((S4.eq (S4.mk x.Set.w0 x.Set.w1 x.Set.w2 x.Set.w3) (S4.mk y.Set.w0 y.Set.w1 y.Set.w2 y.Set.w3)) && ((x.Name == y.Name) && ((x.Sep == y.Sep) && true))))) = ceq x y := cb (by
  rcases x with ⟨_, _, s, _, _⟩; rcases s with ⟨_, _, _, _⟩; rcases y with ⟨_, _, t, _, _⟩; rcases t with ⟨_, _, _, _⟩
  simp [S4.eq])
theorem str_iff (x y : List UInt8) : (x == y) = ceq x y := cb (by simp)
theorem prod_iff (x y : Prod) : ((x.Lex == y.Lex) && ((x.Sort_ == y.Sort_) && ((x.Cons == y.Cons) && ((x.Bracket == y.Bracket) && ceq x.Syms y.Syms)))) = ceq x y := cb (by
  rcases x with ⟨_, _, _, _, _⟩; rcases y with ⟨_, _, _, _, _⟩
  simp [ceq_iff])
theorem group_iff (x y : Group) : ((x.Assoc == y.Assoc) && ceq x.Cons y.Cons) = ceq x y := cb (by
  rcases x with ⟨_, _⟩; rcases y with ⟨_, _⟩
  simp [ceq_iff])
theorem item_iff (x y : Item) : ((x.Kind == y.Kind) && ((x.Text == y.Text) && ((x.N_ == y.N_) && ceq x.Items y.Items))) = ceq x y := cb (by
  rcases x with ⟨_, _, _, _⟩; rcases y with ⟨_, _, _, _⟩
  simp [ceq_iff])
theorem box_iff (x y : Box) : ((x.Cons == y.Cons) && ceq x.Items y.Items) = ceq x y := cb (by
  rcases x with ⟨_, _⟩; rcases y with ⟨_, _⟩
  simp [ceq_iff])
theorem def_iff (x y : Def) : ((x.Start == y.Start) && ((x.Layout == y.Layout) && (ceq x.Follows y.Follows && (ceq x.Rejects y.Rejects && (ceq x.Prods y.Prods && (ceq x.Chains y.Chains && ceq x.Boxes y.Boxes)))))) = ceq x y := cb (by
  rcases x with ⟨_, _, _, _, _, _, _⟩; rcases y with ⟨_, _, _, _, _, _, _⟩
  simp only [Bool.and_eq_true, beq_iff_eq, ceq_iff, Def.mk.injEq]
  constructor
  · rintro ⟨h1, h2, h3, h4, h5, h6, h7⟩; exact ⟨h1, h2, h5, h6, h3, h4, h7⟩
  · rintro ⟨h1, h2, h5, h6, h3, h4, h7⟩; exact ⟨h1, h2, h3, h4, h5, h6, h7⟩)
section
variable {k : Nat} (hk : 40000 ≤ k)
include hk
theorem f55_ok (s1 s2 : List Follow) (hl : s1.length ≤ 30000) : F.slices.Equal_f55 k s1 s2 = some (ceq s1 s2) := by
  unfold F.slices.Equal_f55
  refine eq_fun (z := ()) (by omega) (fun j i h h' => ?_) (fun j => ?_)
  · simp only [F.slices.Equal_f55_l1, ix_lt h, ix_in h, ix_in h', ix_at h, ix_at h', if_true, follow_iff, ix_inc (show i < 4611686018427387904 by omega)]
    cases ceq s1[i] s2[i] <;> rfl
  · simp only [F.slices.Equal_f55_l1, ix_ge (Nat.lt_irrefl _)]; rfl
theorem f56_ok (s1 s2 : List Reject) (hl : s1.length ≤ 30000) : F.slices.Equal_f56 k s1 s2 = some (ceq s1 s2) := by
  unfold F.slices.Equal_f56
  refine eq_fun (z := ()) (by omega) (fun j i h h' => ?_) (fun j => ?_)
  · simp only [F.slices.Equal_f56_l1, ix_lt h, ix_in h, ix_in h', ix_at h, ix_at h', if_true, reject_iff, ix_inc (show i < 4611686018427387904 by omega)]
    cases ceq s1[i] s2[i] <;> rfl
  · simp only [F.slices.Equal_f56_l1, ix_ge (Nat.lt_irrefl _)]; rfl
theorem f59_ok (s1 s2 : List Sym) (hl : s1.length ≤ 30000) : F.slices.Equal_f59 k s1 s2 = some (ceq s1 s2) := by
  unfold F.slices.Equal_f59
  refine eq_fun (z := ()) (by omega) (fun j i h h' => ?_) (fun j => ?_)
  · simp only [F.slices.Equal_f59_l1, ix_lt h, ix_in h, ix_in h', ix_at h, ix_at h', if_true, sym_iff, ix_inc (show i < 4611686018427387904 by omega)]
    cases ceq s1[i] s2[i] <;> rfl
  · simp only [F.slices.Equal_f59_l1, ix_ge (Nat.lt_irrefl _)]; rfl
theorem f64_ok (s1 s2 : List (List UInt8)) (hl : s1.length ≤ 30000) : F.slices.Equal_f64 k s1 s2 = some (ceq s1 s2) := by
  unfold F.slices.Equal_f64
  refine eq_fun (z := ()) (by omega) (fun j i h h' => ?_) (fun j => ?_)
  · simp only [F.slices.Equal_f64_l1, ix_lt h, ix_in h, ix_in h', ix_at h, ix_at h', if_true, str_iff, ix_inc (show i < 4611686018427387904 by omega)]
    cases ceq s1[i] s2[i] <;> rfl
  · simp only [F.slices.Equal_f64_l1, ix_ge (Nat.lt_irrefl _)]; rfl
theorem f57_ok (s1 s2 : List Prod) (hl : s1.length ≤ 30000) (hs : ∀ p ∈ s1, p.Syms.length ≤ 30000) : F.slices.EqualFunc_f57_58 k s1 s2 = some (ceq s1 s2) := by
  unfold F.slices.EqualFunc_f57_58
  refine eq_fun (z := ()) (by omega) (fun j i h h' => ?_) (fun j => ?_)
  · have e : F.defs.Same_c1 k s1[i] s2[i] = some (ceq s1[i] s2[i]) := by
      rw [← prod_iff]
      simp only [F.defs.Same_c1, F.defs.Same_c1_j1, f59_ok hk _ _ (hs _ (List.getElem_mem h)), Option.bind_some]
      cases s1[i].Lex == s2[i].Lex <;> cases s1[i].Sort_ == s2[i].Sort_ <;> cases s1[i].Cons == s2[i].Cons <;> cases s1[i].Bracket == s2[i].Bracket <;> rfl
    simp only [F.slices.EqualFunc_f57_58_l1, ix_lt h, ix_in h, ix_in h', ix_at h, ix_at h', if_true, e, Option.bind_some, ix_inc (show i < 4611686018427387904 by omega)]
    cases ceq s1[i] s2[i] <;> rfl
  · simp only [F.slices.EqualFunc_f57_58_l1, ix_ge (Nat.lt_irrefl _)]; rfl
theorem f62_ok (s1 s2 : List Group) (hl : s1.length ≤ 30000) (hs : ∀ p ∈ s1, p.Cons.length ≤ 30000) : F.slices.EqualFunc_f62_63 k s1 s2 = some (ceq s1 s2) := by
  unfold F.slices.EqualFunc_f62_63
  refine eq_fun (z := ()) (by omega) (fun j i h h' => ?_) (fun j => ?_)
  · have e : F.defs.Same_c2_c1 k s1[i] s2[i] = some (ceq s1[i] s2[i]) := by
      rw [← group_iff]
      simp only [F.defs.Same_c2_c1, f64_ok hk _ _ (hs _ (List.getElem_mem h)), Option.bind_some]
      cases s1[i].Assoc == s2[i].Assoc <;> rfl
    simp only [F.slices.EqualFunc_f62_63_l1, ix_lt h, ix_in h, ix_in h', ix_at h, ix_at h', if_true, e, Option.bind_some, ix_inc (show i < 4611686018427387904 by omega)]
    cases ceq s1[i] s2[i] <;> rfl
  · simp only [F.slices.EqualFunc_f62_63_l1, ix_ge (Nat.lt_irrefl _)]; rfl
theorem f60_ok (s1 s2 : List (List Group)) (hl : s1.length ≤ 30000) (hg : ∀ c ∈ s1, c.length ≤ 30000) (hs : ∀ c ∈ s1, ∀ p ∈ c, p.Cons.length ≤ 30000) : F.slices.EqualFunc_f60_61 k s1 s2 = some (ceq s1 s2) := by
  unfold F.slices.EqualFunc_f60_61
  refine eq_fun (z := ()) (by omega) (fun j i h h' => ?_) (fun j => ?_)
  · have e : F.defs.Same_c2 k s1[i] s2[i] = some (ceq s1[i] s2[i]) := by
      simp only [F.defs.Same_c2, f62_ok hk _ _ (hg _ (List.getElem_mem h)) (hs _ (List.getElem_mem h)), Option.bind_some]
    simp only [F.slices.EqualFunc_f60_61_l1, ix_lt h, ix_in h, ix_in h', ix_at h, ix_at h', if_true, e, Option.bind_some, ix_inc (show i < 4611686018427387904 by omega)]
    cases ceq s1[i] s2[i] <;> rfl
  · simp only [F.slices.EqualFunc_f60_61_l1, ix_ge (Nat.lt_irrefl _)]; rfl
end
theorem sameItems_ok : ∀ (n : Nat) (a b : List Item) (k : Nat), izL a ≤ n → a.length * 56 ≤ 140737488351232 ∧ okL a → 4 * n + 10 ≤ k → F.defs.sameItems k a b = some (ceq a b) := by
  intro n
  induction n with
  | zero =>
    intro a b k ha _ hk
    obtain ⟨k', rfl⟩ : ∃ k', k = k' + 2 := ⟨k - 2, by omega⟩
    have : a = [] := by
      have := izL_len a
      exact List.length_eq_zero_iff.1 (by omega)
    subst this
    simp only [F.defs.sameItems, F.defs.sameItems_G, F.defs.sameItems_B, F.slices.EqualFunc_f105_106_B]
    rw [eq_fun (L := F.slices.EqualFunc_f105_106_l1 [] b _) (z := ()) (by simp; omega) (fun j i h h' => by simp at h) (fun j => by simp only [F.slices.EqualFunc_f105_106_l1, ix_ge (Nat.lt_irrefl _)]; rfl)]
    rfl
  | succ n ih =>
    intro a b k ha hn hk
    obtain ⟨k', rfl⟩ : ∃ k', k = k' + 3 := ⟨k - 3, by omega⟩
    have hlen := izL_len a
    have hn1 := hn.1
    have e0 : ∀ x y, x ∈ a → (F.defs.sameItems_G (k' + 1)).2.2 x y = some (ceq x y) := by
      intro x y hx
      have hm := izL_mem a x hx
      have hrec : (F.defs.sameItems_G k').1 x.Items y.Items = some (ceq x.Items y.Items) := ih x.Items y.Items k' (by omega) ((okI_eq x).1 (okL_mem a x hn.2 hx)) (by omega)
      rw [← item_iff]
      simp only [F.defs.sameItems_G, F.defs.sameItems_c1_B, F.defs.sameItems_c1_j1, hrec, Option.bind_some]
      cases x.Kind == y.Kind <;> cases x.Text == y.Text <;> cases x.N_ == y.N_ <;> rfl
    simp only [F.defs.sameItems, F.defs.sameItems_G, F.defs.sameItems_B, F.slices.EqualFunc_f105_106_B]
    rw [eq_fun (L := F.slices.EqualFunc_f105_106_l1 a b _) (z := ()) (by omega) (fun j i h h' => ?_) (fun j => by simp only [F.slices.EqualFunc_f105_106_l1, ix_ge (Nat.lt_irrefl _)]; rfl)]
    · rfl
    · have e1 := e0 a[i] b[i] (List.getElem_mem h)
      simp only [F.defs.sameItems_G] at e1
      simp only [F.slices.EqualFunc_f105_106_l1, ix_lt h, ix_in h, ix_in h', ix_at h, ix_at h', if_true, e1, Option.bind_some, ix_inc (show i < 4611686018427387904 by omega)]
      cases ceq a[i] b[i] <;> rfl
def dz : List Box → Nat
  | [] => 0
  | b :: r => izL b.Items + dz r
theorem dz_mem : ∀ (l : List Box) (b : Box), b ∈ l → izL b.Items ≤ dz l
  | [], b, h => by cases h
  | c :: r, b, h => by
    rw [dz]
    rcases List.mem_cons.1 h with rfl | h
    · omega
    · have := dz_mem r b h
      omega
def okBx (d : Def) : Prop := ∀ b ∈ d.Boxes, b.Items.length * 56 ≤ 140737488351232 ∧ okL b.Items
section
variable {k : Nat} {d : Def} (hk : 200000 + 4 * dz d.Boxes ≤ k) (hd : Bd d) (ho : okBx d)
include hk hd ho
theorem f65_ok (b : List Box) : F.slices.EqualFunc_f65_66 k d.Boxes b = some (ceq d.Boxes b) := by
  have hl := hd.boxes
  unfold F.slices.EqualFunc_f65_66
  refine eq_fun (z := ()) (by omega) (fun j i h h' => ?_) (fun j => ?_)
  · have e : F.defs.Same_c3 k d.Boxes[i] b[i] = some (ceq d.Boxes[i] b[i]) := by
      rw [← box_iff]
      have := dz_mem _ _ (List.getElem_mem h)
      simp only [F.defs.Same_c3, sameItems_ok _ d.Boxes[i].Items b[i].Items k (Nat.le_refl _) (ho _ (List.getElem_mem h)) (by omega), Option.bind_some]
      cases d.Boxes[i].Cons == b[i].Cons <;> rfl
    simp only [F.slices.EqualFunc_f65_66_l1, ix_lt h, ix_in h, ix_in h', ix_at h, ix_at h', if_true, e, Option.bind_some, ix_inc (show i < 4611686018427387904 by omega)]
    cases ceq d.Boxes[i] b[i] <;> rfl
  · simp only [F.slices.EqualFunc_f65_66_l1, ix_ge (Nat.lt_irrefl _)]; rfl
theorem Same_ok (b : Def) : F.defs.Same k d b = some (ceq d b) := by
  unfold F.defs.Same F.defs.Same_j1
  simp only [f55_ok (show 40000 ≤ k by omega) _ _ hd.follows, f56_ok (show 40000 ≤ k by omega) _ _ hd.rejects, f57_ok (show 40000 ≤ k by omega) _ _ hd.prods hd.syms, f60_ok (show 40000 ≤ k by omega) _ _ hd.chains hd.groups hd.cons, f65_ok hk hd ho, Option.bind_some, ← def_iff]
  cases d.Start == b.Start <;> cases d.Layout == b.Layout <;> cases ceq d.Follows b.Follows <;> cases ceq d.Rejects b.Rejects <;> cases ceq d.Prods b.Prods <;> cases ceq d.Chains b.Chains <;> cases ceq d.Boxes b.Boxes <;> rfl
end
theorem loop_app {α β ρ : Type} {xs : List α} {f : α → β} {g : List β → ρ} {L : Nat → Int → List β → Option ρ}
    (h1 : ∀ j i acc, (h : i < xs.length) → acc.length = i → L (j + 1) (i : Int) acc = L j ((i + 1 : Nat) : Int) (acc ++ [f xs[i]]))
    (h2 : ∀ j acc, L (j + 1) (xs.length : Int) acc = some (g acc)) : ∀ j i acc, i ≤ xs.length → acc.length = i → xs.length - i < j → L j (i : Int) acc = some (g (acc ++ (xs.drop i).map f))
  | 0, _, _, _, _, h => by omega
  | j + 1, i, acc, hi, ha, hj => by
    by_cases h : i < xs.length
    · rw [h1 j i acc h ha, loop_app h1 h2 j (i + 1) _ (by omega) (by simp [ha]) (by omega), List.drop_eq_getElem_cons h]
      simp only [List.map_cons, List.append_assoc, List.singleton_append]
    · have : i = xs.length := by omega
      subst this
      rw [h2 j, List.drop_length]
      simp
section
variable {k : Nat} {d : Def} (hk : 200000 + 4 * dz d.Boxes ≤ k) (hd : Bd d) (ho : okBx d)
include hk hd ho
end
theorem loop_guard {α : Type} {xs : List α} {P : α → Prop} {ρ : Type} {g : Nat → Nat → ρ} {L : Nat → Int → Int → Option ρ} (B : Nat) (hl : xs.length ≤ 3000)
    (h1 : ∀ (j i n : Nat), (h : i < xs.length) → n ≤ 3000 → ∃ m : Nat, L (j + 1) (n : Int) (i : Int) = L j (m : Int) ((i + 1 : Nat) : Int) ∧ n ≤ m ∧ m ≤ B ∧ (m ≤ 3000 → P xs[i]))
    (h2 : ∀ (j i n : Nat), i ≤ xs.length → 3000 < n ∨ i = xs.length → L (j + 1) ((n : Nat) : Int) (i : Int) = some (g n i)) :
    ∀ (j i n : Nat), i ≤ xs.length → xs.length - i < j → ∃ v e : Nat, L j (n : Int) (i : Int) = some (g v e) ∧ n ≤ v ∧ v ≤ max B (max n 3000) ∧ (v ≤ 3000 → ∀ x ∈ xs.drop i, P x)
  | 0, _, _, _, h => by omega
  | j + 1, i, n, hi, hj => by
    by_cases hn : 3000 < n
    · exact ⟨n, i, h2 j i n hi (.inl hn), Nat.le_refl _, by omega, fun h => by omega⟩
    by_cases h : i < xs.length
    · obtain ⟨m, e1, e2, e3, e4⟩ := h1 j i n h (by omega)
      obtain ⟨v, e, f1, f2, f3, f4⟩ := loop_guard B hl h1 h2 j (i + 1) m (by omega) (by omega)
      refine ⟨v, e, by rw [e1, f1], by omega, by omega, fun hv x hx => ?_⟩
      rw [List.drop_eq_getElem_cons h] at hx
      rcases List.mem_cons.1 hx with rfl | hx
      · exact e4 (by omega)
      · exact f4 hv x hx
    · have : i = xs.length := by omega
      subst this
      exact ⟨n, _, h2 j _ n (Nat.le_refl _) (.inr rfl), Nat.le_refl _, by omega, fun _ x hx => by rw [List.drop_length] at hx; cases hx⟩
structure OkD (d : Def) : Prop where
  prods : d.Prods.length ≤ 140737488351232
  syms : ∀ p ∈ d.Prods, p.Syms.length ≤ 140737488351232
  chains : d.Chains.length ≤ 140737488351232
  groups : ∀ c ∈ d.Chains, c.length ≤ 140737488351232
  cons : ∀ c ∈ d.Chains, ∀ g ∈ c, g.Cons.length ≤ 140737488351232
  follows : d.Follows.length ≤ 140737488351232
  rejects : d.Rejects.length ≤ 140737488351232
  boxes : d.Boxes.length ≤ 140737488351232
  items : okBx d
theorem itemParts_some : ∀ (n : Nat) (l : List Item) (k : Nat) (most : Int), izL l ≤ n → l.length * 56 ≤ 140737488351232 ∧ okL l → 4 * n + 10 ≤ k → ∃ v, F.ref03.itemParts k l most = some v := by
  intro n
  induction n with
  | zero =>
    intro l k most hl _ hk
    obtain ⟨k', rfl⟩ : ∃ k', k = k' + 2 := ⟨k - 2, by omega⟩
    have : l = [] := by
      have := izL_len l
      exact List.length_eq_zero_iff.1 (by omega)
    subst this
    exact ⟨_, rfl⟩
  | succ n ih =>
    intro l k most hl hn hk
    obtain ⟨k', rfl⟩ : ∃ k', k = k' + 1 := ⟨k - 1, by omega⟩
    have hlen := izL_len l
    have hn1 := hn.1
    simp only [F.ref03.itemParts, F.ref03.itemParts_B]
    have : ∀ j i m, i ≤ l.length → l.length - i < j → ∃ v, F.ref03.itemParts_l1 l (F.ref03.itemParts k') most j m (i : Int) = some v := by
      intro j
      induction j with
      | zero => intro i m _ h; omega
      | succ j ihj =>
        intro i m hi hj
        by_cases h : i < l.length
        · have hm := izL_mem l l[i] (List.getElem_mem h)
          obtain ⟨v, hv⟩ := ih l[i].Items k' most (by omega) ((okI_eq _).1 (okL_mem l _ hn.2 (List.getElem_mem h))) (by omega)
          simp only [F.ref03.itemParts_l1, F.ref03.itemParts_j2, ix_lt h, ix_in h, ix_at h, if_true, hv, Option.bind_some, ix_inc (show i < 4611686018427387904 by omega)]
          by_cases hmm : decide (m ≤ most) = true
          · rw [if_pos hmm]
            exact ihj (i + 1) _ (by omega) (by omega)
          · rw [if_neg hmm]; exact ⟨_, rfl⟩
        · simp only [F.ref03.itemParts_l1, F.ref03.itemParts_j2, ix_ge h]
          exact ⟨_, rfl⟩
    obtain ⟨v, hv⟩ := this k' 0 (l.length : Int) (by omega) (by omega)
    rw [zero_cast] at hv
    rw [hv]
    exact ⟨v, rfl⟩
theorem heavy_ok {k : Nat} {d : Def} (hk : 200000 + 4 * dz d.Boxes ≤ k) (ho : OkD d) : ∃ hv, F.law03.heavy k d = some hv ∧ (hv = false → Bd d) := by
  obtain ⟨o1, o2, o3, o4, o5, o6, o7, o8, o9⟩ := ho
  unfold F.law03.heavy F.ref03.Parts
  have w0 : IntKind.wrap .i64 ((IntKind.wrap .i64 ((IntKind.wrap .i64 ((IntKind.wrap .i64 ((d.Prods.length : Int) + (d.Chains.length : Int))) + (d.Follows.length : Int))) + (d.Rejects.length : Int))) + (d.Boxes.length : Int)) = ((d.Prods.length + d.Chains.length + d.Follows.length + d.Rejects.length + d.Boxes.length : Nat) : Int) := by
    rw [wrap_i64 (n := (d.Prods.length : Int) + (d.Chains.length : Int)) (by omega) (by omega), wrap_i64 (n := (d.Prods.length : Int) + (d.Chains.length : Int) + (d.Follows.length : Int)) (by omega) (by omega), wrap_i64 (n := (d.Prods.length : Int) + (d.Chains.length : Int) + (d.Follows.length : Int) + (d.Rejects.length : Int)) (by omega) (by omega), wrap_i64 (by omega) (by omega)]
    omega
  rw [w0]
  generalize hn0 : d.Prods.length + d.Chains.length + d.Follows.length + d.Rejects.length + d.Boxes.length = n0
  have s1 : ∃ v1 : Nat, F.ref03.Parts_l1 d 3000 k (n0 : Int) 0 = some (v1 : Int) ∧ n0 ≤ v1 ∧ v1 ≤ 3000000000000000 ∧ (v1 ≤ 3000 → ∀ p ∈ d.Prods, p.Syms.length ≤ 3000) := by
    by_cases hb : 3000 < n0
    · refine ⟨n0, ?_, Nat.le_refl _, by omega, fun h => by omega⟩
      obtain ⟨k', rfl⟩ : ∃ k', k = k' + 1 := ⟨k - 1, by omega⟩
      simp only [F.ref03.Parts_l1, F.ref03.Parts_j2, decide_eq_false (show ¬ ((n0 : Int) ≤ 3000) by omega)]
      split <;> rfl
    · obtain ⟨v, e, f1, f2, f3, f4⟩ := loop_guard (xs := d.Prods) (P := fun p => p.Syms.length ≤ 3000) (g := fun n _ => (n : Int)) (L := fun j n i => F.ref03.Parts_l1 d 3000 j n i) 140737488360000 (by omega)
        (fun j i n h hn => ⟨n + d.Prods[i].Syms.length, by
          have := o2 _ (List.getElem_mem h)
          simp only [F.ref03.Parts_l1, F.ref03.Parts_j2, ix_lt h, ix_in h, ix_at h, if_true, decide_eq_true (show (n : Int) ≤ 3000 by omega), ix_inc (show i < 4611686018427387904 by omega)]
          rw [wrap_i64 (by omega) (by omega)]
          rfl, by omega, by have := o2 _ (List.getElem_mem h); omega, fun hm => by omega⟩)
        (fun j i n hi hc => by
          simp only [F.ref03.Parts_l1, F.ref03.Parts_j2]
          rcases hc with hc | rfl
          · rw [decide_eq_false (show ¬ ((n : Int) ≤ 3000) by omega)]
            split <;> rfl
          · rw [ix_ge (Nat.lt_irrefl _)]; rfl) k 0 n0 (by omega) (by omega)
      exact ⟨v, f1, f2, by omega, fun h => by simpa using f4 h⟩
  obtain ⟨v1, e1, b1, c1, p1⟩ := s1
  have s3 : ∃ v3 : Nat, F.ref03.Parts_l3 k d 3000 k (v1 : Int) 0 = some (v3 : Int) ∧ v1 ≤ v3 ∧ (v3 ≤ 3000 → ∀ c ∈ d.Chains, c.length ≤ 3000 ∧ ∀ g ∈ c, g.Cons.length ≤ 3000) := by
    by_cases hb : 3000 < v1
    · refine ⟨v1, ?_, Nat.le_refl _, fun h => by omega⟩
      obtain ⟨k', rfl⟩ : ∃ k', k = k' + 1 := ⟨k - 1, by omega⟩
      simp only [F.ref03.Parts_l3, F.ref03.Parts_j4, decide_eq_false (show ¬ ((v1 : Int) ≤ 3000) by omega)]
      split <;> rfl
    · obtain ⟨v, e, f1, f2, f3, f4⟩ := loop_guard (xs := d.Chains) (P := fun c => c.length ≤ 3000 ∧ ∀ g ∈ c, g.Cons.length ≤ 3000) (g := fun n _ => (n : Int)) (L := fun j n i => F.ref03.Parts_l3 k d 3000 j n i) 300000000000000 (by omega)
        (fun j i n h hn => by
          have h4 := o4 _ (List.getElem_mem h)
          have h5 := o5 _ (List.getElem_mem h)
          have s5 : ∃ v5 e5 : Nat, F.ref03.Parts_l5 d (i : Int) 3000 k ((n + d.Chains[i].length : Nat) : Int) 0 = some ((v5 : Int), (e5 : Int)) ∧ n + d.Chains[i].length ≤ v5 ∧ v5 ≤ 300000000000000 ∧ (v5 ≤ 3000 → ∀ g ∈ d.Chains[i], g.Cons.length ≤ 3000) := by
            by_cases hb5 : 3000 < n + d.Chains[i].length
            · refine ⟨n + d.Chains[i].length, 0, ?_, Nat.le_refl _, by omega, fun h => by omega⟩
              obtain ⟨k', rfl⟩ : ∃ k', k = k' + 1 := ⟨k - 1, by omega⟩
              simp only [F.ref03.Parts_l5, F.ref03.Parts_j6, decide_eq_false (show ¬ (((n + d.Chains[i].length : Nat) : Int) ≤ 3000) by omega)]
              split <;> rfl
            · obtain ⟨v, e, f1, f2, f3, f4⟩ := loop_guard (xs := d.Chains[i]) (P := fun g => g.Cons.length ≤ 3000) (g := fun n e => ((n : Int), (e : Int))) (L := fun j n i' => F.ref03.Parts_l5 d (i : Int) 3000 j n i') 140737488360000 (by omega)
                (fun j i' n h' hn => ⟨n + d.Chains[i][i'].Cons.length, by
                  have := h5 _ (List.getElem_mem h')
                  simp only [F.ref03.Parts_l5, F.ref03.Parts_j6, ix_at h, ix_lt h', ix_in h', ix_at h', if_true, decide_eq_true (show (n : Int) ≤ 3000 by omega), ix_inc (show i' < 4611686018427387904 by omega)]
                  rw [wrap_i64 (by omega) (by omega)]
                  rfl, by omega, by have := h5 _ (List.getElem_mem h'); omega, fun hm => by omega⟩)
                (fun j i' n hi hc => by
                  simp only [F.ref03.Parts_l5, F.ref03.Parts_j6, ix_at h]
                  rcases hc with hc | rfl
                  · rw [decide_eq_false (show ¬ ((n : Int) ≤ 3000) by omega)]
                    split <;> rfl
                  · rw [ix_ge (Nat.lt_irrefl _)]; rfl) k 0 (n + d.Chains[i].length) (by omega) (by omega)
              exact ⟨v, e, f1, f2, by omega, fun h => by simpa using f4 h⟩
          obtain ⟨v5, e5, g1, g2, g3, g4⟩ := s5
          refine ⟨v5, ?_, by omega, g3, fun hm => ⟨by omega, g4 hm⟩⟩
          simp only [F.ref03.Parts_l3, F.ref03.Parts_j4, ix_lt h, ix_in h, ix_at h, if_true, decide_eq_true (show (n : Int) ≤ 3000 by omega), ix_inc (show i < 4611686018427387904 by omega)]
          rw [wrap_i64 (n := (n : Int) + (d.Chains[i].length : Int)) (by omega) (by omega), show (n : Int) + (d.Chains[i].length : Int) = ((n + d.Chains[i].length : Nat) : Int) by omega, g1]
          rfl)
        (fun j i n hi hc => by
          simp only [F.ref03.Parts_l3, F.ref03.Parts_j4]
          rcases hc with hc | rfl
          · rw [decide_eq_false (show ¬ ((n : Int) ≤ 3000) by omega)]
            split <;> rfl
          · rw [ix_ge (Nat.lt_irrefl _)]; rfl) k 0 v1 (by omega) (by omega)
      exact ⟨v, f1, f2, fun h => by simpa using f4 h⟩
  obtain ⟨v3, e3, b3, p3⟩ := s3
  rw [e1]
  simp only [Option.bind_some]
  rw [e3]
  simp only [Option.bind_some]
  by_cases hb : 3000 < v3
  · obtain ⟨k', rfl⟩ : ∃ k', k = k' + 1 := ⟨k - 1, by omega⟩
    have e7 : F.ref03.Parts_l7 (k' + 1) d 3000 (k' + 1) (v3 : Int) 0 = some (v3 : Int) := by
      rw [F.ref03.Parts_l7]
      simp only [F.ref03.Parts_j8, decide_eq_false (show ¬ ((v3 : Int) ≤ 3000) by omega)]
      split <;> rfl
    rw [e7]
    refine ⟨_, rfl, fun h => ?_⟩
    have := of_decide_eq_false h
    omega
  · have tot : ∀ j i m, i ≤ d.Boxes.length → d.Boxes.length - i < j → ∃ v, F.ref03.Parts_l7 k d 3000 j m (i : Int) = some v := by
      intro j
      induction j with
      | zero => intro i m _ h; omega
      | succ j ihj =>
        intro i m hi hj
        by_cases h : i < d.Boxes.length
        · have hz := dz_mem _ _ (List.getElem_mem h)
          obtain ⟨v, hv⟩ := itemParts_some _ d.Boxes[i].Items k 3000 (Nat.le_refl _) (o9 _ (List.getElem_mem h)) (by omega)
          simp only [F.ref03.Parts_l7, F.ref03.Parts_j8, ix_lt h, ix_in h, ix_at h, if_true, hv, Option.bind_some, ix_inc (show i < 4611686018427387904 by omega)]
          by_cases hmm : decide (m ≤ 3000) = true
          · rw [if_pos hmm]
            exact ihj (i + 1) _ (by omega) (by omega)
          · rw [if_neg hmm]; exact ⟨_, rfl⟩
        · simp only [F.ref03.Parts_l7, F.ref03.Parts_j8, ix_ge h]
          exact ⟨_, rfl⟩
    obtain ⟨v, hv⟩ := tot k 0 (v3 : Int) (by omega) (by omega)
    rw [zero_cast] at hv
    rw [hv]
    refine ⟨_, rfl, fun _ => ?_⟩
    have q1 := p1 (by omega)
    have q3 := p3 (by omega)
    exact ⟨by omega, fun p hp => by have := q1 p hp; omega, by omega, fun c hc => by have := (q3 c hc).1; omega, fun c hc g hg => by have := (q3 c hc).2 g hg; omega, by omega, by omega, by omega⟩
end Go.Vc
