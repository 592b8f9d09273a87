import Derived.Test.YtdbnoblklhgdoaaGreatDoorWA
set_option linter.unusedVariables false
set_option linter.unusedSimpArgs false
set_option linter.unusedSectionVars false
namespace Go.Vc
open Go
theorem loop_all {α γ : Type} {xs : List α} {p : α -> Bool} {z : γ} {L : Nat -> Int -> Option (LR γ Bool)}
  (h1 : ∀ j i, (h : i < xs.length) -> L (j + 1) (i : Int) = if p xs[i] then L j ((i + 1 : Nat) : Int) else some (.ret false))
  (h2 : ∀ j, L (j + 1) (xs.length : Int) = some (.done z)) : ∀ j i, i <= xs.length -> xs.length - i < j -> L j (i : Int) = some (if (xs.drop i).all p then .done z else .ret false)
 | 0, _, _, h => by omega
 | j + 1, i, hi, hj => by
  by_cases h : i < xs.length
  ·rw [h1 j i h, List.drop_eq_getElem_cons h, List.all_cons]
   by_cases hp : p xs[i] = true
   ·rw [if_pos hp, hp, Bool.true_and, loop_all h1 h2 j (i + 1) (by omega) (by omega)]
   ·rw [if_neg hp, Bool.eq_false_iff.2 hp, Bool.false_and]
    rfl
  ·have : i = xs.length := by omega
   subst this
   rw [h2 j, List.drop_length]
   rfl
theorem vP {α γ : Type} {xs : List α} {p : α -> Bool} {z : γ} {L : Nat -> Int -> Option (LR γ Bool)} {k : Nat} (hk : xs.length < k)
  (h1 : ∀ j i, (h : i < xs.length) -> L (j + 1) (i : Int) = if p xs[i] then L j ((i + 1 : Nat) : Int) else some (.ret false))
  (h2 : ∀ j, L (j + 1) (xs.length : Int) = some (.done z)) : L k 0 = some (if xs.all p then .done z else .ret false) := by
 have := loop_all h1 h2 k 0 (by omega) (by omega)
 rwa [List.drop_zero] at this
def all2 {α β : Type} (p : α -> β -> Bool) : List α -> List β -> Bool
 | [], _ => true
 | _ :: _, [] => true
 | x :: xs, y :: ys => p x y && all2 p xs ys
theorem loop_all2 {α β γ : Type} {xs : List α} {ys : List β} {p : α -> β -> Bool} {z : γ} {L : Nat -> Int -> Option (LR γ Bool)} (hl : xs.length = ys.length)
  (h1 : ∀ j i, (h : i < xs.length) -> (h' : i < ys.length) -> L (j + 1) (i : Int) = if p xs[i] ys[i] then L j ((i + 1 : Nat) : Int) else some (.ret false))
  (h2 : ∀ j, L (j + 1) (xs.length : Int) = some (.done z)) : ∀ j i, i <= xs.length -> xs.length - i < j -> L j (i : Int) = some (if all2 p (xs.drop i) (ys.drop i) then .done z else .ret false)
 | 0, _, _, h => by omega
 | j + 1, i, hi, hj => by
  by_cases h : i < xs.length
  ·have h' : i < ys.length := by omega
   rw [h1 j i h h', List.drop_eq_getElem_cons h, List.drop_eq_getElem_cons h', all2]
   by_cases hp : p xs[i] ys[i] = true
   ·rw [if_pos hp, hp, Bool.true_and, loop_all2 hl h1 h2 j (i + 1) (by omega) (by omega)]
   ·rw [if_neg hp, Bool.eq_false_iff.2 hp, Bool.false_and]
    rfl
  ·have : i = xs.length := by omega
   subst this
   rw [h2 j, List.drop_length]
   rfl
theorem loop_all20 {α β γ : Type} {xs : List α} {ys : List β} {p : α -> β -> Bool} {z : γ} {L : Nat -> Int -> Option (LR γ Bool)} {k : Nat} (hk : xs.length < k) (hl : xs.length = ys.length)
  (h1 : ∀ j i, (h : i < xs.length) -> (h' : i < ys.length) -> L (j + 1) (i : Int) = if p xs[i] ys[i] then L j ((i + 1 : Nat) : Int) else some (.ret false))
  (h2 : ∀ j, L (j + 1) (xs.length : Int) = some (.done z)) : L k 0 = some (if all2 p xs ys then .done z else .ret false) := by
 have := loop_all2 hl h1 h2 k 0 (by omega) (by omega)
 rwa [List.drop_zero, List.drop_zero] at this
theorem all2_eq {α : Type} {p : α -> α -> Bool} : ∀ (xs ys : List α), xs.length = ys.length -> (∀ x ∈ xs, ∀ y ∈ ys, (p x y = true ↔ x = y)) -> (all2 p xs ys = true ↔ xs = ys)
 | [], [], _, _ => by simp [all2]
 | [], _ :: _, h, _ => by simp at h
 | _ :: _, [], h, _ => by simp at h
 | x :: xs, y :: ys, h, hp => by
  simp only [all2, Bool.and_eq_true, List.cons.injEq]
  rw [hp x (by simp) y (by simp), all2_eq xs ys (by simpa using h) (fun a ha b hb => hp a (by simp [ha]) b (by simp [hb]))]
def yU : List UInt8 -> Bool
 | [] => false
 | c :: r => decide ((c :: r).length <= 32) && (decide (vE c.toNat = 1) && decide (pl (c :: r) = (c :: r).length))
theorem isNm_both {k : Nat} (s : List UInt8) (hk : 100 <= k) : qw.IsName k s = some (yU s) /\ True := by
 unfold qw.IsName qw.IsName_j1
 cases s with
 | nil => exact ⟨rfl, trivial⟩
 | cons c r =>
  have h0 : (0 : Nat) < (c :: r).length := by simp
  have hin : xf 0 (c :: r).length = true := yQ (i := 0) h0
  have hs0 : yk (c :: r) 0 = ((c.toNat : Nat) : Int) := sAt_get (i := 0) h0
  have hlt := c.toNat_lt
  have d1 : (!((c :: r) == ([] : List UInt8))) = true := rfl
  have d2 : decide ((0 : Int) < ((c :: r).length : Int)) = true := decide_eq_true (by omega)
  simp only [d1, d2, hin, hs0, if_true, yU]
  by_cases h32 : (c :: r).length <= 32
  ·have d3 : decide (((c :: r).length : Int) <= 32) = true := decide_eq_true (by omega)
   have e32 : IntKind.wrap .i32 (c.toNat : Int) = (c.toNat : Int) := wrap_i32 (by omega) (by omega)
   have e5 : (((pl (c :: r) : Nat) : Int) == ((c :: r).length : Int)) = decide (pl (c :: r) = (c :: r).length) := by
    rw [Bool.eq_iff_iff, beq_iff_eq, decide_eq_true_eq]; omega
   simp only [d3, if_true, e32, uh, Option.bind_some, run_ok (k := k) (s := c :: r) (by omega) (by omega), decide_eq_true h32, Bool.true_and, e5]
   by_cases hc : vE c.toNat = 1
   ·simp only [decide_eq_true hc, if_true, Bool.true_and]
    exact ⟨trivial, trivial⟩
   ·simp only [decide_eq_false hc, Bool.false_eq_true, if_false, Bool.false_and]
    exact ⟨trivial, trivial⟩
  ·have d3 : decide (((c :: r).length : Int) <= 32) = false := decide_eq_false (by omega)
   simp only [d3, Bool.false_eq_true, if_false, decide_eq_false h32, Bool.false_and]
   exact ⟨trivial, trivial⟩
def uL (s : List UInt8) (e : Bool) : Bool := (e && s == []) || yU s
theorem kW {k : Nat} (s : List UInt8) (e : Bool) (hk : 100 <= k) : qd.named k s e = some (uL s e) := by
 unfold qd.named uL
 rw [(isNm_both s hk).1]
 cases s <;> cases e <;> rfl
def zS (s : S4) : Bool := S4.eq s (S4.mk 0 0 0 0)
def wW (s : xg) : Bool :=
 if s.Kind = 1 then decide (s.Text.length <= 32) && (zS s.Set && (s.Name == [] && s.Sep == []))
 else if s.Kind = 2 then s.Text == [] && (s.Name == [] && s.Sep == [])
 else if s.Kind = 3 then s.Text == [] && (zS s.Set && (yU s.Name && s.Sep == []))
 else if s.Kind = 4 then s.Text == [] && (s.Sep == [] && (s.Name == [] || (zS s.Set && yU s.Name)))
 else if s.Kind = 5 \/ s.Kind = 6 then (if s.Name == [] then s.Text == [] && s.Sep == [] else s.Text == [] && (zS s.Set && (yU s.Name && decide (s.Sep.length <= 32))))
 else false
section
variable {k : Nat} (hk : 100 <= k)
include hk
theorem rightSym_ok (s : xg) : qd.rightSym k s = some (wW s) := by
 unfold qd.rightSym qd.rightSym_j4 qd.rightSym_j1 qd.rightSym_j2 qd.rightSym_j3 qd.rightSym_j5 wW zS
 have e : decide ((s.Text.length : Int) <= 32) = decide (s.Text.length <= 32) := by rw [Bool.eq_iff_iff]; simp only [decide_eq_true_eq]; omega
 have e2 : decide ((s.Sep.length : Int) <= 32) = decide (s.Sep.length <= 32) := by rw [Bool.eq_iff_iff]; simp only [decide_eq_true_eq]; omega
 simp only [kW _ _ hk, uL, Bool.false_and, Bool.false_or, Option.bind_some, e, e2]
 generalize decide (s.Text.length <= 32) = a1
 generalize decide (s.Sep.length <= 32) = a2
 generalize S4.eq s.Set (S4.mk 0 0 0 0) = a3
 generalize (s.Name == []) = a4
 generalize (s.Sep == []) = a5
 generalize (s.Text == []) = a6
 generalize yU s.Name = a7
 by_cases h1 : s.Kind = 1
 ·simp only [h1]; cases a1 <;> cases a3 <;> cases a4 <;> cases a5 <;> rfl
 by_cases h2 : s.Kind = 2
 ·simp only [h2]; cases a6 <;> cases a4 <;> cases a5 <;> rfl
 by_cases h3 : s.Kind = 3
 ·simp only [h3]; cases a6 <;> cases a3 <;> cases a7 <;> cases a5 <;> rfl
 by_cases h4 : s.Kind = 4
 ·simp only [h4]; cases a6 <;> cases a5 <;> cases a4 <;> cases a3 <;> cases a7 <;> rfl
 by_cases h5 : s.Kind = 5
 ·simp only [h5]; cases a6 <;> cases a5 <;> cases a4 <;> cases a3 <;> cases a7 <;> cases a2 <;> rfl
 by_cases h6 : s.Kind = 6
 ·simp only [h6]; cases a6 <;> cases a5 <;> cases a4 <;> cases a3 <;> cases a7 <;> cases a2 <;> rfl
 simp [h1, h2, h3, h4, h5, h6]
end
def kc (p : Prod) : Bool := yU p.Sort_ && (uL p.Cons true && (decide (1 <= p.Syms.length /\ p.Syms.length <= 12) && ((if p.Lex then !p.Bracket else p.Bracket == (p.Cons == [])) && p.Syms.all wW)))
section
variable {k : Nat} (hk : 40000 <= k)
include hk
theorem syms_ok (xs : List xg) (hl : xs.length <= 30000) : ql.ContainsFunc_f93_94 k xs = some (!xs.all wW) := by
 unfold ql.ContainsFunc_f93_94 ql.IndexFunc_f121_94
 have key : ∀ j i, i <= xs.length -> xs.length - i < j -> ∃ n : Nat, ql.IndexFunc_f121_94_l1 k xs j (i : Int) = some (if (xs.drop i).all wW then .done () else .ret (n : Int)) := by
  intro j
  induction j with
  | zero => intro i _ h; omega
  | succ j ih =>
   intro i hi hj
   simp only [ql.IndexFunc_f121_94_l1]
   by_cases h : i < xs.length
   ·rw [xB h, if_pos rfl, yQ h, if_pos rfl, yG h, qd.rightProd_c1, rightSym_ok (by omega), List.drop_eq_getElem_cons h, List.all_cons]
    simp only [Option.bind_some]
    cases hp : wW xs[i] with
    | true =>
     obtain ⟨n, hn⟩ := ih (i + 1) (by omega) (by omega)
     refine ⟨n, ?_⟩
     rw [yg (by omega), hn]
     simp
    | false => exact ⟨i, rfl⟩
   ·refine ⟨0, ?_⟩
    have : i = xs.length := by omega
    subst this
    rw [xy h, List.drop_length]
    rfl
 obtain ⟨n, hn⟩ := key k 0 (by omega) (by omega)
 rw [wM, List.drop_zero] at hn
 rw [hn]
 cases xs.all wW <;> simp [LR.fin]
theorem rightProd_ok (p : Prod) (hl : p.Syms.length <= 30000) : qd.rightProd k p = some (kc p) := by
 unfold qd.rightProd qd.rightProd_j1 qd.rightProd_j2 kc
 simp only [kW _ _ (show 100 <= k by omega), syms_ok hk _ hl, Option.bind_some, uL, Bool.false_and, Bool.false_or]
 have e1 : ((p.Syms.length : Int) == 0) = decide (p.Syms.length = 0) := by rw [Bool.eq_iff_iff, beq_iff_eq, decide_eq_true_eq]; omega
 have e2 : decide (12 < (p.Syms.length : Int)) = decide (12 < p.Syms.length) := by rw [Bool.eq_iff_iff]; simp only [decide_eq_true_eq]; omega
 have e3 : decide (1 <= p.Syms.length /\ p.Syms.length <= 12) = (!decide (p.Syms.length = 0) && !decide (12 < p.Syms.length)) := by
  rw [Bool.eq_iff_iff]; simp only [decide_eq_true_eq, Bool.and_eq_true, Bool.not_eq_true', decide_eq_false_iff_not]; omega
 rw [e1, e2, e3]
 generalize decide (p.Syms.length = 0) = a1
 generalize decide (12 < p.Syms.length) = a2
 generalize yU p.Sort_ = a3
 generalize (p.Cons == []) = a4
 generalize yU p.Cons = a5
 generalize p.Lex = a6
 generalize p.Bracket = a7
 generalize p.Syms.all wW = a8
 cases a1 <;> cases a2 <;> cases a3 <;> cases a4 <;> cases a5 <;> cases a6 <;> cases a7 <;> cases a8 <;> rfl
end
def wu (g : zw) : Bool := decide (0 <= g.Assoc /\ g.Assoc <= 3) && (decide (1 <= g.Cons.length /\ g.Cons.length <= 16) && g.Cons.all yU)
def wJ (l : List zw) : Bool := decide (1 <= l.length /\ l.length <= 16) && l.all wu
section
variable {k : Nat} (hk : 40000 <= k)
include hk
theorem rightChain_ok (l : List zw) (hl : l.length <= 30000) : qd.rightChain k l = some (wJ l) := by
 have hs : qd.rightChain_l1 k l k 0 = some (if l.all wu then .done () else .ret false) := by
  refine vP (by omega) (fun j i h => ?_) (fun j => ?_)
  ·have h3 : l[i].Cons.length <= 16 -> qd.rightChain_l3 k l (i : Int) k 0 = some (if l[i].Cons.all yU then .done (l[i].Cons.length : Int) else .ret false) := fun h16 => by
    refine vP (by omega) (fun j i' h' => ?_) (fun j => ?_)
    ·simp only [qd.rightChain_l3, yG h, xB h', yQ h', yG h', kW _ _ (show 100 <= k by omega), uL, Bool.false_and, Bool.false_or, Option.bind_some, yg (show i' < 4611686018427387904 by omega), if_true]
     cases yU l[i].Cons[i'] <;> rfl
    ·simp only [qd.rightChain_l3, yG h, xy (Nat.lt_irrefl _)]
     rfl
   simp only [qd.rightChain_l1, qd.rightChain_j2, xB h, yQ h, yG h, if_true]
   unfold wu
   by_cases a1 : l[i].Assoc < 0
   ·rw [decide_eq_true a1, decide_eq_false (show ¬ (0 <= l[i].Assoc /\ l[i].Assoc <= 3) by omega)]; rfl
   by_cases a2 : 3 < l[i].Assoc
   ·rw [decide_eq_false a1, decide_eq_true a2, decide_eq_false (show ¬ (0 <= l[i].Assoc /\ l[i].Assoc <= 3) by omega)]; rfl
   rw [decide_eq_false a1, decide_eq_false a2, decide_eq_true (show (0 <= l[i].Assoc /\ l[i].Assoc <= 3) by omega)]
   by_cases a3 : l[i].Cons.length = 0
   ·rw [show ((l[i].Cons.length : Int) == 0) = true by rw [beq_iff_eq]; omega, decide_eq_false (show ¬ (1 <= l[i].Cons.length /\ l[i].Cons.length <= 16) by omega)]; rfl
   rw [show ((l[i].Cons.length : Int) == 0) = false by rw [beq_eq_false_iff_ne]; omega]
   by_cases a4 : 16 < l[i].Cons.length
   ·rw [decide_eq_true (show (16 : Int) < (l[i].Cons.length : Int) by omega), decide_eq_false (show ¬ (1 <= l[i].Cons.length /\ l[i].Cons.length <= 16) by omega)]; rfl
   rw [decide_eq_false (show ¬ (16 : Int) < (l[i].Cons.length : Int) by omega), decide_eq_true (show (1 <= l[i].Cons.length /\ l[i].Cons.length <= 16) by omega), h3 (by omega)]
   simp only [Bool.false_eq_true, if_false, Option.bind_some, Bool.true_and, yg (show i < 4611686018427387904 by omega)]
   cases l[i].Cons.all yU <;> rfl
  ·simp only [qd.rightChain_l1, xy (Nat.lt_irrefl _)]
   rfl
 unfold qd.rightChain wJ
 rw [hs]
 simp only [Option.bind_some]
 cases l.all wu with
 | false => rw [Bool.and_false]; rfl
 | true =>
  simp only [if_true, LR.fin, Bool.and_true]
  by_cases h0 : 0 < l.length
  ·rw [decide_eq_true (show (0 : Int) < (l.length : Int) by omega), if_pos rfl]
   congr 1
   rw [Bool.eq_iff_iff]; simp only [decide_eq_true_eq]; omega
  ·rw [decide_eq_false (show ¬ (0 : Int) < (l.length : Int) by omega), decide_eq_false (show ¬ (1 <= l.length /\ l.length <= 16) by omega)]
   rfl
end
def numP (n : Int) : Bool := decide (0 <= n) && decide (n <= 999999)
def wt (x : Item) : Bool :=
 if x.Kind = 1 then decide (x.Text.length <= 32) && (x.N_ == 0 && decide (x.Items.length = 0))
 else if x.Kind = 2 then x.Text == [] && (numP x.N_ && decide (x.Items.length = 0))
 else if x.Kind = 3 \/ x.Kind = 4 then x.Text == [] && (x.N_ == 0 && decide (x.Items.length = 0))
 else if x.Kind = 5 then x.Text == [] && numP x.N_
 else if x.Kind = 6 then x.Text == [] && x.N_ == 0
 else false
mutual
def itC : Item -> Nat -> Option Nat
 | .mk _ _ _ _, 0 => none
 | .mk a b c l, n + 1 => if wt ⟨a, b, c, l⟩ then wF l n else none
def wF : List Item -> Nat -> Option Nat
 | [], n => some n
 | x :: r, n => match itC x n with
  | some m => wF r m
  | none => none
end
theorem itC_zero (x : Item) : itC x 0 = none := by cases x; rw [itC]
theorem ue (x : Item) (n : Nat) : itC x (n + 1) = if wt x then wF x.Items n else none := by cases x; rw [itC]
mutual
theorem itC_le : ∀ (x : Item) (n m : Nat), itC x n = some m -> m <= n
 | .mk a b c l, 0, m, h => by rw [itC] at h; cases h
 | .mk a b c l, n + 1, m, h => by
  rw [itC] at h
  split at h
  ·have := itsC_le l n m h
   omega
  ·cases h
theorem itsC_le : ∀ (l : List Item) (n m : Nat), wF l n = some m -> m <= n
 | [], n, m, h => by simp only [wF, Option.some.injEq] at h; omega
 | x :: r, n, m, h => by
  rw [wF] at h
  cases hx : itC x n with
  | none => rw [hx] at h; cases h
  | some m' =>
   rw [hx] at h
   have h1 := itC_le x n m' hx
   have h2 := itsC_le r m' m h
   omega
end
theorem rightItems_step {l : List Item} {g : List Item -> Int -> Option (Bool × Int)} {j i : Nat} {left : Int} (h : i < l.length) (hi : i < 1000000) : qd.rightItems_l1 l g (j + 1) (i : Int) left =
  if wt l[i] then (if decide (IntKind.wrap .i64 (left - 1) < 0) then some (.ret (false, IntKind.wrap .i64 (left - 1))) else (g l[i].Items (IntKind.wrap .i64 (left - 1))).bind fun v => if !v.1 then some (.ret (false, v.2)) else qd.rightItems_l1 l g j ((i + 1 : Nat) : Int) v.2) else some (.ret (false, IntKind.wrap .i64 (left - 1))) := by
 simp only [qd.rightItems_l1, xB h, yQ h, yG h, if_true, qd.rightItems_j3, qd.rightItems_j6, qd.rightItems_j8, qd.rightItems_j9, qd.rightItems_j11, qd.rightItems_j13, qd.rightItems_j15, qd.rightItems_j14, qd.rightItems_j12, qd.rightItems_j10, qd.rightItems_j7, qd.rightItems_j5, qd.rightItems_j4, qd.rightItems_j2, yg (show i < 4611686018427387904 by omega)]
 generalize qd.rightItems_l1 l g j = rec
 generalize l[i] = x
 unfold wt numP
 have e1 : decide ((x.Text.length : Int) <= 32) = decide (x.Text.length <= 32) := by rw [Bool.eq_iff_iff]; simp only [decide_eq_true_eq]; omega
 have e2 : ((x.Items.length : Int) == 0) = decide (x.Items.length = 0) := by rw [Bool.eq_iff_iff, beq_iff_eq, decide_eq_true_eq]; omega
 rw [e1, e2]
 generalize decide (x.Text.length <= 32) = a1
 generalize decide (x.Items.length = 0) = a2
 generalize (x.Text == []) = a3
 generalize (x.N_ == 0) = a4
 generalize decide (0 <= x.N_) = a5
 generalize decide (x.N_ <= 999999) = a6
 by_cases h1 : x.Kind = 1
 ·simp only [h1]; cases a1 <;> cases a4 <;> cases a2 <;> cases a5 <;> rfl
 by_cases h2 : x.Kind = 2
 ·simp only [h2]; cases a3 <;> cases a5 <;> cases a6 <;> cases a2 <;> rfl
 by_cases h3 : x.Kind = 3
 ·simp only [h3]; cases a3 <;> cases a4 <;> cases a2 <;> cases a5 <;> rfl
 by_cases h4 : x.Kind = 4
 ·simp only [h4]; cases a3 <;> cases a4 <;> cases a2 <;> cases a5 <;> rfl
 by_cases h5 : x.Kind = 5
 ·simp only [h5]; cases a3 <;> cases a5 <;> cases a6 <;> rfl
 by_cases h6 : x.Kind = 6
 ·simp only [h6]; cases a3 <;> cases a4 <;> cases a5 <;> rfl
 simp [h1, h2, h3, h4, h5, h6]
def itR (o : Option Nat) (z : Bool × Int) : Prop := match o with
 | some n => z = (true, (n : Int))
 | none => z.1 = false
theorem rightItems_ok : ∀ (n : Nat) (l : List Item) (k : Nat), n <= 64 -> n + 3 <= k -> ∃ z, qd.rightItems k l (n : Int) = some z /\ itR (wF l n) z := by
 intro n
 induction n using Nat.strongRecOn with
 | _ n ih =>
  intro l k hn hk
  obtain ⟨K, rfl⟩ : ∃ K, k = K + 1 := ⟨k - 1, by omega⟩
  simp only [qd.rightItems, qd.rightItems_B]
  have loop : ∀ (j i m : Nat), i <= l.length -> m <= n -> i <= n - m -> m + 2 <= j -> ∃ z, ((qd.rightItems_l1 l (qd.rightItems K) j (i : Int) (m : Int)).bind fun o1 => o1.fin fun d1 => some (true, d1)) = some z /\ itR (wF (l.drop i) m) z := by
   intro j
   induction j with
   | zero => intro i m _ _ _ h; omega
   | succ j ihj =>
    intro i m hi hm him hj
    by_cases h : i < l.length
    ·rw [rightItems_step h (by omega), List.drop_eq_getElem_cons h, wF]
     rcases m with _ | m
     ·rw [itC_zero, show IntKind.wrap .i64 (((0 : Nat) : Int) - 1) = -1 from rfl]
      by_cases hp : wt l[i] = true
      ·rw [if_pos hp]; exact ⟨_, rfl, rfl⟩
      ·rw [if_neg hp]; exact ⟨_, rfl, rfl⟩
     ·have hw : IntKind.wrap .i64 (((m + 1 : Nat) : Int) - 1) = (m : Int) := by rw [zO (by omega) (by omega)]; omega
      rw [ue, hw]
      by_cases hp : wt l[i] = true
      ·rw [if_pos hp, if_pos hp, decide_eq_false (show ¬ ((m : Int) < 0) by omega), if_neg (by simp)]
       obtain ⟨z, hz, hr⟩ := ih m (by omega) l[i].Items K (by omega) (by omega)
       rw [hz]
       simp only [Option.bind_some]
       cases hc : wF l[i].Items m with
       | none =>
        rw [hc] at hr
        have hr' : z.1 = false := hr
        rw [hr']
        exact ⟨_, rfl, rfl⟩
       | some m' =>
        rw [hc] at hr
        obtain rfl : z = (true, (m' : Int)) := hr
        have hle := itsC_le _ _ _ hc
        simp only [Bool.not_true, Bool.false_eq_true, if_false]
        exact ihj (i + 1) m' (by omega) (by omega) (by omega) (by omega)
      ·rw [if_neg hp, if_neg hp]; exact ⟨_, rfl, rfl⟩
    ·rw [List.drop_eq_nil_of_le (by omega), wF]
     simp only [qd.rightItems_l1, xy h]
     exact ⟨_, rfl, rfl⟩
  have := loop K 0 n (by omega) (by omega) (by omega) (by omega)
  rwa [wM, List.drop_zero] at this
mutual
def izI : Item -> Nat
 | .mk _ _ _ l => 1 + izL l
def izL : List Item -> Nat
 | [] => 0
 | x :: r => izI x + izL r
end
theorem qE (x : Item) : izI x = 1 + izL x.Items := by cases x; rw [izI]
theorem jn : ∀ l : List Item, l.length <= izL l
 | [] => Nat.le_refl _
 | x :: r => by
  have := jn r
  rw [izL, qE]
  simp only [List.length_cons]
  omega
theorem izL_mem : ∀ (l : List Item) (x : Item), x ∈ l -> izL x.Items < izL l
 | [], x, h => by cases h
 | y :: r, x, h => by
  rw [izL, qE]
  rcases List.mem_cons.1 h with rfl | h
  ·omega
  ·have := izL_mem r x h
   omega
mutual
def okI : Item -> Prop
 | .mk _ _ _ l => l.length * 56 <= 140737488351232 /\ okL l
def okL : List Item -> Prop
 | [] => True
 | x :: r => okI x /\ okL r
end
theorem okI_eq (x : Item) : okI x ↔ x.Items.length * 56 <= 140737488351232 /\ okL x.Items := by cases x; rw [okI]
theorem okL_mem : ∀ (l : List Item) (x : Item), okL l -> x ∈ l -> okI x
 | [], x, _, h => by cases h
 | y :: r, x, ho, h => by
  rw [okL] at ho
  rcases List.mem_cons.1 h with rfl | h
  ·exact ho.1
  ·exact okL_mem r x ho.2 h
structure Bd (d : zY) : Prop where
 prods : d.Prods.length <= 30000
 syms : ∀ p ∈ d.Prods, p.Syms.length <= 30000
 chains : d.Chains.length <= 30000
 groups : ∀ c ∈ d.Chains, c.length <= 30000
 cons : ∀ c ∈ d.Chains, ∀ g ∈ c, g.Cons.length <= 30000
 follows : d.Follows.length <= 30000
 rejects : d.Rejects.length <= 30000
 boxes : d.Boxes.length <= 30000
theorem rightItems_box (l : List Item) {k : Nat} (hk : 40000 <= k) : ∃ z, qd.rightItems k l 64 = some z /\ z.1 = (wF l 64).isSome := by
 obtain ⟨z, hz, hr⟩ := rightItems_ok 64 l k (by omega) (by omega)
 refine ⟨z, hz, ?_⟩
 cases hc : wF l 64 with
 | none => rw [hc] at hr; exact hr
 | some m => rw [hc] at hr; obtain rfl : z = (true, (m : Int)) := hr; rfl
def uV (b : xm) : Bool := yU b.Cons && (wF b.Items 64).isSome
def qJ (d : zY) : Bool := uL d.Start true && (uL d.Layout true && (decide (d.Prods.length <= 200) && (d.Prods.all kc && (d.Chains.all wJ && (d.Follows.all (fun f => yU f.Sort_) && (d.Rejects.all (fun r => yU r.Sort_ && yU r.By) && d.Boxes.all uV))))))
section
variable {k : Nat} (hk : 40000 <= k) {d : zY} (hd : Bd d)
include hk hd
theorem Right_ok : qd.Right k d = some (qJ d) := by
 have hk1 : 100 <= k := by omega
 have l1 : qd.Right_l1 k d k 0 = some (if d.Prods.all kc then .done () else .ret false) := by
  refine vP (by have := hd.prods; omega) (fun j i h => ?_) (fun j => ?_)
  ·have := hd.prods
   simp only [qd.Right_l1, xB h, yQ h, yG h, rightProd_ok hk _ (hd.syms _ (List.getElem_mem h)), Option.bind_some, yg (show i < 4611686018427387904 by omega), if_true]
   cases kc d.Prods[i] <;> rfl
  ·simp only [qd.Right_l1, xy (Nat.lt_irrefl _)]
   rfl
 have l2 : qd.Right_l2 k d k 0 = some (if d.Chains.all wJ then .done () else .ret false) := by
  refine vP (by have := hd.chains; omega) (fun j i h => ?_) (fun j => ?_)
  ·have := hd.chains
   simp only [qd.Right_l2, xB h, yQ h, yG h, rightChain_ok hk _ (hd.groups _ (List.getElem_mem h)), Option.bind_some, yg (show i < 4611686018427387904 by omega), if_true]
   cases wJ d.Chains[i] <;> rfl
  ·simp only [qd.Right_l2, xy (Nat.lt_irrefl _)]
   rfl
 have l3 : qd.Right_l3 k d k 0 = some (if d.Follows.all (fun f => yU f.Sort_) then .done () else .ret false) := by
  refine vP (by have := hd.follows; omega) (fun j i h => ?_) (fun j => ?_)
  ·have := hd.follows
   simp only [qd.Right_l3, xB h, yQ h, yG h, kW _ _ hk1, uL, Bool.false_and, Bool.false_or, Option.bind_some, yg (show i < 4611686018427387904 by omega), if_true]
   cases yU d.Follows[i].Sort_ <;> rfl
  ·simp only [qd.Right_l3, xy (Nat.lt_irrefl _)]
   rfl
 have l4 : qd.Right_l4 k d k 0 = some (if d.Rejects.all (fun r => yU r.Sort_ && yU r.By) then .done () else .ret false) := by
  refine vP (by have := hd.rejects; omega) (fun j i h => ?_) (fun j => ?_)
  ·have := hd.rejects
   simp only [qd.Right_l4, xB h, yQ h, yG h, kW _ _ hk1, uL, Bool.false_and, Bool.false_or, Option.bind_some, yg (show i < 4611686018427387904 by omega), if_true]
   cases yU d.Rejects[i].Sort_ <;> cases yU d.Rejects[i].By <;> rfl
  ·simp only [qd.Right_l4, xy (Nat.lt_irrefl _)]
   rfl
 have l5 : qd.Right_l5 k d k 0 = some (if d.Boxes.all uV then .done () else .ret false) := by
  refine vP (by have := hd.boxes; omega) (fun j i h => ?_) (fun j => ?_)
  ·have := hd.boxes
   obtain ⟨z, hz, hr⟩ := rightItems_box d.Boxes[i].Items hk
   rw [show uV d.Boxes[i] = (yU d.Boxes[i].Cons && (wF d.Boxes[i].Items 64).isSome) from rfl]
   simp only [qd.Right_l5, xB h, yQ h, yG h, kW _ _ hk1, uL, Bool.false_and, Bool.false_or, Option.bind_some, yg (show i < 4611686018427387904 by omega), if_true, hz, hr]
   cases yU d.Boxes[i].Cons <;> cases (wF d.Boxes[i].Items 64).isSome <;> rfl
  ·simp only [qd.Right_l5, xy (Nat.lt_irrefl _)]
   rfl
 unfold qd.Right qJ
 have e : decide (200 < (d.Prods.length : Int)) = !decide (d.Prods.length <= 200) := by rw [Bool.eq_iff_iff]; simp only [decide_eq_true_eq, Bool.not_eq_true', decide_eq_false_iff_not]; omega
 simp only [kW _ _ hk1, Option.bind_some, e, l1, l2, l3, l4, l5]
 cases uL d.Start true
 ·rfl
 cases uL d.Layout true
 ·rfl
 cases decide (d.Prods.length <= 200)
 ·rfl
 cases d.Prods.all kc
 ·rfl
 cases d.Chains.all wJ
 ·rfl
 cases d.Follows.all (fun f => yU f.Sort_)
 ·rfl
 cases d.Rejects.all (fun r => yU r.Sort_ && yU r.By)
 ·rfl
 cases d.Boxes.all uV <;> rfl
end
noncomputable def vn {α : Type} (x y : α) : Bool := @decide (x = y) (Classical.propDecidable _)
theorem kK {α : Type} {x y : α} : vn x y = true ↔ x = y := by unfold vn; simp
theorem ceq_self {α : Type} (x : α) : vn x x = true := kK.2 rfl
theorem cb {α : Type} {x y : α} {c : Bool} (h : c = true ↔ x = y) : c = vn x y := by rw [Bool.eq_iff_iff, kK]; exact h
theorem uT {α : Type} {x y : α} (h : x ≠ y) : vn x y = false := by
 cases hc : vn x y with
 | false => rfl
 | true => exact absurd (kK.1 hc) h
theorem uN {a b : Nat} : (((a : Int)) != ((b : Int))) = !decide (a = b) := by
 rw [Bool.eq_iff_iff, bne_iff_ne, Bool.not_eq_true', decide_eq_false_iff_not]; omega
theorem all2_ceq {α : Type} (xs ys : List α) (h : xs.length = ys.length) : all2 vn xs ys = vn xs ys := cb (all2_eq xs ys h (fun _ _ _ _ => kK))
theorem qV {α γ : Type} {xs ys : List α} {z : γ} {L : Nat -> Int -> Option (LR γ Bool)} {k : Nat} (hk : xs.length < k) (hl : xs.length = ys.length)
  (h1 : ∀ j i, (h : i < xs.length) -> (h' : i < ys.length) -> L (j + 1) (i : Int) = if vn xs[i] ys[i] then L j ((i + 1 : Nat) : Int) else some (.ret false))
  (h2 : ∀ j, L (j + 1) (xs.length : Int) = some (.done z)) : L k 0 = some (if vn xs ys then .done z else .ret false) := by
 rw [loop_all20 hk hl h1 h2, all2_ceq xs ys hl]
theorem eq_fun {α γ : Type} {xs ys : List α} {z : γ} {L : Nat -> Int -> Option (LR γ Bool)} {k : Nat} (hk : xs.length < k)
  (h1 : ∀ j i, (h : i < xs.length) -> (h' : i < ys.length) -> L (j + 1) (i : Int) = if vn xs[i] ys[i] then L j ((i + 1 : Nat) : Int) else some (.ret false))
  (h2 : ∀ j, L (j + 1) (xs.length : Int) = some (.done z)) : (if ((xs.length : Int) != (ys.length : Int)) then some false else (L k 0).bind fun o1 => o1.fin fun _ => some true) = some (vn xs ys) := by
 rw [uN]
 by_cases hl : xs.length = ys.length
 ·rw [decide_eq_true hl, qV hk hl h1 h2]
  cases vn xs ys <;> rfl
 ·rw [decide_eq_false hl, uT (fun e => hl (by rw [e]))]
  rfl
theorem follow_iff (x y : Follow) : ((x.Sort_ == y.Sort_) && ((S4.eq (S4.mk x.Set.w0 x.Set.w1 x.Set.w2 x.Set.w3) (S4.mk y.Set.w0 y.Set.w1 y.Set.w2 y.Set.w3)) && true)) = vn x y := cb (by
 rcases x with ⟨a, s⟩; rcases s with ⟨_, _, _, _⟩; rcases y with ⟨b, t⟩; rcases t with ⟨_, _, _, _⟩
 simp [S4.eq])
theorem reject_iff (x y : zz) : ((x.Sort_ == y.Sort_) && ((x.By == y.By) && true)) = vn x y := cb (by
 rcases x with ⟨a, s⟩; rcases y with ⟨b, t⟩
 simp)
theorem sym_iff (x y : xg) : ((x.Kind == y.Kind) && ((x.Text == y.Text) && ((S4.eq (S4.mk x.Set.w0 x.Set.w1 x.Set.w2 x.Set.w3) (S4.mk y.Set.w0 y.Set.w1 y.Set.w2 y.Set.w3)) && ((x.Name == y.Name) && ((x.Sep == y.Sep) && true))))) = vn x y := cb (by
 rcases x with ⟨_, _, s, _, _⟩; rcases s with ⟨_, _, _, _⟩; rcases y with ⟨_, _, t, _, _⟩; rcases t with ⟨_, _, _, _⟩
 simp [S4.eq])
theorem str_iff (x y : List UInt8) : (x == y) = vn x y := cb (by simp)
theorem prod_iff (x y : Prod) : ((x.Lex == y.Lex) && ((x.Sort_ == y.Sort_) && ((x.Cons == y.Cons) && ((x.Bracket == y.Bracket) && vn x.Syms y.Syms)))) = vn x y := cb (by
 rcases x with ⟨_, _, _, _, _⟩; rcases y with ⟨_, _, _, _, _⟩
 simp [kK])
theorem group_iff (x y : zw) : ((x.Assoc == y.Assoc) && vn x.Cons y.Cons) = vn x y := cb (by
 rcases x with ⟨_, _⟩; rcases y with ⟨_, _⟩
 simp [kK])
theorem item_iff (x y : Item) : ((x.Kind == y.Kind) && ((x.Text == y.Text) && ((x.N_ == y.N_) && vn x.Items y.Items))) = vn x y := cb (by
 rcases x with ⟨_, _, _, _⟩; rcases y with ⟨_, _, _, _⟩
 simp [kK])
theorem box_iff (x y : xm) : ((x.Cons == y.Cons) && vn x.Items y.Items) = vn x y := cb (by
 rcases x with ⟨_, _⟩; rcases y with ⟨_, _⟩
 simp [kK])
theorem def_iff (x y : zY) : ((x.Start == y.Start) && ((x.Layout == y.Layout) && (vn x.Follows y.Follows && (vn x.Rejects y.Rejects && (vn x.Prods y.Prods && (vn x.Chains y.Chains && vn x.Boxes y.Boxes)))))) = vn x y := cb (by
 rcases x with ⟨_, _, _, _, _, _, _⟩; rcases y with ⟨_, _, _, _, _, _, _⟩
 simp only [Bool.and_eq_true, beq_iff_eq, kK, zY.mk.injEq]
 constructor
 ·rintro ⟨h1, h2, h3, h4, h5, h6, h7⟩; exact ⟨h1, h2, h5, h6, h3, h4, h7⟩
 ·rintro ⟨h1, h2, h5, h6, h3, h4, h7⟩; exact ⟨h1, h2, h3, h4, h5, h6, h7⟩)
section
variable {k : Nat} (hk : 40000 <= k)
include hk
theorem names_eq (s1 s2 : List (List UInt8)) (hl : s1.length <= 30000) : qr.SameNames k s1 s2 = some (vn s1 s2) := by
 unfold qr.SameNames
 refine eq_fun (z := ()) (by omega) (fun j i h h' => ?_) (fun j => ?_)
 ·simp only [qr.SameNames_l1, xB h, yQ h, yQ h', yG h, yG h', if_true, str_iff, yg (show i < 4611686018427387904 by omega)]
  cases vn s1[i] s2[i] <;> rfl
 ·simp only [qr.SameNames_l1, xy (Nat.lt_irrefl _)]; rfl
end
theorem SameItemsR_ok : ∀ (n : Nat) (a b : List Item) (k : Nat), izL a <= n -> a.length * 56 <= 140737488351232 /\ okL a -> 4 * n + 10 <= k -> qr.SameItems k a b = some (vn a b) := by
 intro n
 induction n with
 | zero =>
  intro a b k ha _ hk
  obtain ⟨k', rfl⟩ : ∃ k', k = k' + 2 := ⟨k - 2, by omega⟩
  have : a = [] := by
   have := jn a
   exact List.length_eq_zero_iff.1 (by omega)
  subst this
  simp only [qr.SameItems, qr.SameItems_B]
  exact eq_fun (L := qr.SameItems_l1 [] b _) (z := ()) (by simp) (fun j i h h' => by simp at h) (fun j => by simp only [qr.SameItems_l1, xy (Nat.lt_irrefl _)]; rfl)
 | succ n ih =>
  intro a b k ha hn hk
  obtain ⟨k', rfl⟩ : ∃ k', k = k' + 1 := ⟨k - 1, by omega⟩
  have hlen := jn a
  have hn1 := hn.1
  simp only [qr.SameItems, qr.SameItems_B]
  refine eq_fun (L := qr.SameItems_l1 a b _) (z := ()) (by omega) (fun j i h h' => ?_) (fun j => by simp only [qr.SameItems_l1, xy (Nat.lt_irrefl _)]; rfl)
  have hm := izL_mem a a[i] (List.getElem_mem h)
  have hrec := ih a[i].Items b[i].Items k' (by omega) ((okI_eq _).1 (okL_mem a _ hn.2 (List.getElem_mem h))) (by omega)
  have hi := item_iff a[i] b[i]
  simp only [qr.SameItems_l1, qr.SameItems_j2, xB h, yQ h, yQ h', yG h, yG h', if_true, hrec, Option.bind_some, yg (show i < 4611686018427387904 by omega), <- hi, bne]
  cases a[i].Kind == b[i].Kind <;> cases a[i].Text == b[i].Text <;> cases a[i].N_ == b[i].N_ <;> cases vn a[i].Items b[i].Items <;> rfl
def dz : List xm -> Nat
 | [] => 0
 | b :: r => izL b.Items + dz r
theorem dz_mem : ∀ (l : List xm) (b : xm), b ∈ l -> izL b.Items <= dz l
 | [], b, h => by cases h
 | c :: r, b, h => by
  rw [dz]
  rcases List.mem_cons.1 h with rfl | h
  ·omega
  ·have := dz_mem r b h
   omega
def okBx (d : zY) : Prop := ∀ b ∈ d.Boxes, b.Items.length * 56 <= 140737488351232 /\ okL b.Items
section
variable {k : Nat} {d : zY} (hk : 200000 + 4 * dz d.Boxes <= k) (hd : Bd d) (ho : okBx d)
include hk hd ho
theorem sameProds_ok (b : List Prod) : qr.sameProds k d.Prods b = some (vn d.Prods b) := by
 have hl := hd.prods
 unfold qr.sameProds
 refine eq_fun (z := ()) (by omega) (fun j i h h' => ?_) (fun j => ?_)
 ·simp only [qr.sameProds_l1, qr.sameProds_j3, qr.sameProds_j4, qr.sameProds_j2, xB h, yQ h, yQ h', yG h, yG h', if_true, yg (show i < 4611686018427387904 by omega)]
  have hs := hd.syms _ (List.getElem_mem h)
  have e5 : d.Prods[i].Syms.length = b[i].Syms.length -> qr.sameProds_l5 d.Prods (i : Int) b k 0 = some (if vn d.Prods[i].Syms b[i].Syms then .done (d.Prods[i].Syms.length : Int) else .ret false) := fun hl' => by
   refine qV (by omega) hl' (fun j i' g g' => ?_) (fun j => ?_)
   ·simp only [qr.sameProds_l5, yG h, yG h', xB g, yQ g, yQ g', yG g, yG g', if_true, sym_iff, yg (show i' < 4611686018427387904 by omega)]
    cases vn d.Prods[i].Syms[i'] b[i].Syms[i'] <;> rfl
   ·simp only [qr.sameProds_l5, yG h, xy (Nat.lt_irrefl _)]; rfl
  rw [<- prod_iff, uN]
  generalize d.Prods[i] = p at e5 hs ⊢
  generalize b[i] = q at e5 ⊢
  rw [show (p.Lex != q.Lex) = !(p.Lex == q.Lex) from rfl, show (p.Bracket != q.Bracket) = !(p.Bracket == q.Bracket) from rfl]
  by_cases hl' : p.Syms.length = q.Syms.length
  ·rw [e5 hl', decide_eq_true hl']
   generalize vn p.Syms q.Syms = a1
   generalize (p.Lex == q.Lex) = a2
   generalize (p.Sort_ == q.Sort_) = a3
   generalize (p.Cons == q.Cons) = a4
   generalize (p.Bracket == q.Bracket) = a5
   cases a1 <;> cases a2 <;> cases a3 <;> cases a4 <;> cases a5 <;> rfl
  ·rw [decide_eq_false hl', uT (fun e => hl' (by rw [e]))]
   generalize (p.Lex == q.Lex) = a2
   generalize (p.Sort_ == q.Sort_) = a3
   generalize (p.Cons == q.Cons) = a4
   generalize (p.Bracket == q.Bracket) = a5
   cases a2 <;> cases a3 <;> cases a4 <;> cases a5 <;> rfl
 ·simp only [qr.sameProds_l1, xy (Nat.lt_irrefl _)]; rfl
theorem sameChains_ok (b : List (List zw)) : qr.sameChains k d.Chains b = some (vn d.Chains b) := by
 have hl := hd.chains
 unfold qr.sameChains
 refine eq_fun (z := ()) (by omega) (fun j i h h' => ?_) (fun j => ?_)
 ·simp only [qr.sameChains_l1, xB h, yQ h, yQ h', yG h, yG h', if_true, yg (show i < 4611686018427387904 by omega)]
  have hs := hd.groups _ (List.getElem_mem h)
  have hc := hd.cons _ (List.getElem_mem h)
  rw [uN]
  by_cases hl' : d.Chains[i].length = b[i].length
  ·have e5 : qr.sameChains_l2 k d.Chains (i : Int) b k 0 = some (if vn d.Chains[i] b[i] then .done (d.Chains[i].length : Int) else .ret false) := by
    refine qV (by omega) hl' (fun j i' g g' => ?_) (fun j => ?_)
    ·rw [<- group_iff]
     simp only [qr.sameChains_l2, qr.sameChains_j3, yG h, yG h', xB g, yQ g, yQ g', yG g, yG g', if_true, names_eq (show 40000 <= k by omega) _ _ (hc _ (List.getElem_mem g)), Option.bind_some, bne, yg (show i' < 4611686018427387904 by omega)]
     cases d.Chains[i][i'].Assoc == b[i][i'].Assoc <;> cases vn d.Chains[i][i'].Cons b[i][i'].Cons <;> rfl
    ·simp only [qr.sameChains_l2, yG h, xy (Nat.lt_irrefl _)]; rfl
   rw [e5, decide_eq_true hl']
   cases vn d.Chains[i] b[i] <;> rfl
  ·rw [decide_eq_false hl', uT (fun e => hl' (by rw [e]))]
   rfl
 ·simp only [qr.sameChains_l1, xy (Nat.lt_irrefl _)]; rfl
theorem SameR_ok (b : zY) : qr.Same k d b = some (vn d b) := by
 have l2 : d.Follows.length = b.Follows.length -> qr.Same_l2 d b k 0 = some (if vn d.Follows b.Follows then .done () else .ret false) := fun hl => by
  have := hd.follows
  refine qV (by omega) hl (fun j i h h' => ?_) (fun j => ?_)
  ·simp only [qr.Same_l2, xB h, yQ h, yQ h', yG h, yG h', if_true, follow_iff, yg (show i < 4611686018427387904 by omega)]
   cases vn d.Follows[i] b.Follows[i] <;> rfl
  ·simp only [qr.Same_l2, xy (Nat.lt_irrefl _)]; rfl
 have l3 : d.Rejects.length = b.Rejects.length -> qr.Same_l3 d b k 0 = some (if vn d.Rejects b.Rejects then .done () else .ret false) := fun hl => by
  have := hd.rejects
  refine qV (by omega) hl (fun j i h h' => ?_) (fun j => ?_)
  ·simp only [qr.Same_l3, xB h, yQ h, yQ h', yG h, yG h', if_true, reject_iff, yg (show i < 4611686018427387904 by omega)]
   cases vn d.Rejects[i] b.Rejects[i] <;> rfl
  ·simp only [qr.Same_l3, xy (Nat.lt_irrefl _)]; rfl
 have l4 : d.Boxes.length = b.Boxes.length -> qr.Same_l4 k d b k 0 = some (if vn d.Boxes b.Boxes then .done () else .ret false) := fun hl => by
  have := hd.boxes
  refine qV (by omega) hl (fun j i h h' => ?_) (fun j => ?_)
  ·have := dz_mem _ _ (List.getElem_mem h)
   rw [<- box_iff]
   simp only [qr.Same_l4, qr.Same_j5, xB h, yQ h, yQ h', yG h, yG h', if_true, SameItemsR_ok _ d.Boxes[i].Items b.Boxes[i].Items k (Nat.le_refl _) (ho _ (List.getElem_mem h)) (by omega), Option.bind_some, yg (show i < 4611686018427387904 by omega)]
   cases d.Boxes[i].Cons == b.Boxes[i].Cons <;> cases vn d.Boxes[i].Items b.Boxes[i].Items <;> rfl
  ·simp only [qr.Same_l4, xy (Nat.lt_irrefl _)]; rfl
 unfold qr.Same qr.Same_j1
 rw [uN, uN, uN, sameProds_ok hk hd ho, sameChains_ok hk hd ho, <- def_iff]
 by_cases h2 : d.Follows.length = b.Follows.length
 ·rw [l2 h2, decide_eq_true h2]
  by_cases h3 : d.Rejects.length = b.Rejects.length
  ·rw [l3 h3, decide_eq_true h3]
   by_cases h4 : d.Boxes.length = b.Boxes.length
   ·rw [l4 h4, decide_eq_true h4]
    cases d.Start == b.Start <;> cases d.Layout == b.Layout <;> cases vn d.Follows b.Follows <;> cases vn d.Rejects b.Rejects <;> cases vn d.Prods b.Prods <;> cases vn d.Chains b.Chains <;> cases vn d.Boxes b.Boxes <;> rfl
   ·rw [decide_eq_false h4, uT (x := d.Boxes) (fun e => h4 (by rw [e]))]
    cases d.Start == b.Start <;> cases d.Layout == b.Layout <;> cases vn d.Follows b.Follows <;> cases vn d.Rejects b.Rejects <;> cases vn d.Prods b.Prods <;> cases vn d.Chains b.Chains <;> rfl
  ·rw [decide_eq_false h3, uT (x := d.Rejects) (fun e => h3 (by rw [e]))]
   cases d.Start == b.Start <;> cases d.Layout == b.Layout <;> cases vn d.Follows b.Follows <;> rfl
 ·rw [decide_eq_false h2, uT (x := d.Follows) (fun e => h2 (by rw [e]))]
  cases d.Start == b.Start <;> cases d.Layout == b.Layout <;> rfl
end
theorem loop_app {α β ρ : Type} {xs : List α} {f : α -> β} {g : List β -> ρ} {L : Nat -> Int -> List β -> Option ρ}
  (h1 : ∀ j i acc, (h : i < xs.length) -> acc.length = i -> L (j + 1) (i : Int) acc = L j ((i + 1 : Nat) : Int) (acc ++ [f xs[i]]))
  (h2 : ∀ j acc, L (j + 1) (xs.length : Int) acc = some (g acc)) : ∀ j i acc, i <= xs.length -> acc.length = i -> xs.length - i < j -> L j (i : Int) acc = some (g (acc ++ (xs.drop i).map f))
 | 0, _, _, _, _, h => by omega
 | j + 1, i, acc, hi, ha, hj => by
  by_cases h : i < xs.length
  ·rw [h1 j i acc h ha, loop_app h1 h2 j (i + 1) _ (by omega) (by simp [ha]) (by omega), List.drop_eq_getElem_cons h]
   simp only [List.map_cons, List.append_assoc, List.singleton_append]
  ·have : i = xs.length := by omega
   subst this
   rw [h2 j, List.drop_length]
   simp
section
variable {k : Nat} {d : zY} (hk : 200000 + 4 * dz d.Boxes <= k) (hd : Bd d) (ho : okBx d)
include hk hd ho
end
theorem jZ {α : Type} {xs : List α} {P : α -> Prop} {ρ : Type} {g : Nat -> Nat -> ρ} {L : Nat -> Int -> Int -> Option ρ} (B : Nat) (hl : xs.length <= 3000)
  (h1 : ∀ (j i n : Nat), (h : i < xs.length) -> n <= 3000 -> ∃ m : Nat, L (j + 1) (n : Int) (i : Int) = L j (m : Int) ((i + 1 : Nat) : Int) /\ n <= m /\ m <= B /\ (m <= 3000 -> P xs[i]))
  (h2 : ∀ (j i n : Nat), i <= xs.length -> 3000 < n \/ i = xs.length -> L (j + 1) ((n : Nat) : Int) (i : Int) = some (g n i)) :
  ∀ (j i n : Nat), i <= xs.length -> xs.length - i < j -> ∃ v e : Nat, L j (n : Int) (i : Int) = some (g v e) /\ n <= v /\ v <= max B (max n 3000) /\ (v <= 3000 -> ∀ x ∈ xs.drop i, P x)
 | 0, _, _, _, h => by omega
 | j + 1, i, n, hi, hj => by
  by_cases hn : 3000 < n
  ·exact ⟨n, i, h2 j i n hi (.inl hn), Nat.le_refl _, by omega, fun h => by omega⟩
  by_cases h : i < xs.length
  ·obtain ⟨m, e1, e2, e3, e4⟩ := h1 j i n h (by omega)
   obtain ⟨v, e, f1, f2, f3, f4⟩ := jZ B hl h1 h2 j (i + 1) m (by omega) (by omega)
   refine ⟨v, e, by rw [e1, f1], by omega, by omega, fun hv x hx => ?_⟩
   rw [List.drop_eq_getElem_cons h] at hx
   rcases List.mem_cons.1 hx with rfl | hx
   ·exact e4 (by omega)
   ·exact f4 hv x hx
  ·have : i = xs.length := by omega
   subst this
   exact ⟨n, _, h2 j _ n (Nat.le_refl _) (.inr rfl), Nat.le_refl _, by omega, fun _ x hx => by rw [List.drop_length] at hx; cases hx⟩
structure OkD (d : zY) : Prop where
 prods : d.Prods.length <= 140737488351232
 syms : ∀ p ∈ d.Prods, p.Syms.length <= 140737488351232
 chains : d.Chains.length <= 140737488351232
 groups : ∀ c ∈ d.Chains, c.length <= 140737488351232
 cons : ∀ c ∈ d.Chains, ∀ g ∈ c, g.Cons.length <= 140737488351232
 follows : d.Follows.length <= 140737488351232
 rejects : d.Rejects.length <= 140737488351232
 boxes : d.Boxes.length <= 140737488351232
 items : okBx d
theorem itemParts_some : ∀ (n : Nat) (l : List Item) (k : Nat) (most : Int), izL l <= n -> l.length * 56 <= 140737488351232 /\ okL l -> 4 * n + 10 <= k -> ∃ v, qr.itemParts k l most = some v := by
 intro n
 induction n with
 | zero =>
  intro l k most hl _ hk
  obtain ⟨k', rfl⟩ : ∃ k', k = k' + 2 := ⟨k - 2, by omega⟩
  have : l = [] := by
   have := jn l
   exact List.length_eq_zero_iff.1 (by omega)
  subst this
  exact ⟨_, rfl⟩
 | succ n ih =>
  intro l k most hl hn hk
  obtain ⟨k', rfl⟩ : ∃ k', k = k' + 1 := ⟨k - 1, by omega⟩
  have hlen := jn l
  have hn1 := hn.1
  simp only [qr.itemParts, qr.itemParts_B]
  have : ∀ j i m, i <= l.length -> l.length - i < j -> ∃ v, qr.itemParts_l1 l (qr.itemParts k') most j m (i : Int) = some v := by
   intro j
   induction j with
   | zero => intro i m _ h; omega
   | succ j ihj =>
    intro i m hi hj
    by_cases h : i < l.length
    ·have hm := izL_mem l l[i] (List.getElem_mem h)
     obtain ⟨v, hv⟩ := ih l[i].Items k' most (by omega) ((okI_eq _).1 (okL_mem l _ hn.2 (List.getElem_mem h))) (by omega)
     simp only [qr.itemParts_l1, qr.itemParts_j2, xB h, yQ h, yG h, if_true, hv, Option.bind_some, yg (show i < 4611686018427387904 by omega)]
     by_cases hmm : decide (m <= most) = true
     ·rw [if_pos hmm]
      exact ihj (i + 1) _ (by omega) (by omega)
     ·rw [if_neg hmm]; exact ⟨_, rfl⟩
    ·simp only [qr.itemParts_l1, qr.itemParts_j2, xy h]
     exact ⟨_, rfl⟩
  obtain ⟨v, hv⟩ := this k' 0 (l.length : Int) (by omega) (by omega)
  rw [wM] at hv
  rw [hv]
  exact ⟨v, rfl⟩
theorem heavy_ok {k : Nat} {d : zY} (hk : 200000 + 4 * dz d.Boxes <= k) (ho : OkD d) : ∃ hv, qv.heavy k d = some hv /\ (hv = false -> Bd d) := by
 obtain ⟨o1, o2, o3, o4, o5, o6, o7, o8, o9⟩ := ho
 unfold qv.heavy qr.Parts
 have w0 : IntKind.wrap .i64 ((IntKind.wrap .i64 ((IntKind.wrap .i64 ((IntKind.wrap .i64 ((d.Prods.length : Int) + (d.Chains.length : Int))) + (d.Follows.length : Int))) + (d.Rejects.length : Int))) + (d.Boxes.length : Int)) = ((d.Prods.length + d.Chains.length + d.Follows.length + d.Rejects.length + d.Boxes.length : Nat) : Int) := by
  rw [zO (n := (d.Prods.length : Int) + (d.Chains.length : Int)) (by omega) (by omega), zO (n := (d.Prods.length : Int) + (d.Chains.length : Int) + (d.Follows.length : Int)) (by omega) (by omega), zO (n := (d.Prods.length : Int) + (d.Chains.length : Int) + (d.Follows.length : Int) + (d.Rejects.length : Int)) (by omega) (by omega), zO (by omega) (by omega)]
  omega
 rw [w0]
 generalize hn0 : d.Prods.length + d.Chains.length + d.Follows.length + d.Rejects.length + d.Boxes.length = n0
 have s1 : ∃ v1 : Nat, qr.Parts_l1 d 3000 k (n0 : Int) 0 = some (v1 : Int) /\ n0 <= v1 /\ v1 <= 3000000000000000 /\ (v1 <= 3000 -> ∀ p ∈ d.Prods, p.Syms.length <= 3000) := by
  by_cases hb : 3000 < n0
  ·refine ⟨n0, ?_, Nat.le_refl _, by omega, fun h => by omega⟩
   obtain ⟨k', rfl⟩ : ∃ k', k = k' + 1 := ⟨k - 1, by omega⟩
   simp only [qr.Parts_l1, qr.Parts_j2, decide_eq_false (show ¬ ((n0 : Int) <= 3000) by omega)]
   split <;> rfl
  ·obtain ⟨v, e, f1, f2, f3, f4⟩ := jZ (xs := d.Prods) (P := fun p => p.Syms.length <= 3000) (g := fun n _ => (n : Int)) (L := fun j n i => qr.Parts_l1 d 3000 j n i) 140737488360000 (by omega)
    (fun j i n h hn => ⟨n + d.Prods[i].Syms.length, by
     have := o2 _ (List.getElem_mem h)
     simp only [qr.Parts_l1, qr.Parts_j2, xB h, yQ h, yG h, if_true, decide_eq_true (show (n : Int) <= 3000 by omega), yg (show i < 4611686018427387904 by omega)]
     rw [zO (by omega) (by omega)]
     rfl, by omega, by have := o2 _ (List.getElem_mem h); omega, fun hm => by omega⟩)
    (fun j i n hi hc => by
     simp only [qr.Parts_l1, qr.Parts_j2]
     rcases hc with hc | rfl
     ·rw [decide_eq_false (show ¬ ((n : Int) <= 3000) by omega)]
      split <;> rfl
     ·rw [xy (Nat.lt_irrefl _)]; rfl) k 0 n0 (by omega) (by omega)
   exact ⟨v, f1, f2, by omega, fun h => by simpa using f4 h⟩
 obtain ⟨v1, e1, b1, c1, p1⟩ := s1
 have s3 : ∃ v3 : Nat, qr.Parts_l3 k d 3000 k (v1 : Int) 0 = some (v3 : Int) /\ v1 <= v3 /\ (v3 <= 3000 -> ∀ c ∈ d.Chains, c.length <= 3000 /\ ∀ g ∈ c, g.Cons.length <= 3000) := by
  by_cases hb : 3000 < v1
  ·refine ⟨v1, ?_, Nat.le_refl _, fun h => by omega⟩
   obtain ⟨k', rfl⟩ : ∃ k', k = k' + 1 := ⟨k - 1, by omega⟩
   simp only [qr.Parts_l3, qr.Parts_j4, decide_eq_false (show ¬ ((v1 : Int) <= 3000) by omega)]
   split <;> rfl
  ·obtain ⟨v, e, f1, f2, f3, f4⟩ := jZ (xs := d.Chains) (P := fun c => c.length <= 3000 /\ ∀ g ∈ c, g.Cons.length <= 3000) (g := fun n _ => (n : Int)) (L := fun j n i => qr.Parts_l3 k d 3000 j n i) 300000000000000 (by omega)
    (fun j i n h hn => by
     have h4 := o4 _ (List.getElem_mem h)
     have h5 := o5 _ (List.getElem_mem h)
     have s5 : ∃ v5 e5 : Nat, qr.Parts_l5 d (i : Int) 3000 k ((n + d.Chains[i].length : Nat) : Int) 0 = some ((v5 : Int), (e5 : Int)) /\ n + d.Chains[i].length <= v5 /\ v5 <= 300000000000000 /\ (v5 <= 3000 -> ∀ g ∈ d.Chains[i], g.Cons.length <= 3000) := by
      by_cases hb5 : 3000 < n + d.Chains[i].length
      ·refine ⟨n + d.Chains[i].length, 0, ?_, Nat.le_refl _, by omega, fun h => by omega⟩
       obtain ⟨k', rfl⟩ : ∃ k', k = k' + 1 := ⟨k - 1, by omega⟩
       simp only [qr.Parts_l5, qr.Parts_j6, decide_eq_false (show ¬ (((n + d.Chains[i].length : Nat) : Int) <= 3000) by omega)]
       split <;> rfl
      ·obtain ⟨v, e, f1, f2, f3, f4⟩ := jZ (xs := d.Chains[i]) (P := fun g => g.Cons.length <= 3000) (g := fun n e => ((n : Int), (e : Int))) (L := fun j n i' => qr.Parts_l5 d (i : Int) 3000 j n i') 140737488360000 (by omega)
        (fun j i' n h' hn => ⟨n + d.Chains[i][i'].Cons.length, by
         have := h5 _ (List.getElem_mem h')
         simp only [qr.Parts_l5, qr.Parts_j6, yG h, xB h', yQ h', yG h', if_true, decide_eq_true (show (n : Int) <= 3000 by omega), yg (show i' < 4611686018427387904 by omega)]
         rw [zO (by omega) (by omega)]
         rfl, by omega, by have := h5 _ (List.getElem_mem h'); omega, fun hm => by omega⟩)
        (fun j i' n hi hc => by
         simp only [qr.Parts_l5, qr.Parts_j6, yG h]
         rcases hc with hc | rfl
         ·rw [decide_eq_false (show ¬ ((n : Int) <= 3000) by omega)]
          split <;> rfl
         ·rw [xy (Nat.lt_irrefl _)]; rfl) k 0 (n + d.Chains[i].length) (by omega) (by omega)
       exact ⟨v, e, f1, f2, by omega, fun h => by simpa using f4 h⟩
     obtain ⟨v5, e5, g1, g2, g3, g4⟩ := s5
     refine ⟨v5, ?_, by omega, g3, fun hm => ⟨by omega, g4 hm⟩⟩
     simp only [qr.Parts_l3, qr.Parts_j4, xB h, yQ h, yG h, if_true, decide_eq_true (show (n : Int) <= 3000 by omega), yg (show i < 4611686018427387904 by omega)]
     rw [zO (n := (n : Int) + (d.Chains[i].length : Int)) (by omega) (by omega), show (n : Int) + (d.Chains[i].length : Int) = ((n + d.Chains[i].length : Nat) : Int) by omega, g1]
     rfl)
    (fun j i n hi hc => by
     simp only [qr.Parts_l3, qr.Parts_j4]
     rcases hc with hc | rfl
     ·rw [decide_eq_false (show ¬ ((n : Int) <= 3000) by omega)]
      split <;> rfl
     ·rw [xy (Nat.lt_irrefl _)]; rfl) k 0 v1 (by omega) (by omega)
   exact ⟨v, f1, f2, fun h => by simpa using f4 h⟩
 obtain ⟨v3, e3, b3, p3⟩ := s3
 rw [e1]
 simp only [Option.bind_some]
 rw [e3]
 simp only [Option.bind_some]
 by_cases hb : 3000 < v3
 ·obtain ⟨k', rfl⟩ : ∃ k', k = k' + 1 := ⟨k - 1, by omega⟩
  have e7 : qr.Parts_l7 (k' + 1) d 3000 (k' + 1) (v3 : Int) 0 = some (v3 : Int) := by
   rw [qr.Parts_l7]
   simp only [qr.Parts_j8, decide_eq_false (show ¬ ((v3 : Int) <= 3000) by omega)]
   split <;> rfl
  rw [e7]
  refine ⟨_, rfl, fun h => ?_⟩
  have := of_decide_eq_false h
  omega
 ·have tot : ∀ j i m, i <= d.Boxes.length -> d.Boxes.length - i < j -> ∃ v, qr.Parts_l7 k d 3000 j m (i : Int) = some v := by
   intro j
   induction j with
   | zero => intro i m _ h; omega
   | succ j ihj =>
    intro i m hi hj
    by_cases h : i < d.Boxes.length
    ·have hz := dz_mem _ _ (List.getElem_mem h)
     obtain ⟨v, hv⟩ := itemParts_some _ d.Boxes[i].Items k 3000 (Nat.le_refl _) (o9 _ (List.getElem_mem h)) (by omega)
     simp only [qr.Parts_l7, qr.Parts_j8, xB h, yQ h, yG h, if_true, hv, Option.bind_some, yg (show i < 4611686018427387904 by omega)]
     by_cases hmm : decide (m <= 3000) = true
     ·rw [if_pos hmm]
      exact ihj (i + 1) _ (by omega) (by omega)
     ·rw [if_neg hmm]; exact ⟨_, rfl⟩
    ·simp only [qr.Parts_l7, qr.Parts_j8, xy h]
     exact ⟨_, rfl⟩
  obtain ⟨v, hv⟩ := tot k 0 (v3 : Int) (by omega) (by omega)
  rw [wM] at hv
  rw [hv]
  refine ⟨_, rfl, fun _ => ?_⟩
  have q1 := p1 (by omega)
  have q3 := p3 (by omega)
  exact ⟨by omega, fun p hp => by have := q1 p hp; omega, by omega, fun c hc => by have := (q3 c hc).1; omega, fun c hc g hg => by have := (q3 c hc).2 g hg; omega, by omega, by omega, by omega⟩
end Go.Vc
