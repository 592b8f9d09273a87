/-
  Loops over lists; names; what may be a name.
-/
import Derived.Test.YtdbnoblklhgdoaaGreatDoorWA
set_option linter.unusedVariables false
set_option linter.unusedSimpArgs false
namespace Go.Vc
open Go
theorem loop_all {α γ : Type} {xs : List α} {p : α → Bool} {z : γ} {L : Nat → Int → Option (LR γ Bool)}
    (h1 : ∀ j i, (h : i < xs.length) → L (j + 1) (i : Int) = if p xs[i] then L j ((i + 1 : Nat) : Int) else some (.ret false))
    (h2 : ∀ j, L (j + 1) (xs.length : Int) = some (.done z)) : ∀ j i, i ≤ xs.length → xs.length - i < j → L j (i : Int) = some (if (xs.drop i).all p then .done z else .ret false)
  | 0, _, _, h => by omega
  | j + 1, i, hi, hj => by
    by_cases h : i < xs.length
    · rw [h1 j i h, List.drop_eq_getElem_cons h, List.all_cons]
      by_cases hp : p xs[i] = true
      · rw [if_pos hp, hp, Bool.true_and, loop_all h1 h2 j (i + 1) (by omega) (by omega)]
      · rw [if_neg hp, Bool.eq_false_iff.2 hp, Bool.false_and]
        rfl
    · have : i = xs.length := by omega
      subst this
      rw [h2 j, List.drop_length]
      rfl
theorem loop_all0 {α γ : Type} {xs : List α} {p : α → Bool} {z : γ} {L : Nat → Int → Option (LR γ Bool)} {k : Nat} (hk : xs.length < k)
    (h1 : ∀ j i, (h : i < xs.length) → L (j + 1) (i : Int) = if p xs[i] then L j ((i + 1 : Nat) : Int) else some (.ret false))
    (h2 : ∀ j, L (j + 1) (xs.length : Int) = some (.done z)) : L k 0 = some (if xs.all p then .done z else .ret false) := by
  have := loop_all h1 h2 k 0 (by omega) (by omega)
  rwa [List.drop_zero] at this
def all2 {α β : Type} (p : α → β → Bool) : List α → List β → Bool
  | [], _ => true
  | _ :: _, [] => true
  | x :: xs, y :: ys => p x y && all2 p xs ys
theorem loop_all2 {α β γ : Type} {xs : List α} {ys : List β} {p : α → β → Bool} {z : γ} {L : Nat → Int → Option (LR γ Bool)} (hl : xs.length = ys.length)
    (h1 : ∀ j i, (h : i < xs.length) → (h' : i < ys.length) → L (j + 1) (i : Int) = if p xs[i] ys[i] then L j ((i + 1 : Nat) : Int) else some (.ret false))
    (h2 : ∀ j, L (j + 1) (xs.length : Int) = some (.done z)) : ∀ j i, i ≤ xs.length → xs.length - i < j → L j (i : Int) = some (if all2 p (xs.drop i) (ys.drop i) then .done z else .ret false)
  | 0, _, _, h => by omega
  | j + 1, i, hi, hj => by
    by_cases h : i < xs.length
    · have h' : i < ys.length := by omega
      rw [h1 j i h h', List.drop_eq_getElem_cons h, List.drop_eq_getElem_cons h', all2]
      by_cases hp : p xs[i] ys[i] = true
      · rw [if_pos hp, hp, Bool.true_and, loop_all2 hl h1 h2 j (i + 1) (by omega) (by omega)]
      · rw [if_neg hp, Bool.eq_false_iff.2 hp, Bool.false_and]
        rfl
    · have : i = xs.length := by omega
      subst this
      rw [h2 j, List.drop_length]
      rfl
theorem loop_all20 {α β γ : Type} {xs : List α} {ys : List β} {p : α → β → Bool} {z : γ} {L : Nat → Int → Option (LR γ Bool)} {k : Nat} (hk : xs.length < k) (hl : xs.length = ys.length)
    (h1 : ∀ j i, (h : i < xs.length) → (h' : i < ys.length) → L (j + 1) (i : Int) = if p xs[i] ys[i] then L j ((i + 1 : Nat) : Int) else some (.ret false))
    (h2 : ∀ j, L (j + 1) (xs.length : Int) = some (.done z)) : L k 0 = some (if all2 p xs ys then .done z else .ret false) := by
  have := loop_all2 hl h1 h2 k 0 (by omega) (by omega)
  rwa [List.drop_zero, List.drop_zero] at this
theorem all2_eq {α : Type} {p : α → α → Bool} : ∀ (xs ys : List α), xs.length = ys.length → (∀ x ∈ xs, ∀ y ∈ ys, (p x y = true ↔ x = y)) → (all2 p xs ys = true ↔ xs = ys)
  | [], [], _, _ => by simp [all2]
  | [], _ :: _, h, _ => by simp at h
  | _ :: _, [], h, _ => by simp at h
  | x :: xs, y :: ys, h, hp => by
    simp only [all2, Bool.and_eq_true, List.cons.injEq]
    rw [hp x (by simp) y (by simp), all2_eq xs ys (by simpa using h) (fun a ha b hb => hp a (by simp [ha]) b (by simp [hb]))]
def isNm : List UInt8 → Bool
  | [] => false
  | c :: r => decide ((c :: r).length ≤ 32) && (decide (cls c.toNat = 1) && decide (pl (c :: r) = (c :: r).length))
theorem isNm_both {k : Nat} (s : List UInt8) (hk : 100 ≤ k) : F.words.IsName k s = some (isNm s) ∧ F.ref02.IsName k s = some (isNm s) := by
  unfold F.words.IsName F.ref02.IsName F.words.IsName_j1 F.ref02.IsName_j1
  cases s with
  | nil => exact ⟨rfl, rfl⟩
  | cons c r =>
    have h0 : (0 : Nat) < (c :: r).length := by simp
    have hin : inR 0 (c :: r).length = true := ix_in (i := 0) h0
    have hs0 : sAt (c :: r) 0 = ((c.toNat : Nat) : Int) := sAt_get (i := 0) h0
    have hlt := c.toNat_lt
    have d1 : (!((c :: r) == ([] : List UInt8))) = true := rfl
    have d2 : decide ((0 : Int) < ((c :: r).length : Int)) = true := decide_eq_true (by omega)
    simp only [d1, d2, hin, hs0, if_true, isNm]
    by_cases h32 : (c :: r).length ≤ 32
    · have hf := Far_ok (k := k) (s := c :: r) (i := 0) (by omega) (by omega) (by omega)
      rw [zero_cast, List.drop_zero, Nat.zero_add] at hf
      have d3 : decide (((c :: r).length : Int) ≤ 32) = true := decide_eq_true (by omega)
      have e32 : IntKind.wrap .i32 (c.toNat : Int) = (c.toNat : Int) := wrap_i32 (by omega) (by omega)
      have e5 : (((pl (c :: r) : Nat) : Int) == ((c :: r).length : Int)) = decide (pl (c :: r) = (c :: r).length) := by
        rw [Bool.eq_iff_iff, beq_iff_eq, decide_eq_true_eq]; omega
      simp only [d3, if_true, e32, great_ok, class_ok, Option.bind_some, run_ok (k := k) (s := c :: r) (by omega) (by omega), hf, decide_eq_true h32, Bool.true_and, e5]
      by_cases hc : cls c.toNat = 1
      · have d4 : (((cls c.toNat : Nat) : Int) == 1) = true := by rw [hc]; rfl
        simp only [d4, decide_eq_true hc, if_true, Bool.true_and]
        exact ⟨trivial, trivial⟩
      · have d4 : (((cls c.toNat : Nat) : Int) == 1) = false := by rw [beq_eq_false_iff_ne]; omega
        simp only [d4, decide_eq_false hc, Bool.false_eq_true, if_false, Bool.false_and]
        exact ⟨trivial, trivial⟩
    · have d3 : decide (((c :: r).length : Int) ≤ 32) = false := decide_eq_false (by omega)
      simp only [d3, Bool.false_eq_true, if_false, decide_eq_false h32, Bool.false_and]
      exact ⟨trivial, trivial⟩
def nmE (s : List UInt8) (e : Bool) : Bool := (e && s == []) || isNm s
theorem named_ok {k : Nat} (s : List UInt8) (e : Bool) (hk : 100 ≤ k) : F.defs.named k s e = some (nmE s e) := by
  unfold F.defs.named nmE
  rw [(isNm_both s hk).1]
  cases s <;> cases e <;> rfl
theorem name_ok {k : Nat} (s : List UInt8) (e : Bool) (hk : 100 ≤ k) : F.ref03.name k s e = some (nmE s e) := by
  unfold F.ref03.name nmE
  rw [(isNm_both s hk).2]
  cases s <;> cases e <;> rfl
end Go.Vc
