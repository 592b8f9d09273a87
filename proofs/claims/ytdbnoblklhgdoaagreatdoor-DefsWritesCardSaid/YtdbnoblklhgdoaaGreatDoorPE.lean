/-
  Which definitions are the same: the equal ones.
-/
import Derived.Test.YtdbnoblklhgdoaaGreatDoorPD
set_option linter.unusedVariables false
set_option linter.unusedSimpArgs false
namespace Go.Vc
open Go
noncomputable def ceq {α : Type} (x y : α) : Bool := @decide (x = y) (Classical.propDecidable _)
theorem ceq_iff {α : Type} {x y : α} : ceq x y = true ↔ x = y := by unfold ceq; simp
theorem ceq_self {α : Type} (x : α) : ceq x x = true := ceq_iff.2 rfl
theorem cb {α : Type} {x y : α} {c : Bool} (h : c = true ↔ x = y) : c = ceq x y := by rw [Bool.eq_iff_iff, ceq_iff]; exact h
theorem ceq_ne {α : Type} {x y : α} (h : x ≠ y) : ceq x y = false := by
  cases hc : ceq x y with
  | false => rfl
  | true => exact absurd (ceq_iff.1 hc) h
theorem len_ne {a b : Nat} : (((a : Int)) != ((b : Int))) = !decide (a = b) := by
  rw [Bool.eq_iff_iff, bne_iff_ne, Bool.not_eq_true', decide_eq_false_iff_not]; omega
theorem all2_ceq {α : Type} (xs ys : List α) (h : xs.length = ys.length) : all2 ceq xs ys = ceq xs ys := cb (all2_eq xs ys h (fun _ _ _ _ => ceq_iff))
theorem loop_eq {α γ : Type} {xs ys : List α} {z : γ} {L : Nat → Int → Option (LR γ Bool)} {k : Nat} (hk : xs.length < k) (hl : xs.length = ys.length)
    (h1 : ∀ j i, (h : i < xs.length) → (h' : i < ys.length) → L (j + 1) (i : Int) = if ceq xs[i] ys[i] then L j ((i + 1 : Nat) : Int) else some (.ret false))
    (h2 : ∀ j, L (j + 1) (xs.length : Int) = some (.done z)) : L k 0 = some (if ceq xs ys then .done z else .ret false) := by
  rw [loop_all20 hk hl h1 h2, all2_ceq xs ys hl]
theorem eq_fun {α γ : Type} {xs ys : List α} {z : γ} {L : Nat → Int → Option (LR γ Bool)} {k : Nat} (hk : xs.length < k)
    (h1 : ∀ j i, (h : i < xs.length) → (h' : i < ys.length) → L (j + 1) (i : Int) = if ceq xs[i] ys[i] then L j ((i + 1 : Nat) : Int) else some (.ret false))
    (h2 : ∀ j, L (j + 1) (xs.length : Int) = some (.done z)) : (if ((xs.length : Int) != (ys.length : Int)) then some false else (L k 0).bind fun o1 => o1.fin fun _ => some true) = some (ceq xs ys) := by
  rw [len_ne]
  by_cases hl : xs.length = ys.length
  · rw [decide_eq_true hl, loop_eq hk hl h1 h2]
    cases ceq xs ys <;> rfl
  · rw [decide_eq_false hl, ceq_ne (fun e => hl (by rw [e]))]
    rfl
theorem follow_iff (x y : Follow) : ((x.Sort_ == y.Sort_) && ((S4.eq (S4.mk x.Set.w0 x.Set.w1 x.Set.w2 x.Set.w3) (S4.mk y.Set.w0 y.Set.w1 y.Set.w2 y.Set.w3)) && true)) = ceq x y := cb (by
  rcases x with ⟨a, s⟩; rcases s with ⟨_, _, _, _⟩; rcases y with ⟨b, t⟩; rcases t with ⟨_, _, _, _⟩
  simp [S4.eq])
theorem reject_iff (x y : Reject) : ((x.Sort_ == y.Sort_) && ((x.By == y.By) && true)) = ceq x y := cb (by
  rcases x with ⟨a, s⟩; rcases y with ⟨b, t⟩
  simp)
theorem sym_iff (x y : Sym) : ((x.Kind == y.Kind) && ((x.Text == y.Text) && ((S4.eq (S4.mk x.Set.w0 x.Set.w1 x.Set.w2 x.Set.w3) (S4.mk y.Set.w0 y.Set.w1 y.Set.w2 y.Set.w3)) && ((x.Name == y.Name) && ((x.Sep == y.Sep) && true))))) = ceq x y := cb (by
  rcases x with ⟨_, _, s, _, _⟩; rcases s with ⟨_, _, _, _⟩; rcases y with ⟨_, _, t, _, _⟩; rcases t with ⟨_, _, _, _⟩
  simp [S4.eq])
theorem str_iff (x y : List UInt8) : (x == y) = ceq x y := cb (by simp)
theorem prod_iff (x y : Prod) : ((x.Lex == y.Lex) && ((x.Sort_ == y.Sort_) && ((x.Cons == y.Cons) && ((x.Bracket == y.Bracket) && ceq x.Syms y.Syms)))) = ceq x y := cb (by
  rcases x with ⟨_, _, _, _, _⟩; rcases y with ⟨_, _, _, _, _⟩
  simp [ceq_iff])
theorem group_iff (x y : Group) : ((x.Assoc == y.Assoc) && ceq x.Cons y.Cons) = ceq x y := cb (by
  rcases x with ⟨_, _⟩; rcases y with ⟨_, _⟩
  simp [ceq_iff])
theorem item_iff (x y : Item) : ((x.Kind == y.Kind) && ((x.Text == y.Text) && ((x.N_ == y.N_) && ceq x.Items y.Items))) = ceq x y := cb (by
  rcases x with ⟨_, _, _, _⟩; rcases y with ⟨_, _, _, _⟩
  simp [ceq_iff])
theorem box_iff (x y : Box) : ((x.Cons == y.Cons) && ceq x.Items y.Items) = ceq x y := cb (by
  rcases x with ⟨_, _⟩; rcases y with ⟨_, _⟩
  simp [ceq_iff])
theorem def_iff (x y : Def) : ((x.Start == y.Start) && ((x.Layout == y.Layout) && (ceq x.Follows y.Follows && (ceq x.Rejects y.Rejects && (ceq x.Prods y.Prods && (ceq x.Chains y.Chains && ceq x.Boxes y.Boxes)))))) = ceq x y := cb (by
  rcases x with ⟨_, _, _, _, _, _, _⟩; rcases y with ⟨_, _, _, _, _, _, _⟩
  simp only [Bool.and_eq_true, beq_iff_eq, ceq_iff, Def.mk.injEq]
  constructor
  · rintro ⟨h1, h2, h3, h4, h5, h6, h7⟩; exact ⟨h1, h2, h5, h6, h3, h4, h7⟩
  · rintro ⟨h1, h2, h5, h6, h3, h4, h7⟩; exact ⟨h1, h2, h3, h4, h5, h6, h7⟩)
section
variable {k : Nat} (hk : 20000 ≤ k)
include hk
theorem names_eq (s1 s2 : List (List UInt8)) (hl : s1.length ≤ 4000) : F.ref03.SameNames k s1 s2 = some (ceq s1 s2) := by
  unfold F.ref03.SameNames
  refine eq_fun (z := ()) (by omega) (fun j i h h' => ?_) (fun j => ?_)
  · simp only [F.ref03.SameNames_l1, ix_lt h, ix_in h, ix_in h', ix_at h, ix_at h', if_true, str_iff, ix_inc (show i < 4611686018427387904 by omega)]
    cases ceq s1[i] s2[i] <;> rfl
  · simp only [F.ref03.SameNames_l1, ix_ge (Nat.lt_irrefl _)]; rfl
end
theorem SameItemsR_ok : ∀ (n : Nat) (a b : List Item) (k : Nat), izL a ≤ n → a.length * 56 ≤ 140737488351232 ∧ okL a → 4 * n + 10 ≤ k → F.ref03.SameItems k a b = some (ceq a b) := by
  intro n
  induction n with
  | zero =>
    intro a b k ha _ hk
    obtain ⟨k', rfl⟩ : ∃ k', k = k' + 2 := ⟨k - 2, by omega⟩
    have : a = [] := by
      have := izL_len a
      exact List.length_eq_zero_iff.1 (by omega)
    subst this
    simp only [F.ref03.SameItems, F.ref03.SameItems_B]
    exact eq_fun (L := F.ref03.SameItems_l1 [] b _) (z := ()) (by simp) (fun j i h h' => by simp at h) (fun j => by simp only [F.ref03.SameItems_l1, ix_ge (Nat.lt_irrefl _)]; rfl)
  | succ n ih =>
    intro a b k ha hn hk
    obtain ⟨k', rfl⟩ : ∃ k', k = k' + 1 := ⟨k - 1, by omega⟩
    have hlen := izL_len a
    have hn1 := hn.1
    simp only [F.ref03.SameItems, F.ref03.SameItems_B]
    refine eq_fun (L := F.ref03.SameItems_l1 a b _) (z := ()) (by omega) (fun j i h h' => ?_) (fun j => by simp only [F.ref03.SameItems_l1, ix_ge (Nat.lt_irrefl _)]; rfl)
    have hm := izL_mem a a[i] (List.getElem_mem h)
    have hrec := ih a[i].Items b[i].Items k' (by omega) ((okI_eq _).1 (okL_mem a _ hn.2 (List.getElem_mem h))) (by omega)
    have hi := item_iff a[i] b[i]
    simp only [F.ref03.SameItems_l1, F.ref03.SameItems_j2, ix_lt h, ix_in h, ix_in h', ix_at h, ix_at h', if_true, hrec, Option.bind_some, ix_inc (show i < 4611686018427387904 by omega), ← hi, bne]
    cases a[i].Kind == b[i].Kind <;> cases a[i].Text == b[i].Text <;> cases a[i].N_ == b[i].N_ <;> cases ceq a[i].Items b[i].Items <;> rfl
end Go.Vc
