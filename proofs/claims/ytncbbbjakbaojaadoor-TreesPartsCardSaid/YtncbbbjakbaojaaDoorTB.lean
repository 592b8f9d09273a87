/-
  Trees: equal trees; copies; the law TreesSame.
-/
import Derived.Test.YtncbbbjakbaojaaDoorTA
set_option linter.unusedVariables false
set_option linter.unusedSimpArgs false
namespace Go.Vc
open Go
noncomputable instance : DecidableEq Tree := fun a b => Classical.propDecidable (a = b)
theorem drop_iff {a b : List Tree} {i : Nat} (ha : i < a.length) (hb : i < b.length) : a.drop i = b.drop i ↔ a[i] = b[i] ∧ a.drop (i + 1) = b.drop (i + 1) := by
  rw [List.drop_eq_getElem_cons ha, List.drop_eq_getElem_cons hb, List.cons.injEq]
theorem heavy_ok {k : Nat} (hk : 2000 ≤ k) (t : Tree) : F.law09.heavy k t = some (decide (1500 < sz t)) := by
  unfold F.law09.heavy
  have := Parts_ok k t 1500 (by omega) (by omega)
  rw [show ((1500 : Nat) : Int) = 1500 from rfl] at this
  rw [this, Option.bind_some]
  congr 1
  by_cases h : 1500 < sz t
  · rw [decide_eq_true h]; simp; omega
  · rw [decide_eq_false h]; simp; omega
theorem tree_ext {a b : Tree} (h1 : a.Rule = b.Rule) (h2 : a.Byte = b.Byte) (h3 : a.Kids = b.Kids) : a = b := by
  cases a; cases b; simp only at h1 h2 h3; subst h1 h2 h3; rfl

/-! ### SameTree -/
theorem SameTree_l1_ok {a b : Tree} {g : Tree → Tree → Option Bool} (hl : a.Kids.length = b.Kids.length) (hb : a.Kids.length < 1000000) (hg : ∀ u v, u ∈ a.Kids → g u v = some (decide (u = v))) :
    ∀ (j i : Nat), i ≤ a.Kids.length → a.Kids.length - i < j → F.ref08.SameTree_l1 a b g j i = some (if a.Kids.drop i = b.Kids.drop i then .done () else .ret false)
  | 0, _, _, h => by omega
  | j + 1, i, h1, h2 => by
    simp only [F.ref08.SameTree_l1]
    by_cases hi : i < a.Kids.length
    · have hi' : i < b.Kids.length := by omega
      rw [ix_lt hi, if_pos rfl, ix_in hi, if_pos rfl, ix_in hi', if_pos rfl, ix_at hi, ix_at hi', hg _ _ (List.getElem_mem hi), Option.bind_some]
      unfold F.ref08.SameTree_j3
      by_cases he : a.Kids[i] = b.Kids[i]
      · rw [decide_eq_true he]
        simp only [Bool.not_true, Bool.false_eq_true, if_false, F.ref08.SameTree_j2]
        rw [ix_inc (by omega), SameTree_l1_ok hl hb hg j (i + 1) (by omega) (by omega)]
        by_cases hd : a.Kids.drop (i + 1) = b.Kids.drop (i + 1)
        · rw [if_pos hd, if_pos ((drop_iff hi hi').2 ⟨he, hd⟩)]
        · rw [if_neg hd, if_neg (fun e => hd ((drop_iff hi hi').1 e).2)]
      · rw [decide_eq_false he, if_neg (fun e => he ((drop_iff hi hi').1 e).1)]
        rfl
    · rw [ix_ge hi, if_neg (by simp), List.drop_eq_nil_of_le (by omega), List.drop_eq_nil_of_le (by omega), if_pos rfl]
theorem SameTree_ok : ∀ (k : Nat) (a b : Tree), sz a < k → k ≤ 1000000 → F.ref08.SameTree k a b = some (decide (a = b))
  | 0, _, _, h, _ => by omega
  | k + 1, a, b, hk, hB => by
    show F.ref08.SameTree_B k (F.ref08.SameTree k) a b = _
    have hsa := sz_eq a
    have hla := len_sz a
    unfold F.ref08.SameTree_B
    by_cases h1 : a.Rule = b.Rule
    case neg =>
      rw [if_pos (by simpa using h1), decide_eq_false (fun e => h1 (by rw [e]))]
    by_cases h2 : a.Byte = b.Byte
    case neg =>
      rw [if_neg (by simpa using h1), if_pos (by simpa using h2), decide_eq_false (fun e => h2 (by rw [e]))]
    by_cases h3 : a.Kids.length = b.Kids.length
    case neg =>
      rw [if_neg (by simpa using h1), if_neg (by simpa using h2), if_pos (by simp; omega), decide_eq_false (fun e => h3 (by rw [e]))]
    rw [if_neg (by simpa using h1), if_neg (by simpa using h2), if_neg (by simp; omega)]
    have := SameTree_l1_ok h3 (by omega) (g := F.ref08.SameTree k) (fun u v hu => SameTree_ok k u v (by have := sz_mem hu; omega) (by omega)) k 0 (by omega) (by omega)
    rw [show ((0 : Nat) : Int) = 0 from rfl] at this
    rw [this, Option.bind_some]
    simp only [List.drop_zero]
    by_cases h4 : a.Kids = b.Kids
    · rw [if_pos h4, decide_eq_true (tree_ext h1 h2 h4)]; rfl
    · rw [if_neg h4, decide_eq_false (fun e => h4 (by rw [e]))]; rfl
theorem refSame_ok {k : Nat} {a b : Tree} (h : sz a < k) (hB : k ≤ 1000000) : F.ref09.Same k a b = some (decide (a = b)) := by
  unfold F.ref09.Same; rw [SameTree_ok k a b h hB]; rfl

/-! ### trees.Same -/
theorem EqualFunc_l1_ok {a b : List Tree} {g : Tree → Tree → Option Bool} (hl : a.length = b.length) (hb : a.length < 1000000) (hg : ∀ u v, u ∈ a → g u v = some (decide (u = v))) :
    ∀ (j i : Nat), i ≤ a.length → a.length - i < j → F.slices.EqualFunc_f55_29_l1 a b g j i = some (if a.drop i = b.drop i then .done () else .ret false)
  | 0, _, _, h => by omega
  | j + 1, i, h1, h2 => by
    simp only [F.slices.EqualFunc_f55_29_l1]
    by_cases hi : i < a.length
    · have hi' : i < b.length := by omega
      rw [ix_lt hi, if_pos rfl, ix_in hi, if_pos rfl, ix_in hi', if_pos rfl, ix_at hi, ix_at hi', hg _ _ (List.getElem_mem hi), Option.bind_some]
      by_cases he : a[i] = b[i]
      · rw [decide_eq_true he]
        simp only [Bool.not_true, Bool.false_eq_true, if_false]
        rw [ix_inc (by omega), EqualFunc_l1_ok hl hb hg j (i + 1) (by omega) (by omega)]
        by_cases hd : a.drop (i + 1) = b.drop (i + 1)
        · rw [if_pos hd, if_pos ((drop_iff hi hi').2 ⟨he, hd⟩)]
        · rw [if_neg hd, if_neg (fun e => hd ((drop_iff hi hi').1 e).2)]
      · rw [decide_eq_false he, if_neg (fun e => he ((drop_iff hi hi').1 e).1)]
        rfl
    · rw [ix_ge hi, if_neg (by simp), List.drop_eq_nil_of_le (by omega), List.drop_eq_nil_of_le (by omega), if_pos rfl]
theorem Same_G_ok : ∀ (k : Nat), k ≤ 1000000 → (∀ a b : Tree, 2 * sz a + 1 < k → (F.trees.Same_G k).1 a b = some (decide (a = b))) ∧ (∀ a b : List Tree, 2 * szs a + 2 < k → (F.trees.Same_G k).2 a b = some (decide (a = b)))
  | 0, _ => ⟨fun _ _ h => by omega, fun _ _ h => by omega⟩
  | k + 1, hB => by
    obtain ⟨ih1, ih2⟩ := Same_G_ok k (by omega)
    constructor
    · intro a b hk
      show F.trees.Same_B k ((F.trees.Same_G k).2) a b = _
      have hsa := sz_eq a
      unfold F.trees.Same_B
      by_cases h1 : a.Rule = b.Rule
      case neg => rw [if_neg (by simpa using h1), decide_eq_false (fun e => h1 (by rw [e]))]
      by_cases h2 : a.Byte = b.Byte
      case neg => rw [if_pos (by simpa using h1), if_neg (by simpa using h2), decide_eq_false (fun e => h2 (by rw [e]))]
      rw [if_pos (by simpa using h1), if_pos (by simpa using h2), ih2 a.Kids b.Kids (by omega), Option.bind_some]
      by_cases h4 : a.Kids = b.Kids
      · rw [decide_eq_true h4, decide_eq_true (tree_ext h1 h2 h4)]
      · rw [decide_eq_false h4, decide_eq_false (fun e => h4 (by rw [e]))]
    · intro a b hk
      show F.slices.EqualFunc_f55_29_B k ((F.trees.Same_G k).1) a b = _
      have hla := szs_len a
      unfold F.slices.EqualFunc_f55_29_B
      by_cases h3 : a.length = b.length
      case neg => rw [if_pos (by simp; omega), decide_eq_false (fun e => h3 (by rw [e]))]
      have := EqualFunc_l1_ok h3 (by omega) (g := (F.trees.Same_G k).1) (fun u v hu => ih1 u v (by have := sz_mem hu; omega)) k 0 (by omega) (by omega)
      rw [show ((0 : Nat) : Int) = 0 from rfl] at this
      rw [if_neg (by simp; omega), this, Option.bind_some]
      simp only [List.drop_zero]
      by_cases h4 : a = b
      · rw [if_pos h4, decide_eq_true h4]; rfl
      · rw [if_neg h4, decide_eq_false h4]; rfl
theorem Same_ok {k : Nat} {a b : Tree} (h : 2 * sz a + 1 < k) (hB : k ≤ 1000000) : F.trees.Same k a b = some (decide (a = b)) := (Same_G_ok k hB).1 a b h

/-! ### Copy -/
theorem Copy_l1_ok {t : Tree} {g : Tree → Option Tree} (hb : t.Kids.length < 1000000) (hg : ∀ u, u ∈ t.Kids → g u = some u) :
    ∀ (j i : Nat), i ≤ t.Kids.length → t.Kids.length - i < j → F.ref09.Copy_l1 t g j i (t.Kids.take i) = some t.Kids
  | 0, _, _, h => by omega
  | j + 1, i, h1, h2 => by
    simp only [F.ref09.Copy_l1]
    by_cases hi : i < t.Kids.length
    · have e1 : (t.Kids.take i).length = i := by simp; omega
      rw [ix_lt hi, if_pos rfl, ix_in hi, if_pos rfl, ix_at hi, hg _ (List.getElem_mem hi), Option.bind_some, e1, if_pos (by simp; omega), if_pos (by simp; omega), ix_inc (by omega), ← List.take_succ_eq_append_getElem hi]
      exact Copy_l1_ok hb hg j (i + 1) (by omega) (by omega)
    · rw [ix_ge hi, if_neg (by simp), List.take_of_length_le (by omega)]
theorem Copy_ok : ∀ (k : Nat) (t : Tree), sz t < k → k ≤ 1000000 → F.ref09.Copy k t = some t
  | 0, _, h, _ => by omega
  | k + 1, t, hk, hB => by
    show F.ref09.Copy_B k (F.ref09.Copy k) t = _
    have hsa := sz_eq t
    have hla := len_sz t
    unfold F.ref09.Copy_B
    have := Copy_l1_ok (t := t) (by omega) (g := F.ref09.Copy k) (fun u hu => Copy_ok k u (by have := sz_mem hu; omega) (by omega)) k 0 (by omega) (by omega)
    rw [show ((0 : Nat) : Int) = 0 from rfl, List.take_zero] at this
    rw [this, Option.bind_some]
    cases t; rfl
/-! ### the law -/
theorem law_Same {a b : Tree} (_ : okT a) (_ : okT b) : F.law09.TreesSame 100000 a b = some true := by
  unfold F.law09.TreesSame
  rw [heavy_ok (by omega) a, Option.bind_some, alive_K, Option.bind_some, heavy_ok (by omega) b, Option.bind_some, Option.bind_some]
  by_cases h1 : 1500 < sz a
  · rw [decide_eq_true h1, if_pos rfl]
  · by_cases h2 : 1500 < sz b
    · rw [decide_eq_false h1, if_neg (by simp), decide_eq_true h2, if_pos rfl]
    · rw [decide_eq_false h1, if_neg (by simp), decide_eq_false h2, if_neg (by simp), if_pos rfl, Same_ok (by omega) (by omega), Option.bind_some, refSame_ok (by omega) (by omega), Option.bind_some, if_pos (by simp), Copy_ok _ _ (by omega) (by omega), Option.bind_some, Same_ok (by omega) (by omega), Option.bind_some, decide_eq_true rfl]
end Go.Vc
