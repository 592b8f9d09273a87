/-
  Trees: the part to which a path leads; what is put there; the law TreesPut.
-/
import Derived.Test.YtncbbbjakbaojaaDoorTB
set_option linter.unusedVariables false
set_option linter.unusedSimpArgs false
namespace Go.Vc
open Go
/-- the part to which a path leads -/
def atT : Tree → List Int → Option Tree
  | t, [] => some t
  | t, i :: p => if inR i t.Kids.length then atT (at_ t.Kids i) p else none
theorem szs_at {ks : List Tree} {i : Int} (h : inR i ks.length = true) : sz (at_ ks i) ≤ szs ks := by
  obtain ⟨h1, h2⟩ := at_get h
  rw [h2]
  exact sz_mem (List.getElem_mem h1)
theorem atT_sz : ∀ (p : List Int) (t u : Tree), atT t p = some u → sz u ≤ sz t
  | [], t, u, h => by cases h; exact Nat.le_refl _
  | i :: p, t, u, h => by
    unfold atT at h
    split at h
    · rename_i hi
      have h1 := atT_sz p _ u h
      have h2 := szs_at hi
      rw [sz_eq t]
      omega
    · cases h
theorem copied_l1_ok {v : List Tree} {g : Tree → Option Tree} (hb : v.length < 1000000) (hg : ∀ u, u ∈ v → g u = some u) :
    ∀ (j i : Nat), i ≤ v.length → v.length - i < j → F.trees.copied_l1 v g j i v = some v
  | 0, _, _, h => by omega
  | j + 1, i, h1, h2 => by
    simp only [F.trees.copied_l1]
    by_cases hi : i < v.length
    · have hs : set_ v (i : Int) v[i] = v := by simp [set_]
      rw [ix_lt hi, if_pos rfl, ix_in hi, if_pos rfl, ix_at hi, hg _ (List.getElem_mem hi), Option.bind_some, hs, ix_inc (by omega)]
      exact copied_l1_ok hb hg j (i + 1) (by omega) (by omega)
    · rw [ix_ge hi, if_neg (by simp)]
theorem copied_ok : ∀ (k : Nat) (t : Tree), sz t < k → k ≤ 1000000 → F.trees.copied k t = some t
  | 0, _, h, _ => by omega
  | k + 1, t, hk, hB => by
    show F.trees.copied_B k (F.trees.copied k) t = _
    have hsa := sz_eq t
    have hla := len_sz t
    unfold F.trees.copied_B F.slices.Clone
    rw [if_pos (by rw [decide_eq_true_eq]; omega), Option.bind_some]
    have := copied_l1_ok (v := t.Kids) (by omega) (g := F.trees.copied k) (fun u hu => copied_ok k u (by have := sz_mem hu; omega) (by omega)) k 0 (by omega) (by omega)
    rw [show ((0 : Nat) : Int) = 0 from rfl] at this
    rw [this, Option.bind_some]
    cases t
    rfl
def atO (o : Option Tree) : LR (Int × Int × List Tree) (Tree × Int) := match o with
  | none => .ret (Tree.mk 0 0 [], 4)
  | some u => .done (u.Rule, u.Byte, u.Kids)
theorem At_l1_ok {path : List Int} (hb : path.length < 1000000) : ∀ (j i : Nat) (t : Tree), i ≤ path.length → path.length - i < j → F.trees.At_l1 path j i t.Rule t.Byte t.Kids = some (atO (atT t (path.drop i)))
  | 0, _, _, _, h => by omega
  | j + 1, i, t, h1, h2 => by
    simp only [F.trees.At_l1]
    by_cases hi : i < path.length
    · rw [ix_lt hi, if_pos rfl, ix_in hi, if_pos rfl, ix_at hi, List.drop_eq_getElem_cons hi]
      simp only [F.trees.At_j2, ix_at hi, atT]
      by_cases hq : inR path[i] t.Kids.length = true
      · obtain ⟨q1, q2⟩ := inR_iff.1 hq
        rw [if_neg (by rw [decide_eq_true_eq]; omega), if_neg (by rw [decide_eq_true_eq]; omega), if_pos hq, if_pos hq, ix_inc (by omega)]
        exact At_l1_ok hb j (i + 1) _ (by omega) (by omega)
      · have hq' : inR path[i] t.Kids.length = false := Bool.eq_false_iff.2 hq
        simp only [hq', Bool.false_eq_true, if_false]
        by_cases hn : path[i] < 0
        · rw [if_pos (by simpa using hn), if_pos trivial]
          rfl
        · have : (t.Kids.length : Int) ≤ path[i] := by
            rcases Int.lt_or_le path[i] (t.Kids.length : Int) with h | h
            · exact absurd (inR_iff.2 ⟨by omega, h⟩) hq
            · exact h
          rw [if_neg (by simpa using hn), if_pos (by simpa using this)]
          rfl
    · rw [ix_ge hi, if_neg (by simp), List.drop_eq_nil_of_le (by omega)]
      rfl
theorem At_ok {k : Nat} {t : Tree} {path : List Int} (hs : sz t < k) (hp : path.length < k) (hB : k ≤ 1000000) : F.trees.At k t path = some (match atT t path with
    | none => (Tree.mk 0 0 [], 4)
    | some u => (u, 0)) := by
  unfold F.trees.At
  have := At_l1_ok (path := path) (by omega) k 0 t (by omega) (by omega)
  rw [show ((0 : Nat) : Int) = 0 from rfl, List.drop_zero] at this
  rw [this, Option.bind_some]
  cases ha : atT t path with
  | none => rfl
  | some u =>
    have := atT_sz _ _ _ ha
    simp only [atO, LR.fin]
    rw [copied_ok k _ (by show sz (Tree.mk u.Rule u.Byte u.Kids) < k; have : Tree.mk u.Rule u.Byte u.Kids = u := by cases u; rfl
                          rw [this]; omega) hB, Option.bind_some]
    cases u
    rfl
/-! ### what is put -/
theorem putT_eq (t : Tree) (i : Int) (p : List Int) (s : Tree) : putT t (i :: p) s = if inR i t.Kids.length then (putT (at_ t.Kids i) p s).map fun x => .mk t.Rule t.Byte (set_ t.Kids i x) else none := by
  cases t; rfl
theorem putT_some : ∀ (p : List Int) (t old s : Tree), atT t p = some old → ∃ x, putT t p s = some x
  | [], t, old, s, _ => ⟨s, by cases t; rfl⟩
  | i :: p, t, old, s, h => by
    unfold atT at h
    split at h
    · rename_i hi
      obtain ⟨x, hx⟩ := putT_some p _ old s h
      exact ⟨_, by rw [putT_eq, if_pos hi, hx]; rfl⟩
    · cases h
theorem set_at {ks : List Tree} {i : Int} {x : Tree} (hi : inR i ks.length = true) : inR i (set_ ks i x).length = true ∧ at_ (set_ ks i x) i = x ∧ ∀ y, set_ (set_ ks i x) i y = set_ ks i y := by
  obtain ⟨h1, h2⟩ := inR_iff.1 hi
  refine ⟨by simp only [set_, List.length_set]; exact hi, ?_, fun y => by simp [set_]⟩
  have : i.toNat < ks.length := by omega
  simp [at_, set_, this]
theorem set_self {ks : List Tree} {i : Int} (hi : inR i ks.length = true) : set_ ks i (at_ ks i) = ks := by
  obtain ⟨h1, h2⟩ := at_get hi
  rw [h2]
  simp [set_]
theorem szs_set : ∀ (ks : List Tree) (n : Nat) (x : Tree), szs (ks.set n x) ≤ szs ks + sz x
  | [], n, x => by simp [szs]
  | k :: ks, 0, x => by simp only [List.set_cons_zero, szs]; omega
  | k :: ks, n + 1, x => by
    have := szs_set ks n x
    simp only [List.set_cons_succ, szs]
    omega
theorem szs_set' : ∀ (ks : List Tree) (n : Nat) (x : Tree) (h : n < ks.length), szs (ks.set n x) + sz ks[n] = szs ks + sz x
  | [], n, x, h => by simp at h
  | k :: ks, 0, x, h => by simp only [List.set_cons_zero, szs, List.getElem_cons_zero]; omega
  | k :: ks, n + 1, x, h => by
    have := szs_set' ks n x (by simpa using h)
    simp only [List.set_cons_succ, szs, List.getElem_cons_succ]
    omega
theorem putT_sz : ∀ (p : List Int) (t s x : Tree), putT t p s = some x → sz x ≤ sz t + sz s
  | [], t, s, x, h => by
    have h' : putT t [] s = some s := by cases t; rfl
    rw [h'] at h
    cases h
    omega
  | i :: p, t, s, x, h => by
    rw [putT_eq] at h
    split at h
    · rename_i hi
      obtain ⟨y, h1, h2⟩ := Option.map_eq_some_iff.1 h
      subst h2
      have ih := putT_sz p _ s y h1
      obtain ⟨h3, h4⟩ := at_get hi
      have := szs_set' t.Kids i.toNat y h3
      rw [h4] at ih
      rw [sz_eq t, sz_eq]
      show szs (t.Kids.set i.toNat y) + 1 ≤ _
      omega
    · cases h
theorem putT_at : ∀ (p : List Int) (t s x : Tree), putT t p s = some x → atT x p = some s
  | [], t, s, x, h => by
    have h' : putT t [] s = some s := by cases t; rfl
    rw [h'] at h
    cases h
    rfl
  | i :: p, t, s, x, h => by
    rw [putT_eq] at h
    split at h
    · rename_i hi
      obtain ⟨y, h1, h2⟩ := Option.map_eq_some_iff.1 h
      subst h2
      obtain ⟨g1, g2, g3⟩ := set_at (x := y) hi
      unfold atT
      show (if inR i (set_ t.Kids i y).length = true then atT (at_ (set_ t.Kids i y) i) p else none) = some s
      rw [if_pos g1, g2]
      exact putT_at p _ s y h1
    · cases h
theorem putT_back : ∀ (p : List Int) (t s x old : Tree), atT t p = some old → putT t p s = some x → putT x p old = some t
  | [], t, s, x, old, h, _ => by
    cases h
    cases x; rfl
  | i :: p, t, s, x, old, h, hx => by
    unfold atT at h
    rw [putT_eq] at hx
    split at h
    · rename_i hi
      rw [if_pos hi] at hx
      obtain ⟨y, h1, h2⟩ := Option.map_eq_some_iff.1 hx
      subst h2
      obtain ⟨g1, g2, g3⟩ := set_at (x := y) hi
      rw [putT_eq]
      show (if inR i (set_ t.Kids i y).length = true then (putT (at_ (set_ t.Kids i y) i) p old).map (fun x => Tree.mk t.Rule t.Byte (set_ (set_ t.Kids i y) i x)) else none) = some t
      rw [if_pos g1, g2, putT_back p _ s y old h h1, Option.map_some, g3, set_self hi]
      cases t
      rfl
    · cases h
theorem putT_same {p : List Int} {t old : Tree} (h : atT t p = some old) : putT t p old = some t := by
  obtain ⟨x, hx⟩ := putT_some p t old old h
  have h1 := putT_back p t old x old h hx
  have h2 : ∀ (p : List Int) (t old : Tree), atT t p = some old → putT t p old = some t := by
    intro p
    induction p with
    | nil => intro t old h; cases h; cases t; rfl
    | cons i p ih =>
      intro t old h
      unfold atT at h
      split at h
      · rename_i hi
        rw [putT_eq, if_pos hi, ih _ _ h, Option.map_some, set_self hi]
        cases t
        rfl
      · cases h
  exact h2 p t old h
theorem Put_ok {k : Nat} {t s : Tree} {path : List Int} (hs : sz t < k) (hs2 : sz s < k) (hp : path.length < k) (hB : k ≤ 1000000) : F.trees.Put k t path s = (match atT t path with
    | none => some (Tree.mk 0 0 [], 4)
    | some _ => (putT t path s).map fun x => (x, 0)) := by
  unfold F.trees.Put
  rw [if_pos (by rw [decide_eq_true_eq]; omega), At_ok hs hp hB, Option.bind_some]
  cases ha : atT t path with
  | none => rfl
  | some old =>
    simp only
    rw [if_neg (by simp), copied_ok k t hs hB, copied_ok k s hs2 hB, Option.bind_some, Option.bind_some]
    cases putT t path s <;> rfl
theorem law_Put {t s : Tree} {path : List Int} : F.law09.TreesPut 100000 t path s = some true := by
  unfold F.law09.TreesPut
  rw [heavy_ok (by omega) t, Option.bind_some]
  by_cases h1 : 1500 < sz t
  · rw [decide_eq_true h1, if_pos rfl, alive_K]; rfl
  rw [decide_eq_false h1, if_neg (by simp), heavy_ok (by omega) s, Option.bind_some]
  by_cases h2 : 1500 < sz s
  · rw [decide_eq_true h2, if_pos rfl, alive_K]; rfl
  rw [decide_eq_false h2, if_neg (by simp)]
  by_cases h3 : 1000 < path.length
  · rw [if_pos (by rw [decide_eq_true_eq]; omega), alive_K]; rfl
  rw [if_neg (by rw [decide_eq_true_eq]; omega), At_ok (by omega) (by omega) (by omega), Option.bind_some, Put_ok (by omega) (by omega) (by omega) (by omega)]
  cases ha : atT t path with
  | none =>
    simp only [Option.bind_some]
    rw [if_pos (by simp), alive_K, Option.bind_some, if_pos rfl, if_pos (by simp), refSame_ok (by rw [sz_eq]; simp [szs]) (by omega), Option.bind_some]
    simp
  | some old =>
    obtain ⟨x, hx⟩ := putT_some path t old s ha
    have ho := atT_sz _ _ _ ha
    have hxs := putT_sz _ _ _ _ hx
    have hxa := putT_at _ _ _ _ hx
    simp only [hx, Option.map_some, Option.bind_some]
    rw [if_neg (by simp), At_ok (by omega) (by omega) (by omega), Option.bind_some, Put_ok (by omega) (by omega) (by omega) (by omega), hxa]
    simp only
    rw [putT_back _ _ _ _ _ ha hx, Option.map_some, Option.bind_some, if_neg (by simp), if_neg (by simp), if_neg (by simp)]
    simp only
    rw [refSame_ok (by omega) (by omega), Option.bind_some, decide_eq_true rfl, if_neg (by simp), refSame_ok (by omega) (by omega), Option.bind_some, decide_eq_true rfl]
    unfold F.law09.TreesPut_j1
    rw [if_neg (by simp), Put_ok (by omega) (by show sz old < 100000; omega) (by omega) (by omega), ha]
    simp only
    rw [putT_same ha, Option.map_some, Option.bind_some, alive_K, Option.bind_some, if_pos rfl, if_pos (by simp)]
    simp only
    rw [refSame_ok (by omega) (by omega), Option.bind_some, decide_eq_true rfl]
end Go.Vc
