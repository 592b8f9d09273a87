/-
  What is not too great has no long lists.
-/
import Derived.Test.YtdbnoblklhgdoaaGreatDoorPF
set_option linter.unusedVariables false
set_option linter.unusedSimpArgs false
namespace Go.Vc
open Go
theorem loop_guard {α : Type} {xs : List α} {P : α → Prop} {ρ : Type} {g : Nat → Nat → ρ} {L : Nat → Int → Int → Option ρ} (B : Nat) (hl : xs.length ≤ 3000)
    (h1 : ∀ (j i n : Nat), (h : i < xs.length) → n ≤ 3000 → ∃ m : Nat, L (j + 1) (n : Int) (i : Int) = L j (m : Int) ((i + 1 : Nat) : Int) ∧ n ≤ m ∧ m ≤ B ∧ (m ≤ 3000 → P xs[i]))
    (h2 : ∀ (j i n : Nat), i ≤ xs.length → 3000 < n ∨ i = xs.length → L (j + 1) ((n : Nat) : Int) (i : Int) = some (g n i)) :
    ∀ (j i n : Nat), i ≤ xs.length → xs.length - i < j → ∃ v e : Nat, L j (n : Int) (i : Int) = some (g v e) ∧ n ≤ v ∧ v ≤ max B (max n 3000) ∧ (v ≤ 3000 → ∀ x ∈ xs.drop i, P x)
  | 0, _, _, _, h => by omega
  | j + 1, i, n, hi, hj => by
    by_cases hn : 3000 < n
    · exact ⟨n, i, h2 j i n hi (.inl hn), Nat.le_refl _, by omega, fun h => by omega⟩
    by_cases h : i < xs.length
    · obtain ⟨m, e1, e2, e3, e4⟩ := h1 j i n h (by omega)
      obtain ⟨v, e, f1, f2, f3, f4⟩ := loop_guard B hl h1 h2 j (i + 1) m (by omega) (by omega)
      refine ⟨v, e, by rw [e1, f1], by omega, by omega, fun hv x hx => ?_⟩
      rw [List.drop_eq_getElem_cons h] at hx
      rcases List.mem_cons.1 hx with rfl | hx
      · exact e4 (by omega)
      · exact f4 hv x hx
    · have : i = xs.length := by omega
      subst this
      exact ⟨n, _, h2 j _ n (Nat.le_refl _) (.inr rfl), Nat.le_refl _, by omega, fun _ x hx => by rw [List.drop_length] at hx; cases hx⟩
structure OkD (d : Def) : Prop where
  prods : d.Prods.length ≤ 140737488351232
  syms : ∀ p ∈ d.Prods, p.Syms.length ≤ 140737488351232
  chains : d.Chains.length ≤ 140737488351232
  groups : ∀ c ∈ d.Chains, c.length ≤ 140737488351232
  cons : ∀ c ∈ d.Chains, ∀ g ∈ c, g.Cons.length ≤ 140737488351232
  follows : d.Follows.length ≤ 140737488351232
  rejects : d.Rejects.length ≤ 140737488351232
  boxes : d.Boxes.length ≤ 140737488351232
  items : okBx d
theorem itemParts_some : ∀ (n : Nat) (l : List Item) (k : Nat) (most : Int), izL l ≤ n → l.length * 56 ≤ 140737488351232 ∧ okL l → 4 * n + 10 ≤ k → ∃ v, F.ref03.itemParts k l most = some v := by
  intro n
  induction n with
  | zero =>
    intro l k most hl _ hk
    obtain ⟨k', rfl⟩ : ∃ k', k = k' + 2 := ⟨k - 2, by omega⟩
    have : l = [] := by
      have := izL_len l
      exact List.length_eq_zero_iff.1 (by omega)
    subst this
    exact ⟨_, rfl⟩
  | succ n ih =>
    intro l k most hl hn hk
    obtain ⟨k', rfl⟩ : ∃ k', k = k' + 1 := ⟨k - 1, by omega⟩
    have hlen := izL_len l
    have hn1 := hn.1
    simp only [F.ref03.itemParts, F.ref03.itemParts_B]
    have : ∀ j i m, i ≤ l.length → l.length - i < j → ∃ v, F.ref03.itemParts_l1 l (F.ref03.itemParts k') most j m (i : Int) = some v := by
      intro j
      induction j with
      | zero => intro i m _ h; omega
      | succ j ihj =>
        intro i m hi hj
        by_cases h : i < l.length
        · have hm := izL_mem l l[i] (List.getElem_mem h)
          obtain ⟨v, hv⟩ := ih l[i].Items k' most (by omega) ((okI_eq _).1 (okL_mem l _ hn.2 (List.getElem_mem h))) (by omega)
          simp only [F.ref03.itemParts_l1, F.ref03.itemParts_j2, ix_lt h, ix_in h, ix_at h, if_true, hv, Option.bind_some, ix_inc (show i < 4611686018427387904 by omega)]
          by_cases hmm : decide (m ≤ most) = true
          · rw [if_pos hmm]
            exact ihj (i + 1) _ (by omega) (by omega)
          · rw [if_neg hmm]; exact ⟨_, rfl⟩
        · simp only [F.ref03.itemParts_l1, F.ref03.itemParts_j2, ix_ge h]
          exact ⟨_, rfl⟩
    obtain ⟨v, hv⟩ := this k' 0 (l.length : Int) (by omega) (by omega)
    rw [zero_cast] at hv
    rw [hv]
    exact ⟨v, rfl⟩
theorem heavy_ok {k : Nat} {d : Def} (hk : 200000 + 4 * dz d.Boxes ≤ k) (ho : OkD d) : ∃ hv, F.law03.heavy k d = some hv ∧ (hv = false → Bd d) := by
  obtain ⟨o1, o2, o3, o4, o5, o6, o7, o8, o9⟩ := ho
  unfold F.law03.heavy F.ref03.Parts
  have w0 : IntKind.wrap .i64 ((IntKind.wrap .i64 ((IntKind.wrap .i64 ((IntKind.wrap .i64 ((d.Prods.length : Int) + (d.Chains.length : Int))) + (d.Follows.length : Int))) + (d.Rejects.length : Int))) + (d.Boxes.length : Int)) = ((d.Prods.length + d.Chains.length + d.Follows.length + d.Rejects.length + d.Boxes.length : Nat) : Int) := by
    rw [wrap_i64 (n := (d.Prods.length : Int) + (d.Chains.length : Int)) (by omega) (by omega), wrap_i64 (n := (d.Prods.length : Int) + (d.Chains.length : Int) + (d.Follows.length : Int)) (by omega) (by omega), wrap_i64 (n := (d.Prods.length : Int) + (d.Chains.length : Int) + (d.Follows.length : Int) + (d.Rejects.length : Int)) (by omega) (by omega), wrap_i64 (by omega) (by omega)]
    omega
  rw [w0]
  generalize hn0 : d.Prods.length + d.Chains.length + d.Follows.length + d.Rejects.length + d.Boxes.length = n0
  have s1 : ∃ v1 : Nat, F.ref03.Parts_l1 d 3000 k (n0 : Int) 0 = some (v1 : Int) ∧ n0 ≤ v1 ∧ v1 ≤ 3000000000000000 ∧ (v1 ≤ 3000 → ∀ p ∈ d.Prods, p.Syms.length ≤ 3000) := by
    by_cases hb : 3000 < n0
    · refine ⟨n0, ?_, Nat.le_refl _, by omega, fun h => by omega⟩
      obtain ⟨k', rfl⟩ : ∃ k', k = k' + 1 := ⟨k - 1, by omega⟩
      simp only [F.ref03.Parts_l1, F.ref03.Parts_j2, decide_eq_false (show ¬ ((n0 : Int) ≤ 3000) by omega)]
      split <;> rfl
    · obtain ⟨v, e, f1, f2, f3, f4⟩ := loop_guard (xs := d.Prods) (P := fun p => p.Syms.length ≤ 3000) (g := fun n _ => (n : Int)) (L := fun j n i => F.ref03.Parts_l1 d 3000 j n i) 140737488360000 (by omega)
        (fun j i n h hn => ⟨n + d.Prods[i].Syms.length, by
          have := o2 _ (List.getElem_mem h)
          simp only [F.ref03.Parts_l1, F.ref03.Parts_j2, ix_lt h, ix_in h, ix_at h, if_true, decide_eq_true (show (n : Int) ≤ 3000 by omega), ix_inc (show i < 4611686018427387904 by omega)]
          rw [wrap_i64 (by omega) (by omega)]
          rfl, by omega, by have := o2 _ (List.getElem_mem h); omega, fun hm => by omega⟩)
        (fun j i n hi hc => by
          simp only [F.ref03.Parts_l1, F.ref03.Parts_j2]
          rcases hc with hc | rfl
          · rw [decide_eq_false (show ¬ ((n : Int) ≤ 3000) by omega)]
            split <;> rfl
          · rw [ix_ge (Nat.lt_irrefl _)]; rfl) k 0 n0 (by omega) (by omega)
      exact ⟨v, f1, f2, by omega, fun h => by simpa using f4 h⟩
  obtain ⟨v1, e1, b1, c1, p1⟩ := s1
  have s3 : ∃ v3 : Nat, F.ref03.Parts_l3 k d 3000 k (v1 : Int) 0 = some (v3 : Int) ∧ v1 ≤ v3 ∧ (v3 ≤ 3000 → ∀ c ∈ d.Chains, c.length ≤ 3000 ∧ ∀ g ∈ c, g.Cons.length ≤ 3000) := by
    by_cases hb : 3000 < v1
    · refine ⟨v1, ?_, Nat.le_refl _, fun h => by omega⟩
      obtain ⟨k', rfl⟩ : ∃ k', k = k' + 1 := ⟨k - 1, by omega⟩
      simp only [F.ref03.Parts_l3, F.ref03.Parts_j4, decide_eq_false (show ¬ ((v1 : Int) ≤ 3000) by omega)]
      split <;> rfl
    · obtain ⟨v, e, f1, f2, f3, f4⟩ := loop_guard (xs := d.Chains) (P := fun c => c.length ≤ 3000 ∧ ∀ g ∈ c, g.Cons.length ≤ 3000) (g := fun n _ => (n : Int)) (L := fun j n i => F.ref03.Parts_l3 k d 3000 j n i) 300000000000000 (by omega)
        (fun j i n h hn => by
          have h4 := o4 _ (List.getElem_mem h)
          have h5 := o5 _ (List.getElem_mem h)
          have s5 : ∃ v5 e5 : Nat, F.ref03.Parts_l5 d (i : Int) 3000 k ((n + d.Chains[i].length : Nat) : Int) 0 = some ((v5 : Int), (e5 : Int)) ∧ n + d.Chains[i].length ≤ v5 ∧ v5 ≤ 300000000000000 ∧ (v5 ≤ 3000 → ∀ g ∈ d.Chains[i], g.Cons.length ≤ 3000) := by
            by_cases hb5 : 3000 < n + d.Chains[i].length
            · refine ⟨n + d.Chains[i].length, 0, ?_, Nat.le_refl _, by omega, fun h => by omega⟩
              obtain ⟨k', rfl⟩ : ∃ k', k = k' + 1 := ⟨k - 1, by omega⟩
              simp only [F.ref03.Parts_l5, F.ref03.Parts_j6, decide_eq_false (show ¬ (((n + d.Chains[i].length : Nat) : Int) ≤ 3000) by omega)]
              split <;> rfl
            · obtain ⟨v, e, f1, f2, f3, f4⟩ := loop_guard (xs := d.Chains[i]) (P := fun g => g.Cons.length ≤ 3000) (g := fun n e => ((n : Int), (e : Int))) (L := fun j n i' => F.ref03.Parts_l5 d (i : Int) 3000 j n i') 140737488360000 (by omega)
                (fun j i' n h' hn => ⟨n + d.Chains[i][i'].Cons.length, by
                  have := h5 _ (List.getElem_mem h')
                  simp only [F.ref03.Parts_l5, F.ref03.Parts_j6, ix_at h, ix_lt h', ix_in h', ix_at h', if_true, decide_eq_true (show (n : Int) ≤ 3000 by omega), ix_inc (show i' < 4611686018427387904 by omega)]
                  rw [wrap_i64 (by omega) (by omega)]
                  rfl, by omega, by have := h5 _ (List.getElem_mem h'); omega, fun hm => by omega⟩)
                (fun j i' n hi hc => by
                  simp only [F.ref03.Parts_l5, F.ref03.Parts_j6, ix_at h]
                  rcases hc with hc | rfl
                  · rw [decide_eq_false (show ¬ ((n : Int) ≤ 3000) by omega)]
                    split <;> rfl
                  · rw [ix_ge (Nat.lt_irrefl _)]; rfl) k 0 (n + d.Chains[i].length) (by omega) (by omega)
              exact ⟨v, e, f1, f2, by omega, fun h => by simpa using f4 h⟩
          obtain ⟨v5, e5, g1, g2, g3, g4⟩ := s5
          refine ⟨v5, ?_, by omega, g3, fun hm => ⟨by omega, g4 hm⟩⟩
          simp only [F.ref03.Parts_l3, F.ref03.Parts_j4, ix_lt h, ix_in h, ix_at h, if_true, decide_eq_true (show (n : Int) ≤ 3000 by omega), ix_inc (show i < 4611686018427387904 by omega)]
          rw [wrap_i64 (n := (n : Int) + (d.Chains[i].length : Int)) (by omega) (by omega), show (n : Int) + (d.Chains[i].length : Int) = ((n + d.Chains[i].length : Nat) : Int) by omega, g1]
          rfl)
        (fun j i n hi hc => by
          simp only [F.ref03.Parts_l3, F.ref03.Parts_j4]
          rcases hc with hc | rfl
          · rw [decide_eq_false (show ¬ ((n : Int) ≤ 3000) by omega)]
            split <;> rfl
          · rw [ix_ge (Nat.lt_irrefl _)]; rfl) k 0 v1 (by omega) (by omega)
      exact ⟨v, f1, f2, fun h => by simpa using f4 h⟩
  obtain ⟨v3, e3, b3, p3⟩ := s3
  rw [e1]
  simp only [Option.bind_some]
  rw [e3]
  simp only [Option.bind_some]
  by_cases hb : 3000 < v3
  · obtain ⟨k', rfl⟩ : ∃ k', k = k' + 1 := ⟨k - 1, by omega⟩
    have e7 : F.ref03.Parts_l7 (k' + 1) d 3000 (k' + 1) (v3 : Int) 0 = some (v3 : Int) := by
      rw [F.ref03.Parts_l7]
      simp only [F.ref03.Parts_j8, decide_eq_false (show ¬ ((v3 : Int) ≤ 3000) by omega)]
      split <;> rfl
    rw [e7]
    refine ⟨_, rfl, fun h => ?_⟩
    have := of_decide_eq_false h
    omega
  · have tot : ∀ j i m, i ≤ d.Boxes.length → d.Boxes.length - i < j → ∃ v, F.ref03.Parts_l7 k d 3000 j m (i : Int) = some v := by
      intro j
      induction j with
      | zero => intro i m _ h; omega
      | succ j ihj =>
        intro i m hi hj
        by_cases h : i < d.Boxes.length
        · have hz := dz_mem _ _ (List.getElem_mem h)
          obtain ⟨v, hv⟩ := itemParts_some _ d.Boxes[i].Items k 3000 (Nat.le_refl _) (o9 _ (List.getElem_mem h)) (by omega)
          simp only [F.ref03.Parts_l7, F.ref03.Parts_j8, ix_lt h, ix_in h, ix_at h, if_true, hv, Option.bind_some, ix_inc (show i < 4611686018427387904 by omega)]
          by_cases hmm : decide (m ≤ 3000) = true
          · rw [if_pos hmm]
            exact ihj (i + 1) _ (by omega) (by omega)
          · rw [if_neg hmm]; exact ⟨_, rfl⟩
        · simp only [F.ref03.Parts_l7, F.ref03.Parts_j8, ix_ge h]
          exact ⟨_, rfl⟩
    obtain ⟨v, hv⟩ := tot k 0 (v3 : Int) (by omega) (by omega)
    rw [zero_cast] at hv
    rw [hv]
    refine ⟨_, rfl, fun _ => ?_⟩
    have q1 := p1 (by omega)
    have q3 := p3 (by omega)
    exact ⟨by omega, fun p hp => by have := q1 p hp; omega, by omega, fun c hc => by have := (q3 c hc).1; omega, fun c hc g hg => by have := (q3 c hc).2 g hg; omega, by omega, by omega, by omega⟩
end Go.Vc
