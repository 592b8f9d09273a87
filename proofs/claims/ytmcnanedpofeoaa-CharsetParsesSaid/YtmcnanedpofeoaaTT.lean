/-
  Bodies of ranges over functions: total; what they come to.
-/
import Derived.Test.YtmcnanedpofeoaaPA
namespace Go.Vc
open Go

theorem steps_cons {V : Type} {f : Int → V → Option (RS V)} {v0 v : V} {x : Int} {pre : List Int} (h : steps f v0 (x :: pre) = some v) : ∃ v1, f x v0 = some (.next v1) ∧ steps f v1 pre = some v := by
  simp only [steps] at h
  split at h
  · rename_i v' hx; exact ⟨v', hx, h⟩
  · cases h

theorem Bytes_next {x : Int} {v : List Int} (h : v.length < 1000) : F.charset.Bytes_b1 x v = some (.next (v ++ [x])) := by
  unfold F.charset.Bytes_b1
  rw [if_pos (by simp; omega), if_pos (by simp; omega)]
theorem Bytes_len : ∀ (pre : List Int) (v0 v : List Int), steps F.charset.Bytes_b1 v0 pre = some v → v.length = v0.length + pre.length
  | [], v0, v, h => by simp only [steps, Option.some.injEq] at h; subst h; simp
  | x :: pre, v0, v, h => by
    obtain ⟨v1, h1, h2⟩ := steps_cons h
    have h3 := Bytes_len pre v1 v h2
    unfold F.charset.Bytes_b1 at h1
    split at h1
    · split at h1
      · simp only [Option.some.injEq, RS.next.injEq] at h1
        subst h1
        simp only [List.length_append, List.length_cons, List.length_nil] at h3 ⊢
        omega
      · cases h1
    · cases h1
theorem tot_charset_Bytes_b1 : ∀ pre_ x_ v_, steps (F.charset.Bytes_b1) ([] : List Int) pre_ = some v_ → pre_.length < 256 → ∃ o, F.charset.Bytes_b1 x_ v_ = some o := by
  intro pre x v h hl
  have := Bytes_len pre [] v h
  exact ⟨_, Bytes_next (by simp at this; omega)⟩
theorem Bytes_steps : ∀ (L v0 : List Int), v0.length + L.length < 1000 → steps F.charset.Bytes_b1 v0 L = some (v0 ++ L)
  | [], v0, _ => by simp [steps]
  | x :: L, v0, h => by
    simp only [List.length_cons] at h
    simp only [steps, Bytes_next (x := x) (v := v0) (by omega)]
    rw [Bytes_steps L (v0 ++ [x]) (by simp; omega)]
    simp

theorem upTo_len (s : S4) (n : Nat) : (upTo s n).length ≤ n := by
  have := List.length_filter_le (hasB s) ((List.range n).map Int.ofNat)
  simpa [upTo] using this
theorem Bytes_eq (s : S4) : F.charset.Bytes s = some (allB s) := by
  unfold F.charset.Bytes
  have := upTo_len s 256
  rw [runR_next (Bytes_steps (allB s) [] (by simp only [allB, List.length_nil]; omega))]
  rfl

theorem at_snoc {α : Type} [Inhabited α] (xs : List α) (y : α) : at_ (xs ++ [y]) (xs.length : Int) = y := by simp [at_]

theorem Runs_j2_len {t : Bool} {out v1 : List Run} (h : F.charset.Runs_j2 t out = some (.next v1)) : v1 = out := by
  simp only [F.charset.Runs_j2, Option.some.injEq, RS.next.injEq] at h; exact h.symm
theorem set_len {α : Type} (xs : List α) (i : Int) (x : α) : (set_ xs i x).length = xs.length := by simp [set_]
theorem Runs_tot {x : Int} {v : List Run} (h : v.length < 1000) : ∃ o, F.charset.Runs_b1 x v = some (.next o) ∧ o.length ≤ v.length + 1 := by
  have hj : ∀ t : Bool, (0 < v.length ∨ t = false) → ∃ o, F.charset.Runs_j3 v x t = some (.next o) ∧ o.length ≤ v.length + 1 := by
    intro t ht
    unfold F.charset.Runs_j3
    cases t with
    | true =>
      have h0 : 0 < v.length := by rcases ht with h | h; exact h; cases h
      have hw : IntKind.wrap .i64 ((v.length : Int) - 1) = (v.length : Int) - 1 := wrap_i64 (by omega) (by omega)
      rw [if_pos rfl, if_pos (by rw [hw, inR_iff]; omega)]
      exact ⟨_, rfl, by rw [set_len]; omega⟩
    | false =>
      rw [if_neg (by simp), if_pos (by simp; omega), if_pos (by simp; omega)]
      exact ⟨_, rfl, by simp⟩
  unfold F.charset.Runs_b1
  by_cases h0 : 0 < v.length
  · have hw : IntKind.wrap .i64 ((v.length : Int) - 1) = (v.length : Int) - 1 := wrap_i64 (by omega) (by omega)
    rw [if_pos (by rw [decide_eq_true_eq]; omega), if_pos (by rw [hw, inR_iff]; omega)]
    exact hj _ (.inl h0)
  · rw [if_neg (by rw [decide_eq_true_eq]; omega)]
    exact hj _ (.inr rfl)
theorem Runs_len : ∀ (pre : List Int) (v0 v : List Run), v0.length + pre.length < 1000 → steps F.charset.Runs_b1 v0 pre = some v → v.length ≤ v0.length + pre.length
  | [], v0, v, _, h => by simp only [steps, Option.some.injEq] at h; subst h; simp
  | x :: pre, v0, v, hl, h => by
    simp only [List.length_cons] at hl ⊢
    obtain ⟨v1, h1, h2⟩ := steps_cons h
    obtain ⟨o, h3, h4⟩ := Runs_tot (x := x) (v := v0) (by omega)
    rw [h1] at h3
    simp only [Option.some.injEq, RS.next.injEq] at h3
    subst h3
    have := Runs_len pre v1 v (by omega) h2
    omega
theorem tot_charset_Runs_b1 : ∀ pre_ x_ v_, steps (F.charset.Runs_b1) ([] : List Run) pre_ = some v_ → pre_.length < 256 → ∃ o, F.charset.Runs_b1 x_ v_ = some o := by
  intro pre x v h hl
  have := Runs_len pre [] v (by simp; omega) h
  obtain ⟨o, h3, _⟩ := Runs_tot (x := x) (v := v) (by simp at this; omega)
  exact ⟨_, h3⟩

theorem Each_j4 {v3 m : Int} {t : Bool} (h0 : 0 ≤ v3) (h1 : v3 < 1000) : F.law01.CharsetEach_j4 v3 m t = some (if t then .ret v3 else if v3 + 1 = m then .brk (v3 + 1) else .next (v3 + 1)) := by
  unfold F.law01.CharsetEach_j4
  have hw : IntKind.wrap .i64 (v3 + 1) = v3 + 1 := wrap_i64 (by omega) (by omega)
  rw [hw]
  cases t with
  | true => simp
  | false => by_cases hm : v3 + 1 = m <;> simp [hm]
theorem Each_tot {v : List Int} {m x v3 : Int} (h0 : 0 ≤ v3) (h1 : v3 < 1000) : ∃ t : Bool, F.law01.CharsetEach_b3 v m x v3 = F.law01.CharsetEach_j4 v3 m t ∧
    (v3 < v.length → at_ v v3 = x → (0 < v3 → at_ v (v3 - 1) < x) → t = false) := by
  unfold F.law01.CharsetEach_b3
  by_cases hl : (v.length : Int) ≤ v3
  · rw [if_pos (by rw [decide_eq_true_eq]; exact hl)]
    exact ⟨true, rfl, fun h => by omega⟩
  · rw [if_neg (by rw [decide_eq_true_eq]; exact hl), if_pos (by rw [inR_iff]; omega)]
    by_cases hx : at_ v v3 = x
    · rw [if_neg (by simp [hx])]
      by_cases hp : 0 < v3
      · have hw : IntKind.wrap .i64 (v3 - 1) = v3 - 1 := wrap_i64 (by omega) (by omega)
        rw [if_pos (by rw [decide_eq_true_eq]; exact hp), if_pos (by rw [hw, inR_iff]; omega), hw]
        exact ⟨_, rfl, fun _ _ h => by simpa using h hp⟩
      · rw [if_neg (by rw [decide_eq_true_eq]; exact hp)]
        exact ⟨_, rfl, fun _ _ _ => rfl⟩
    · rw [if_pos (by simpa using hx)]
      exact ⟨true, rfl, fun _ h => absurd h hx⟩
theorem Each_steps {v : List Int} {m : Int} : ∀ (pre : List Int) (n u : Int), 0 ≤ n → n + pre.length < 1000 → steps (F.law01.CharsetEach_b3 v m) n pre = some u → u = n + pre.length
  | [], n, u, _, _, h => by simp only [steps, Option.some.injEq] at h; subst h; simp
  | x :: pre, n, u, h0, hl, h => by
    simp only [List.length_cons] at hl ⊢
    obtain ⟨v1, h1, h2⟩ := steps_cons h
    obtain ⟨t, h3, _⟩ := Each_tot (v := v) (m := m) (x := x) (v3 := n) h0 (by omega)
    rw [h3, Each_j4 h0 (by omega)] at h1
    cases t with
    | true => simp at h1
    | false =>
      by_cases hm : n + 1 = m
      · simp [hm] at h1
      · simp [hm] at h1
        subst h1
        have := Each_steps pre (n + 1) u (by omega) (by omega) h2
        omega
theorem tot_law01_CharsetEach_b3 (v : List Int) (most1 : Int) : ∀ pre_ x_ v_, steps (F.law01.CharsetEach_b3 v most1) 0 pre_ = some v_ → pre_.length < 256 → ∃ o, F.law01.CharsetEach_b3 v most1 x_ v_ = some o := by
  intro pre x u h hl
  have := Each_steps pre 0 u (by omega) (by omega) h
  obtain ⟨t, h3, _⟩ := Each_tot (v := v) (m := most1) (x := x) (v3 := u) (by omega) (by omega)
  exact ⟨_, h3.trans (Each_j4 (by omega) (by omega))⟩
end Go.Vc
