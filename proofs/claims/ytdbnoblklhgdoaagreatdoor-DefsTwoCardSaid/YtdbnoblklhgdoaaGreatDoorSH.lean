/-
  Words: the law WordsTwo.
-/
import Derived.Test.YtdbnoblklhgdoaaGreatDoorSG
set_option linter.unusedVariables false
set_option linter.unusedSimpArgs false
namespace Go.Vc
open Go
def core (w : Word) : Int × List UInt8 × List Int × S4 × Int := (w.Kind, w.Text, w.Bytes, w.Set, w.N_)
theorem scT_err : ∀ (j : Nat) (r : List UInt8) (m : Nat) (o e : Int), r.length ≤ 65536 → scT j r = .error (m, o, e) → m ≤ r.length ∧ e ≠ 0 ∧ 0 ≤ o ∧ o ≤ m
  | 0, _, _, _, _, _, h => by cases h
  | j + 1, r, m, o, e, hl, h => by
    have hs := skL_le r false
    unfold scT at h
    cases hk : skL false r with
    | nil => rw [hk] at h; cases h
    | cons c t =>
      rw [hk] at h hs
      simp only at h
      cases ht : tok (c :: t) with
      | error p =>
        obtain ⟨o', e'⟩ := p
        rw [ht] at h
        cases h
        obtain ⟨h1, h2, h3⟩ := tok_err (by omega) ht
        exact ⟨hs, h1, h2, h3⟩
      | ok p =>
        obtain ⟨x, n⟩ := p
        obtain ⟨n1, n2, _⟩ := tok_ok (by omega) ht
        rw [ht] at h
        simp only at h
        cases hr : scT j ((c :: t).drop n) with
        | error z =>
          rw [hr] at h
          cases h
          have := scT_err j _ m o e (by rw [List.length_drop]; omega) hr
          rw [List.length_drop] at this
          exact ⟨by omega, this.2⟩
        | ok l' => rw [hr] at h; cases h
theorem skL_f (c : UInt8) (r : List UInt8) : skL false (c :: r) = if blank c.toNat then skL false r else if c.toNat = 35 then skL true r else c :: r := by rw [skL]
theorem skL_t (c : UInt8) (r : List UInt8) : skL true (c :: r) = if c.toNat = 10 then skL false r else skL true r := by rw [skL]
theorem skL_app {c : UInt8} {t : List UInt8} (z : List UInt8) : ∀ (a : List UInt8) (b : Bool), skL b a = c :: t → skL b (a ++ z) = c :: t ++ z
  | [], b, h => by simp [skL] at h
  | d :: a, false, h => by
    rw [List.cons_append, skL_f]
    rw [skL_f] at h
    by_cases h1 : blank d.toNat
    · rw [if_pos h1] at h ⊢; exact skL_app z a false h
    rw [if_neg h1] at h ⊢
    by_cases h2 : d.toNat = 35
    · rw [if_pos h2] at h ⊢; exact skL_app z a true h
    · rw [if_neg h2] at h ⊢
      rw [← List.cons_append, h]
  | d :: a, true, h => by
    rw [List.cons_append, skL_t]
    rw [skL_t] at h
    by_cases h1 : d.toNat = 10
    · rw [if_pos h1] at h ⊢; exact skL_app z a false h
    · rw [if_neg h1] at h ⊢; exact skL_app z a true h
theorem skL_end (z : List UInt8) : ∀ (a : List UInt8) (b : Bool), skL b a = [] → skL b (a ++ 10 :: z) = skL false z
  | [], false, _ => by rw [List.nil_append, skL_f, if_pos (.inl rfl)]
  | [], true, _ => by rw [List.nil_append, skL_t, if_pos (by decide)]
  | d :: a, false, h => by
    rw [List.cons_append, skL_f]
    rw [skL_f] at h
    by_cases h1 : blank d.toNat
    · rw [if_pos h1] at h ⊢; exact skL_end z a false h
    rw [if_neg h1] at h ⊢
    by_cases h2 : d.toNat = 35
    · rw [if_pos h2] at h ⊢; exact skL_end z a true h
    · rw [if_neg h2] at h; cases h
  | d :: a, true, h => by
    rw [List.cons_append, skL_t]
    rw [skL_t] at h
    by_cases h1 : d.toNat = 10
    · rw [if_pos h1] at h ⊢; exact skL_end z a false h
    · rw [if_neg h1] at h ⊢; exact skL_end z a true h
def shf (n : Nat) (p : Nat × List UInt8 × Tk) : Nat × List UInt8 × Tk := (p.1 + n, p.2)
theorem stop_app {k : Int} {r z : List UInt8} (h : stop k r) : stop k (r ++ 10 :: z) := by
  cases r with
  | nil =>
    refine ⟨fun _ => by decide, fun _ => by decide⟩
  | cons c r => exact h
theorem scT_ok {j : Nat} {r y : List UInt8} {x : Tk} {n : Nat} (hk : skL false r = y) (hy : y ≠ []) (ht : tok y = .ok (x, n)) : scT (j + 1) r = match scT j (y.drop n) with
    | .error z => .error z
    | .ok l => .ok ((y.length, y.take n, x) :: l) := by
  rw [scT, hk]
  cases y with
  | nil => exact absurd rfl hy
  | cons c t =>
    simp only
    rw [ht]
    simp only
    cases scT j (List.drop n (c :: t)) <;> rfl
theorem scT_two (b : List UInt8) : ∀ (j : Nat) (a : List UInt8) (l : List (Nat × List UInt8 × Tk)) (J : Nat), a.length < j → (a ++ 10 :: b).length < J → J ≤ 400000 → (a ++ 10 :: b).length ≤ 65536 → scT j a = .ok l → scT J (a ++ 10 :: b) = match scT 400000 b with
    | .ok l' => .ok (l.map (shf (b.length + 1)) ++ l')
    | .error z => .error z
  | 0, _, _, _, h, _, _, _, _ => by omega
  | j + 1, a, l, 0, _, h, _, _, _ => by omega
  | j + 1, a, l, J + 1, h1, h2, h3, h4, h => by
    have hs := skL_le a false
    unfold scT at h
    rw [List.length_append, List.length_cons] at h2 h4
    cases hk : skL false a with
    | nil =>
      rw [hk] at h
      cases h
      have e : scT (J + 1) (a ++ 10 :: b) = scT (J + 1) b := by
        unfold scT
        rw [skL_end b a false hk]
      rw [e, scT_fuel (J + 1) 400000 b (by omega) (by omega) (by omega)]
      cases scT 400000 b with
      | error z => rfl
      | ok l' => rfl
    | cons c t =>
      rw [hk] at h hs
      simp only at h
      simp only [List.length_cons] at hs
      cases ht : tok (c :: t) with
      | error p => rw [ht] at h; cases h
      | ok p =>
        obtain ⟨x, n⟩ := p
        obtain ⟨n1, n2, _, _, n5, n6, _⟩ := tok_ok (by simp only [List.length_cons]; omega) ht
        rw [ht] at h
        simp only at h
        cases hr : scT j ((c :: t).drop n) with
        | error z => rw [hr] at h; cases h
        | ok l1 =>
          rw [hr] at h
          cases h
          have e1 : c :: t ++ 10 :: b = (c :: t).take n ++ ((c :: t).drop n ++ 10 :: b) := by rw [← List.append_assoc, List.take_append_drop]
          have ht2 : tok (c :: t ++ 10 :: b) = .ok (x, n) := by rw [e1]; exact n6 _ (stop_app n5)
          have e2 : (c :: t ++ 10 :: b).drop n = (c :: t).drop n ++ 10 :: b := List.drop_append_of_le_length n2
          have e3 : (c :: t ++ 10 :: b).take n = (c :: t).take n := List.take_append_of_le_length n2
          have hlen : ((c :: t).drop n).length + n = t.length + 1 := by rw [List.length_drop, List.length_cons]; simp only [List.length_cons] at n2; omega
          have ih := scT_two b j _ l1 J (by omega) (by rw [List.length_append, List.length_cons]; omega) (by omega) (by rw [List.length_append, List.length_cons]; omega) hr
          rw [scT_ok (skL_app (10 :: b) a false hk) (by simp) ht2]
          rw [e2, ih, e3]
          cases scT 400000 b with
          | error z => rfl
          | ok l' =>
            simp only [List.map_cons, List.cons_append, shf, List.length_append, List.length_cons]
            rw [show t.length + (b.length + 1) + 1 = t.length + 1 + (b.length + 1) by omega]
theorem core_wds (s s' : List UInt8) (n : Nat) (l : List (Nat × List UInt8 × Tk)) : (wds s (l.map (shf n))).map core = (wds s' l).map core := by
  simp only [wds, List.map_map]
  rfl
theorem core_wds' (s s' : List UInt8) (l : List (Nat × List UInt8 × Tk)) : (wds s l).map core = (wds s' l).map core := by
  simp only [wds, List.map_map]
  rfl
end Go.Vc
