/-
  Words: the law WordsTwo.
-/
import Derived.Test.YthkfffheppfieaaCE
set_option linter.unusedVariables false
set_option linter.unusedSimpArgs false
namespace Go.Vc
open Go
/-- what two words must have alike -/
def core (w : Word) : Int × List UInt8 × List Int × S4 × Int := (w.Kind, w.Text, w.Bytes, w.Set, w.N_)
theorem S4_eq_self (a : S4) : S4.eq a a = true := by simp [S4.eq]
theorem Same_l1_ok {a b : List Word} (h : a.map core = b.map core) (hl : a.length < 1000000) : ∀ (j i : Nat), i ≤ a.length → a.length - i < j → F.ref02.SameWords_l1 a b false j (i : Int) = some (.done ())
  | 0, _, _, hj => by omega
  | j + 1, i, hi, hj => by
    have hlen : a.length = b.length := by simpa using congrArg List.length h
    simp only [F.ref02.SameWords_l1]
    by_cases h1 : i < a.length
    · have h2 : i < b.length := by omega
      rw [if_pos (by rw [decide_eq_true_eq]; omega), ix_in h1, if_pos rfl, ix_in h2, if_pos rfl]
      have hc : core a[i] = core b[i] := by
        have e1 : (a.map core)[i]'(by simpa using h1) = core a[i] := by simp
        have e2 : (b.map core)[i]'(by simpa using h2) = core b[i] := by simp
        rw [← e1, ← e2]
        simp only [h]
      simp only [F.ref02.SameWords_j3, F.ref02.SameWords_j4, F.ref02.SameWords_j5, F.ref02.SameWords_j2, ix_at h1, ix_at h2]
      unfold core at hc
      simp only [Prod.mk.injEq] at hc
      obtain ⟨c1, c2, c3, c4, c5⟩ := hc
      rw [c1, c2, c3, c4, c5, ix_inc (by omega)]
      have ih := Same_l1_ok h hl j (i + 1) (by omega) (by omega)
      simp [S4_eq_self]
      exact ih
    · rw [if_neg (by rw [decide_eq_true_eq]; omega)]
theorem Same_ok {a b : List Word} (h : a.map core = b.map core) (hl : a.length < 150000) : F.ref02.SameWords 200000 a b false = some true := by
  have hlen : a.length = b.length := by simpa using congrArg List.length h
  unfold F.ref02.SameWords
  rw [if_neg (by simp [hlen]), show (0 : Int) = ((0 : Nat) : Int) from rfl, Same_l1_ok h (by omega) 200000 0 (by omega) (by omega)]
  rfl
theorem scT_err : ∀ (j : Nat) (r : List UInt8) (m : Nat) (o e : Int), r.length ≤ 65536 → scT j r = .error (m, o, e) → m ≤ r.length ∧ e ≠ 0 ∧ 0 ≤ o ∧ o ≤ m
  | 0, _, _, _, _, _, h => by cases h
  | j + 1, r, m, o, e, hl, h => by
    have hs := skL_le r false
    unfold scT at h
    cases hk : skL false r with
    | nil => rw [hk] at h; cases h
    | cons c t =>
      rw [hk] at h hs
      simp only at h
      cases ht : tok (c :: t) with
      | error p =>
        obtain ⟨o', e'⟩ := p
        rw [ht] at h
        cases h
        obtain ⟨h1, h2, h3⟩ := tok_err (by omega) ht
        exact ⟨hs, h1, h2, h3⟩
      | ok p =>
        obtain ⟨x, n⟩ := p
        obtain ⟨n1, n2, _⟩ := tok_ok (by omega) ht
        rw [ht] at h
        simp only at h
        cases hr : scT j ((c :: t).drop n) with
        | error z =>
          rw [hr] at h
          cases h
          have := scT_err j _ m o e (by rw [List.length_drop]; omega) hr
          rw [List.length_drop] at this
          exact ⟨by omega, this.2⟩
        | ok l' => rw [hr] at h; cases h
theorem skL_f (c : UInt8) (r : List UInt8) : skL false (c :: r) = if blank c.toNat then skL false r else if c.toNat = 35 then skL true r else c :: r := by rw [skL]
theorem skL_t (c : UInt8) (r : List UInt8) : skL true (c :: r) = if c.toNat = 10 then skL false r else skL true r := by rw [skL]
theorem skL_app {c : UInt8} {t : List UInt8} (z : List UInt8) : ∀ (a : List UInt8) (b : Bool), skL b a = c :: t → skL b (a ++ z) = c :: t ++ z
  | [], b, h => by simp [skL] at h
  | d :: a, false, h => by
    rw [List.cons_append, skL_f]
    rw [skL_f] at h
    by_cases h1 : blank d.toNat
    · rw [if_pos h1] at h ⊢; exact skL_app z a false h
    rw [if_neg h1] at h ⊢
    by_cases h2 : d.toNat = 35
    · rw [if_pos h2] at h ⊢; exact skL_app z a true h
    · rw [if_neg h2] at h ⊢
      rw [← List.cons_append, h]
  | d :: a, true, h => by
    rw [List.cons_append, skL_t]
    rw [skL_t] at h
    by_cases h1 : d.toNat = 10
    · rw [if_pos h1] at h ⊢; exact skL_app z a false h
    · rw [if_neg h1] at h ⊢; exact skL_app z a true h
theorem skL_end (z : List UInt8) : ∀ (a : List UInt8) (b : Bool), skL b a = [] → skL b (a ++ 10 :: z) = skL false z
  | [], false, _ => by rw [List.nil_append, skL_f, if_pos (.inl rfl)]
  | [], true, _ => by rw [List.nil_append, skL_t, if_pos (by decide)]
  | d :: a, false, h => by
    rw [List.cons_append, skL_f]
    rw [skL_f] at h
    by_cases h1 : blank d.toNat
    · rw [if_pos h1] at h ⊢; exact skL_end z a false h
    rw [if_neg h1] at h ⊢
    by_cases h2 : d.toNat = 35
    · rw [if_pos h2] at h ⊢; exact skL_end z a true h
    · rw [if_neg h2] at h; cases h
  | d :: a, true, h => by
    rw [List.cons_append, skL_t]
    rw [skL_t] at h
    by_cases h1 : d.toNat = 10
    · rw [if_pos h1] at h ⊢; exact skL_end z a false h
    · rw [if_neg h1] at h ⊢; exact skL_end z a true h
def shf (n : Nat) (p : Nat × List UInt8 × Tk) : Nat × List UInt8 × Tk := (p.1 + n, p.2)
theorem stop_app {k : Int} {r z : List UInt8} (h : stop k r) : stop k (r ++ 10 :: z) := by
  cases r with
  | nil =>
    refine ⟨fun _ => by decide, fun _ => by decide⟩
  | cons c r => exact h
theorem scT_ok {j : Nat} {r y : List UInt8} {x : Tk} {n : Nat} (hk : skL false r = y) (hy : y ≠ []) (ht : tok y = .ok (x, n)) : scT (j + 1) r = match scT j (y.drop n) with
    | .error z => .error z
    | .ok l => .ok ((y.length, y.take n, x) :: l) := by
  rw [scT, hk]
  cases y with
  | nil => exact absurd rfl hy
  | cons c t =>
    simp only
    rw [ht]
    simp only
    cases scT j (List.drop n (c :: t)) <;> rfl
theorem scT_two (b : List UInt8) : ∀ (j : Nat) (a : List UInt8) (l : List (Nat × List UInt8 × Tk)) (J : Nat), a.length < j → (a ++ 10 :: b).length < J → J ≤ 200000 → (a ++ 10 :: b).length ≤ 65536 → scT j a = .ok l → scT J (a ++ 10 :: b) = match scT 200000 b with
    | .ok l' => .ok (l.map (shf (b.length + 1)) ++ l')
    | .error z => .error z
  | 0, _, _, _, h, _, _, _, _ => by omega
  | j + 1, a, l, 0, _, h, _, _, _ => by omega
  | j + 1, a, l, J + 1, h1, h2, h3, h4, h => by
    have hs := skL_le a false
    unfold scT at h
    rw [List.length_append, List.length_cons] at h2 h4
    cases hk : skL false a with
    | nil =>
      rw [hk] at h
      cases h
      have e : scT (J + 1) (a ++ 10 :: b) = scT (J + 1) b := by
        unfold scT
        rw [skL_end b a false hk]
      rw [e, scT_fuel (J + 1) 200000 b (by omega) (by omega) (by omega)]
      cases scT 200000 b with
      | error z => rfl
      | ok l' => rfl
    | cons c t =>
      rw [hk] at h hs
      simp only at h
      simp only [List.length_cons] at hs
      cases ht : tok (c :: t) with
      | error p => rw [ht] at h; cases h
      | ok p =>
        obtain ⟨x, n⟩ := p
        obtain ⟨n1, n2, _, _, n5, n6, _⟩ := tok_ok (by simp only [List.length_cons]; omega) ht
        rw [ht] at h
        simp only at h
        cases hr : scT j ((c :: t).drop n) with
        | error z => rw [hr] at h; cases h
        | ok l1 =>
          rw [hr] at h
          cases h
          have e1 : c :: t ++ 10 :: b = (c :: t).take n ++ ((c :: t).drop n ++ 10 :: b) := by rw [← List.append_assoc, List.take_append_drop]
          have ht2 : tok (c :: t ++ 10 :: b) = .ok (x, n) := by rw [e1]; exact n6 _ (stop_app n5)
          have e2 : (c :: t ++ 10 :: b).drop n = (c :: t).drop n ++ 10 :: b := List.drop_append_of_le_length n2
          have e3 : (c :: t ++ 10 :: b).take n = (c :: t).take n := List.take_append_of_le_length n2
          have hlen : ((c :: t).drop n).length + n = t.length + 1 := by rw [List.length_drop, List.length_cons]; simp only [List.length_cons] at n2; omega
          have ih := scT_two b j _ l1 J (by omega) (by rw [List.length_append, List.length_cons]; omega) (by omega) (by rw [List.length_append, List.length_cons]; omega) hr
          rw [scT_ok (skL_app (10 :: b) a false hk) (by simp) ht2]
          rw [e2, ih, e3]
          cases scT 200000 b with
          | error z => rfl
          | ok l' =>
            simp only [List.map_cons, List.cons_append, shf, List.length_append, List.length_cons]
            rw [show t.length + (b.length + 1) + 1 = t.length + 1 + (b.length + 1) by omega]
theorem core_wds (s s' : List UInt8) (n : Nat) (l : List (Nat × List UInt8 × Tk)) : (wds s (l.map (shf n))).map core = (wds s' l).map core := by
  simp only [wds, List.map_map]
  rfl
theorem core_wds' (s s' : List UInt8) (l : List (Nat × List UInt8 × Tk)) : (wds s l).map core = (wds s' l).map core := by
  simp only [wds, List.map_map]
  rfl
theorem Scan_long {s : List UInt8} (h : 65536 < s.length) : F.words.Scan 200000 s = some ([], ⟨0, 2⟩) := by
  unfold F.words.Scan
  rw [if_pos (by rw [decide_eq_true_eq]; omega)]
theorem law_Two {a b : List UInt8} (ha : a.length ≤ 140737488351232) (hb : b.length ≤ 140737488351232) : F.law02.WordsTwo 200000 a b = some true := by
  unfold F.law02.WordsTwo
  rw [wrap_i64 (by omega) (by omega)]
  by_cases h : 30000 < a.length + b.length
  · rw [if_pos (by rw [decide_eq_true_eq]; omega), alive_K]; rfl
  rw [if_neg (by rw [decide_eq_true_eq]; omega), Scan_ok (by omega), Scan_ok (by omega), Option.bind_some, Option.bind_some]
  cases h1 : scT 200000 a with
  | error z =>
    obtain ⟨m, o, e⟩ := z
    obtain ⟨_, g2, _⟩ := scT_err _ _ _ _ _ (by omega) h1
    simp only
    rw [if_pos (by simpa using g2)]
    unfold F.law02.WordsTwo_j1
    rw [if_pos rfl, alive_K, Option.bind_some, if_pos rfl]
    simpa using g2
  | ok l =>
    have hl := scT_len _ _ _ (by omega) h1
    simp only
    rw [if_neg (by simp)]
    unfold F.law02.WordsTwo_j1
    have htwo := scT_two b 200000 a l 200000 (by omega) (by simp; omega) (by omega) (by simp; omega) h1
    rw [if_neg (by simp; omega), if_pos (by simp; omega), if_pos (by simp; omega), show a ++ [10] ++ b = a ++ 10 :: b by simp, Scan_ok (by simp; omega), Option.bind_some, htwo]
    cases h2 : scT 200000 b with
    | error z =>
      obtain ⟨m, o, e⟩ := z
      obtain ⟨g1, g2, g3, g4⟩ := scT_err _ _ _ _ _ (by omega) h2
      simp only
      rw [if_pos (by simpa using g2), alive_K, Option.bind_some, if_pos rfl, if_pos (by simp)]
      have e1 : (a ++ 10 :: b).length = a.length + 1 + b.length := by simp; omega
      rw [wrap_i64 (n := ((b.length - m : Nat) : Int) + o + (a.length : Int)) (by omega) (by omega), wrap_i64 (by omega) (by omega), e1]
      congr 1
      rw [beq_iff_eq]
      omega
    | ok l' =>
      have hl' := scT_len _ _ _ (by omega) h2
      simp only
      have el : (wds a l ++ [endW a]).length = l.length + 1 := by simp [wds]
      have ew : IntKind.wrap .i64 (((wds a l ++ [endW a]).length : Int) - 1) = ((l.length : Nat) : Int) := by rw [el, wrap_i64 (by omega) (by omega)]; omega
      have hsub : sub (wds a l ++ [endW a]) 0 ((l.length : Nat) : Int) = wds a l := by
        unfold sub
        simp only [Int.toNat_natCast, Int.toNat_zero, List.drop_zero, Nat.sub_zero]
        rw [List.take_left' (by simp [wds])]
      have wl : (wds a l).length = l.length := by simp [wds]
      have wl' : (wds b l' ++ [endW b]).length = l'.length + 1 := by simp [wds]
      rw [if_neg (by simp), ew, if_pos (by rw [okSub_iff, el]; omega), hsub, List.nil_append, List.length_nil, wl, wl', if_pos (by rw [decide_eq_true_eq]; omega), if_pos (by rw [decide_eq_true_eq]; omega), if_pos (by rw [decide_eq_true_eq]; omega), if_pos (by rw [decide_eq_true_eq]; omega), alive_K, Option.bind_some, if_pos rfl, if_pos (by decide)]
      rw [Same_ok (a := wds (a ++ 10 :: b) (l.map (shf (b.length + 1)) ++ l') ++ [endW (a ++ 10 :: b)])]
      · rfl
      · have e5 : wds (a ++ 10 :: b) (l.map (shf (b.length + 1)) ++ l') = wds (a ++ 10 :: b) (l.map (shf (b.length + 1))) ++ wds (a ++ 10 :: b) l' := by simp [wds]
        rw [e5, List.map_append, List.map_append, List.map_append, List.map_append, core_wds (a ++ 10 :: b) a, core_wds' (a ++ 10 :: b) b, List.append_assoc]
        rfl
      · simp [wds]; omega
end Go.Vc
