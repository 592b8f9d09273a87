/-
  Words: the program's scanner is the plain one.
-/
import Derived.Test.YtdbnoblklhgdoaaGreatDoorSSD
set_option linter.unusedVariables false
set_option linter.unusedSimpArgs false
namespace Go.Vc
open Go
theorem next_ok {s r : List UInt8} {out : List Word} {i : Nat} {c : UInt8} (hb : s.length ≤ 65536) (ho : out.length < 1000000) (hD : D s i (c :: r)) : ∃ z, F.words.scanner_next 400000 (stA s i out) = some z ∧
    (match tok (c :: r) with
    | .error (o, e) => z.1 = ⟨(i : Int) + o, e⟩
    | .ok (x, n) => z = (⟨0, 0⟩, stA s (i + n) (out ++ [wd s i ((c :: r).take n) x]))) := by
  obtain ⟨d1, d2, d3, d4⟩ := D_cons hD
  have d5 := hD.2
  simp only [List.length_cons] at d5
  have hcl := c.toNat_lt
  have w32 : IntKind.wrap .i32 (c.toNat : Int) = (c.toNat : Int) := wrap_i32 (by omega) (by omega)
  have hput : ∀ (x : Tk) (n : Nat), tok (c :: r) = .ok (x, n) → ∀ t a b d, F.words.scanner_put (stA s i out) ⟨x.kind, t, x.bytes, x.set, x.num, a, b, d⟩ ((i + n : Nat) : Int) = some (stA s (i + n) (out ++ [wd s i ((c :: r).take n) x])) := by
    intro x n h t a b d
    obtain ⟨h1, h2, h3, _⟩ := tok_ok (by simp only [List.length_cons]; omega) h
    have h2' := h2
    simp only [List.length_cons] at h2'
    exact put_ok (by omega) ho hD h2 x t a b d (ln_NF n (by omega) (D_NF hD h2 h3))
  have key : ∃ z, F.words.scanner_next_j1 400000 (stA s i out) (decide (cls c.toNat = 1 ∨ cls c.toNat = 2)) = some z ∧
    (match tok (c :: r) with
    | .error (o, e) => z.1 = ⟨(i : Int) + o, e⟩
    | .ok (x, n) => z = (⟨0, 0⟩, stA s (i + n) (out ++ [wd s i ((c :: r).take n) x]))) := by
    unfold F.words.scanner_next_j1
    by_cases hc : cls c.toNat = 1 ∨ cls c.toNat = 2
    · rw [decide_eq_true hc, if_pos rfl]
      have hcut : okSub (i : Int) (s.length : Int) s.length = true := by simp [okSub]; omega
      show ∃ z, (if okSub (i : Int) (s.length : Int) s.length = true then ((F.words.run 400000 (sub s (i : Int) (s.length : Int))).bind fun v => if decide (32 < v) = true then some (Fault.mk (i : Int) 20, stA s i out) else (F.words.great (IntKind.wrap .i32 (sAt s (i : Int)))).bind fun v1 => if v1 = true then F.words.scanner_next_j3 (stA s i out) v 1 else F.words.scanner_next_j3 (stA s i out) v 2) else none) = some z ∧ _
      rw [if_pos hcut, D_sub hD, run_ok (by simp only [List.length_cons]; omega) (by simp only [List.length_cons]; omega), Option.bind_some]
      have hple := pl_le (c :: r)
      simp only [List.length_cons] at hple
      by_cases h32 : 32 < pl (c :: r)
      · rw [if_pos (by rw [decide_eq_true_eq]; omega)]
        refine ⟨_, rfl, ?_⟩
        simp only [tok]
        rw [if_pos hc, if_pos h32]
        simp
      · have ht : tok (c :: r) = .ok (⟨(cls c.toNat : Int), [], noS, 0⟩, pl (c :: r)) := by
          simp only [tok]
          rw [if_pos hc, if_neg h32]
        rw [if_neg (by rw [decide_eq_true_eq]; omega), d2, w32, great_ok, Option.bind_some, ht]
        have hw : IntKind.wrap .i64 ((i : Int) + (pl (c :: r) : Int)) = ((i + pl (c :: r) : Nat) : Int) := by rw [wrap_i64 (by omega) (by omega)]; omega
        have hj : ∀ kind : Int, kind = (cls c.toNat : Int) → F.words.scanner_next_j3 (stA s i out) (pl (c :: r) : Int) kind = some (⟨0, 0⟩, stA s (i + pl (c :: r)) (out ++ [wd s i ((c :: r).take (pl (c :: r))) ⟨(cls c.toNat : Int), [], noS, 0⟩])) := by
          intro kind hk
          subst hk
          unfold F.words.scanner_next_j3
          show ((F.words.scanner_put (stA s i out) ⟨(cls c.toNat : Int), [], [], noS, 0, 0, 0, 0⟩ (IntKind.wrap .i64 ((i : Int) + (pl (c :: r) : Int)))).bind _) = _
          rw [hw, hput _ _ ht]
          rfl
        by_cases h1 : cls c.toNat = 1
        · rw [decide_eq_true h1, if_pos rfl, hj 1 (by omega)]
          exact ⟨_, rfl, rfl⟩
        · rw [decide_eq_false h1, if_neg (by simp), hj 2 (by omega)]
          exact ⟨_, rfl, rfl⟩
    rw [decide_eq_false hc, if_neg (by simp)]
    show ∃ z, ((F.words.digit (IntKind.wrap .i32 (sAt s (i : Int)))).bind fun v3 => if v3 = true then _ else (if (sAt s (i : Int) == 34) = true then ((F.words.quoted 400000 s (i : Int)).bind fun v6 => F.words.scanner_next_j5 (stA s i out) v6.1 v6.2.1 v6.2.2.At v6.2.2.Code) else (if (sAt s (i : Int) == 91) = true then ((F.words.bracketed 400000 s (i : Int)).bind fun v8 => F.words.scanner_next_j6 (stA s i out) v8.1 v8.2.1 v8.2.2.At v8.2.2.Code) else ((F.strings.IndexByte ([61, 124, 46, 59, 62, 63, 42, 43, 123, 125, 40, 41, 95, 47, 44, 45] : List UInt8) (sAt s (i : Int))).bind fun v9 => if decide (0 ≤ v9) = true then ((F.words.scanner_put (stA s i out) ⟨6, [], [], noS, 0, 0, 0, 0⟩ (IntKind.wrap .i64 ((i : Int) + 1))).bind fun v10 => F.words.scanner_next_j4 v10.text v10.at_ v10.line v10.top v10.out) else some (Fault.mk (i : Int) 11, stA s i out))))) = some z ∧ _
    rw [d2, w32, digit_ok, Option.bind_some]
    by_cases h3 : cls c.toNat = 3
    · rw [decide_eq_true h3, if_pos rfl, number_ok (by omega) ho hD]
      simp only [Option.bind_some]
      have ht : tok (c :: r) = (match numR 0 0 (c :: r) with
        | none => .error (0, 21)
        | some (m, n) => if c.toNat = 48 ∧ 1 < m then .error (0, 21) else .ok (⟨3, [], noS, n⟩, m)) := by
        simp only [tok]
        rw [if_neg hc, if_pos h3]
        rfl
      rw [ht]
      cases numR 0 0 (c :: r) with
      | none => exact ⟨_, rfl, by simp [stA]⟩
      | some p =>
        obtain ⟨m, n⟩ := p
        simp only
        by_cases h48 : c.toNat = 48 ∧ 1 < m
        · simp only [if_pos h48]
          exact ⟨_, rfl, by simp [stA]⟩
        · simp only [if_neg h48]
          exact ⟨_, rfl, rfl⟩
    rw [decide_eq_false h3, if_neg (by simp)]
    by_cases h34 : c.toNat = 34
    · rw [if_pos (by simp [h34])]
      have ht : tok (c :: r) = (match quR 400000 r [] with
        | .error (none, _) => .error (0, 13)
        | .error (some m, e) => .error (((r.length + 1 - m : Nat) : Int), e)
        | .ok (o, r') => .ok (⟨4, o, noS, 0⟩, r.length + 1 - r'.length)) := by
        simp only [tok]
        rw [if_neg hc, if_neg h3, if_pos h34]
        rfl
      unfold F.words.quoted
      rw [ix_inc (by omega), quoted_l1_ok (by omega) 400000 (i + 1) r [] d4 (by omega) (by simp; omega), Option.bind_some, ht]
      rw [ht] at hput
      cases hq : quR 400000 r [] with
      | error p =>
        obtain ⟨m, e⟩ := p
        cases m with
        | none => exact ⟨_, rfl, by simp⟩
        | some m =>
          have h1 := quR_err _ _ _ _ _ hq
          have h2 := quR_m _ _ _ _ _ hq
          simp only [qn, LR.fin, Option.bind_some]
          unfold F.words.scanner_next_j5
          rw [if_pos (by simp; omega)]
          refine ⟨_, rfl, ?_⟩
          simp only
          congr 1
          omega
      | ok p =>
        obtain ⟨o, r'⟩ := p
        obtain ⟨w, e1, e2, e3, e4⟩ := quR_some _ _ _ _ _ hq
        have hle : r'.length ≤ r.length := by rw [e1, List.length_append]; omega
        rw [hq] at hput
        simp only [qn, LR.fin, Option.bind_some]
        unfold F.words.scanner_next_j5
        rw [if_neg (by simp), show s.length - r'.length = i + (r.length + 1 - r'.length) by omega]
        have := hput _ _ rfl [] 0 0 0
        simp only at this
        rw [show (S4.mk 0 0 0 0) = noS from rfl, this]
        exact ⟨_, rfl, rfl⟩
    rw [if_neg (by simp; omega)]
    by_cases h91 : c.toNat = 91
    · rw [if_pos (by simp [h91])]
      have ht : tok (c :: r) = (match brk r with
        | none => .error (0, 13)
        | some m => if (psP ((c :: r).take (m + 1))).2.Code ≠ 0 then .error ((psP ((c :: r).take (m + 1))).2.At, (psP ((c :: r).take (m + 1))).2.Code) else .ok (⟨5, [], (psP ((c :: r).take (m + 1))).1, 0⟩, m + 1)) := by
        simp only [tok]
        rw [if_neg hc, if_neg h3, if_neg h34, if_pos h91]
        rfl
      unfold F.words.bracketed
      rw [ix_inc (by omega), bracketed_l1_ok hb hD 400000 (i + 1) r (by omega) d4 (by omega), Option.bind_some, ht]
      rw [ht] at hput
      cases hk : brk r with
      | none => exact ⟨_, rfl, by simp⟩
      | some m =>
        rw [hk] at hput
        simp only [bkO, LR.fin, Option.bind_some]
        rw [show i + 1 - i + m = m + 1 by omega, show i + 1 + m = i + (m + 1) by omega]
        simp only at hput
        generalize hp : psP ((c :: r).take (m + 1)) = p at *
        unfold F.words.scanner_next_j6
        by_cases hcode : p.2.Code ≠ 0
        · rw [if_pos (by simpa using hcode)]
          simp only [if_pos hcode]
          refine ⟨_, rfl, ?_⟩
          simp only
          congr 1
          omega
        · rw [if_neg (by simpa using hcode)]
          simp only [if_neg hcode]
          rw [if_neg hcode] at hput
          have := hput _ _ rfl [] 0 0 0
          simp only at this
          rw [this]
          exact ⟨_, rfl, rfl⟩
    rw [if_neg (by simp; omega)]
    unfold F.strings.IndexByte
    rw [Option.bind_some, show ((c.toNat : Int).toNat.toUInt8) = c by simp]
    have hs : decide (0 ≤ Lib.indexByte ([61, 124, 46, 59, 62, 63, 42, 43, 123, 125, 40, 41, 95, 47, 44, 45] : List UInt8) c) = isSign c := rfl
    rw [hs]
    by_cases hg : isSign c = true
    · have ht : tok (c :: r) = .ok (⟨6, [], noS, 0⟩, 1) := by
        simp only [tok]
        rw [if_neg hc, if_neg h3, if_neg h34, if_neg h91, if_pos hg]
      rw [if_pos hg, ix_inc (by omega)]
      have := hput _ _ ht [] 0 0 0
      simp only at this
      rw [this, ht]
      exact ⟨_, rfl, rfl⟩
    · have ht : tok (c :: r) = .error (0, 11) := by
        simp only [tok]
        rw [if_neg hc, if_neg h3, if_neg h34, if_neg h91, if_neg hg]
      rw [if_neg hg, ht]
      exact ⟨_, rfl, by simp⟩
  unfold F.words.scanner_next
  show ∃ z, (if inR (i : Int) s.length = true then ((F.words.great (IntKind.wrap .i32 (sAt s (i : Int)))).bind fun v11 => if v11 = true then F.words.scanner_next_j1 400000 (stA s i out) true else ((F.words.small (IntKind.wrap .i32 (sAt s (i : Int)))).bind fun v12 => F.words.scanner_next_j1 400000 (stA s i out) v12)) else none) = some z ∧ _
  rw [if_pos d3, d2, w32, great_ok, small_ok, Option.bind_some, Option.bind_some]
  by_cases h1 : cls c.toNat = 1
  · rw [decide_eq_true h1, if_pos rfl]
    rw [decide_eq_true (Or.inl h1)] at key
    exact key
  · rw [decide_eq_false h1, if_neg (by simp)]
    have : decide (cls c.toNat = 1 ∨ cls c.toNat = 2) = decide (cls c.toNat = 2) := by simp [h1]
    rw [this] at key
    exact key
def scT : Nat → List UInt8 → Except (Nat × Int × Int) (List (Nat × List UInt8 × Tk))
  | 0, _ => .ok []
  | j + 1, r => match skL false r with
    | [] => .ok []
    | c :: t => match tok (c :: t) with
      | .error (o, e) => .error ((c :: t).length, o, e)
      | .ok (x, n) => match scT j ((c :: t).drop n) with
        | .error z => .error z
        | .ok l => .ok (((c :: t).length, (c :: t).take n, x) :: l)
theorem skL_le (r : List UInt8) (b : Bool) : (skL b r).length ≤ r.length := by
  obtain ⟨w, h⟩ := skL_suf r b
  have := congrArg List.length h
  rw [List.length_append] at this
  omega
theorem skL_idem : ∀ (r : List UInt8) (b : Bool), skL false (skL b r) = skL b r
  | [], b => by simp [skL]
  | c :: r, false => by
    have e : skL false (c :: r) = if blank c.toNat then skL false r else if c.toNat = 35 then skL true r else c :: r := by rw [skL]
    by_cases h1 : blank c.toNat
    · rw [e, if_pos h1]; exact skL_idem r false
    by_cases h2 : c.toNat = 35
    · rw [e, if_neg h1, if_pos h2]; exact skL_idem r true
    · rw [e, if_neg h1, if_neg h2, e, if_neg h1, if_neg h2]
  | c :: r, true => by
    have e : skL true (c :: r) = if c.toNat = 10 then skL false r else skL true r := by rw [skL]
    by_cases h1 : c.toNat = 10
    · rw [e, if_pos h1]; exact skL_idem r false
    · rw [e, if_neg h1]; exact skL_idem r true
def wds (s : List UInt8) (l : List (Nat × List UInt8 × Tk)) : List Word := l.map fun p => wd s (s.length - p.1) p.2.1 p.2.2
def scO (s : List UInt8) (out : List Word) : Except (Nat × Int × Int) (List (Nat × List UInt8 × Tk)) → LR (List UInt8 × Int × Int × Int × List Word) (List Word × Fault)
  | .error (m, o, e) => .ret ([], ⟨((s.length - m : Nat) : Int) + o, e⟩)
  | .ok l => .done (s, (s.length : Int), (lnN s s.length : Int), topN s s.length, out ++ wds s l)
theorem Scan_l1_ok {s : List UInt8} (hb : s.length ≤ 65536) : ∀ (j i : Nat) (r : List UInt8) (out : List Word), D s i r → skL false r = r → r.length < j → out.length ≤ i → F.words.Scan_l1 400000 s j s (i : Int) (lnN s i : Int) (topN s i) out = some (scO s out (scT j r))
  | 0, _, _, _, _, _, h, _ => by omega
  | j + 1, i, r, out, hD, hsk, hj, ho => by
    have d5 := hD.2
    simp only [F.words.Scan_l1]
    unfold scT
    rw [hsk]
    cases r with
    | nil =>
      have := D_nil hD
      subst this
      rw [if_neg (by rw [decide_eq_true_eq]; omega)]
      simp [scO, wds]
    | cons c t =>
      simp only [List.length_cons] at d5 hj
      rw [if_pos (by rw [decide_eq_true_eq]; omega)]
      obtain ⟨z, hz, hm⟩ := next_ok hb (by omega) hD (out := out)
      show ((F.words.scanner_next 400000 (stA s i out)).bind _) = _
      rw [hz, Option.bind_some]
      simp only
      cases ht : tok (c :: t) with
      | error p =>
        obtain ⟨o, e⟩ := p
        rw [ht] at hm
        obtain ⟨he, _⟩ := tok_err (by simp only [List.length_cons]; omega) ht
        simp only at hm
        rw [hm]
        simp only
        rw [if_pos (by simpa using he)]
        simp only [scO]
        rw [show s.length - (c :: t).length = i by simp only [List.length_cons]; omega]
      | ok p =>
        obtain ⟨x, n⟩ := p
        rw [ht] at hm
        obtain ⟨n1, n2, _⟩ := tok_ok (by simp only [List.length_cons]; omega) ht
        simp only at hm
        subst hm
        simp only
        rw [if_neg (by simp)]
        have hDn := D_drop hD n2
        rw [skip_ok (by omega) hDn, Option.bind_some]
        have hle := skL_le ((c :: t).drop n) false
        rw [List.length_drop] at hle
        simp only [List.length_cons] at hle n2
        have hlast := skL_D hDn false
        have ih := Scan_l1_ok hb j _ _ (out ++ [wd s i ((c :: t).take n) x]) hlast (skL_idem _ _) (by omega) (by simp; omega)
        show F.words.Scan_l1 400000 s j s _ _ _ _ = _
        refine ih.trans ?_
        have hf : scT j (skL false ((c :: t).drop n)) = scT j ((c :: t).drop n) := by
          obtain ⟨j, rfl⟩ : ∃ j', j = j' + 1 := ⟨j - 1, by omega⟩
          unfold scT
          rw [skL_idem]
        rw [hf]
        cases scT j ((c :: t).drop n) with
        | error z => rfl
        | ok l =>
          simp only [scO]
          rw [show wds s (((c :: t).length, (c :: t).take n, x) :: l) = wd s i ((c :: t).take n) x :: wds s l by
            simp only [wds, List.map_cons]
            rw [show s.length - (c :: t).length = i by simp only [List.length_cons]; omega], List.append_assoc]
          rfl
def endW (s : List UInt8) : Word := wd s s.length [] ⟨7, [], noS, 0⟩
theorem scT_len : ∀ (j : Nat) (r : List UInt8) (l : List (Nat × List UInt8 × Tk)), r.length ≤ 65536 → scT j r = .ok l → l.length ≤ r.length
  | 0, _, _, _, h => by cases h; simp
  | j + 1, r, l, hl, h => by
    have hs := skL_le r false
    unfold scT at h
    cases hk : skL false r with
    | nil => rw [hk] at h; cases h; simp
    | cons c t =>
      rw [hk] at h hs
      simp only at h
      cases ht : tok (c :: t) with
      | error p => rw [ht] at h; cases h
      | ok p =>
        obtain ⟨x, n⟩ := p
        obtain ⟨n1, n2, _⟩ := tok_ok (by omega) ht
        rw [ht] at h
        simp only at h
        cases hr : scT j ((c :: t).drop n) with
        | error z => rw [hr] at h; cases h
        | ok l' =>
          rw [hr] at h
          cases h
          have := scT_len j _ l' (by rw [List.length_drop]; omega) hr
          rw [List.length_drop] at this
          simp only [List.length_cons] at *
          omega
theorem D_zero (s : List UInt8) : D s 0 s := ⟨rfl, by simp⟩
theorem Scan_ok {s : List UInt8} (hb : s.length ≤ 65536) : F.words.Scan 400000 s = some (match scT 400000 s with
    | .error (m, o, e) => ([], ⟨((s.length - m : Nat) : Int) + o, e⟩)
    | .ok l => (wds s l ++ [endW s], ⟨0, 0⟩)) := by
  unfold F.words.Scan
  rw [if_neg (by rw [decide_eq_true_eq]; omega)]
  have e0 : (Words_scanner.mk s 0 1 0 ([] : List Word)) = stA s 0 [] := by
    simp [stA, lnN, topN, colN]
  rw [e0, skip_ok (by omega) (D_zero s), Option.bind_some]
  have hle := skL_le s false
  have h1 := Scan_l1_ok hb 400000 _ _ [] (skL_D (D_zero s) false) (skL_idem _ _) (by omega) (by simp)
  simp only [stA]
  rw [h1, Option.bind_some]
  have hf : scT 400000 (skL false s) = scT 400000 s := by
    show scT (399999 + 1) _ = scT (399999 + 1) _
    unfold scT
    rw [skL_idem]
  rw [hf]
  cases hs : scT 400000 s with
  | error z => rfl
  | ok l =>
    have hlen := scT_len _ _ _ hb hs
    simp only [scO, LR.fin]
    have hp := put_ok (r := []) (i := s.length) (n := 0) (out := wds s l) (s := s) (by omega) (by simp [wds]; omega) ⟨by simp, by simp⟩ (by simp) ⟨7, [], noS, 0⟩ [] 0 0 0 ⟨rfl, rfl⟩
    show ((F.words.scanner_put (stA s s.length (wds s l)) ⟨7, [], [], noS, 0, 0, 0, 0⟩ ((s.length + 0 : Nat) : Int)).bind _) = _
    simp only at hp
    rw [hp]
    rfl
end Go.Vc
