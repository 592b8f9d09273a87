/-
  Words: the document's scanner is the plain one; the law WordsScans.
-/
import Derived.Test.YthkfffheppfieaaDE
set_option linter.unusedVariables false
set_option linter.unusedSimpArgs false
set_option maxHeartbeats 1000000
namespace Go.Vc
open Go
def tkW (x : Tk) : Word := ⟨x.kind, [], x.bytes, x.set, x.num, 0, 0, 0⟩
theorem word_ok {s r : List UInt8} {i : Nat} {c : UInt8} (hb : s.length ≤ 65536) (hD : D s i (c :: r)) : ∃ z, F.ref02.word 200000 s (i : Int) = some z ∧
    (match tok (c :: r) with
    | .error (o, e) => z.2.2 = ⟨(i : Int) + o, e⟩
    | .ok (x, n) => z.1 = tkW x ∧ z.2.1 = ((i + n : Nat) : Int) ∧ z.2.2.Code = 0) := by
  obtain ⟨d1, d2, d3, d4⟩ := D_cons hD
  have d5 := hD.2
  simp only [List.length_cons] at d5
  have hcl := c.toNat_lt
  have key : ∃ z, F.ref02.word_j1 200000 s (i : Int) (cls c.toNat : Int) (decide (cls c.toNat = 1 ∨ cls c.toNat = 2)) = some z ∧
    (match tok (c :: r) with
    | .error (o, e) => z.2.2 = ⟨(i : Int) + o, e⟩
    | .ok (x, n) => z.1 = tkW x ∧ z.2.1 = ((i + n : Nat) : Int) ∧ z.2.2.Code = 0) := by
    unfold F.ref02.word_j1
    by_cases hc : cls c.toNat = 1 ∨ cls c.toNat = 2
    · rw [decide_eq_true hc, if_pos rfl, Far_ok (by omega) (by omega) (by omega), Option.bind_some, hD.1]
      have hple := pl_le (c :: r)
      simp only [List.length_cons] at hple
      rw [wrap_i64 (n := ((i + pl (c :: r) : Nat) : Int) - (i : Int)) (by omega) (by omega)]
      by_cases h32 : 32 < pl (c :: r)
      · rw [if_pos (by rw [decide_eq_true_eq]; omega)]
        refine ⟨_, rfl, ?_⟩
        simp only [tok]
        rw [if_pos hc, if_pos h32]
        simp
      · have ht : tok (c :: r) = .ok (⟨(cls c.toNat : Int), [], noS, 0⟩, pl (c :: r)) := by
          simp only [tok]
          rw [if_pos hc, if_neg h32]
        rw [if_neg (by rw [decide_eq_true_eq]; omega), ht]
        exact ⟨_, rfl, rfl, rfl, rfl⟩
    rw [decide_eq_false hc, if_neg (by simp)]
    by_cases h3 : cls c.toNat = 3
    · rw [if_pos (by simp [h3]), refnumber_ok (by omega) hD, Option.bind_some]
      have ht : tok (c :: r) = (match numR 0 0 (c :: r) with
        | none => .error (0, 21)
        | some (m, n) => if c.toNat = 48 ∧ 1 < m then .error (0, 21) else .ok (⟨3, [], noS, n⟩, m)) := by
        simp only [tok]
        rw [if_neg hc, if_pos h3]
        rfl
      rw [ht]
      cases numR 0 0 (c :: r) with
      | none => exact ⟨_, rfl, by simp⟩
      | some p =>
        obtain ⟨m, n⟩ := p
        simp only
        by_cases h48 : c.toNat = 48 ∧ 1 < m
        · simp only [if_pos h48]
          exact ⟨_, rfl, by simp⟩
        · simp only [if_neg h48]
          exact ⟨_, rfl, rfl, rfl, rfl⟩
    rw [if_neg (by simp; omega), d2]
    by_cases h34 : c.toNat = 34
    · rw [if_pos (by simp [h34])]
      have ht : tok (c :: r) = (match quR 200000 r [] with
        | .error (none, _) => .error (0, 13)
        | .error (some m, e) => .error (((r.length + 1 - m : Nat) : Int), e)
        | .ok (o, r') => .ok (⟨4, o, noS, 0⟩, r.length + 1 - r'.length)) := by
        simp only [tok]
        rw [if_neg hc, if_neg h3, if_pos h34]
        rfl
      unfold F.ref02.Said
      obtain ⟨o, ho, hs⟩ := Said_l1_ok (s := s) (by omega) 200000 (i + 1) r [] d4 (by omega) (by simp; omega)
      rw [ix_inc (by omega), ho, Option.bind_some, ht]
      cases hq : quR 200000 r [] with
      | error p =>
        obtain ⟨m, e⟩ := p
        rw [hq] at hs
        cases m with
        | none =>
          obtain ⟨out, rfl⟩ := hs
          simp only [LR.fin]
          rw [if_pos (decide_eq_true (by omega))]
          exact ⟨_, rfl, by simp⟩
        | some m =>
          have h1 := quR_err _ _ _ _ _ hq
          have h2 := quR_m _ _ _ _ _ hq
          have hs' : o = _ := hs
          subst hs'
          simp only [LR.fin]
          refine ⟨_, rfl, ?_⟩
          simp only
          congr 1
          omega
      | ok p =>
        obtain ⟨out, r'⟩ := p
        obtain ⟨w, e1, e2, e3, e4⟩ := quR_some _ _ _ _ _ hq
        have hle : r'.length ≤ r.length := by rw [e1, List.length_append]; omega
        rw [hq] at hs
        obtain ⟨hlt, rfl⟩ := hs
        simp only [LR.fin]
        rw [if_neg (by simp; omega)]
        have hw : IntKind.wrap .i64 (((s.length - r'.length - 1 : Nat) : Int) + 1) = ((i + (r.length + 1 - r'.length) : Nat) : Int) := by rw [wrap_i64 (by omega) (by omega)]; omega
        rw [hw]
        exact ⟨_, rfl, rfl, rfl, rfl⟩
    rw [if_neg (by simp; omega)]
    by_cases h91 : c.toNat = 91
    · rw [if_pos (by simp [h91])]
      have ht : tok (c :: r) = (match brk r with
        | none => .error (0, 13)
        | some m => if (psP ((c :: r).take (m + 1))).2.Code ≠ 0 then .error ((psP ((c :: r).take (m + 1))).2.At, (psP ((c :: r).take (m + 1))).2.Code) else .ok (⟨5, [], (psP ((c :: r).take (m + 1))).1, 0⟩, m + 1)) := by
        simp only [tok]
        rw [if_neg hc, if_neg h3, if_neg h34, if_pos h91]
        rfl
      rw [closed_ok (by omega) hD, Option.bind_some, ht]
      cases hk : brk r with
      | none => exact ⟨_, rfl, by simp⟩
      | some m =>
        obtain ⟨b1, b2, b3⟩ := brk_some _ _ hk
        simp only
        have hle : m + 1 ≤ (c :: r).length := by simp; omega
        obtain ⟨g1, g2⟩ := D_subn hD hle
        rw [show i + (m + 1) = i + 1 + m by omega] at g1 g2
        rw [if_neg (by simp; omega), if_pos g1, g2]
        have hlen : ((c :: r).take (m + 1)).length = m + 1 := by rw [List.length_take]; omega
        obtain ⟨p1, p2⟩ := psP_ok (t := (c :: r).take (m + 1)) (by rw [hlen]; omega)
        rw [refParse_psP (by rw [hlen]; omega), Option.bind_some]
        generalize hp : psP ((c :: r).take (m + 1)) = p at *
        unfold F.ref02.word_j2
        by_cases hcode : p.2.Code = 0
        · rw [if_neg (by simpa using hcode)]
          simp only [hcode, ne_eq, not_true_eq_false, if_false]
          refine ⟨_, rfl, rfl, ?_, rfl⟩
          show ((i + 1 + m : Nat) : Int) = ((i + (m + 1) : Nat) : Int)
          congr 1
          omega
        · rw [if_pos (by simpa using hcode)]
          simp only [if_pos hcode, ne_eq, hcode, not_false_eq_true, if_true]
          refine ⟨_, rfl, ?_⟩
          rcases p2 with hf | hf
          · have hl := hf.2.2
            have hl0 := hf.2.1
            rw [hlen] at hl
            simp only
            rw [wrap_i64 (by omega) (by omega)]
            congr 1
            omega
          · exact absurd hf.1 hcode
    rw [if_neg (by simp; omega)]
    have hsl : sgs.length = 16 := rfl
    have h3l := word_l3_ok (s := s) (i := i) (c := c) d2 (by omega) 200000 0 (by omega) (by omega)
    rw [zero_cast, List.drop_zero] at h3l
    rw [h3l, Option.bind_some]
    by_cases hg : isSign c = true
    · have ht : tok (c :: r) = .ok (⟨6, [], noS, 0⟩, 1) := by
        simp only [tok]
        rw [if_neg hc, if_neg h3, if_neg h34, if_neg h91, if_pos hg]
      rw [if_pos ((sgs_sign c).2 hg), ht]
      exact ⟨_, rfl, rfl, rfl, rfl⟩
    · have ht : tok (c :: r) = .error (0, 11) := by
        simp only [tok]
        rw [if_neg hc, if_neg h3, if_neg h34, if_neg h91, if_neg hg]
      rw [if_neg (fun h => hg ((sgs_sign c).1 h)), ht]
      exact ⟨_, rfl, by simp⟩
  unfold F.ref02.word
  rw [if_pos d3, d2, class_ok, Option.bind_some]
  by_cases h1 : cls c.toNat = 1
  · rw [if_pos (by simp [h1])]
    rw [decide_eq_true (Or.inl h1)] at key
    exact key
  · rw [if_neg (by simp; omega)]
    have : decide (cls c.toNat = 1 ∨ cls c.toNat = 2) = ((cls c.toNat : Int) == 2) := by
      by_cases h2 : cls c.toNat = 2
      · rw [h2]; rfl
      · rw [decide_eq_false (by omega)]; symm; simp; omega
    rw [← this]
    exact key
/-! ### places -/
theorem Scan_l2_ok {s : List UInt8} {at_ : Nat} (hb : s.length < 100000) (ha : at_ ≤ s.length) : ∀ (j from_ : Nat), from_ ≤ at_ → at_ - from_ < j → F.ref02.Scan_l2 (at_ : Int) s j (lnN s from_ : Int) (topN s from_) (from_ : Int) = some ((lnN s at_ : Int), topN s at_, (at_ : Int))
  | 0, _, _, h => by omega
  | j + 1, f, hf, hj => by
    simp only [F.ref02.Scan_l2, F.ref02.Scan_j4, F.ref02.Scan_j3]
    by_cases hlt : f < at_
    · have hfs : f < s.length := by omega
      have hg : s[f]? = some s[f] := List.getElem?_eq_getElem hfs
      rw [if_pos (by rw [decide_eq_true_eq]; omega), ix_in hfs, if_pos rfl, sAt_get hfs, ix_inc (show f < 4611686018427387904 by omega)]
      by_cases h10 : s[f] = 10
      · obtain ⟨a, b⟩ := ln_end (t := s) (i := f) (by rw [hg, h10])
        have hln := lnN_le s f
        rw [if_pos (by rw [h10]; rfl), ix_inc (show lnN s f < 4611686018427387904 by omega), ← a]
        have := Scan_l2_ok hb ha j (f + 1) (by omega) (by omega)
        rw [b] at this
        exact this
      · obtain ⟨a, b⟩ := ln_one hg h10
        have hne : s[f].toNat ≠ 10 := fun h => h10 (UInt8.toNat_inj.1 h)
        rw [if_neg (by simp; omega), ← a, ← b]
        exact Scan_l2_ok hb ha j (f + 1) (by omega) (by omega)
    · have : f = at_ := by omega
      subst this
      rw [if_neg (by rw [decide_eq_true_eq]; omega)]
/-! ### all words -/
def rsO (s : List UInt8) (out : List Word) : Except (Nat × Int × Int) (List (Nat × List UInt8 × Tk)) → LR Unit (List Word × Fault)
  | .error (m, o, e) => .ret ([], ⟨((s.length - m : Nat) : Int) + o, e⟩)
  | .ok l => .ret (out ++ wds s l ++ [endW s], ⟨0, 0⟩)
theorem col_ok {s : List UInt8} {i : Nat} (hb : s.length < 100000) (hi : i ≤ s.length) : IntKind.wrap .i64 (IntKind.wrap .i64 ((i : Int) - topN s i) + 1) = (colN s i : Int) := by
  have hc := colN_le s i
  unfold topN
  rw [wrap_i64 (n := (i : Int) - _) (by omega) (by omega), wrap_i64 (by omega) (by omega)]
  omega
theorem refScan_l1_ok {s : List UInt8} (hb : s.length ≤ 65536) : ∀ (j f i : Nat) (r : List UInt8) (out : List Word), D s i r → f ≤ i → skL false r = r → r.length < j → out.length ≤ i → F.ref02.Scan_l1 200000 s j out (lnN s f : Int) (topN s f) (f : Int) (i : Int) = some (rsO s out (scT j r))
  | 0, _, _, _, _, _, _, _, h, _ => by omega
  | j + 1, f, i, r, out, hD, hf, hsk, hj, ho => by
    have d5 := hD.2
    simp only [F.ref02.Scan_l1]
    rw [Scan_l2_ok (by omega) (show i ≤ s.length by omega) 200000 f hf (by omega), Option.bind_some]
    simp only [col_ok (show s.length < 100000 by omega) (show i ≤ s.length by omega)]
    unfold scT
    rw [hsk]
    cases r with
    | nil =>
      have := D_nil hD
      subst this
      rw [if_pos (by rw [decide_eq_true_eq]; omega), if_pos (by rw [decide_eq_true_eq]; simp; omega), if_pos (by rw [decide_eq_true_eq]; simp; omega)]
      simp only [rsO, wds, List.map_nil, List.append_nil]
      rfl
    | cons c t =>
      simp only [List.length_cons] at d5 hj
      rw [if_neg (by rw [decide_eq_true_eq]; omega)]
      obtain ⟨z, hz, hm⟩ := word_ok hb hD
      rw [hz, Option.bind_some]
      simp only
      cases ht : tok (c :: t) with
      | error p =>
        obtain ⟨o, e⟩ := p
        rw [ht] at hm
        obtain ⟨he, _⟩ := tok_err (by simp only [List.length_cons]; omega) ht
        simp only at hm
        rw [hm]
        simp only
        rw [if_pos (by simpa using he)]
        simp only [rsO]
        rw [show s.length - (c :: t).length = i by simp only [List.length_cons]; omega]
      | ok p =>
        obtain ⟨x, n⟩ := p
        rw [ht] at hm
        obtain ⟨n1, n2, _⟩ := tok_ok (by simp only [List.length_cons]; omega) ht
        obtain ⟨z1, z2, z3⟩ := z
        obtain ⟨m1, m2, m3⟩ := hm
        simp only at m1 m2 m3
        subst m1 m2
        simp only
        obtain ⟨g1, g2⟩ := D_subn hD n2
        rw [if_neg (by simp [m3]), if_pos g1, if_pos (by rw [decide_eq_true_eq]; simp; omega), if_pos (by rw [decide_eq_true_eq]; simp; omega), g2]
        have hDn := D_drop hD n2
        rw [over_ok (by omega) hDn, Option.bind_some]
        have hle := skL_le ((c :: t).drop n) false
        rw [List.length_drop] at hle
        simp only [List.length_cons] at hle n2
        have hlast := skL_D hDn false
        have ih := refScan_l1_ok hb j i _ _ (out ++ [wd s i ((c :: t).take n) x]) hlast (by omega) (skL_idem _ _) (by omega) (by simp; omega)
        refine ih.trans ?_
        have hf : scT j (skL false ((c :: t).drop n)) = scT j ((c :: t).drop n) := by
          obtain ⟨j, rfl⟩ : ∃ j', j = j' + 1 := ⟨j - 1, by omega⟩
          unfold scT
          rw [skL_idem]
        rw [hf]
        cases scT j ((c :: t).drop n) with
        | error z => rfl
        | ok l =>
          simp only [rsO]
          rw [show wds s (((c :: t).length, (c :: t).take n, x) :: l) = wd s i ((c :: t).take n) x :: wds s l by
            simp only [wds, List.map_cons]
            rw [show s.length - (c :: t).length = i by simp only [List.length_cons]; omega]]
          simp
theorem refScan_ok {s : List UInt8} (hb : s.length ≤ 65536) : F.ref02.Scan 200000 s = some (match scT 200000 s with
    | .error (m, o, e) => ([], ⟨((s.length - m : Nat) : Int) + o, e⟩)
    | .ok l => (wds s l ++ [endW s], ⟨0, 0⟩)) := by
  unfold F.ref02.Scan
  rw [if_neg (by rw [decide_eq_true_eq]; omega)]
  have ho := over_ok (s := s) (by omega) (D_zero s)
  rw [zero_cast] at ho
  rw [ho, Option.bind_some]
  have hle := skL_le s false
  have h1 := refScan_l1_ok hb 200000 0 _ _ [] (skL_D (D_zero s) false) (by omega) (skL_idem _ _) (by omega) (by simp)
  have e1 : (lnN s 0 : Int) = 1 := by simp [lnN]
  have e2 : topN s 0 = 0 := by simp [topN, colN]
  rw [e1, e2, zero_cast] at h1
  rw [h1, Option.bind_some]
  have hf : scT 200000 (skL false s) = scT 200000 s := by
    show scT (199999 + 1) _ = scT (199999 + 1) _
    unfold scT
    rw [skL_idem]
  rw [hf]
  cases hs : scT 200000 s with
  | error z => rfl
  | ok l => simp [rsO, LR.fin]
theorem SameT_l1_ok {a : List Word} (hl : a.length < 1000000) : ∀ (j i : Nat), i ≤ a.length → a.length - i < j → F.ref02.SameWords_l1 a a true j (i : Int) = some (.done ())
  | 0, _, _, hj => by omega
  | j + 1, i, hi, hj => by
    simp only [F.ref02.SameWords_l1]
    by_cases h1 : i < a.length
    · rw [if_pos (by rw [decide_eq_true_eq]; omega), ix_in h1, if_pos rfl]
      simp only [F.ref02.SameWords_j3, F.ref02.SameWords_j4, F.ref02.SameWords_j5, F.ref02.SameWords_j2, ix_at h1]
      rw [ix_inc (by omega)]
      have ih := SameT_l1_ok hl j (i + 1) (by omega) (by omega)
      simp [S4_eq_self]
      exact ih
    · rw [if_neg (by rw [decide_eq_true_eq]; omega)]
theorem SameT_ok {a : List Word} (hl : a.length < 150000) : F.ref02.SameWords 200000 a a true = some true := by
  unfold F.ref02.SameWords
  rw [if_neg (by simp), show (0 : Int) = ((0 : Nat) : Int) from rfl, SameT_l1_ok (by omega) 200000 0 (by omega) (by omega)]
  rfl
theorem law_Scans (s : List UInt8) : F.law02.WordsScans 200000 s = some true := by
  unfold F.law02.WordsScans
  by_cases h1 : 65538 < s.length
  · rw [if_pos (by rw [decide_eq_true_eq]; omega), alive_K]
    rfl
  rw [if_neg (by rw [decide_eq_true_eq]; omega)]
  have hs : ∃ w f, F.words.Scan 200000 s = some (w, f) ∧ F.ref02.Scan 200000 s = some (w, f) ∧ w.length < 150000 := by
    by_cases h2 : 65536 < s.length
    · refine ⟨[], ⟨0, 2⟩, Scan_long h2, ?_, by simp⟩
      unfold F.ref02.Scan
      rw [if_pos (by rw [decide_eq_true_eq]; omega)]
    · refine ⟨_, _, Scan_ok (by omega), refScan_ok (by omega), ?_⟩
      cases hl : scT 200000 s with
      | error z => simp
      | ok l =>
        have := scT_len _ _ _ (by omega) hl
        simp [wds]
        omega
  obtain ⟨w, f, e1, e2, hw⟩ := hs
  rw [e1, e2]
  simp only [Option.bind_some]
  rw [SameT_ok hw]
  simp only [Option.bind_some, BEq.rfl, Bool.and_self, Bool.not_true, Bool.false_eq_true, if_false]
  rw [alive_K]
  rfl
end Go.Vc
