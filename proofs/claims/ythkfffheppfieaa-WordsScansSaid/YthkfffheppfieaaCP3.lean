/-
  A set's text read: both parsers are one.
-/
import Derived.Test.YthkfffheppfieaaCP2
set_option linter.unusedVariables false
set_option linter.unusedSimpArgs false
set_option maxHeartbeats 1000000
namespace Go.Vc.Cp
open Go Go.Vc
inductive ItemR where
  | err (a c : Nat)
  | ok (lo hi next : Nat)
def itemS (t : List UInt8) (i : Nat) : ItemR :=
  let o := oneS (t.drop i)
  if o.2.2 ≠ 0 then .err i o.2.2 else
  if t[i + o.2.1]? = some 45 then
    let p := oneS (t.drop (i + o.2.1 + 1))
    if p.2.2 ≠ 0 then .err (i + o.2.1 + 1) p.2.2 else if p.1 < o.1 then .err i 10 else .ok o.1 p.1 (i + o.2.1 + 1 + p.2.1)
  else .ok o.1 o.1 (i + o.2.1)
def rngS (s : S4) (lo hi : Nat) : S4 := ofP fun x => bit s x || (decide (lo ≤ x) && decide (x ≤ hi))
theorem okS_rng (s : S4) (lo hi : Nat) : okS (rngS s lo hi) := okS_ofP _
def parseL (t : List UInt8) : Nat → Nat → S4 → Option (LR (Nat × S4) Fault)
  | 0, _, _ => none
  | j + 1, i, s => if t[i]? = some 93 then some (.done (i, s)) else match itemS t i with
    | .err a c => some (.ret ⟨(a : Int), (c : Int)⟩)
    | .ok lo hi nx => parseL t j nx (rngS s lo hi)
theorem byte_eq {t : List UInt8} {i : Nat} (hi : i < t.length) (m : UInt8) : (sAt t (i : Int) == (m.toNat : Int)) = decide (t[i]? = some m) := by
  unfold sAt
  rw [Int.toNat_natCast, List.getD_eq_getElem?_getD, List.getElem?_eq_getElem hi]
  rw [Bool.eq_iff_iff]
  simp only [Option.getD_some, beq_iff_eq, decide_eq_true_eq, Option.some.injEq]
  constructor
  · intro h
    apply UInt8.toNat_inj.1
    omega
  · intro h; rw [h]
theorem itemS_spec {t : List UInt8} {i lo hi nx : Nat} (h : itemS t i = .ok lo hi nx) (hi' : i ≤ t.length) : lo ≤ hi ∧ hi < 256 ∧ i < nx ∧ nx ≤ t.length := by
  unfold itemS at h
  have h1 := oneS_spec (t.drop i)
  simp only at h
  split at h
  · cases h
  rename_i e1
  have h1' := h1.2 (by simpa using e1)
  rw [List.length_drop] at h1'
  split at h
  · have h2 := oneS_spec (t.drop (i + (oneS (t.drop i)).2.1 + 1))
    split at h
    · cases h
    rename_i e2
    split at h
    · cases h
    rename_i g e3
    have h2' := h2.2 (by simpa using e2)
    rw [List.length_drop] at h2'
    simp only [ItemR.ok.injEq] at h
    obtain ⟨rfl, rfl, rfl⟩ := h
    omega
  · simp only [ItemR.ok.injEq] at h
    obtain ⟨rfl, rfl, rfl⟩ := h
    omega
theorem rangeR_nat {lo hi : Nat} (h1 : lo ≤ hi) (h2 : hi < 256) : rangeR (lo : Int) (hi : Int) = (ofP fun x => decide (lo ≤ x) && decide (x ≤ hi), 0) := by
  unfold rangeR
  rw [if_neg (by omega), if_neg (by omega), if_neg (by omega)]
  refine congrArg (fun z => (z, (0 : Int))) (ofP_congr (fun x _ => ?_))
  rw [Bool.eq_iff_iff]
  simp
theorem rangeR_bad {lo hi : Nat} (h1 : hi < lo) (h2 : lo < 256) : rangeR (lo : Int) (hi : Int) = (S4.mk 0 0 0 0, 10) := by
  unfold rangeR
  rw [if_neg (by omega), if_neg (by omega), if_pos (by omega)]
def itemO (t : List UInt8) (i : Nat) (rd : Charset_reader) : S4 × Fault × Charset_reader := match itemS t i with
  | .err a c => (S4.mk 0 0 0 0, ⟨(a : Int), (c : Int)⟩, rd)
  | .ok lo hi nx => (ofP fun x => decide (lo ≤ x) && decide (x ≤ hi), ⟨0, 0⟩, ⟨t, (nx : Int)⟩)
theorem item_ok {t : List UInt8} (ht : t.length < 90000) {k : Nat} (hk : 300 ≤ k) {i : Nat} (hi : i ≤ t.length) : ∃ rd, F.charset.reader_item k ⟨t, (i : Int)⟩ = some (itemO t i rd) := by
  obtain ⟨rd, hc⟩ := char_ok (t := t) (by omega) hi
  unfold F.charset.reader_item
  rw [hc, Option.bind_some]
  have h1 := oneS_spec (t.drop i)
  unfold charR itemO itemS
  generalize hog : oneS (t.drop i) = o at *
  by_cases he : o.2.2 = 0
  · have h1' := h1.2 he
    rw [List.length_drop] at h1'
    rw [if_pos he]
    simp only [he]
    rw [if_neg (show ¬ ((0 : Int) != 0) = true by decide), if_neg (show ¬ ((0 : Nat) ≠ 0) by decide)]
    have j2 : ∀ (hi' : Nat) (a c : Int) (nx : Nat) (g : Int × Fault × Charset_reader), g.1 = (o.1 : Int) → hi' < 256 → F.charset.reader_item_j2 k g ⟨t, (i : Int)⟩ (hi' : Int) t (nx : Int) a c =
        some (if hi' < o.1 then (S4.mk 0 0 0 0, ⟨(i : Int), 10⟩, ⟨t, (nx : Int)⟩) else (ofP fun x => decide (o.1 ≤ x) && decide (x ≤ hi'), ⟨0, 0⟩, ⟨t, (nx : Int)⟩)) := by
      intro hi' a c nx g hg hlt
      unfold F.charset.reader_item_j2
      rw [hg, Range_ok hk, Option.bind_some]
      by_cases hb : hi' < o.1
      · rw [rangeR_bad hb h1.1, if_pos hb]; rfl
      · rw [rangeR_nat (by omega) hlt, if_neg hb]; rfl
    by_cases hn : i + o.2.1 < t.length
    · rw [if_pos (by rw [decide_eq_true_eq]; omega), if_pos (by rw [inR_iff]; omega)]
      have hb := byte_eq hn 45
      have hb' : (sAt t ((i + o.2.1 : Nat) : Int) == 45) = decide (t[i + o.2.1]? = some 45) := hb
      rw [hb']
      unfold F.charset.reader_item_j1
      by_cases h45 : t[i + o.2.1]? = some 45
      · rw [if_pos (by simpa using h45), if_pos h45]
        have w1 : IntKind.wrap .i64 (((i + o.2.1 : Nat) : Int) + 1) = ((i + o.2.1 + 1 : Nat) : Int) := wrap_succ (by omega)
        obtain ⟨rd2, hc2⟩ := char_ok (t := t) (by omega) (i := i + o.2.1 + 1) (by omega)
        rw [w1, hc2, Option.bind_some]
        have h2 := oneS_spec (t.drop (i + o.2.1 + 1))
        unfold charR
        generalize oneS (t.drop (i + o.2.1 + 1)) = p at *
        by_cases he2 : p.2.2 = 0
        · rw [if_pos he2]
          simp only [he2]
          rw [if_neg (show ¬ ((0 : Int) != 0) = true by decide), if_neg (show ¬ ((0 : Nat) ≠ 0) by decide), j2 p.1 _ _ _ _ rfl h2.1]
          by_cases hb : p.1 < o.1
          · rw [if_pos hb, if_pos hb]; exact ⟨⟨t, _⟩, rfl⟩
          · rw [if_neg hb, if_neg hb]; exact ⟨rd, rfl⟩
        · rw [if_neg he2]
          simp only
          rw [if_pos (by simp; omega), if_pos he2]
          exact ⟨rd2, rfl⟩
      · rw [if_neg (by simpa using h45), if_neg h45, j2 o.1 _ _ _ _ rfl h1.1, if_neg (by omega)]
        exact ⟨rd, rfl⟩
    · rw [if_neg (by rw [decide_eq_true_eq]; omega)]
      have h45 : ¬ t[i + o.2.1]? = some 45 := by rw [List.getElem?_eq_none (by omega)]; simp
      unfold F.charset.reader_item_j1
      rw [if_neg (by simp), if_neg h45, j2 o.1 _ _ _ _ rfl h1.1, if_neg (by omega)]
      exact ⟨rd, rfl⟩
  · rw [if_neg he]
    simp only
    rw [if_pos (by simp; omega), if_pos he]
    exact ⟨rd, rfl⟩
def liftA (t : List UInt8) : LR (Nat × S4) Fault → LR (S4 × List UInt8 × Int) (S4 × Fault)
  | .done x => .done (x.2, t, (x.1 : Int))
  | .ret f => .ret (S4.mk 0 0 0 0, f)
def liftB : LR (Nat × S4) Fault → LR (Int × S4) (S4 × Fault)
  | .done x => .done ((x.1 : Int), x.2)
  | .ret f => .ret (S4.mk 0 0 0 0, f)
theorem itemS_err {t : List UInt8} {i a c : Nat} (h : itemS t i = .err a c) : c ≠ 0 := by
  unfold itemS at h
  simp only at h
  split at h
  · rename_i e; simp only [ItemR.err.injEq] at h; rw [← h.2]; exact e
  split at h
  · split at h
    · rename_i e; simp only [ItemR.err.injEq] at h; rw [← h.2]; exact e
    split at h
    · simp only [ItemR.err.injEq] at h; omega
    · cases h
  · cases h
theorem Parse_l4_ok {t : List UInt8} (ht : t.length < 90000) {k : Nat} (hk : 300 ≤ k) : ∀ (j i : Nat) (s : S4), i ≤ t.length → okS s → F.charset.Parse_l4 k t j s t (i : Int) = (parseL t j i s).map (liftA t)
  | 0, _, _, _, _ => rfl
  | j + 1, i, s, hi, hs => by
    have step : F.charset.Parse_j5 k t (i : Int) s (F.charset.Parse_l4 k t j) true = ((match itemS t i with
        | .err a c => some (.ret ⟨(a : Int), (c : Int)⟩)
        | .ok lo hi nx => parseL t j nx (rngS s lo hi) : Option (LR (Nat × S4) Fault))).map (liftA t) := by
      obtain ⟨rd, hit⟩ := item_ok ht hk hi
      unfold F.charset.Parse_j5
      rw [if_pos rfl, hit, Option.bind_some]
      unfold itemO
      cases h : itemS t i with
      | err a c =>
        have := itemS_err h
        simp only
        rw [if_pos (by simp; omega)]
        rfl
      | ok lo hi' nx =>
        have hsp := itemS_spec h hi
        simp only
        rw [if_neg (by decide), Union_ok hs (okS_ofP _) (by omega), Option.bind_some]
        have e : (ofP fun i => bit s i || bit (ofP fun x => decide (lo ≤ x) && decide (x ≤ hi')) i) = rngS s lo hi' := ofP_congr (fun x hx => by rw [bit_ofP _ hx])
        rw [e, Parse_l4_ok ht hk j nx _ (by omega) (okS_rng _ _ _)]
    simp only [F.charset.Parse_l4, parseL]
    by_cases h0 : i = t.length
    · rw [if_pos (by rw [decide_eq_true_eq]; omega), step, if_neg (by rw [List.getElem?_eq_none (by omega)]; simp)]
    · rw [if_neg (by rw [decide_eq_true_eq]; omega), if_pos (by rw [inR_iff]; omega)]
      have hb := byte_eq (t := t) (i := i) (by omega) 93
      have hb' : (sAt t (i : Int) == 93) = decide (t[i]? = some 93) := hb
      by_cases h93 : t[i]? = some 93
      · rw [if_pos h93, bne, hb']
        simp only [h93, decide_true, Bool.not_true, F.charset.Parse_j5]
        rfl
      · rw [if_neg h93, bne, hb']
        simp only [h93, decide_false, Bool.not_false]
        exact step
theorem Parse_l9_ok {h k : Nat} (hh : h < 256) (hk : 100 ≤ k) (d : Nat) : ∀ (j i : Nat) (s : S4), okS s → i + d = h + 1 → d < j → ∃ a, F.ref01.Parse_l9 k (h : Int) j (i : Int) s = some (a, rngS s i h) := by
  induction d with
  | zero =>
    intro j i s hs hi hj
    cases j with
    | zero => omega
    | succ j =>
      simp only [F.ref01.Parse_l9]
      rw [if_neg (by rw [decide_eq_true_eq]; omega)]
      refine ⟨_, congrArg (fun z => some (_, z)) (eq_ofP hs (fun x _ => ?_))⟩
      have : (decide (i ≤ x) && decide (x ≤ h)) = false := by simp; omega
      rw [this, Bool.or_false]
  | succ d ih =>
    intro j i s hs hi hj
    cases j with
    | zero => omega
    | succ j =>
      have hi2 : i < 256 := by omega
      simp only [F.ref01.Parse_l9]
      rw [if_pos (by rw [decide_eq_true_eq]; omega), With_ok hs hi2 hk, Option.bind_some, wrap_succ (by omega)]
      obtain ⟨a, hx⟩ := ih j (i + 1) _ (okS_ofP fun x => bit s x || x == i) (by omega) (by omega)
      refine ⟨a, ?_⟩
      rw [hx]
      refine congrArg (fun z => some (a, z)) (ofP_congr (fun x hx => ?_))
      rw [bit_ofP _ hx]
      cases bit s x with
      | true => rfl
      | false =>
        rw [Bool.eq_iff_iff]
        simp
        omega
theorem refParse_l4_ok {t : List UInt8} (ht : t.length < 90000) {k : Nat} (hk : 300 ≤ k) : ∀ (j i : Nat) (s : S4), i ≤ t.length → okS s → F.ref01.Parse_l4 k t j (i : Int) s = (parseL t j i s).map liftB
  | 0, _, _, _, _ => rfl
  | j + 1, i, s, hi, hs => by
    have step : F.ref01.Parse_j5 k t (i : Int) s (F.ref01.Parse_l4 k t j) true = ((match itemS t i with
        | .err a c => some (.ret ⟨(a : Int), (c : Int)⟩)
        | .ok lo hi nx => parseL t j nx (rngS s lo hi) : Option (LR (Nat × S4) Fault))).map liftB := by
      unfold F.ref01.Parse_j5
      rw [if_pos rfl, one_ok hk (by omega) hi, Option.bind_some]
      have h1 := oneS_spec (t.drop i)
      unfold itemS
      generalize hog : oneS (t.drop i) = o at *
      simp only [i3]
      by_cases he : o.2.2 = 0
      · have h1' := h1.2 he
        rw [List.length_drop] at h1'
        simp only [he]
        rw [if_neg (show ¬ (((0 : Nat) : Int) != 0) = true by decide)]
        rw [if_neg (show ¬ ((0 : Nat) ≠ 0) by decide)]
        have j8 : ∀ (hi' nx : Nat), hi' < 256 → nx ≤ t.length → F.ref01.Parse_j8 k ((o.1 : Int), (o.2.1 : Int), 0) (i : Int) s (F.ref01.Parse_l4 k t j) (hi' : Int) (nx : Int) =
            ((match (if hi' < o.1 then ItemR.err i 10 else ItemR.ok o.1 hi' nx) with
              | .err a c => some (.ret ⟨(a : Int), (c : Int)⟩)
              | .ok lo hi nx => parseL t j nx (rngS s lo hi) : Option (LR (Nat × S4) Fault))).map liftB := by
          intro hi' nx hlt hnx
          unfold F.ref01.Parse_j8
          by_cases hb : hi' < o.1
          · rw [if_pos (by rw [decide_eq_true_eq]; simp only; omega), if_pos hb]; rfl
          · rw [if_neg (by rw [decide_eq_true_eq]; simp only; omega), if_neg hb]
            obtain ⟨a, hx⟩ := Parse_l9_ok hlt (by omega : 100 ≤ k) (hi' + 1 - o.1) k o.1 s hs (by omega) (by omega)
            simp only [hx, Option.bind_some, F.ref01.Parse_j6]
            rw [refParse_l4_ok ht hk j nx _ hnx (okS_rng _ _ _)]
        have w0 : IntKind.wrap .i64 ((i : Int) + (o.2.1 : Int)) = ((i + o.2.1 : Nat) : Int) := by rw [wrap_i64 (by omega) (by omega)]; rfl
        have w1 : IntKind.wrap .i64 (((i + o.2.1 : Nat) : Int) + 1) = ((i + o.2.1 + 1 : Nat) : Int) := wrap_succ (by omega)
        simp only [w0]
        by_cases hn : i + o.2.1 < t.length
        · rw [if_pos (by rw [decide_eq_true_eq]; omega), if_pos (by rw [inR_iff]; omega)]
          have hb := byte_eq hn 45
          have hb' : (sAt t ((i + o.2.1 : Nat) : Int) == 45) = decide (t[i + o.2.1]? = some 45) := hb
          rw [hb']
          unfold F.ref01.Parse_j7
          simp only [w0, w1]
          by_cases h45 : t[i + o.2.1]? = some 45
          · rw [if_pos (by simpa using h45)]
            rw [if_pos h45]
            rw [one_ok hk (by omega) (by omega : i + o.2.1 + 1 ≤ t.length), Option.bind_some]
            have h2 := oneS_spec (t.drop (i + o.2.1 + 1))
            generalize oneS (t.drop (i + o.2.1 + 1)) = p at *
            simp only [i3]
            by_cases he2 : p.2.2 = 0
            · have h2' := h2.2 he2
              rw [List.length_drop] at h2'
              have w2 : IntKind.wrap .i64 (((i + o.2.1 + 1 : Nat) : Int) + (p.2.1 : Int)) = ((i + o.2.1 + 1 + p.2.1 : Nat) : Int) := by rw [wrap_i64 (by omega) (by omega)]; rfl
              simp only [he2]
              rw [if_neg (show ¬ (((0 : Nat) : Int) != 0) = true by decide), if_neg (show ¬ ((0 : Nat) ≠ 0) by decide), w2]
              exact j8 p.1 _ h2.1 (by omega)
            · have hne : ((p.2.2 : Int) != 0) = true := by simp; omega
              rw [if_pos he2]
              simp only [hne, if_true]
              rfl
          · rw [if_neg (by simpa using h45), if_neg h45]
            have := j8 o.1 (i + o.2.1) h1.1 (by omega)
            rw [if_neg (by omega)] at this
            exact this
        · rw [if_neg (by rw [decide_eq_true_eq]; omega)]
          have h45 : ¬ t[i + o.2.1]? = some 45 := by rw [List.getElem?_eq_none (by omega)]; simp
          unfold F.ref01.Parse_j7
          simp only [w0]
          rw [if_neg (by simp), if_neg h45]
          have := j8 o.1 (i + o.2.1) h1.1 (by omega)
          rw [if_neg (by omega)] at this
          exact this
      · have hne : ((o.2.2 : Int) != 0) = true := by simp; omega
        rw [if_pos he]
        simp only [hne, if_true]
        rfl
    simp only [F.ref01.Parse_l4, parseL]
    by_cases h0 : i = t.length
    · rw [if_pos (by rw [decide_eq_true_eq]; omega), step, if_neg (by rw [List.getElem?_eq_none (by omega)]; simp)]
    · rw [if_neg (by rw [decide_eq_true_eq]; omega), if_pos (by rw [inR_iff]; omega)]
      have hb := byte_eq (t := t) (i := i) (by omega) 93
      have hb' : (sAt t (i : Int) == 93) = decide (t[i]? = some 93) := hb
      by_cases h93 : t[i]? = some 93
      · rw [if_pos h93, bne, hb']
        simp only [h93, decide_true, Bool.not_true, F.ref01.Parse_j5]
        rfl
      · rw [if_neg h93, bne, hb']
        simp only [h93, decide_false, Bool.not_false]
        exact step
theorem parseL_some {t : List UInt8} : ∀ (d j i : Nat) (s : S4), t.length ≤ i + d → i ≤ t.length → d < j → okS s → ∃ r, parseL t j i s = some r ∧ ∀ n u, r = .done (n, u) → n < t.length ∧ okS u := by
  intro d
  induction d using Nat.strongRecOn with
  | _ d ih =>
    intro j i s hd hi hj hs
    cases j with
    | zero => omega
    | succ j =>
      simp only [parseL]
      split
      · rename_i h
        refine ⟨_, rfl, fun n u hx => ?_⟩
        simp only [LR.done.injEq, Prod.mk.injEq] at hx
        obtain ⟨rfl, rfl⟩ := hx
        exact ⟨(List.getElem?_eq_some_iff.1 h).1, hs⟩
      · cases h : itemS t i with
        | err a c => exact ⟨_, rfl, fun n u hx => by cases hx⟩
        | ok lo hi' nx =>
          have hsp := itemS_spec h hi
          simp only
          cases d with
          | zero => omega
          | succ d => exact ih (t.length - nx) (by omega) j nx _ (by omega) hsp.2.2.2 (by omega) (okS_ofP _)
def parseT (k : Nat) (t : List UInt8) : Option (S4 × Fault) :=
  if 65536 < t.length then some (S4.mk 0 0 0 0, ⟨0, 2⟩) else
  if t[0]? ≠ some 91 then some (S4.mk 0 0 0 0, ⟨0, 13⟩) else
  (parseL t k (if t[1]? = some 94 then 2 else 1) (S4.mk 0 0 0 0)).map fun r => match r with
    | .ret f => (S4.mk 0 0 0 0, f)
    | .done x => if x.1 + 1 < t.length then (S4.mk 0 0 0 0, ⟨((x.1 + 1 : Nat) : Int), 15⟩) else if t[1]? = some 94 then (ofP fun i => !bit x.2 i, ⟨0, 0⟩) else (x.2, ⟨0, 0⟩)
theorem Parse_ok {t : List UInt8} (ht : t.length < 80000) {k : Nat} (hk : 90000 ≤ k) : F.charset.Parse k t = parseT k t := by
  unfold F.charset.Parse parseT
  by_cases h1 : 65536 < t.length
  · rw [if_pos (by rw [decide_eq_true_eq]; omega), if_pos h1]
  rw [if_neg (by rw [decide_eq_true_eq]; omega), if_neg h1]
  by_cases h2 : t = []
  · subst h2; rfl
  have hpos : 0 < t.length := List.length_pos_iff.2 h2
  have hb := byte_eq (t := t) (i := 0) hpos 91
  have hb' : (sAt t 0 == 91) = decide (t[0]? = some 91) := hb
  rw [if_neg (by simpa using h2), if_pos (by rw [inR_iff]; omega), bne, hb']
  by_cases h3 : t[0]? = some 91
  · rw [if_neg (by simpa using h3)]
    simp only [h3, decide_true, Bool.not_true, F.charset.Parse_j1, Bool.false_eq_true, if_false]
    have j3 : ∀ (b : Bool) (n : Nat), n ≤ t.length → F.charset.Parse_j3 k t b (n : Int) = (parseL t k n (S4.mk 0 0 0 0)).map fun r => match r with
        | .ret f => (S4.mk 0 0 0 0, f)
        | .done x => if x.1 + 1 < t.length then (S4.mk 0 0 0 0, ⟨((x.1 + 1 : Nat) : Int), 15⟩) else if b then (ofP fun i => !bit x.2 i, ⟨0, 0⟩) else (x.2, ⟨0, 0⟩) := by
      intro b n hn
      unfold F.charset.Parse_j3
      rw [Parse_l4_ok (by omega) (by omega) k n _ hn okS_none]
      obtain ⟨r, hr, hd⟩ := parseL_some (t := t) (t.length - n) k n (S4.mk 0 0 0 0) (by omega) hn (by omega) okS_none
      rw [hr]
      simp only [Option.map_some, Option.bind_some]
      cases r with
      | ret f => rfl
      | done x =>
        obtain ⟨hlt, hok⟩ := hd x.1 x.2 rfl
        simp only [liftA, LR.fin, wrap_succ (show x.1 < 1000000 by omega)]
        by_cases h4 : x.1 + 1 < t.length
        · rw [if_pos (by rw [decide_eq_true_eq]; omega), if_pos h4]
        · rw [if_neg (by rw [decide_eq_true_eq]; omega), if_neg h4]
          cases b with
          | true => simp only [if_true]; rw [Not_ok hok (by omega)]; rfl
          | false => rfl
    by_cases h4 : 1 < t.length
    · rw [if_pos (by rw [decide_eq_true_eq]; omega), if_pos (by rw [inR_iff]; omega)]
      have hb2 := byte_eq (t := t) (i := 1) h4 94
      have hb2' : (sAt t 1 == 94) = decide (t[1]? = some 94) := hb2
      rw [hb2']
      unfold F.charset.Parse_j2
      by_cases h5 : t[1]? = some 94
      · simp only [h5, decide_true, if_true]
        exact j3 true 2 (by omega)
      · simp only [h5, decide_false, Bool.false_eq_true, if_false]
        exact j3 false 1 (by omega)
    · rw [if_neg (by rw [decide_eq_true_eq]; omega)]
      have h5 : ¬ t[1]? = some 94 := by rw [List.getElem?_eq_none (by omega)]; simp
      unfold F.charset.Parse_j2
      simp only [h5, Bool.false_eq_true, if_false]
      exact j3 false 1 (by omega)
  · rw [if_pos h3]
    simp only [h3, decide_false, Bool.not_false, F.charset.Parse_j1, if_true]
theorem refParse_ok {t : List UInt8} (ht : t.length < 80000) {k : Nat} (hk : 90000 ≤ k) : F.ref01.Parse k t = parseT k t := by
  unfold F.ref01.Parse parseT
  by_cases h1 : 65536 < t.length
  · rw [if_pos (by rw [decide_eq_true_eq]; omega), if_pos h1]
  rw [if_neg (by rw [decide_eq_true_eq]; omega), if_neg h1]
  by_cases h2 : t = []
  · subst h2; rfl
  have hpos : 0 < t.length := List.length_pos_iff.2 h2
  have hb := byte_eq (t := t) (i := 0) hpos 91
  have hb' : (sAt t 0 == 91) = decide (t[0]? = some 91) := hb
  rw [if_neg (by simpa using h2), if_pos (by rw [inR_iff]; omega), bne, hb']
  by_cases h3 : t[0]? = some 91
  · rw [if_neg (by simpa using h3)]
    simp only [h3, decide_true, Bool.not_true, F.ref01.Parse_j1, Bool.false_eq_true, if_false]
    have j3 : ∀ (b : Bool) (n : Nat), n ≤ t.length → F.ref01.Parse_j3 k t b (n : Int) = (parseL t k n (S4.mk 0 0 0 0)).map fun r => match r with
        | .ret f => (S4.mk 0 0 0 0, f)
        | .done x => if x.1 + 1 < t.length then (S4.mk 0 0 0 0, ⟨((x.1 + 1 : Nat) : Int), 15⟩) else if b then (ofP fun i => !bit x.2 i, ⟨0, 0⟩) else (x.2, ⟨0, 0⟩) := by
      intro b n hn
      unfold F.ref01.Parse_j3
      rw [refParse_l4_ok (by omega) (by omega) k n _ hn okS_none]
      obtain ⟨r, hr, hd⟩ := parseL_some (t := t) (t.length - n) k n (S4.mk 0 0 0 0) (by omega) hn (by omega) okS_none
      rw [hr]
      simp only [Option.map_some, Option.bind_some]
      cases r with
      | ret f => rfl
      | done x =>
        obtain ⟨hlt, hok⟩ := hd x.1 x.2 rfl
        simp only [liftB, LR.fin, wrap_succ (show x.1 < 1000000 by omega)]
        by_cases h4 : x.1 + 1 < t.length
        · rw [if_pos (by rw [decide_eq_true_eq]; omega), if_pos h4]
        · rw [if_neg (by rw [decide_eq_true_eq]; omega), if_neg h4]
          cases b with
          | true =>
            simp only [if_true]
            have ho := Op_ok hok hok (k := k) (by omega) (kind := 3) (by decide)
            have ho' : F.ref01.Op k 3 x.2 x.2 = some (ofP fun i => !bit x.2 i) := ho
            rw [ho']; rfl
          | false => rfl
    by_cases h4 : 1 < t.length
    · rw [if_pos (by rw [decide_eq_true_eq]; omega), if_pos (by rw [inR_iff]; omega)]
      have hb2 := byte_eq (t := t) (i := 1) h4 94
      have hb2' : (sAt t 1 == 94) = decide (t[1]? = some 94) := hb2
      rw [hb2']
      unfold F.ref01.Parse_j2
      by_cases h5 : t[1]? = some 94
      · simp only [h5, decide_true, if_true]
        exact j3 true 2 (by omega)
      · simp only [h5, decide_false, Bool.false_eq_true, if_false]
        exact j3 false 1 (by omega)
    · rw [if_neg (by rw [decide_eq_true_eq]; omega)]
      have h5 : ¬ t[1]? = some 94 := by rw [List.getElem?_eq_none (by omega)]; simp
      unfold F.ref01.Parse_j2
      simp only [h5, Bool.false_eq_true, if_false]
      exact j3 false 1 (by omega)
  · rw [if_pos h3]
    simp only [h3, decide_false, Bool.not_false, F.ref01.Parse_j1, if_true]
theorem parseT_some {t : List UInt8} (ht : t.length < 80000) {k : Nat} (hk : 90000 ≤ k) : ∃ r, parseT k t = some r := by
  unfold parseT
  split
  · exact ⟨_, rfl⟩
  split
  · exact ⟨_, rfl⟩
  rename_i h1 h2
  have hn : (if t[1]? = some 94 then 2 else 1) ≤ t.length := by
    split
    · rename_i h
      have := (List.getElem?_eq_some_iff.1 h).1
      omega
    · rename_i h
      have : t[0]? = some 91 := by simpa using h2
      have := (List.getElem?_eq_some_iff.1 this).1
      omega
  obtain ⟨r, hr, _⟩ := parseL_some (t := t) (t.length - (if t[1]? = some 94 then 2 else 1)) k _ (S4.mk 0 0 0 0) (by omega) hn (by omega) okS_none
  rw [hr]
  exact ⟨_, rfl⟩
end Go.Vc.Cp
