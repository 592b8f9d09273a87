/-
  Words: a plain scanner on lists; blanks, numbers, brackets.
-/
import Derived.Test.YthkfffheppfieaaCA
import Derived.Test.YthkfffheppfieaaWF
set_option linter.unusedVariables false
set_option linter.unusedSimpArgs false
namespace Go.Vc
open Go
/-! ### places -/
def topN (s : List UInt8) (i : Nat) : Int := (i : Int) + 1 - (colN s i : Int)
theorem getD_get {t : List UInt8} {i : Nat} {c : UInt8} (h : t[i]? = some c) : t.getD i 0 = c := by simp [h]
theorem ln_one {t : List UInt8} {i : Nat} {c : UInt8} (h : t[i]? = some c) (hc : c ≠ 10) : lnN t (i + 1) = lnN t i ∧ topN t (i + 1) = topN t i := by
  obtain ⟨hi, he⟩ := List.getElem?_eq_some_iff.1 h
  refine ⟨?_, ?_⟩
  · rw [lnN_succ hi, he, if_neg hc]
  · unfold topN
    rw [colN, getD_get h, if_neg hc]
    omega
theorem ln_end {t : List UInt8} {i : Nat} (h : t[i]? = some 10) : lnN t (i + 1) = lnN t i + 1 ∧ topN t (i + 1) = (i : Int) + 1 := by
  obtain ⟨hi, he⟩ := List.getElem?_eq_some_iff.1 h
  refine ⟨?_, ?_⟩
  · rw [lnN_succ hi, he, if_pos rfl]
  · unfold topN
    rw [colN, getD_get h, if_pos rfl]
    omega
theorem ln_NF {t : List UInt8} {i : Nat} : ∀ n, i + n ≤ t.length → Cs.NF t i (i + n) → lnN t (i + n) = lnN t i ∧ topN t (i + n) = topN t i
  | 0, _, _ => ⟨rfl, rfl⟩
  | n + 1, h, hn => by
    have hlt : i + n < t.length := by omega
    have h1 : t[i + n]? = some t[i + n] := List.getElem?_eq_getElem hlt
    have h2 : t[i + n] ≠ 10 := fun e => hn (i + n) (by omega) (by omega) (by rw [h1, e])
    obtain ⟨a, b⟩ := ln_one h1 h2
    obtain ⟨c, d⟩ := ln_NF n (by omega) (fun x p q => hn x p (by omega))
    exact ⟨a.trans c, b.trans d⟩
theorem D_get {s r : List UInt8} {c : UInt8} {i : Nat} (h : D s i (c :: r)) : s[i]? = some c := by
  have := List.getElem?_drop (xs := s) (i := i) (j := 0)
  rw [h.1] at this
  simpa using this.symm
theorem D_subn {s r : List UInt8} {i n : Nat} (h : D s i r) (hn : n ≤ r.length) : okSub (i : Int) ((i + n : Nat) : Int) s.length = true ∧ sub s (i : Int) ((i + n : Nat) : Int) = r.take n := by
  obtain ⟨h1, h2⟩ := h
  refine ⟨by rw [okSub_iff]; omega, ?_⟩
  unfold sub
  rw [Int.toNat_natCast, Int.toNat_natCast, h1, show i + n - i = n by omega]
theorem D_NF {s r : List UInt8} {i n : Nat} (h : D s i r) (hn : n ≤ r.length) (h10 : (10 : UInt8) ∉ r.take n) : Cs.NF s i (i + n) := by
  intro x a b e
  apply h10
  have := List.getElem?_drop (xs := s) (i := i) (j := x - i)
  rw [h.1, show i + (x - i) = x by omega, e] at this
  refine List.mem_iff_getElem?.2 ⟨x - i, ?_⟩
  rw [List.getElem?_take, if_pos (by omega), this]
/-! ### blanks and remarks -/
def blank (n : Nat) : Prop := n = 10 ∨ n = 32 ∨ n = 9 ∨ n = 13
instance (n : Nat) : Decidable (blank n) := by unfold blank; infer_instance
/-- what is left behind blanks and remarks -/
def skL : Bool → List UInt8 → List UInt8
  | _, [] => []
  | false, c :: r => if blank c.toNat then skL false r else if c.toNat = 35 then skL true r else c :: r
  | true, c :: r => if c.toNat = 10 then skL false r else skL true r
/-- .. behind a remark -/
def rem : List UInt8 → List UInt8
  | [] => []
  | c :: r => if c.toNat = 10 then c :: r else rem r
theorem skL_rem : ∀ r : List UInt8, skL true r = skL false (rem r)
  | [] => rfl
  | c :: r => by
    rw [skL, rem]
    by_cases h : c.toNat = 10
    · rw [if_pos h, if_pos h, skL, if_pos (.inl h)]
    · rw [if_neg h, if_neg h]; exact skL_rem r
theorem rem_le : ∀ r : List UInt8, (rem r).length ≤ r.length
  | [] => Nat.le_refl _
  | c :: r => by
    unfold rem
    split
    · exact Nat.le_refl _
    · have := rem_le r; simp; omega
theorem rem_D {s : List UInt8} : ∀ (r : List UInt8) (i : Nat), D s i r → D s (s.length - (rem r).length) (rem r) ∧ lnN s (s.length - (rem r).length) = lnN s i ∧ topN s (s.length - (rem r).length) = topN s i
  | [], i, h => by
    have := D_nil h
    subst this
    exact ⟨⟨by simp [rem], by simp [rem]⟩, rfl, rfl⟩
  | c :: r, i, h => by
    obtain ⟨d1, d2, d3, d4⟩ := D_cons h
    have d5 := h.2
    unfold rem
    split
    · rw [show s.length - (c :: r).length = i by omega]
      exact ⟨h, rfl, rfl⟩
    · rename_i hc
      obtain ⟨a, b, e⟩ := rem_D r (i + 1) d4
      obtain ⟨x, y⟩ := ln_one (D_get h) (Cs.ne10 hc)
      exact ⟨a, b.trans x, e.trans y⟩
theorem skip_l6_ok {s : Words_scanner} (hb : s.text.length < 100000) : ∀ (j i : Nat) (r : List UInt8), D s.text i r → r.length < j → F.words.scanner_skip_l6 s j i = some ((s.text.length - (rem r).length : Nat) : Int)
  | 0, _, _, _, h => by omega
  | j + 1, i, r, hD, hj => by
    simp only [F.words.scanner_skip_l6]
    cases r with
    | nil =>
      have := D_nil hD
      rw [if_neg (by rw [decide_eq_true_eq]; omega)]
      unfold F.words.scanner_skip_j7
      rw [if_neg (by simp), this]
      rfl
    | cons c r =>
      obtain ⟨d1, d2, d3, d4⟩ := D_cons hD
      have d5 := hD.2
      simp only [List.length_cons] at hj d5
      rw [if_pos (by rw [decide_eq_true_eq]; omega), if_pos d3, d2]
      unfold F.words.scanner_skip_j7 rem
      by_cases hc : c.toNat = 10
      · rw [if_neg (by simp; omega), if_pos hc, show s.text.length - (c :: r).length = i by simp only [List.length_cons]; omega]
      · rw [if_pos (by simp; omega), if_neg hc, ix_inc (by omega)]
        exact skip_l6_ok hb j (i + 1) r d4 (by omega)
/-- the scanner at a place -/
def stA (s : List UInt8) (i : Nat) (out : List Word) : Words_scanner := ⟨s, (i : Int), (lnN s i : Int), topN s i, out⟩
def skO (s : List UInt8) (out : List Word) : List UInt8 → LR (Int × Int × Int) Words_scanner
  | [] => .done ((s.length : Int), (lnN s s.length : Int), topN s s.length)
  | c :: r => .ret (stA s (s.length - (c :: r).length) out)
theorem skip_l1_ok {s : List UInt8} {out : List Word} {l t : Int} {i0 : Int} (hb : s.length < 100000) : ∀ (j i : Nat) (r : List UInt8), D s i r → r.length < j → F.words.scanner_skip_l1 200000 ⟨s, i0, l, t, out⟩ j i (lnN s i) (topN s i) = some (skO s out (skL false r))
  | 0, _, _, _, h => by omega
  | j + 1, i, r, hD, hj => by
    simp only [F.words.scanner_skip_l1]
    cases r with
    | nil =>
      have := D_nil hD
      subst this
      rw [if_neg (by rw [decide_eq_true_eq]; omega)]
      rfl
    | cons c r =>
      obtain ⟨d1, d2, d3, d4⟩ := D_cons hD
      have d5 := hD.2
      simp only [List.length_cons] at hj d5
      have hl := lnN_le s i
      have e1 : IntKind.wrap .i64 ((i : Int) + 1) = ((i + 1 : Nat) : Int) := ix_inc (by omega)
      have e2 : IntKind.wrap .i64 ((lnN s i : Int) + 1) = ((lnN s i + 1 : Nat) : Int) := ix_inc (by omega)
      rw [if_pos (by rw [decide_eq_true_eq]; omega), if_pos d3, d2]
      simp only [F.words.scanner_skip_j8, F.words.scanner_skip_j5, F.words.scanner_skip_j4, F.words.scanner_skip_j3, F.words.scanner_skip_j2, e1, e2, d2]
      have ih := skip_l1_ok (out := out) (l := l) (t := t) (i0 := i0) hb j (i + 1) r d4 (by omega)
      unfold skL
      by_cases c10 : c.toNat = 10
      · have hc : c = 10 := UInt8.toNat_inj.1 c10
        have hg := D_get hD
        rw [hc] at hg
        obtain ⟨x, y⟩ := ln_end hg
        rw [x, y] at ih
        rw [if_pos (by simp; omega), if_pos (.inl c10)]
        exact ih
      rw [if_neg (by simp; omega)]
      obtain ⟨x, y⟩ := ln_one (D_get hD) (Cs.ne10 c10)
      rw [x, y] at ih
      have d32 : ((c.toNat : Int) == 32) = decide (c.toNat = 32) := by rw [Bool.eq_iff_iff]; simp; omega
      have d9 : ((c.toNat : Int) == 9) = decide (c.toNat = 9) := by rw [Bool.eq_iff_iff]; simp; omega
      have d13 : ((c.toNat : Int) == 13) = decide (c.toNat = 13) := by rw [Bool.eq_iff_iff]; simp; omega
      have d35 : ((c.toNat : Int) == 35) = decide (c.toNat = 35) := by rw [Bool.eq_iff_iff]; simp; omega
      simp only [d32, d9, d13, d35, decide_eq_true_eq]
      by_cases c32 : c.toNat = 32
      · rw [if_pos c32, if_pos c32, if_pos (.inr (.inl c32))]; exact ih
      rw [if_neg c32]
      by_cases c9 : c.toNat = 9
      · rw [if_pos c9, if_pos c9, if_pos (.inr (.inr (.inl c9)))]; exact ih
      rw [if_neg c9]
      by_cases c13 : c.toNat = 13
      · rw [if_pos c13, if_pos (.inr (.inr (.inr c13)))]; exact ih
      have hnb : ¬ blank c.toNat := by unfold blank; omega
      rw [if_neg c13, if_neg hnb]
      by_cases c35 : c.toNat = 35
      · rw [if_pos c35, if_pos c35, skip_l6_ok (s := ⟨s, i0, l, t, out⟩) (by simp only; omega) 200000 i (c :: r) hD (by simp only [List.length_cons]; omega), Option.bind_some]
        have hrem : rem (c :: r) = rem r := by rw [rem, if_neg c10]
        obtain ⟨a, b, e⟩ := rem_D (s := s) (c :: r) i hD
        rw [skL_rem, hrem]
        rw [hrem] at a b e
        have hle := rem_le r
        have := skip_l1_ok (out := out) (l := l) (t := t) (i0 := i0) hb j _ _ a (by omega)
        rw [b, e] at this
        exact this
      · rw [if_neg c35, if_neg c35]
        show _ = some (LR.ret (stA s (s.length - (c :: r).length) out))
        rw [show s.length - (c :: r).length = i by simp only [List.length_cons]; omega]
        rfl
theorem skL_suf : ∀ (r : List UInt8) (b : Bool), ∃ w, r = w ++ skL b r
  | [], _ => ⟨[], by simp [skL]⟩
  | c :: r, false => by
    unfold skL
    split
    · obtain ⟨w, h⟩ := skL_suf r false; exact ⟨c :: w, by rw [List.cons_append, ← h]⟩
    split
    · obtain ⟨w, h⟩ := skL_suf r true; exact ⟨c :: w, by rw [List.cons_append, ← h]⟩
    · exact ⟨[], rfl⟩
  | c :: r, true => by
    unfold skL
    split
    · obtain ⟨w, h⟩ := skL_suf r false; exact ⟨c :: w, by rw [List.cons_append, ← h]⟩
    · obtain ⟨w, h⟩ := skL_suf r true; exact ⟨c :: w, by rw [List.cons_append, ← h]⟩
theorem skL_D {s r : List UInt8} {i : Nat} (h : D s i r) (b : Bool) : D s (s.length - (skL b r).length) (skL b r) := by
  obtain ⟨w, hw⟩ := skL_suf r b
  have := D_drop (n := w.length) h (by rw [hw]; simp)
  have h2 := congrArg List.length hw
  rw [List.length_append] at h2
  have e : r.drop w.length = skL b r := by
    have := congrArg (List.drop w.length) hw
    rwa [List.drop_left] at this
  rw [e] at this
  have h3 := this.2
  rwa [show s.length - (skL b r).length = i + w.length by omega]
theorem skip_ok {s r : List UInt8} {out : List Word} {i : Nat} (hb : s.length < 100000) (hD : D s i r) : F.words.scanner_skip 200000 (stA s i out) = some (stA s (s.length - (skL false r).length) out) := by
  unfold F.words.scanner_skip
  have h2 := hD.2
  have := skip_l1_ok (out := out) (l := (lnN s i : Int)) (t := topN s i) (i0 := (i : Int)) hb 200000 i r hD (by omega)
  show ((F.words.scanner_skip_l1 200000 ⟨s, i, lnN s i, topN s i, out⟩ 200000 i (lnN s i) (topN s i)).bind _) = _
  rw [this, Option.bind_some]
  cases hs : skL false r with
  | nil => rfl
  | cons c t => rfl
/-! ### words -/
/-- what a word says -/
structure Tk where
  kind : Int
  bytes : List Int
  set : S4
  num : Int
/-- a number's digits -/
def numR : Nat → Int → List UInt8 → Option (Nat × Int)
  | c, n, [] => some (c, n)
  | c, n, d :: r => if cls d.toNat = 3 then (if c = 6 then none else numR (c + 1) (IntKind.wrap .i64 ((IntKind.wrap .i64 (10 * n)) + (IntKind.wrap .i64 (IntKind.wrap .u8 ((d.toNat : Int) - 48))))) r) else some (c, n)
/-- how far a set in brackets goes -/
def brk : List UInt8 → Option Nat
  | [] => none
  | c :: r => if c.toNat = 92 then (match r with
      | [] => none
      | _ :: r' => (brk r').map (· + 2))
    else if c.toNat = 93 then some 1 else (brk r).map (· + 1)
def psP (t : List UInt8) : S4 × Fault := (F.charset.Parse 200000 t).getD (S4.mk 0 0 0 0, ⟨0, 0⟩)
theorem psP_ok {t : List UInt8} (h : t.length ≤ 65536) : F.charset.Parse 200000 t = some (psP t) ∧ (Cs.FaultIn t (psP t).2 ∨ ((psP t).2.Code = 0 ∧ Cs.NF t 0 t.length)) := by
  obtain ⟨S, f, h1, h2⟩ := Cs.Parse_some h (k := 200000) (by omega)
  have e : psP t = (S, f) := by unfold psP; rw [h1]; rfl
  rw [e]
  exact ⟨h1, h2⟩
def isSign (c : UInt8) : Bool := decide (0 ≤ Lib.indexByte ([61, 124, 46, 59, 62, 63, 42, 43, 123, 125, 40, 41, 95, 47, 44, 45] : List UInt8) c)
def noS : S4 := S4.mk 0 0 0 0
def tok : List UInt8 → Except (Int × Int) (Tk × Nat)
  | [] => .error (0, 11)
  | c :: r =>
    if cls c.toNat = 1 ∨ cls c.toNat = 2 then (if 32 < pl (c :: r) then .error (0, 20) else .ok (⟨(cls c.toNat : Int), [], noS, 0⟩, pl (c :: r)))
    else if cls c.toNat = 3 then (match numR 0 0 (c :: r) with
      | none => .error (0, 21)
      | some (m, n) => if c.toNat = 48 ∧ 1 < m then .error (0, 21) else .ok (⟨3, [], noS, n⟩, m))
    else if c.toNat = 34 then (match quR 200000 r [] with
      | .error (none, _) => .error (0, 13)
      | .error (some m, e) => .error (((r.length + 1 - m : Nat) : Int), e)
      | .ok (out, r') => .ok (⟨4, out, noS, 0⟩, r.length + 1 - r'.length))
    else if c.toNat = 91 then (match brk r with
      | none => .error (0, 13)
      | some m => if (psP ((c :: r).take (m + 1))).2.Code ≠ 0 then .error ((psP ((c :: r).take (m + 1))).2.At, (psP ((c :: r).take (m + 1))).2.Code) else .ok (⟨5, [], (psP ((c :: r).take (m + 1))).1, 0⟩, m + 1))
    else if isSign c then .ok (⟨6, [], noS, 0⟩, 1)
    else .error (0, 11)
end Go.Vc
