/-
  Sets in brackets: the program's reader of a set, of the seat of the words; the parts of it that the scanner needs.
-/
import Derived.Test.YthkfffheppfieaaWD
set_option linter.unusedVariables false
set_option linter.unusedSimpArgs false
namespace Go.Vc.Cs
open Go Go.Vc
theorem wrap_succ {i : Nat} (hi : i < 1000000) : IntKind.wrap .i64 ((i : Int) + 1) = ((i + 1 : Nat) : Int) := by rw [wrap_i64 (by omega) (by omega)]; rfl
def hexv (c : Nat) : Nat := if 48 ≤ c ∧ c ≤ 57 then c - 48 else if 97 ≤ c ∧ c ≤ 102 then c - 97 + 10 else if 65 ≤ c ∧ c ≤ 70 then c - 65 + 10 else 16
theorem digit_all : ∀ c : _root_.Fin 256, F.charset.digit (c.val : Int) = some (if hexv c.val < 16 then (hexv c.val : Int) else -1) := by decide +kernel
def spec9 (c : Nat) : Nat := if c = 10 then 110 else if c = 9 then 116 else if c = 13 then 114 else if c = 32 then 115 else if c = 91 ∨ c = 93 ∨ c = 92 ∨ c = 45 ∨ c = 94 then c else 0
def escv (c : Nat) : Nat := if c = 110 then 10 else if c = 116 then 9 else if c = 114 then 13 else if c = 115 then 32 else if c = 91 ∨ c = 93 ∨ c = 92 ∨ c = 45 ∨ c = 94 then c else 256

/-- .. two hexadecimal digits -/
def hexS : List UInt8 → Nat × Nat × Nat
  | a :: b :: _ => if hexv a.toNat < 16 ∧ hexv b.toNat < 16 then (16 * hexv a.toNat + hexv b.toNat, 4, 0) else (0, 0, 12)
  | _ => (0, 0, 12)
/-- .. behind a backslash -/
def escS : List UInt8 → Nat × Nat × Nat
  | [] => (0, 0, 12)
  | d :: r => if d.toNat = 120 then hexS r else if escv d.toNat < 256 then (escv d.toNat, 2, 0) else (0, 0, 12)
/-- the sign at a text's beginning: byte, length, error -/
def oneS : List UInt8 → Nat × Nat × Nat
  | [] => (0, 0, 14)
  | c :: r => if c.toNat ≠ 92 then (if c.toNat ≤ 32 ∨ 127 ≤ c.toNat ∨ spec9 c.toNat ≠ 0 then (0, 0, 11) else (c.toNat, 1, 0)) else escS r
def i3 (x : Nat × Nat × Nat) : Int × Int × Int := ((x.1 : Int), (x.2.1 : Int), (x.2.2 : Int))
theorem u8_lt (c : UInt8) : c.toNat < 256 := c.toNat_lt
theorem hexv_le (c : Nat) : hexv c ≤ 16 := by unfold hexv; split <;> (try split) <;> (try split) <;> omega
theorem hexS_spec (r : List UInt8) : (hexS r).1 < 256 ∧ ((hexS r).2.2 = 0 → (hexS r).2.1 = 4 ∧ 2 ≤ r.length) := by
  match r with
  | [] => simp [hexS]
  | [a] => simp [hexS]
  | a :: b :: r =>
    simp only [hexS]
    split
    · simp; omega
    · simp
theorem escS_spec (r : List UInt8) : (escS r).1 < 256 ∧ ((escS r).2.2 = 0 → 2 ≤ (escS r).2.1 ∧ (escS r).2.1 ≤ r.length + 1) := by
  match r with
  | [] => simp [escS]
  | d :: r =>
    simp only [escS]
    split
    · have := hexS_spec r
      refine ⟨this.1, fun h => ?_⟩
      have := this.2 h
      simp
      omega
    · split
      · simp; omega
      · simp
theorem oneS_spec (r : List UInt8) : (oneS r).1 < 256 ∧ ((oneS r).2.2 = 0 → 1 ≤ (oneS r).2.1 ∧ (oneS r).2.1 ≤ r.length) := by
  match r with
  | [] => simp [oneS]
  | c :: r =>
    have := u8_lt c
    simp only [oneS]
    split
    · split <;> simp <;> omega
    · have := escS_spec r
      refine ⟨this.1, fun h => ?_⟩
      have := this.2 h
      simp
      omega
theorem digit_ok (c : UInt8) : F.charset.digit (c.toNat : Int) = some (if hexv c.toNat < 16 then (hexv c.toNat : Int) else -1) := digit_all ⟨c.toNat, u8_lt c⟩
theorem drop_cons {t : List UInt8} {i : Nat} (hi : i < t.length) : ∃ c r, t.drop i = c :: r ∧ r.length + i + 1 = t.length ∧ sAt t (i : Int) = (c.toNat : Int) := by
  refine ⟨t[i], t.drop (i + 1), List.drop_eq_getElem_cons hi, by rw [List.length_drop]; omega, ?_⟩
  unfold sAt
  rw [Int.toNat_natCast, List.getD_eq_getElem?_getD, List.getElem?_eq_getElem hi]; rfl
theorem sub_rest {t : List UInt8} {i : Nat} (_ : i ≤ t.length) : sub t (i : Int) (t.length : Int) = t.drop i := by
  unfold sub
  rw [Int.toNat_natCast, Int.toNat_natCast]
  apply List.take_of_length_le
  simp
/-- what the reader says of a sign -/
def charR (t : List UInt8) (i : Nat) (rd : Charset_reader) : Int × Fault × Charset_reader :=
  if (oneS (t.drop i)).2.2 = 0 then (((oneS (t.drop i)).1 : Int), ⟨0, 0⟩, ⟨t, ((i + (oneS (t.drop i)).2.1 : Nat) : Int)⟩) else (0, ⟨(i : Int), ((oneS (t.drop i)).2.2 : Int)⟩, rd)
theorem escaped_ok {t : List UInt8} (ht : t.length < 100000) {i : Nat} (hi : i < t.length) : ∃ rd, F.charset.reader_escaped ⟨t, (i : Int)⟩ = some
    (if (escS (t.drop (i + 1))).2.2 = 0 then (((escS (t.drop (i + 1))).1 : Int), ⟨0, 0⟩, ⟨t, ((i + (escS (t.drop (i + 1))).2.1 : Nat) : Int)⟩) else (0, ⟨(i : Int), ((escS (t.drop (i + 1))).2.2 : Int)⟩, rd)) := by
  have w1 : IntKind.wrap .i64 ((i : Int) + 1) = ((i + 1 : Nat) : Int) := wrap_succ (by omega)
  have w2 : IntKind.wrap .i64 ((i : Int) + 2) = ((i + 2 : Nat) : Int) := by rw [wrap_i64 (by omega) (by omega)]; rfl
  have w4 : IntKind.wrap .i64 (((i + 2 : Nat) : Int) + 2) = ((i + 4 : Nat) : Int) := by rw [wrap_i64 (by omega) (by omega)]; omega
  have hok : okSub ((i + 1 : Nat) : Int) (t.length : Int) t.length = true := by rw [okSub_iff]; omega
  unfold F.charset.reader_escaped
  simp only [w1, w2, hok, if_true, sub_rest (show i + 1 ≤ t.length by omega)]
  generalize hr : t.drop (i + 1) = r
  have hrl : r.length = t.length - (i + 1) := by rw [← hr, List.length_drop]
  match r, hrl, hr with
  | [], hrl, hr => exact ⟨⟨t, (i : Int)⟩, by simp [escS]⟩
  | d :: r, hrl, hr =>
    simp only [List.length_cons] at hrl
    have hs0 : sAt (d :: r) 0 = (d.toNat : Int) := rfl
    have hd := u8_lt d
    have hbad : F.charset.reader_escaped_j1 ⟨t, (i : Int)⟩ = some (0, ⟨(i : Int), 12⟩, ⟨t, ((i + 2 : Nat) : Int)⟩) := by
      unfold F.charset.reader_escaped_j1
      simp only [w2]
    have hin0 : inR 0 (d :: r).length = true := by rw [inR_iff]; simp
    have hne : ((d :: r) == ([] : List UInt8)) = false := by simp
    have good : ∀ m : Nat, m ≠ 120 → d.toNat = m → escv m < 256 → F.charset.reader_escaped_j1 ⟨t, (i : Int)⟩ = F.charset.reader_escaped_j1 ⟨t, (i : Int)⟩ → ∀ (v : Int) (rd : Charset_reader), v = (escv m : Int) → some (v, (⟨0, 0⟩ : Fault), (⟨t, ((i + 2 : Nat) : Int)⟩ : Charset_reader)) = some
        (if (escS (d :: r)).2.2 = 0 then (((escS (d :: r)).1 : Int), ⟨0, 0⟩, ⟨t, ((i + (escS (d :: r)).2.1 : Nat) : Int)⟩) else (0, ⟨(i : Int), ((escS (d :: r)).2.2 : Int)⟩, rd)) := by
      intro m hm hdm hlt _ v rd hv
      have : escS (d :: r) = (escv m, 2, 0) := by
        simp only [escS]
        rw [hdm, if_neg hm, if_pos hlt]
      rw [this, hv]
      rfl
    rw [if_neg (by rw [hne]; simp), if_pos hin0, hs0]
    by_cases c1 : d.toNat = 110
    · rw [if_pos (by simp [c1])]
      exact ⟨⟨t, 0⟩, good 110 (by decide) c1 (by decide) rfl _ _ (by decide)⟩
    rw [if_neg (by simp; omega)]
    by_cases c2 : d.toNat = 116
    · rw [if_pos (by simp [c2])]
      exact ⟨⟨t, 0⟩, good 116 (by decide) c2 (by decide) rfl _ _ (by decide)⟩
    rw [if_neg (by simp; omega)]
    by_cases c3 : d.toNat = 114
    · rw [if_pos (by simp [c3])]
      exact ⟨⟨t, 0⟩, good 114 (by decide) c3 (by decide) rfl _ _ (by decide)⟩
    rw [if_neg (by simp; omega)]
    by_cases c4 : d.toNat = 115
    · rw [if_pos (by simp [c4])]
      exact ⟨⟨t, 0⟩, good 115 (by decide) c4 (by decide) rfl _ _ (by decide)⟩
    rw [if_neg (by simp; omega)]
    have j3t : F.charset.reader_escaped_j3 ⟨t, (i : Int)⟩ true = some (IntKind.wrap .i64 (d.toNat : Int), (⟨0, 0⟩ : Fault), (⟨t, ((i + 2 : Nat) : Int)⟩ : Charset_reader)) := by
      unfold F.charset.reader_escaped_j3
      simp only [w1, w2, sub_rest (show i + 1 ≤ t.length by omega), hr, hs0, if_true]
    by_cases c5 : d.toNat = 91
    · rw [if_pos (by simp [c5]), show ((d.toNat : Int) == 91) = true by simp [c5], j3t, c5]
      exact ⟨⟨t, 0⟩, good 91 (by decide) c5 (by decide) rfl _ _ (by decide)⟩
    rw [if_neg (by simp; omega)]
    by_cases c6 : d.toNat = 93
    · rw [if_pos (by simp [c6]), show ((d.toNat : Int) == 93) = true by simp [c6], j3t, c6]
      exact ⟨⟨t, 0⟩, good 93 (by decide) c6 (by decide) rfl _ _ (by decide)⟩
    rw [if_neg (by simp; omega)]
    simp only [F.charset.reader_escaped_j6]
    by_cases c7 : d.toNat = 92
    · rw [if_pos (by simp [c7]), show ((d.toNat : Int) == 92) = true by simp [c7], j3t, c7]
      exact ⟨⟨t, 0⟩, good 92 (by decide) c7 (by decide) rfl _ _ (by decide)⟩
    rw [if_neg (by simp; omega)]
    by_cases c8 : d.toNat = 45
    · rw [if_pos (by simp [c8]), show ((d.toNat : Int) == 45) = true by simp [c8], j3t, c8]
      exact ⟨⟨t, 0⟩, good 45 (by decide) c8 (by decide) rfl _ _ (by decide)⟩
    rw [if_neg (by simp; omega)]
    by_cases c9 : d.toNat = 94
    · rw [show ((d.toNat : Int) == 94) = true by simp [c9], j3t, c9]
      exact ⟨⟨t, 0⟩, good 94 (by decide) c9 (by decide) rfl _ _ (by decide)⟩
    rw [show ((d.toNat : Int) == 94) = false by simp; omega]
    have he : escv d.toNat = 256 := by
      unfold escv
      rw [if_neg c1, if_neg c2, if_neg c3, if_neg c4, if_neg (by omega)]
    unfold F.charset.reader_escaped_j3 F.charset.reader_escaped_j4 F.charset.reader_escaped_j2
    simp only [w1, sub_rest (show i + 1 ≤ t.length by omega), hr, hs0, Bool.false_eq_true, if_false, hbad]
    refine ⟨⟨t, ((i + 2 : Nat) : Int)⟩, ?_⟩
    by_cases c10 : d.toNat = 120
    · rw [if_pos (by simp [c10])]
      have hes : escS (d :: r) = hexS r := by simp only [escS]; rw [if_pos c10]
      rw [hes]
      match r, hrl, hr with
      | a :: b :: r', hrl, hr =>
        simp only [List.length_cons] at hrl
        have hs1 : sAt (d :: a :: b :: r') 1 = (a.toNat : Int) := rfl
        have hs2 : sAt (d :: a :: b :: r') 2 = (b.toNat : Int) := rfl
        have va := hexv_le a.toNat
        have vb := hexv_le b.toNat
        have hi1 : inR 1 (d :: a :: b :: r').length = true := by rw [inR_iff]; simp; omega
        have hi2 : inR 2 (d :: a :: b :: r').length = true := by rw [inR_iff]; simp; omega
        rw [if_pos (by rw [decide_eq_true_eq]; simp; omega), if_pos hi1, hs1, hs2, digit_ok, digit_ok, if_pos hi2]
        unfold F.charset.reader_escaped_j5 F.charset.reader_escaped_j4 F.charset.reader_escaped_j2
        simp only [w1, w2, w4, sub_rest (show i + 1 ≤ t.length by omega), hr, hbad, hi1, hi2, hs1, hs2, digit_ok, if_true, Option.bind_some, hexS]
        by_cases h1 : hexv a.toNat < 16
        · by_cases h2 : hexv b.toNat < 16
          · simp only [h1, h2, if_true, and_self]
            rw [if_pos (by rw [decide_eq_true_eq]; omega), if_pos (by rw [decide_eq_true_eq]; omega)]
            rw [wrap_i64 (n := 16 * _) (by omega) (by omega), wrap_i64 (by omega) (by omega)]
            simp only [Int.natCast_add, Int.natCast_mul]
            rfl
          · simp only [h1, h2, if_true, if_false, and_false]
            simp
        · simp only [h1, if_false, false_and]
          simp
      | [], hrl, hr =>
        unfold F.charset.reader_escaped_j5 F.charset.reader_escaped_j4 F.charset.reader_escaped_j2
        simp only [hbad, hexS]
        rw [if_neg (by rw [decide_eq_true_eq]; simp)]
        simp
      | [a], hrl, hr =>
        unfold F.charset.reader_escaped_j5 F.charset.reader_escaped_j4 F.charset.reader_escaped_j2
        simp only [hbad, hexS]
        rw [if_neg (by rw [decide_eq_true_eq]; simp)]
        simp
    · rw [if_neg (by simp; omega)]
      have hes : escS (d :: r) = (0, 0, 12) := by
        simp only [escS]
        rw [if_neg c10, if_neg (by omega)]
      rw [hes]
      simp
theorem char_ok {t : List UInt8} (ht : t.length < 100000) {i : Nat} (hi : i ≤ t.length) : ∃ rd, F.charset.reader_char ⟨t, (i : Int)⟩ = some (charR t i rd) := by
  unfold F.charset.reader_char charR
  by_cases h0 : i = t.length
  · rw [if_pos (by rw [decide_eq_true_eq]; simp only; omega), List.drop_eq_nil_of_le (by omega)]
    refine ⟨⟨t, (i : Int)⟩, ?_⟩
    subst h0
    simp [oneS]
  · obtain ⟨c, r, hd, hr, hc⟩ := drop_cons (t := t) (i := i) (by omega)
    have hd1 : t.drop (i + 1) = r := by rw [← List.drop_drop, hd]; rfl
    have hcl := u8_lt c
    rw [if_neg (by rw [decide_eq_true_eq]; simp only; omega), if_pos (by rw [inR_iff]; simp only; omega)]
    simp only [hc, hd]
    by_cases h92 : c.toNat = 92
    · have ho : oneS (c :: r) = escS r := by simp only [oneS]; rw [if_neg (by simp [h92])]
      rw [if_pos (by simp [h92]), ho]
      obtain ⟨rd, hE⟩ := escaped_ok ht (i := i) (by omega)
      rw [hd1] at hE
      refine ⟨rd, ?_⟩
      rw [hE, Option.bind_some]
    · have hbad : (c.toNat ≤ 32 ∨ 127 ≤ c.toNat ∨ spec9 c.toNat ≠ 0) → oneS (c :: r) = (0, 0, 11) := by
        intro h
        simp only [oneS]
        rw [if_pos h92, if_pos h]
      rw [if_neg (by simp; omega)]
      refine ⟨⟨t, (i : Int)⟩, ?_⟩
      simp only [F.charset.reader_char_j1]
      have w1 : IntKind.wrap .i64 ((i : Int) + 1) = ((i + 1 : Nat) : Int) := wrap_succ (by omega)
      by_cases c1 : c.toNat ≤ 32
      · rw [if_pos (by rw [decide_eq_true_eq]; omega), hbad (.inl c1)]; simp
      rw [if_neg (by rw [decide_eq_true_eq]; omega)]
      by_cases c2 : 127 ≤ c.toNat
      · rw [if_pos (by rw [decide_eq_true_eq]; omega), hbad (.inr (.inl c2))]; simp
      rw [if_neg (by rw [decide_eq_true_eq]; omega)]
      by_cases c3 : c.toNat = 91
      · rw [if_pos (by simp [c3]), hbad (by rw [c3]; decide)]; simp
      rw [if_neg (by simp; omega)]
      by_cases c4 : c.toNat = 93
      · rw [if_pos (by simp [c4]), hbad (by rw [c4]; decide)]; simp
      rw [if_neg (by simp; omega)]
      by_cases c5 : c.toNat = 45
      · rw [if_pos (by simp [c5]), hbad (by rw [c5]; decide)]; simp
      rw [if_neg (by simp; omega)]
      by_cases c6 : c.toNat = 94
      · rw [show ((c.toNat : Int) == 94) = true by simp [c6], hbad (by rw [c6]; decide)]; simp
      rw [show ((c.toNat : Int) == 94) = false by simp; omega]
      have hs : spec9 c.toNat = 0 := by
        unfold spec9
        rw [if_neg (by omega), if_neg (by omega), if_neg (by omega), if_neg (by omega), if_neg (by omega)]
      have ho : oneS (c :: r) = (c.toNat, 1, 0) := by
        simp only [oneS]
        rw [if_pos h92, if_neg (by rw [hs]; omega)]
      rw [ho, w1, wrap_i64 (by omega) (by omega)]
      simp [hc]

/-! ### items -/
/-- no line's end between two places -/
def NF (t : List UInt8) (i n : Nat) : Prop := ∀ x, i ≤ x → x < n → t[x]? ≠ some 10
theorem NF_app {t : List UInt8} {i n m : Nat} (h1 : NF t i n) (h2 : NF t n m) : NF t i m := fun x a b => by
  by_cases h : x < n
  · exact h1 x a h
  · exact h2 x (by omega) b
theorem NF_one {t : List UInt8} {i : Nat} {c : UInt8} (h : t[i]? = some c) (hc : c ≠ 10) : NF t i (i + 1) := fun x a b e => by
  obtain rfl : x = i := by omega
  rw [h] at e
  exact hc (Option.some.inj e)
theorem ne10 {c : UInt8} (h : c.toNat ≠ 10) : c ≠ 10 := fun e => h (by rw [e]; rfl)
theorem hexv_ne {c : UInt8} (h : hexv c.toNat < 16) : c ≠ 10 := by
  apply ne10
  intro e
  rw [e] at h
  revert h
  decide
theorem escv_ne {c : UInt8} (h : escv c.toNat < 256) : c ≠ 10 := by
  apply ne10
  intro e
  rw [e] at h
  revert h
  decide
theorem oneS_nf (r : List UInt8) (h : (oneS r).2.2 = 0) : ∀ x, x < (oneS r).2.1 → r[x]? ≠ some 10 := by
  match r with
  | [] => intro x hx; simp
  | c :: r =>
    simp only [oneS] at h ⊢
    split at h
    · rename_i h92
      rw [if_pos h92]
      split at h
      · simp at h
      · rename_i h1
        rw [if_neg h1]
        intro x hx
        simp only at hx
        obtain rfl : x = 0 := by omega
        simp only [List.getElem?_cons_zero]
        intro e
        exact ne10 (c := c) (by omega) (Option.some.inj e)
    · rename_i h92
      rw [if_neg h92]
      have hc : c ≠ 10 := ne10 (by omega)
      match r, h with
      | d :: r, h =>
        simp only [escS] at h ⊢
        split at h
        · rename_i h120
          rw [if_pos h120]
          have hd : d ≠ 10 := ne10 (by omega)
          match r, h with
          | a :: b :: r, h =>
            simp only [hexS] at h ⊢
            split at h
            · rename_i hh
              rw [if_pos hh]
              have ha := hexv_ne hh.1
              have hb := hexv_ne hh.2
              intro x hx
              simp only at hx
              have : x = 0 ∨ x = 1 ∨ x = 2 ∨ x = 3 := by omega
              rcases this with rfl | rfl | rfl | rfl <;> simp_all
            · simp at h
          | [a], h => simp [hexS] at h
          | [], h => simp [hexS] at h
        · rename_i h120
          rw [if_neg h120]
          split at h
          · rename_i he
            rw [if_pos he]
            have hd := escv_ne he
            intro x hx
            simp only at hx
            have : x = 0 ∨ x = 1 := by omega
            rcases this with rfl | rfl <;> simp_all
          · simp at h
      | [], h => simp [escS] at h
theorem oneS_NF {t : List UInt8} {i : Nat} (h : (oneS (t.drop i)).2.2 = 0) : NF t i (i + (oneS (t.drop i)).2.1) := fun x a b => by
  have := oneS_nf _ h (x - i) (by omega)
  rw [List.getElem?_drop, show i + (x - i) = x by omega] at this
  exact this
theorem Range_l1_some {h : Nat} (hh : h < 256) : ∀ (j i : Nat) (s : S4), h + 1 - i < j → ∃ z, F.charset.Range_l1 (h : Int) j (i : Int) s = some z
  | 0, _, _, hj => by omega
  | j + 1, i, s, hj => by
    simp only [F.charset.Range_l1]
    by_cases hi : i ≤ h
    · have e2 : (i : Int).tdiv 64 = ((i / 64 : Nat) : Int) := by rw [Int.tdiv_eq_ediv_of_nonneg (by omega)]; omega
      have e3 : grem (i : Int) 64 = ((i % 64 : Nat) : Int) := by show (i : Int).tmod 64 = _; rw [Int.tmod_eq_emod_of_nonneg (by omega)]; omega
      have e1 : gquo .i64 (i : Int) 64 = ((i / 64 : Nat) : Int) := by unfold gquo; rw [e2, wrap_i64 (by omega) (by omega)]
      rw [if_pos (by rw [decide_eq_true_eq]; omega), e1, e3, if_pos (by rw [inR_iff]; omega), if_neg (by rw [decide_eq_true_eq]; omega), wrap_succ (by omega)]
      exact Range_l1_some hh j (i + 1) _ (by omega)
    · rw [if_neg (by rw [decide_eq_true_eq]; omega)]
      exact ⟨_, rfl⟩
theorem Range_some {lo hi k : Nat} (h1 : lo < 256) (h2 : hi < 256) (hk : 300 ≤ k) : ∃ s c, F.charset.Range k (lo : Int) (hi : Int) = some (s, c) := by
  unfold F.charset.Range
  rw [if_neg (by rw [decide_eq_true_eq]; omega), if_neg (by rw [decide_eq_true_eq]; omega)]
  split
  · exact ⟨_, _, rfl⟩
  · obtain ⟨z, hz⟩ := Range_l1_some h2 k lo (S4.mk 0 0 0 0) (by omega)
    rw [hz]
    exact ⟨_, _, rfl⟩
theorem Union_some (a b : S4) {k : Nat} (hk : 5 ≤ k) : ∃ s, F.charset.Union k a b = some s := by
  obtain ⟨k, rfl⟩ : ∃ k', k = k' + 5 := ⟨k - 5, by omega⟩
  have e : F.charset.Union (k + 5) a b = some (S4.mk (gor .u64 a.w0 b.w0) (gor .u64 a.w1 b.w1) (gor .u64 a.w2 b.w2) (gor .u64 a.w3 b.w3)) := rfl
  exact ⟨_, e⟩
theorem Not_some (a : S4) {k : Nat} (hk : 5 ≤ k) : ∃ s, F.charset.Not k a = some s := by
  obtain ⟨k, rfl⟩ : ∃ k', k = k' + 5 := ⟨k - 5, by omega⟩
  have e : F.charset.Not (k + 5) a = some (S4.mk (gnot .u64 a.w0) (gnot .u64 a.w1) (gnot .u64 a.w2) (gnot .u64 a.w3)) := rfl
  exact ⟨_, e⟩
/-- a fault tells a place of the text -/
def FaultIn (t : List UInt8) (f : Fault) : Prop := f.Code ≠ 0 ∧ 0 ≤ f.At ∧ f.At ≤ (t.length : Int)
theorem item_some {t : List UInt8} (ht : t.length < 90000) {k : Nat} (hk : 300 ≤ k) {i : Nat} (hi : i ≤ t.length) : ∃ S f rd, F.charset.reader_item k ⟨t, (i : Int)⟩ = some (S, f, rd) ∧ (FaultIn t f ∨ (f.Code = 0 ∧ ∃ n : Nat, rd = ⟨t, (n : Int)⟩ ∧ i < n ∧ n ≤ t.length ∧ NF t i n)) := by
  obtain ⟨rd, hc⟩ := char_ok (t := t) (by omega) hi
  unfold F.charset.reader_item
  rw [hc, Option.bind_some]
  have h1 := oneS_spec (t.drop i)
  have h2 := oneS_NF (t := t) (i := i)
  unfold charR
  generalize hog : oneS (t.drop i) = o at *
  by_cases he : o.2.2 = 0
  · have h1' := h1.2 he
    have h2' := h2 he
    rw [List.length_drop] at h1'
    rw [if_pos he]
    simp only
    rw [if_neg (show ¬ ((0 : Int) != 0) = true by decide)]
    have j2 : ∀ (hi' : Nat) (a c : Int) (nx : Nat) (g : Int × Fault × Charset_reader), g.1 = (o.1 : Int) → hi' < 256 → i < nx → nx ≤ t.length → NF t i nx → ∃ S f rd, F.charset.reader_item_j2 k g ⟨t, (i : Int)⟩ (hi' : Int) t (nx : Int) a c = some (S, f, rd) ∧ (FaultIn t f ∨ (f.Code = 0 ∧ ∃ n : Nat, rd = ⟨t, (n : Int)⟩ ∧ i < n ∧ n ≤ t.length ∧ NF t i n)) := by
      intro hi' a c nx g hg hlt n1 n2 n3
      unfold F.charset.reader_item_j2
      obtain ⟨s, e, hr⟩ := Range_some (k := k) h1.1 hlt hk
      rw [hg, hr, Option.bind_some]
      by_cases hb : e = 0
      · subst hb
        rw [if_neg (by simp)]
        exact ⟨_, _, _, rfl, .inr ⟨rfl, nx, rfl, n1, n2, n3⟩⟩
      · rw [if_pos (by simpa using hb)]
        exact ⟨_, _, _, rfl, .inl ⟨hb, by simp only; omega, by simp only; omega⟩⟩
    by_cases hn : i + o.2.1 < t.length
    · obtain ⟨c, r, hd, hr, hc'⟩ := drop_cons hn
      rw [if_pos (by rw [decide_eq_true_eq]; omega), if_pos (by rw [inR_iff]; omega)]
      unfold F.charset.reader_item_j1
      by_cases h45 : (sAt t ((i + o.2.1 : Nat) : Int) == 45) = true
      · rw [if_pos h45]
        simp only
        rw [wrap_succ (by omega)]
        obtain ⟨rd2, hc2⟩ := char_ok (t := t) (by omega) (i := i + o.2.1 + 1) (by omega)
        rw [hc2, Option.bind_some]
        have g1 := oneS_spec (t.drop (i + o.2.1 + 1))
        have g2 := oneS_NF (t := t) (i := i + o.2.1 + 1)
        unfold charR
        generalize hpg : oneS (t.drop (i + o.2.1 + 1)) = p at *
        have hnf1 : NF t (i + o.2.1) (i + o.2.1 + 1) := by
          refine NF_one (c := c) ?_ (ne10 ?_)
          · have := List.getElem?_drop (xs := t) (i := i + o.2.1) (j := 0)
            rw [hd] at this
            simpa using this.symm
          · rw [hc'] at h45
            have : (c.toNat : Int) = 45 := by simpa using h45
            omega
        by_cases he2 : p.2.2 = 0
        · have g1' := g1.2 he2
          rw [List.length_drop] at g1'
          rw [if_pos he2]
          simp only
          rw [if_neg (show ¬ ((0 : Int) != 0) = true by decide)]
          exact j2 p.1 _ _ _ _ rfl g1.1 (by omega) (by omega) (NF_app h2' (NF_app hnf1 (g2 he2)))
        · rw [if_neg he2]
          simp only
          rw [if_pos (by simp; omega)]
          exact ⟨_, _, _, rfl, .inl ⟨by simp only; omega, by simp only; omega, by simp only; omega⟩⟩
      · rw [if_neg h45]
        exact j2 o.1 _ _ _ _ rfl h1.1 (by omega) (by omega) h2'
    · rw [if_neg (by rw [decide_eq_true_eq]; omega)]
      unfold F.charset.reader_item_j1
      rw [if_neg (by decide)]
      exact j2 o.1 _ _ _ _ rfl h1.1 (by omega) (by omega) h2'
  · rw [if_neg he]
    simp only
    rw [if_pos (by simp; omega)]
    exact ⟨_, _, _, rfl, .inl ⟨by simp only; omega, by simp only; omega, by simp only; omega⟩⟩
theorem item_end {t : List UInt8} (ht : t.length < 90000) {k : Nat} (hk : 300 ≤ k) {S : S4} {f : Fault} {rd : Charset_reader} (h : F.charset.reader_item k ⟨t, (t.length : Int)⟩ = some (S, f, rd)) : FaultIn t f := by
  obtain ⟨S', f', rd', h', hor⟩ := item_some ht hk (Nat.le_refl t.length)
  rw [h] at h'
  simp only [Option.some.injEq, Prod.mk.injEq] at h'
  obtain ⟨rfl, rfl, rfl⟩ := h'
  rcases hor with h | ⟨_, n, _, h1, h2, _⟩
  · exact h
  · omega
theorem Parse_l4_some {t : List UInt8} (ht : t.length < 90000) {k : Nat} (hk : 300 ≤ k) : ∀ (j i : Nat) (s : S4), i ≤ t.length → t.length - i < j → (∃ S f, F.charset.Parse_l4 k t j s t (i : Int) = some (.ret (S, f)) ∧ FaultIn t f) ∨ ∃ (S : S4) (m : Nat), F.charset.Parse_l4 k t j s t (i : Int) = some (.done (S, t, (m : Int))) ∧ m < t.length ∧ NF t i (m + 1)
  | 0, _, _, _, h => by omega
  | j + 1, i, s, hi, hj => by
    have step : (∃ S f, F.charset.Parse_j5 k t (i : Int) s (F.charset.Parse_l4 k t j) true = some (.ret (S, f)) ∧ FaultIn t f) ∨ ∃ (S : S4) (m : Nat), F.charset.Parse_j5 k t (i : Int) s (F.charset.Parse_l4 k t j) true = some (.done (S, t, (m : Int))) ∧ m < t.length ∧ NF t i (m + 1) := by
      obtain ⟨S, f, rd, hit, hor⟩ := item_some ht hk hi
      unfold F.charset.Parse_j5
      rw [if_pos rfl, hit, Option.bind_some]
      simp only
      rcases hor with hf | ⟨hf, n, rfl, n1, n2, n3⟩
      · rw [if_pos (by simpa using hf.1)]
        exact .inl ⟨_, _, rfl, hf⟩
      · rw [if_neg (by simpa using hf)]
        obtain ⟨u, hu⟩ := Union_some s S (k := k) (by omega)
        rw [hu, Option.bind_some]
        rcases Parse_l4_some ht hk j n u n2 (by omega) with ⟨S', f', h1, h2⟩ | ⟨S', m, h1, h2, h3⟩
        · exact .inl ⟨_, _, h1, h2⟩
        · exact .inr ⟨_, _, h1, h2, NF_app n3 h3⟩
    simp only [F.charset.Parse_l4]
    by_cases h0 : i = t.length
    · rw [if_pos (by rw [decide_eq_true_eq]; omega)]
      exact step
    · obtain ⟨c, r, hd, hr, hc⟩ := drop_cons (t := t) (i := i) (by omega)
      rw [if_neg (by rw [decide_eq_true_eq]; omega), if_pos (by rw [inR_iff]; omega), hc]
      by_cases h93 : (c.toNat : Int) = 93
      · rw [h93]
        refine .inr ⟨s, i, rfl, by omega, NF_one (c := c) ?_ (ne10 (by omega))⟩
        have := List.getElem?_drop (xs := t) (i := i) (j := 0)
        rw [hd] at this
        simpa using this.symm
      · rw [show ((c.toNat : Int) != 93) = true by simpa using h93]
        exact step
theorem Parse_some {t : List UInt8} (ht : t.length ≤ 65536) {k : Nat} (hk : 90000 ≤ k) : ∃ S f, F.charset.Parse k t = some (S, f) ∧ (FaultIn t f ∨ (f.Code = 0 ∧ NF t 0 t.length)) := by
  unfold F.charset.Parse
  rw [if_neg (by rw [decide_eq_true_eq]; omega)]
  match t with
  | [] => exact ⟨_, _, rfl, .inl ⟨by decide, by decide, by decide⟩⟩
  | c :: r =>
    have hin : inR 0 (c :: r).length = true := by rw [inR_iff]; simp
    have hs : sAt (c :: r) 0 = (c.toNat : Int) := rfl
    have hne : ((c :: r) == ([] : List UInt8)) = false := rfl
    simp only [hne, hin, hs, Bool.false_eq_true, if_false, if_true]
    unfold F.charset.Parse_j1
    by_cases h91 : (c.toNat : Int) = 91
    · rw [show ((c.toNat : Int) != 91) = false by simpa using h91]
      simp only [Bool.false_eq_true, if_false]
      have hnf0 : NF (c :: r) 0 1 := NF_one (c := c) rfl (ne10 (by omega))
      have j3 : ∀ (b : Bool) (n : Nat), n ≤ (c :: r).length → NF (c :: r) 0 n → ∃ S f, F.charset.Parse_j3 k (c :: r) b (n : Int) = some (S, f) ∧ (FaultIn (c :: r) f ∨ (f.Code = 0 ∧ NF (c :: r) 0 (c :: r).length)) := by
        intro b n hn hnf
        unfold F.charset.Parse_j3
        rcases Parse_l4_some (t := c :: r) (by omega) (k := k) (by omega) k n (S4.mk 0 0 0 0) hn (by omega) with ⟨S, f, h1, h2⟩ | ⟨S, m, h1, h2, h3⟩
        · rw [h1]
          exact ⟨_, _, rfl, .inl h2⟩
        · rw [h1]
          simp only [Option.bind_some, LR.fin, wrap_succ (show m < 1000000 by omega)]
          by_cases h4 : m + 1 < (c :: r).length
          · rw [if_pos (by rw [decide_eq_true_eq]; omega)]
            exact ⟨_, _, rfl, .inl ⟨by simp, by simp only; omega, by simp only; omega⟩⟩
          · rw [if_neg (by rw [decide_eq_true_eq]; omega)]
            have hall : NF (c :: r) 0 (c :: r).length := by
              have := NF_app hnf h3
              rwa [show m + 1 = (c :: r).length by omega] at this
            cases b with
            | true =>
              obtain ⟨u, hu⟩ := Not_some S (k := k) (by omega)
              simp only [if_true]
              rw [hu]
              exact ⟨_, _, rfl, .inr ⟨rfl, hall⟩⟩
            | false => exact ⟨_, _, rfl, .inr ⟨rfl, hall⟩⟩
      by_cases h4 : 1 < (c :: r).length
      · obtain ⟨d, r2, hd, hr, hc⟩ := drop_cons (t := c :: r) (i := 1) h4
        have hc' : sAt (c :: r) 1 = (d.toNat : Int) := hc
        rw [if_pos (by rw [decide_eq_true_eq]; omega), if_pos (by rw [inR_iff]; omega), hc']
        unfold F.charset.Parse_j2
        by_cases h5 : (d.toNat : Int) = 94
        · rw [show ((d.toNat : Int) == 94) = true by simpa using h5, if_pos rfl]
          refine j3 true 2 (by omega) (NF_app hnf0 (NF_one (c := d) ?_ (ne10 (by omega))))
          have := List.getElem?_drop (xs := c :: r) (i := 1) (j := 0)
          rw [hd] at this
          simpa using this.symm
        · rw [show ((d.toNat : Int) == 94) = false by simpa using h5, if_neg (by simp)]
          exact j3 false 1 (by omega) hnf0
      · rw [if_neg (by rw [decide_eq_true_eq]; omega)]
        unfold F.charset.Parse_j2
        rw [if_neg (by simp)]
        exact j3 false 1 (by simp) hnf0
    · rw [show ((c.toNat : Int) != 91) = true by simpa using h91]
      exact ⟨_, _, rfl, .inl ⟨by decide, by decide, by simp only; omega⟩⟩
end Go.Vc.Cs
