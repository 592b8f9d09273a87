/-
  A set's text read, 2: the program's reader.
-/
import Derived.Test.YtmcnanedpofeoaaPN
namespace Go.Vc
open Go

theorem sub_rest {t : List UInt8} {i : Nat} (_ : i ≤ t.length) : sub t (i : Int) (t.length : Int) = t.drop i := by
  unfold sub
  rw [Int.toNat_natCast, Int.toNat_natCast]
  apply List.take_of_length_le
  simp
/-- what the reader says of a sign -/
def charR (t : List UInt8) (i : Nat) (rd : Charset_reader) : Int × Fault × Charset_reader :=
  if (oneS (t.drop i)).2.2 = 0 then (((oneS (t.drop i)).1 : Int), ⟨0, 0⟩, ⟨t, ((i + (oneS (t.drop i)).2.1 : Nat) : Int)⟩) else (0, ⟨(i : Int), ((oneS (t.drop i)).2.2 : Int)⟩, rd)
theorem escaped_ok {t : List UInt8} (ht : t.length < 100000) {i : Nat} (hi : i < t.length) : ∃ rd, F.charset.reader_escaped ⟨t, (i : Int)⟩ = some
    (if (escS (t.drop (i + 1))).2.2 = 0 then (((escS (t.drop (i + 1))).1 : Int), ⟨0, 0⟩, ⟨t, ((i + (escS (t.drop (i + 1))).2.1 : Nat) : Int)⟩) else (0, ⟨(i : Int), ((escS (t.drop (i + 1))).2.2 : Int)⟩, rd)) := by
  have w1 : IntKind.wrap .i64 ((i : Int) + 1) = ((i + 1 : Nat) : Int) := wrap_succ (by omega)
  have w2 : IntKind.wrap .i64 ((i : Int) + 2) = ((i + 2 : Nat) : Int) := by rw [wrap_i64 (by omega) (by omega)]; rfl
  have w4 : IntKind.wrap .i64 (((i + 2 : Nat) : Int) + 2) = ((i + 4 : Nat) : Int) := by rw [wrap_i64 (by omega) (by omega)]; omega
  have hok : okSub ((i + 1 : Nat) : Int) (t.length : Int) t.length = true := by rw [okSub_iff]; omega
  unfold F.charset.reader_escaped
  simp only [w1, w2, hok, if_true, sub_rest (show i + 1 ≤ t.length by omega)]
  generalize hr : t.drop (i + 1) = r
  have hrl : r.length = t.length - (i + 1) := by rw [← hr, List.length_drop]
  match r, hrl, hr with
  | [], hrl, hr => exact ⟨⟨t, (i : Int)⟩, by simp [escS]⟩
  | d :: r, hrl, hr =>
    simp only [List.length_cons] at hrl
    have hs0 : sAt (d :: r) 0 = (d.toNat : Int) := rfl
    have hd := u8_lt d
    have hbad : F.charset.reader_escaped_j1 ⟨t, (i : Int)⟩ = some (0, ⟨(i : Int), 12⟩, ⟨t, ((i + 2 : Nat) : Int)⟩) := by
      unfold F.charset.reader_escaped_j1
      simp only [w2]
    have hin0 : inR 0 (d :: r).length = true := by rw [inR_iff]; simp
    have hne : ((d :: r) == ([] : List UInt8)) = false := by simp
    have good : ∀ m : Nat, m ≠ 120 → d.toNat = m → escv m < 256 → F.charset.reader_escaped_j1 ⟨t, (i : Int)⟩ = F.charset.reader_escaped_j1 ⟨t, (i : Int)⟩ → ∀ (v : Int) (rd : Charset_reader), v = (escv m : Int) → some (v, (⟨0, 0⟩ : Fault), (⟨t, ((i + 2 : Nat) : Int)⟩ : Charset_reader)) = some
        (if (escS (d :: r)).2.2 = 0 then (((escS (d :: r)).1 : Int), ⟨0, 0⟩, ⟨t, ((i + (escS (d :: r)).2.1 : Nat) : Int)⟩) else (0, ⟨(i : Int), ((escS (d :: r)).2.2 : Int)⟩, rd)) := by
      intro m hm hdm hlt _ v rd hv
      have : escS (d :: r) = (escv m, 2, 0) := by
        simp only [escS]
        rw [hdm, if_neg hm, if_pos hlt]
      rw [this, hv]
      rfl
    rw [if_neg (by rw [hne]; simp), if_pos hin0, hs0]
    by_cases c1 : d.toNat = 110
    · rw [if_pos (by simp [c1])]
      exact ⟨⟨t, 0⟩, good 110 (by decide) c1 (by decide) rfl _ _ (by decide)⟩
    rw [if_neg (by simp; omega)]
    by_cases c2 : d.toNat = 116
    · rw [if_pos (by simp [c2])]
      exact ⟨⟨t, 0⟩, good 116 (by decide) c2 (by decide) rfl _ _ (by decide)⟩
    rw [if_neg (by simp; omega)]
    by_cases c3 : d.toNat = 114
    · rw [if_pos (by simp [c3])]
      exact ⟨⟨t, 0⟩, good 114 (by decide) c3 (by decide) rfl _ _ (by decide)⟩
    rw [if_neg (by simp; omega)]
    by_cases c4 : d.toNat = 115
    · rw [if_pos (by simp [c4])]
      exact ⟨⟨t, 0⟩, good 115 (by decide) c4 (by decide) rfl _ _ (by decide)⟩
    rw [if_neg (by simp; omega)]
    have j3t : F.charset.reader_escaped_j3 ⟨t, (i : Int)⟩ true = some (IntKind.wrap .i64 (d.toNat : Int), (⟨0, 0⟩ : Fault), (⟨t, ((i + 2 : Nat) : Int)⟩ : Charset_reader)) := by
      unfold F.charset.reader_escaped_j3
      simp only [w1, w2, sub_rest (show i + 1 ≤ t.length by omega), hr, hs0, if_true]
    by_cases c5 : d.toNat = 91
    · rw [if_pos (by simp [c5]), show ((d.toNat : Int) == 91) = true by simp [c5], j3t, c5]
      exact ⟨⟨t, 0⟩, good 91 (by decide) c5 (by decide) rfl _ _ (by decide)⟩
    rw [if_neg (by simp; omega)]
    by_cases c6 : d.toNat = 93
    · rw [if_pos (by simp [c6]), show ((d.toNat : Int) == 93) = true by simp [c6], j3t, c6]
      exact ⟨⟨t, 0⟩, good 93 (by decide) c6 (by decide) rfl _ _ (by decide)⟩
    rw [if_neg (by simp; omega)]
    simp only [F.charset.reader_escaped_j6]
    by_cases c7 : d.toNat = 92
    · rw [if_pos (by simp [c7]), show ((d.toNat : Int) == 92) = true by simp [c7], j3t, c7]
      exact ⟨⟨t, 0⟩, good 92 (by decide) c7 (by decide) rfl _ _ (by decide)⟩
    rw [if_neg (by simp; omega)]
    by_cases c8 : d.toNat = 45
    · rw [if_pos (by simp [c8]), show ((d.toNat : Int) == 45) = true by simp [c8], j3t, c8]
      exact ⟨⟨t, 0⟩, good 45 (by decide) c8 (by decide) rfl _ _ (by decide)⟩
    rw [if_neg (by simp; omega)]
    by_cases c9 : d.toNat = 94
    · rw [show ((d.toNat : Int) == 94) = true by simp [c9], j3t, c9]
      exact ⟨⟨t, 0⟩, good 94 (by decide) c9 (by decide) rfl _ _ (by decide)⟩
    rw [show ((d.toNat : Int) == 94) = false by simp; omega]
    have he : escv d.toNat = 256 := by
      unfold escv
      rw [if_neg c1, if_neg c2, if_neg c3, if_neg c4, if_neg (by omega)]
    unfold F.charset.reader_escaped_j3 F.charset.reader_escaped_j4 F.charset.reader_escaped_j2
    simp only [w1, sub_rest (show i + 1 ≤ t.length by omega), hr, hs0, Bool.false_eq_true, if_false, hbad]
    refine ⟨⟨t, ((i + 2 : Nat) : Int)⟩, ?_⟩
    by_cases c10 : d.toNat = 120
    · rw [if_pos (by simp [c10])]
      have hes : escS (d :: r) = hexS r := by simp only [escS]; rw [if_pos c10]
      rw [hes]
      match r, hrl, hr with
      | a :: b :: r', hrl, hr =>
        simp only [List.length_cons] at hrl
        have hs1 : sAt (d :: a :: b :: r') 1 = (a.toNat : Int) := rfl
        have hs2 : sAt (d :: a :: b :: r') 2 = (b.toNat : Int) := rfl
        have va := hexv_le a.toNat
        have vb := hexv_le b.toNat
        have hi1 : inR 1 (d :: a :: b :: r').length = true := by rw [inR_iff]; simp; omega
        have hi2 : inR 2 (d :: a :: b :: r').length = true := by rw [inR_iff]; simp; omega
        rw [if_pos (by rw [decide_eq_true_eq]; simp; omega), if_pos hi1, hs1, hs2, digit_ok, digit_ok, if_pos hi2]
        unfold F.charset.reader_escaped_j5 F.charset.reader_escaped_j4 F.charset.reader_escaped_j2
        simp only [w1, w2, w4, sub_rest (show i + 1 ≤ t.length by omega), hr, hbad, hi1, hi2, hs1, hs2, digit_ok, if_true, Option.bind_some, hexS]
        by_cases h1 : hexv a.toNat < 16
        · by_cases h2 : hexv b.toNat < 16
          · simp only [h1, h2, if_true, and_self]
            rw [if_pos (by rw [decide_eq_true_eq]; omega), if_pos (by rw [decide_eq_true_eq]; omega)]
            rw [wrap_i64 (n := 16 * _) (by omega) (by omega), wrap_i64 (by omega) (by omega)]
            simp only [Int.natCast_add, Int.natCast_mul]
            rfl
          · simp only [h1, h2, if_true, if_false, and_false]
            simp
        · simp only [h1, if_false, false_and]
          simp
      | [], hrl, hr =>
        unfold F.charset.reader_escaped_j5 F.charset.reader_escaped_j4 F.charset.reader_escaped_j2
        simp only [hbad, hexS]
        rw [if_neg (by rw [decide_eq_true_eq]; simp)]
        simp
      | [a], hrl, hr =>
        unfold F.charset.reader_escaped_j5 F.charset.reader_escaped_j4 F.charset.reader_escaped_j2
        simp only [hbad, hexS]
        rw [if_neg (by rw [decide_eq_true_eq]; simp)]
        simp
    · rw [if_neg (by simp; omega)]
      have hes : escS (d :: r) = (0, 0, 12) := by
        simp only [escS]
        rw [if_neg c10, if_neg (by omega)]
      rw [hes]
      simp
theorem char_ok {t : List UInt8} (ht : t.length < 100000) {i : Nat} (hi : i ≤ t.length) : ∃ rd, F.charset.reader_char ⟨t, (i : Int)⟩ = some (charR t i rd) := by
  unfold F.charset.reader_char charR
  by_cases h0 : i = t.length
  · rw [if_pos (by rw [decide_eq_true_eq]; simp only; omega), List.drop_eq_nil_of_le (by omega)]
    refine ⟨⟨t, (i : Int)⟩, ?_⟩
    subst h0
    simp [oneS]
  · obtain ⟨c, r, hd, hr, hc⟩ := drop_cons (t := t) (i := i) (by omega)
    have hd1 : t.drop (i + 1) = r := by rw [← List.drop_drop, hd]; rfl
    have hcl := u8_lt c
    rw [if_neg (by rw [decide_eq_true_eq]; simp only; omega), if_pos (by rw [inR_iff]; simp only; omega)]
    simp only [hc, hd]
    by_cases h92 : c.toNat = 92
    · have ho : oneS (c :: r) = escS r := by simp only [oneS]; rw [if_neg (by simp [h92])]
      rw [if_pos (by simp [h92]), ho]
      obtain ⟨rd, hE⟩ := escaped_ok ht (i := i) (by omega)
      rw [hd1] at hE
      refine ⟨rd, ?_⟩
      rw [hE, Option.bind_some]
    · have hbad : (c.toNat ≤ 32 ∨ 127 ≤ c.toNat ∨ spec9 c.toNat ≠ 0) → oneS (c :: r) = (0, 0, 11) := by
        intro h
        simp only [oneS]
        rw [if_pos h92, if_pos h]
      rw [if_neg (by simp; omega)]
      refine ⟨⟨t, (i : Int)⟩, ?_⟩
      simp only [F.charset.reader_char_j1]
      have w1 : IntKind.wrap .i64 ((i : Int) + 1) = ((i + 1 : Nat) : Int) := wrap_succ (by omega)
      by_cases c1 : c.toNat ≤ 32
      · rw [if_pos (by rw [decide_eq_true_eq]; omega), hbad (.inl c1)]; simp
      rw [if_neg (by rw [decide_eq_true_eq]; omega)]
      by_cases c2 : 127 ≤ c.toNat
      · rw [if_pos (by rw [decide_eq_true_eq]; omega), hbad (.inr (.inl c2))]; simp
      rw [if_neg (by rw [decide_eq_true_eq]; omega)]
      by_cases c3 : c.toNat = 91
      · rw [if_pos (by simp [c3]), hbad (by rw [c3]; decide)]; simp
      rw [if_neg (by simp; omega)]
      by_cases c4 : c.toNat = 93
      · rw [if_pos (by simp [c4]), hbad (by rw [c4]; decide)]; simp
      rw [if_neg (by simp; omega)]
      by_cases c5 : c.toNat = 45
      · rw [if_pos (by simp [c5]), hbad (by rw [c5]; decide)]; simp
      rw [if_neg (by simp; omega)]
      by_cases c6 : c.toNat = 94
      · rw [show ((c.toNat : Int) == 94) = true by simp [c6], hbad (by rw [c6]; decide)]; simp
      rw [show ((c.toNat : Int) == 94) = false by simp; omega]
      have hs : spec9 c.toNat = 0 := by
        unfold spec9
        rw [if_neg (by omega), if_neg (by omega), if_neg (by omega), if_neg (by omega), if_neg (by omega)]
      have ho : oneS (c :: r) = (c.toNat, 1, 0) := by
        simp only [oneS]
        rw [if_pos h92, if_neg (by rw [hs]; omega)]
      rw [ho, w1, wrap_i64 (by omega) (by omega)]
      simp [hc]
end Go.Vc
