/-
  Words: what bytes are in quotes; the program's and the document's Quote.
-/
import Derived.Test.YtdbnoblklhgdoaaGreatDoorWA
set_option linter.unusedVariables false
set_option linter.unusedSimpArgs false
namespace Go.Vc
open Go
def hexA : List UInt8 := [48, 49, 50, 51, 52, 53, 54, 55, 56, 57, 97, 98, 99, 100, 101, 102]
theorem hexA_len : hexA.length = 16 := rfl
def u8b (n : Int) : Prop := 0 ≤ n ∧ n < 256
def qb (c : Int) : List Int :=
  if c = 34 ∨ c = 92 then [92, c] else if c = 10 then [92, 110] else if c = 9 then [92, 116] else if c = 13 then [92, 114]
  else if 32 ≤ c ∧ c ≤ 126 then [c] else [92, 120, sAt hexA (c / 16), sAt hexA (c % 16)]
def qs : List Int → List Int
  | [] => []
  | c :: r => qb c ++ qs r
theorem qb_len (c : Int) : (qb c).length ≤ 4 := by
  unfold qb
  repeat' split
  all_goals simp
theorem qs_len : ∀ l : List Int, (qs l).length ≤ 4 * l.length
  | [] => Nat.le_refl _
  | c :: r => by have := qb_len c; have := qs_len r; simp only [qs, List.length_append, List.length_cons]; omega
theorem qs_drop {l : List Int} {i : Nat} (h : i < l.length) : qs (l.drop i) = qb l[i] ++ qs (l.drop (i + 1)) := by
  rw [List.drop_eq_getElem_cons h]; rfl
theorem quo16 {b : Int} (h : u8b b) : gquo .u8 b 16 = b / 16 ∧ gquo .i64 (IntKind.wrap .i64 b) 16 = b / 16 ∧ grem b 16 = b % 16 ∧ grem (IntKind.wrap .i64 b) 16 = b % 16 := by
  obtain ⟨h1, h2⟩ := h
  have e1 : IntKind.wrap .i64 b = b := wrap_i64 (by omega) (by omega)
  have e2 : b.tdiv 16 = b / 16 := Int.tdiv_eq_ediv_of_nonneg h1
  have e3 : b.tmod 16 = b % 16 := Int.tmod_eq_emod_of_nonneg h1
  refine ⟨?_, ?_, e3, by rw [e1]; exact e3⟩
  · unfold gquo
    rw [e2]
    simp only [IntKind.wrap, IntKind.bits, IntKind.signed]
    simp
    omega
  · unfold gquo
    rw [e1, e2, wrap_i64 (by omega) (by omega)]
theorem hexA_in {b : Int} (h : u8b b) : inR (b / 16) hexA.length = true ∧ inR (b % 16) hexA.length = true := by
  obtain ⟨h1, h2⟩ := h
  rw [hexA_len]
  constructor <;> simp only [inR, Bool.and_eq_true, decide_eq_true_eq] <;> omega
theorem WB_ok {a : Bool} {B : List Int} {c : Int} (h : B.length < 1000000000) : F.strings.Builder_WriteByte ⟨a, B⟩ c = some ⟨true, B ++ [c]⟩ := by
  unfold F.strings.Builder_WriteByte F.strings.copyCheck
  rw [Option.bind_some]
  rw [if_pos (decide_eq_true (by simp; omega)), if_pos (decide_eq_true (by simp; omega))]
theorem WS_ok {a : Bool} {B : List Int} {s : List UInt8} (h : B.length < 1000000000) (hs : s.length < 1000000) : F.strings.Builder_WriteString ⟨a, B⟩ s = some ((s.length : Int), ⟨true, B ++ ofS s⟩) := by
  unfold F.strings.Builder_WriteString F.strings.copyCheck
  rw [Option.bind_some]
  rw [if_pos (decide_eq_true (by simp; omega)), if_pos (decide_eq_true (by simp; omega))]
theorem Quote_l1_ok {b : List Int} (hb : b.length < 100000) (hok : ∀ c ∈ b, u8b c) : ∀ (j i : Nat) (B : List Int), i ≤ b.length → b.length - i < j → B.length + 4 * (b.length - i) < 1000000 → F.words.Quote_l1 b j i true B = some (true, B ++ qs (b.drop i))
  | 0, _, _, _, h, _ => by omega
  | j + 1, i, B, h1, h2, h3 => by
    simp only [F.words.Quote_l1]
    by_cases hi : i < b.length
    · have hu := hok _ (List.getElem_mem hi)
      obtain ⟨q1, q2, q3, q4⟩ := quo16 hu
      obtain ⟨i1, i2⟩ := hexA_in hu
      have hql := qb_len b[i]
      rw [ix_lt hi, if_pos rfl, ix_in hi, if_pos rfl, ix_at hi, qs_drop hi, ← List.append_assoc]
      have ih := Quote_l1_ok hb hok j (i + 1) (B ++ qb b[i]) (by omega) (by omega) (by rw [List.length_append]; omega)
      rw [← ih, ← ix_inc (show i < 4611686018427387904 by omega)]
      have hA : ([48, 49, 50, 51, 52, 53, 54, 55, 56, 57, 97, 98, 99, 100, 101, 102] : List UInt8) = hexA := rfl
      simp only [F.words.Quote_j4, F.words.Quote_j9, F.words.Quote_j10, F.words.Quote_j8, F.words.Quote_j7, F.words.Quote_j6, F.words.Quote_j5, F.words.Quote_j3, F.words.Quote_j2, ix_at hi, hA, q1, q3, i1, i2]
      generalize hc : b[i] = c at *
      have w1 : F.strings.Builder_WriteByte ⟨true, B⟩ 92 = some ⟨true, B ++ [92]⟩ := WB_ok (by omega)
      have w2 : F.strings.Builder_WriteByte ⟨true, B ++ [92]⟩ c = some ⟨true, B ++ [92] ++ [c]⟩ := WB_ok (by simp; omega)
      have w3 : ∀ s : List UInt8, s.length < 10 → F.strings.Builder_WriteString ⟨true, B⟩ s = some ((s.length : Int), ⟨true, B ++ ofS s⟩) := fun s hs => WS_ok (by omega) (by omega)
      have w4 : F.strings.Builder_WriteByte ⟨true, B⟩ c = some ⟨true, B ++ [c]⟩ := WB_ok (by omega)
      have w5 : F.strings.Builder_WriteByte ⟨true, B ++ ofS [92, 120]⟩ (sAt hexA (c / 16)) = some ⟨true, B ++ ofS [92, 120] ++ [sAt hexA (c / 16)]⟩ := WB_ok (by simp [ofS]; omega)
      have w6 : F.strings.Builder_WriteByte ⟨true, B ++ ofS [92, 120] ++ [sAt hexA (c / 16)]⟩ (sAt hexA (c % 16)) = some ⟨true, B ++ ofS [92, 120] ++ [sAt hexA (c / 16)] ++ [sAt hexA (c % 16)]⟩ := WB_ok (by simp [ofS]; omega)
      unfold qb
      by_cases c34 : c = 34
      · have d1 : (c == 34) = true := by simpa using c34
        simp only [d1, if_true, w1, w2, Option.bind_some]
        rw [if_pos (.inl c34), List.append_assoc]
        rfl
      have d1 : (c == 34) = false := by simpa using c34
      by_cases c92 : c = 92
      · have d2 : (c == 92) = true := by simpa using c92
        simp only [d1, d2, if_true, Bool.false_eq_true, if_false, w1, w2, Option.bind_some]
        rw [if_pos (.inr c92), List.append_assoc]
        rfl
      have d2 : (c == 92) = false := by simpa using c92
      have n0 : ¬ (c = 34 ∨ c = 92) := fun h => h.elim c34 c92
      by_cases c10 : c = 10
      · have d3 : (c == 10) = true := by simpa using c10
        simp only [d1, d2, d3, if_true, Bool.false_eq_true, if_false, w3 [92, 110] (by decide), Option.bind_some]
        rw [if_neg n0, if_pos c10]
        rfl
      have d3 : (c == 10) = false := by simpa using c10
      by_cases c9 : c = 9
      · have d4 : (c == 9) = true := by simpa using c9
        simp only [d1, d2, d3, d4, if_true, Bool.false_eq_true, if_false, w3 [92, 116] (by decide), Option.bind_some]
        rw [if_neg n0, if_neg c10, if_pos c9]
        rfl
      have d4 : (c == 9) = false := by simpa using c9
      by_cases c13 : c = 13
      · have d5 : (c == 13) = true := by simpa using c13
        simp only [d1, d2, d3, d4, d5, if_true, Bool.false_eq_true, if_false, w3 [92, 114] (by decide), Option.bind_some]
        rw [if_neg n0, if_neg c10, if_neg c9, if_pos c13]
        rfl
      have d5 : (c == 13) = false := by simpa using c13
      have hfar : ∀ z, ((F.strings.Builder_WriteString ⟨true, B⟩ [92, 120]).bind fun v6 => if true = true then (F.strings.Builder_WriteByte v6.2 (sAt hexA (c / 16))).bind fun v7 => if true = true then (F.strings.Builder_WriteByte v7 (sAt hexA (c % 16))).bind fun v8 => F.words.Quote_l1 b j z v8.addr v8.buf else none else none) = F.words.Quote_l1 b j z true (B ++ [92, 120, sAt hexA (c / 16), sAt hexA (c % 16)]) := by
        intro z
        simp only [w3 [92, 120] (by decide), if_true, Option.bind_some, w5, w6]
        congr 1
        simp [ofS]
      by_cases hr : 32 ≤ c ∧ c ≤ 126
      · have d6 : decide (c < 32) = false := decide_eq_false (by omega)
        have d7 : decide (126 < c) = false := decide_eq_false (by omega)
        simp only [d1, d2, d3, d4, d5, d6, d7, if_true, Bool.false_eq_true, if_false, w4, Option.bind_some]
        rw [if_neg n0, if_neg c10, if_neg c9, if_neg c13, if_pos hr]
      · rw [if_neg n0, if_neg c10, if_neg c9, if_neg c13, if_neg hr, ← hfar]
        by_cases hl : c < 32
        · have d6 : decide (c < 32) = true := decide_eq_true hl
          simp only [d1, d2, d3, d4, d5, d6, if_true, Bool.false_eq_true, if_false, q3]
        · have d6 : decide (c < 32) = false := decide_eq_false hl
          have d7 : decide (126 < c) = true := decide_eq_true (by omega)
          simp only [d1, d2, d3, d4, d5, d6, d7, if_true, Bool.false_eq_true, if_false, q3]
    · rw [ix_ge hi, if_neg (by simp), List.drop_eq_nil_of_le (by omega)]
      simp [qs]
end Go.Vc
