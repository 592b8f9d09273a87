/-
  Words: the document's Quote is the program's.
-/
import Derived.Test.YtdbnoblklhgdoaaGreatDoorWC
set_option linter.unusedVariables false
set_option linter.unusedSimpArgs false
namespace Go.Vc
open Go
theorem letter_ok (c : Int) : F.ref02.letter c = some (if c = 34 ∨ c = 92 then c else if c = 10 then 110 else if c = 9 then 116 else if c = 13 then 114 else 0) := by
  unfold F.ref02.letter
  by_cases c34 : c = 34
  · simp [c34]
  by_cases c92 : c = 92
  · simp [c92]
  by_cases c10 : c = 10
  · simp [c10]
  by_cases c9 : c = 9
  · simp [c9]
  by_cases c13 : c = 13
  · simp [c13]
  simp [c34, c92, c10, c9, c13]
theorem app_ok {a b : List Int} (h : a.length + b.length < 1000000) : decide ((a.length + b.length) * 1 ≤ 140737488355328) = true ∧ decide (a.length + b.length ≤ 9223372036854775807) = true := ⟨decide_eq_true (by omega), decide_eq_true (by omega)⟩
theorem refQuote_l1_ok {b : List Int} (hb : b.length < 100000) (hok : ∀ c ∈ b, u8b c) : ∀ (j i : Nat) (B : List Int), i ≤ b.length → b.length - i < j → B.length + 4 * (b.length - i) < 900000 → F.ref02.Quote_l1 b j B i = some (B ++ qs (b.drop i))
  | 0, _, _, _, h, _ => by omega
  | j + 1, i, B, h1, h2, h3 => by
    simp only [F.ref02.Quote_l1]
    by_cases hi : i < b.length
    · have hu := hok _ (List.getElem_mem hi)
      obtain ⟨q1, q2, q3, q4⟩ := quo16 hu
      obtain ⟨i1, i2⟩ := hexA_in hu
      have hql := qb_len b[i]
      rw [ix_lt hi, if_pos rfl, ix_in hi, if_pos rfl, qs_drop hi, ← List.append_assoc]
      have ih := refQuote_l1_ok hb hok j (i + 1) (B ++ qb b[i]) (by omega) (by omega) (by rw [List.length_append]; omega)
      rw [← ih, ← ix_inc (show i < 4611686018427387904 by omega)]
      have hA : ([48, 49, 50, 51, 52, 53, 54, 55, 56, 57, 97, 98, 99, 100, 101, 102] : List UInt8) = hexA := rfl
      simp only [F.ref02.Quote_j4, F.ref02.Quote_j5, F.ref02.Quote_j3, F.ref02.Quote_j2, ix_at hi, hA, q2, q4, i1, i2, letter_ok, Option.bind_some]
      generalize hc : b[i] = c at *
      have a2 := fun v : Int => app_ok (a := B) (b := [92, v]) (by simp; omega)
      have a1 := app_ok (a := B) (b := [c]) (by simp; omega)
      have a4 := app_ok (a := B) (b := [92, 120, sAt hexA (c / 16), sAt hexA (c % 16)]) (by simp; omega)
      unfold qb
      by_cases n0 : c = 34 ∨ c = 92
      · have hne : (c != 0) = true := by rw [bne_iff_ne]; omega
        simp only [if_pos n0, hne, if_true, (a2 c).1, (a2 c).2]
      by_cases c10 : c = 10
      · have hne : ((110 : Int) != 0) = true := by decide
        simp only [if_neg n0, if_pos c10, hne, if_true, (a2 110).1, (a2 110).2]
      by_cases c9 : c = 9
      · have hne : ((116 : Int) != 0) = true := by decide
        simp only [if_neg n0, if_neg c10, if_pos c9, hne, if_true, (a2 116).1, (a2 116).2]
      by_cases c13 : c = 13
      · have hne : ((114 : Int) != 0) = true := by decide
        simp only [if_neg n0, if_neg c10, if_neg c9, if_pos c13, hne, if_true, (a2 114).1, (a2 114).2]
      have hne : ((0 : Int) != 0) = false := by decide
      by_cases hr : 32 ≤ c ∧ c ≤ 126
      · simp only [if_neg n0, if_neg c10, if_neg c9, if_neg c13, if_pos hr, hne, Bool.false_eq_true, if_false, decide_eq_true hr.1, decide_eq_true hr.2, if_true, a1.1, a1.2]
      · by_cases hl : 32 ≤ c
        · simp only [if_neg n0, if_neg c10, if_neg c9, if_neg c13, if_neg hr, hne, Bool.false_eq_true, if_false, decide_eq_true hl, decide_eq_false (show ¬ c ≤ 126 from fun h => hr ⟨hl, h⟩), if_true, a4.1, a4.2]
        · simp only [if_neg n0, if_neg c10, if_neg c9, if_neg c13, if_neg hr, hne, Bool.false_eq_true, if_false, decide_eq_false hl, if_true, a4.1, a4.2]
    · rw [ix_ge hi, if_neg (by simp), List.drop_eq_nil_of_le (by omega)]
      simp [qs]
def quo (b : List Int) : List UInt8 := toS (34 :: (qs b ++ [34]))
theorem refQuote_ok {k : Nat} {b : List Int} (hb : b.length < 70000) (hok : ∀ c ∈ b, u8b c) (hk : 100000 ≤ k) : F.ref02.Quote k b = some (quo b) := by
  unfold F.ref02.Quote
  have h1 := refQuote_l1_ok (by omega) hok k 0 [34] (by omega) (by omega) (by simp; omega)
  rw [zero_cast, List.drop_zero] at h1
  have hql := qs_len b
  rw [if_pos (by decide), if_pos (by decide), List.nil_append, h1, Option.bind_some]
  have ha := app_ok (a := [34] ++ qs b) (b := [34]) (by simp; omega)
  rw [ha.1, ha.2, if_pos rfl, if_pos rfl]
  unfold quo
  simp
theorem qb_ok {c : Int} (h : u8b c) : ∀ x ∈ qb c, okB x = true := by
  have hs : ∀ i : Int, okB (sAt hexA i) = true := by
    intro i
    unfold okB sAt
    have := (hexA.getD i.toNat 0).toNat_lt
    rw [Bool.and_eq_true, decide_eq_true_eq, decide_eq_true_eq]
    omega
  obtain ⟨h1, h2⟩ := h
  intro x hx
  unfold qb at hx
  split at hx
  · simp only [List.mem_cons, List.not_mem_nil, or_false] at hx
    rcases hx with rfl | rfl
    · decide
    · simp [okB]; omega
  split at hx
  · simp only [List.mem_cons, List.not_mem_nil, or_false] at hx
    rcases hx with rfl | rfl <;> decide
  split at hx
  · simp only [List.mem_cons, List.not_mem_nil, or_false] at hx
    rcases hx with rfl | rfl <;> decide
  split at hx
  · simp only [List.mem_cons, List.not_mem_nil, or_false] at hx
    rcases hx with rfl | rfl <;> decide
  split at hx
  · simp only [List.mem_cons, List.not_mem_nil, or_false] at hx
    subst hx
    simp [okB]; omega
  · simp only [List.mem_cons, List.not_mem_nil, or_false] at hx
    rcases hx with rfl | rfl | rfl | rfl
    · decide
    · decide
    · exact hs _
    · exact hs _
theorem qs_ok : ∀ {b : List Int}, (∀ c ∈ b, u8b c) → ∀ x ∈ qs b, okB x = true
  | [], _, _, h => by cases h
  | c :: r, hok, x, h => by
    simp only [qs, List.mem_append] at h
    rcases h with h | h
    · exact qb_ok (hok c (by simp)) x h
    · exact qs_ok (fun c hc => hok c (by simp [hc])) x h
theorem Quote_ok {k : Nat} {b : List Int} (hb : b.length < 70000) (hok : ∀ c ∈ b, u8b c) (hk : 100000 ≤ k) : F.words.Quote k b = some (quo b) := by
  unfold F.words.Quote
  have h1 := Quote_l1_ok (by omega) hok k 0 [34] (by omega) (by omega) (by simp; omega)
  rw [zero_cast, List.drop_zero] at h1
  have hql := qs_len b
  rw [WB_ok (by simp), Option.bind_some]
  show ((F.words.Quote_l1 b k 0 true ([] ++ [34])).bind _) = _
  rw [List.nil_append, h1, Option.bind_some, WB_ok (by simp; omega), Option.bind_some]
  unfold F.strings.Builder_String
  rw [if_pos ?_, Option.bind_some]
  · unfold quo
    simp
  · rw [List.all_eq_true]
    intro x hx
    simp only [List.mem_append, List.mem_cons, List.not_mem_nil, or_false] at hx
    rcases hx with (rfl | hx) | rfl
    · decide
    · exact qs_ok hok x hx
    · decide
end Go.Vc
