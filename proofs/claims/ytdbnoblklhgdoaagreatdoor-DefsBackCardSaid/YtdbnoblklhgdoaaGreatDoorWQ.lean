import Derived.Test.YtdbnoblklhgdoaaGreatDoorWA
set_option linter.unusedVariables false
set_option linter.unusedSimpArgs false
namespace Go.Vc
open Go
def qm : List UInt8 := [48, 49, 50, 51, 52, 53, 54, 55, 56, 57, 97, 98, 99, 100, 101, 102]
theorem hexA_len : qm.length = 16 := rfl
def u8b (n : Int) : Prop := 0 <= n /\ n < 256
def qb (c : Int) : List Int :=
 if c = 34 \/ c = 92 then [92, c] else if c = 10 then [92, 110] else if c = 9 then [92, 116] else if c = 13 then [92, 114]
 else if 32 <= c /\ c <= 126 then [c] else [92, 120, yk qm (c / 16), yk qm (c % 16)]
def qs : List Int -> List Int
 | [] => []
 | c :: r => qb c ++ qs r
theorem qb_len (c : Int) : (qb c).length <= 4 := by
 unfold qb
 repeat' split
 all_goals simp
theorem qs_len : ∀ l : List Int, (qs l).length <= 4 * l.length
 | [] => Nat.le_refl _
 | c :: r => by have := qb_len c; have := qs_len r; simp only [qs, List.length_append, List.length_cons]; omega
theorem qs_drop {l : List Int} {i : Nat} (h : i < l.length) : qs (l.drop i) = qb l[i] ++ qs (l.drop (i + 1)) := by
 rw [List.drop_eq_getElem_cons h]; rfl
theorem quo16 {b : Int} (h : u8b b) : vh .u8 b 16 = b / 16 /\ vh .i64 (IntKind.wrap .i64 b) 16 = b / 16 /\ jL b 16 = b % 16 /\ jL (IntKind.wrap .i64 b) 16 = b % 16 := by
 obtain ⟨h1, h2⟩ := h
 have e1 : IntKind.wrap .i64 b = b := zO (by omega) (by omega)
 have e2 : b.tdiv 16 = b / 16 := Int.tdiv_eq_ediv_of_nonneg h1
 have e3 : b.tmod 16 = b % 16 := Int.tmod_eq_emod_of_nonneg h1
 refine ⟨?_, ?_, e3, by rw [e1]; exact e3⟩
 ·unfold vh
  rw [e2]
  simp only [IntKind.wrap, IntKind.bits, IntKind.signed]
  simp
  omega
 ·unfold vh
  rw [e1, e2, zO (by omega) (by omega)]
theorem hexA_in {b : Int} (h : u8b b) : xf (b / 16) qm.length = true /\ xf (b % 16) qm.length = true := by
 obtain ⟨h1, h2⟩ := h
 rw [hexA_len]
 constructor <;> simp only [xf, Bool.and_eq_true, decide_eq_true_eq] <;> omega
theorem WB_ok {a : Bool} {B : List Int} {c : Int} (h : B.length < 1000000000) : F.strings.Builder_WriteByte ⟨a, B⟩ c = some ⟨true, B ++ [c]⟩ := by
 unfold F.strings.Builder_WriteByte F.strings.copyCheck
 rw [Option.bind_some]
 rw [if_pos (decide_eq_true (by simp; omega)), if_pos (decide_eq_true (by simp; omega))]
theorem WS_ok {a : Bool} {B : List Int} {s : List UInt8} (h : B.length < 1000000000) (hs : s.length < 1000000) : F.strings.Builder_WriteString ⟨a, B⟩ s = some ((s.length : Int), ⟨true, B ++ ve s⟩) := by
 unfold F.strings.Builder_WriteString F.strings.copyCheck
 rw [Option.bind_some]
 rw [if_pos (decide_eq_true (by simp; omega)), if_pos (decide_eq_true (by simp; omega))]
theorem Quote_l1_ok {b : List Int} (hb : b.length < 100000) (hok : ∀ c ∈ b, u8b c) : ∀ (j i : Nat) (B : List Int), i <= b.length -> b.length - i < j -> B.length + 4 * (b.length - i) < 1000000 -> qw.Quote_l1 b j i true B = some (true, B ++ qs (b.drop i))
 | 0, _, _, _, h, _ => by omega
 | j + 1, i, B, h1, h2, h3 => by
  simp only [qw.Quote_l1]
  by_cases hi : i < b.length
  ·have hu := hok _ (List.getElem_mem hi)
   obtain ⟨q1, q2, q3, q4⟩ := quo16 hu
   obtain ⟨i1, i2⟩ := hexA_in hu
   have hql := qb_len b[i]
   rw [xB hi, if_pos rfl, yQ hi, if_pos rfl, yG hi, qs_drop hi, <- List.append_assoc]
   have ih := Quote_l1_ok hb hok j (i + 1) (B ++ qb b[i]) (by omega) (by omega) (by rw [List.length_append]; omega)
   rw [<- ih, <- yg (show i < 4611686018427387904 by omega)]
   have hA : ([48, 49, 50, 51, 52, 53, 54, 55, 56, 57, 97, 98, 99, 100, 101, 102] : List UInt8) = qm := rfl
   simp only [qw.Quote_j4, qw.Quote_j9, qw.Quote_j10, qw.Quote_j8, qw.Quote_j7, qw.Quote_j6, qw.Quote_j5, qw.Quote_j3, qw.Quote_j2, yG hi, hA, q1, q3, i1, i2]
   generalize hc : b[i] = c at *
   have w1 : F.strings.Builder_WriteByte ⟨true, B⟩ 92 = some ⟨true, B ++ [92]⟩ := WB_ok (by omega)
   have w2 : F.strings.Builder_WriteByte ⟨true, B ++ [92]⟩ c = some ⟨true, B ++ [92] ++ [c]⟩ := WB_ok (by simp; omega)
   have w3 : ∀ s : List UInt8, s.length < 10 -> F.strings.Builder_WriteString ⟨true, B⟩ s = some ((s.length : Int), ⟨true, B ++ ve s⟩) := fun s hs => WS_ok (by omega) (by omega)
   have w4 : F.strings.Builder_WriteByte ⟨true, B⟩ c = some ⟨true, B ++ [c]⟩ := WB_ok (by omega)
   have w5 : F.strings.Builder_WriteByte ⟨true, B ++ ve [92, 120]⟩ (yk qm (c / 16)) = some ⟨true, B ++ ve [92, 120] ++ [yk qm (c / 16)]⟩ := WB_ok (by simp [ve]; omega)
   have w6 : F.strings.Builder_WriteByte ⟨true, B ++ ve [92, 120] ++ [yk qm (c / 16)]⟩ (yk qm (c % 16)) = some ⟨true, B ++ ve [92, 120] ++ [yk qm (c / 16)] ++ [yk qm (c % 16)]⟩ := WB_ok (by simp [ve]; omega)
   unfold qb
   by_cases c34 : c = 34
   ·have d1 : (c == 34) = true := by simpa using c34
    simp only [d1, if_true, w1, w2, Option.bind_some]
    rw [if_pos (.inl c34), List.append_assoc]
    rfl
   have d1 : (c == 34) = false := by simpa using c34
   by_cases c92 : c = 92
   ·have d2 : (c == 92) = true := by simpa using c92
    simp only [d1, d2, if_true, Bool.false_eq_true, if_false, w1, w2, Option.bind_some]
    rw [if_pos (.inr c92), List.append_assoc]
    rfl
   have d2 : (c == 92) = false := by simpa using c92
   have n0 : ¬ (c = 34 \/ c = 92) := fun h => h.elim c34 c92
   by_cases c10 : c = 10
   ·have d3 : (c == 10) = true := by simpa using c10
    simp only [d1, d2, d3, if_true, Bool.false_eq_true, if_false, w3 [92, 110] (by decide), Option.bind_some]
    rw [if_neg n0, if_pos c10]
    rfl
   have d3 : (c == 10) = false := by simpa using c10
   by_cases c9 : c = 9
   ·have d4 : (c == 9) = true := by simpa using c9
    simp only [d1, d2, d3, d4, if_true, Bool.false_eq_true, if_false, w3 [92, 116] (by decide), Option.bind_some]
    rw [if_neg n0, if_neg c10, if_pos c9]
    rfl
   have d4 : (c == 9) = false := by simpa using c9
   by_cases c13 : c = 13
   ·have d5 : (c == 13) = true := by simpa using c13
    simp only [d1, d2, d3, d4, d5, if_true, Bool.false_eq_true, if_false, w3 [92, 114] (by decide), Option.bind_some]
    rw [if_neg n0, if_neg c10, if_neg c9, if_pos c13]
    rfl
   have d5 : (c == 13) = false := by simpa using c13
   have hfar : ∀ z, ((F.strings.Builder_WriteString ⟨true, B⟩ [92, 120]).bind fun v6 => if true = true then (F.strings.Builder_WriteByte v6.2 (yk qm (c / 16))).bind fun v7 => if true = true then (F.strings.Builder_WriteByte v7 (yk qm (c % 16))).bind fun v8 => qw.Quote_l1 b j z v8.addr v8.buf else none else none) = qw.Quote_l1 b j z true (B ++ [92, 120, yk qm (c / 16), yk qm (c % 16)]) := by
    intro z
    simp only [w3 [92, 120] (by decide), if_true, Option.bind_some, w5, w6]
    congr 1
    simp [ve]
   by_cases hr : 32 <= c /\ c <= 126
   ·have d6 : decide (c < 32) = false := decide_eq_false (by omega)
    have d7 : decide (126 < c) = false := decide_eq_false (by omega)
    simp only [d1, d2, d3, d4, d5, d6, d7, if_true, Bool.false_eq_true, if_false, w4, Option.bind_some]
    rw [if_neg n0, if_neg c10, if_neg c9, if_neg c13, if_pos hr]
   ·rw [if_neg n0, if_neg c10, if_neg c9, if_neg c13, if_neg hr, <- hfar]
    by_cases hl : c < 32
    ·have d6 : decide (c < 32) = true := decide_eq_true hl
     simp only [d1, d2, d3, d4, d5, d6, if_true, Bool.false_eq_true, if_false, q3]
    ·have d6 : decide (c < 32) = false := decide_eq_false hl
     have d7 : decide (126 < c) = true := decide_eq_true (by omega)
     simp only [d1, d2, d3, d4, d5, d6, d7, if_true, Bool.false_eq_true, if_false, q3]
  ·rw [xy hi, if_neg (by simp), List.drop_eq_nil_of_le (by omega)]
   simp [qs]
theorem app_ok {a b : List Int} (h : a.length + b.length < 1000000) : decide ((a.length + b.length) * 1 <= 140737488355328) = true /\ decide (a.length + b.length <= 9223372036854775807) = true := ⟨decide_eq_true (by omega), decide_eq_true (by omega)⟩
def quo (b : List Int) : List UInt8 := vj (34 :: (qs b ++ [34]))
theorem qb_ok {c : Int} (h : u8b c) : ∀ x ∈ qb c, okB x = true := by
 have hs : ∀ i : Int, okB (yk qm i) = true := by
  intro i
  unfold okB yk
  have := (qm.getD i.toNat 0).toNat_lt
  rw [Bool.and_eq_true, decide_eq_true_eq, decide_eq_true_eq]
  omega
 obtain ⟨h1, h2⟩ := h
 intro x hx
 unfold qb at hx
 split at hx
 ·simp only [List.mem_cons, List.not_mem_nil, or_false] at hx
  rcases hx with rfl | rfl
  ·decide
  ·simp [okB]; omega
 split at hx
 ·simp only [List.mem_cons, List.not_mem_nil, or_false] at hx
  rcases hx with rfl | rfl <;> decide
 split at hx
 ·simp only [List.mem_cons, List.not_mem_nil, or_false] at hx
  rcases hx with rfl | rfl <;> decide
 split at hx
 ·simp only [List.mem_cons, List.not_mem_nil, or_false] at hx
  rcases hx with rfl | rfl <;> decide
 split at hx
 ·simp only [List.mem_cons, List.not_mem_nil, or_false] at hx
  subst hx
  simp [okB]; omega
 ·simp only [List.mem_cons, List.not_mem_nil, or_false] at hx
  rcases hx with rfl | rfl | rfl | rfl
  ·decide
  ·decide
  ·exact hs _
  ·exact hs _
theorem qs_ok : ∀ {b : List Int}, (∀ c ∈ b, u8b c) -> ∀ x ∈ qs b, okB x = true
 | [], _, _, h => by cases h
 | c :: r, hok, x, h => by
  simp only [qs, List.mem_append] at h
  rcases h with h | h
  ·exact qb_ok (hok c (by simp)) x h
  ·exact qs_ok (fun c hc => hok c (by simp [hc])) x h
theorem Quote_ok {k : Nat} {b : List Int} (hb : b.length < 70000) (hok : ∀ c ∈ b, u8b c) (hk : 100000 <= k) : qw.Quote k b = some (quo b) := by
 unfold qw.Quote
 have h1 := Quote_l1_ok (by omega) hok k 0 [34] (by omega) (by omega) (by simp; omega)
 rw [wM, List.drop_zero] at h1
 have hql := qs_len b
 rw [WB_ok (by simp), Option.bind_some]
 show ((qw.Quote_l1 b k 0 true ([] ++ [34])).bind _) = _
 rw [List.nil_append, h1, Option.bind_some, WB_ok (by simp; omega), Option.bind_some]
 unfold F.strings.Builder_String
 rw [if_pos ?_, Option.bind_some]
 ·unfold quo
  simp
 ·rw [List.all_eq_true]
  intro x hx
  simp only [List.mem_append, List.mem_cons, List.not_mem_nil, or_false] at hx
  rcases hx with (rfl | hx) | rfl
  ·decide
  ·exact qs_ok hok x hx
  ·decide
end Go.Vc
