/-
  Words: names and keys; the law WordsNames.
-/
import Derived.Test.YtdbnoblklhgdoaaGreatDoorA1
import Derived.Test.YtdbnoblklhgdoaaGreatDoorVcR
set_option linter.unusedVariables false
set_option linter.unusedSimpArgs false
namespace Go.Vc
open Go
theorem wrap_i64 {n : Int} (h1 : -9223372036854775808 ≤ n) (h2 : n < 9223372036854775808) : IntKind.wrap .i64 n = n := by
  simp only [IntKind.wrap, IntKind.bits, IntKind.signed]
  simp
  omega
theorem wrap_i32 {n : Int} (h1 : -2147483648 ≤ n) (h2 : n < 2147483648) : IntKind.wrap .i32 n = n := by
  simp only [IntKind.wrap, IntKind.bits, IntKind.signed]
  simp
  omega
section
variable {α : Type} {ks : List α} {i : Nat}
theorem ix_lt (h : i < ks.length) : decide ((i : Int) < (ks.length : Int)) = true := by simpa using h
theorem ix_ge (h : ¬ i < ks.length) : decide ((i : Int) < (ks.length : Int)) = false := by simp; omega
theorem ix_in (h : i < ks.length) : inR (i : Int) ks.length = true := by
  simp only [inR, Bool.and_eq_true, decide_eq_true_eq]; omega
theorem ix_at [Inhabited α] (h : i < ks.length) : at_ ks (i : Int) = ks[i] := by simp [at_, h]
end
theorem ix_inc {i : Nat} (h : i < 4611686018427387904) : IntKind.wrap .i64 ((i : Int) + 1) = ((i + 1 : Nat) : Int) := by
  rw [wrap_i64 (by omega) (by omega)]; omega
theorem sAt_get {s : List UInt8} {i : Nat} (h : i < s.length) : sAt s (i : Int) = ((s[i].toNat : Nat) : Int) := by simp [sAt, h]
theorem zero_cast : ((0 : Nat) : Int) = 0 := rfl
def cls (n : Nat) : Nat := if 65 ≤ n ∧ n ≤ 90 then 1 else if 97 ≤ n ∧ n ≤ 122 then 2 else if 48 ≤ n ∧ n ≤ 57 then 3 else 0
def al (c : UInt8) : Bool := decide (0 < cls c.toNat)
theorem great_ok (n : Nat) : F.words.great (n : Int) = some (decide (cls n = 1)) := by
  unfold F.words.great cls
  simp only [decide_eq_true_eq]
  split
  · congr 1
    rw [Bool.eq_iff_iff]
    simp only [decide_eq_true_eq]
    repeat' split
    all_goals first | omega | simp_all <;> omega
  · congr 1
    symm
    rw [decide_eq_false_iff_not]
    repeat' split
    all_goals first | omega | simp_all <;> omega
theorem small_ok (n : Nat) : F.words.small (n : Int) = some (decide (cls n = 2)) := by
  unfold F.words.small cls
  simp only [decide_eq_true_eq]
  split
  · congr 1
    rw [Bool.eq_iff_iff]
    simp only [decide_eq_true_eq]
    repeat' split
    all_goals first | omega | simp_all <;> omega
  · congr 1
    symm
    rw [decide_eq_false_iff_not]
    repeat' split
    all_goals first | omega | simp_all <;> omega
theorem digit_ok (n : Nat) : F.words.digit (n : Int) = some (decide (cls n = 3)) := by
  unfold F.words.digit cls
  simp only [decide_eq_true_eq]
  split
  · congr 1
    rw [Bool.eq_iff_iff]
    simp only [decide_eq_true_eq]
    repeat' split
    all_goals first | omega | simp_all <;> omega
  · congr 1
    symm
    rw [decide_eq_false_iff_not]
    repeat' split
    all_goals first | omega | simp_all <;> omega
def pl (r : List UInt8) : Nat := (r.takeWhile al).length
theorem pl_nil : pl [] = 0 := rfl
theorem pl_cons (c : UInt8) (r : List UInt8) : pl (c :: r) = if al c then pl r + 1 else 0 := by
  unfold pl
  rw [List.takeWhile_cons]
  split <;> simp
theorem pl_le (r : List UInt8) : pl r ≤ r.length := by
  unfold pl
  exact (List.takeWhile_sublist _).length_le
theorem cls_lt (n : Nat) (h : 128 ≤ n) : cls n = 0 := by
  unfold cls
  repeat' split
  all_goals first | rfl | omega
theorem rune_low {s : List UInt8} {i : Nat} (h : i < s.length) (ha : s[i].toNat < 128) : runeAt s (i : Int) = ((s[i].toNat : Nat) : Int) ∧ runeLen s (i : Int) = 1 := by
  have hz : i < (bs s).size := h
  have hg : (bs s)[i]'hz = s[i] := rfl
  have := decode_ascii (bs s) i hz (by rw [hg]; exact ha)
  unfold runeAt runeLen
  rw [Int.toNat_natCast, this, hg]
  exact ⟨rfl, rfl⟩
theorem rune_high {s : List UInt8} {i : Nat} (h : i < s.length) (ha : ¬ s[i].toNat < 128) : ∃ n : Nat, runeAt s (i : Int) = (n : Int) ∧ 128 ≤ n := by
  have hz : i < (bs s).size := h
  have hg : (bs s)[i]'hz = s[i] := rfl
  have := decode_high (bs s) i hz (by rw [hg]; omega)
  exact ⟨_, by unfold runeAt; rw [Int.toNat_natCast], this.1⟩
theorem run_l1_ok {s : List UInt8} (hb : s.length < 1000000000) : ∀ (j i : Nat), i ≤ s.length → s.length - i < j → F.words.run_l1 s j i = some (if i + pl (s.drop i) < s.length then .ret ((i + pl (s.drop i) : Nat) : Int) else .done ())
  | 0, _, _, h => by omega
  | j + 1, i, h1, h2 => by
    simp only [F.words.run_l1]
    by_cases hi : i < s.length
    · rw [ix_lt hi, if_pos rfl, List.drop_eq_getElem_cons hi, pl_cons]
      have key : ∀ n : Nat, runeAt s (i : Int) = (n : Int) → ∀ z, z = F.words.run_l1 s j ((i : Int) + runeLen s i) → ((F.words.great (runeAt s (i : Int))).bind fun v1 => if (!v1) = true then (F.words.small (runeAt s (i : Int))).bind fun v2 => if (!v2) = true then (F.words.digit (runeAt s (i : Int))).bind fun v3 => F.words.run_j3 i (F.words.run_l1 s j) s (!v3) else F.words.run_j3 i (F.words.run_l1 s j) s false else F.words.run_j3 i (F.words.run_l1 s j) s false) = if 0 < cls n then z else some (.ret (i : Int)) := by
        intro n hn z hz
        rw [hn, great_ok, small_ok, digit_ok]
        simp only [Option.bind_some, F.words.run_j3, F.words.run_j2, ← hz]
        by_cases c1 : cls n = 1
        · simp [c1]
        by_cases c2 : cls n = 2
        · simp [c2]
        by_cases c3 : cls n = 3
        · simp [c3]
        · have : cls n = 0 := by
            unfold cls at *
            repeat' split at *
            all_goals first | rfl | omega | simp_all
          simp [this]
      by_cases ha : s[i].toNat < 128
      · obtain ⟨e1, e2⟩ := rune_low hi ha
        rw [key _ e1 _ rfl, e2, show ((i : Int) + 1) = ((i + 1 : Nat) : Int) by omega, run_l1_ok hb j (i + 1) (by omega) (by omega)]
        unfold al
        by_cases hc : 0 < cls s[i].toNat
        · rw [if_pos hc, decide_eq_true hc, if_pos rfl, show i + (pl (s.drop (i + 1)) + 1) = i + 1 + pl (s.drop (i + 1)) by omega]
        · rw [if_neg hc, decide_eq_false hc]
          simp [hi]
      · obtain ⟨n, e1, e2⟩ := rune_high hi ha
        rw [key _ e1 _ rfl]
        unfold al
        rw [cls_lt n e2, cls_lt s[i].toNat (by omega), if_neg (by omega)]
        simp [hi]
    · rw [ix_ge hi, if_neg (by simp), List.drop_eq_nil_of_le (by omega), pl_nil, if_neg (by omega)]
theorem run_ok {k : Nat} {s : List UInt8} (hk : s.length < k) (hb : s.length < 1000000000) : F.words.run k s = some ((pl s : Nat) : Int) := by
  unfold F.words.run
  have := run_l1_ok (s := s) (by omega) k 0 (by omega) (by omega)
  rw [zero_cast, List.drop_zero, Nat.zero_add] at this
  rw [this, Option.bind_some]
  have := pl_le s
  split
  · rfl
  · show some _ = _
    congr 1
    omega
end Go.Vc
