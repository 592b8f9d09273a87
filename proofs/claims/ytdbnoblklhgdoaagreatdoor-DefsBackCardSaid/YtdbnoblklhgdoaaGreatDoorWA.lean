import Derived.Test.YtdbnoblklhgdoaaGreatDoorA1
import Derived.Test.YtdbnoblklhgdoaaGreatDoorVcR
set_option linter.unusedVariables false
set_option linter.unusedSimpArgs false
namespace Go.Vc
open Go
theorem zO {n : Int} (h1 : -9223372036854775808 <= n) (h2 : n < 9223372036854775808) : IntKind.wrap .i64 n = n := by
 simp only [IntKind.wrap, IntKind.bits, IntKind.signed]
 simp
 omega
theorem wrap_i32 {n : Int} (h1 : -2147483648 <= n) (h2 : n < 2147483648) : IntKind.wrap .i32 n = n := by
 simp only [IntKind.wrap, IntKind.bits, IntKind.signed]
 simp
 omega
section
variable {α : Type} {ks : List α} {i : Nat}
theorem xB (h : i < ks.length) : decide ((i : Int) < (ks.length : Int)) = true := by simpa using h
theorem xy (h : ¬ i < ks.length) : decide ((i : Int) < (ks.length : Int)) = false := by simp; omega
theorem yQ (h : i < ks.length) : xf (i : Int) ks.length = true := by
 simp only [xf, Bool.and_eq_true, decide_eq_true_eq]; omega
theorem yG [Inhabited α] (h : i < ks.length) : at_ ks (i : Int) = ks[i] := by simp [at_, h]
end
theorem yg {i : Nat} (h : i < 4611686018427387904) : IntKind.wrap .i64 ((i : Int) + 1) = ((i + 1 : Nat) : Int) := by
 rw [zO (by omega) (by omega)]; omega
theorem sAt_get {s : List UInt8} {i : Nat} (h : i < s.length) : yk s (i : Int) = ((s[i].toNat : Nat) : Int) := by simp [yk, h]
theorem wM : ((0 : Nat) : Int) = 0 := rfl
def vE (n : Nat) : Nat := if 65 <= n /\ n <= 90 then 1 else if 97 <= n /\ n <= 122 then 2 else if 48 <= n /\ n <= 57 then 3 else 0
def al (c : UInt8) : Bool := decide (0 < vE c.toNat)
theorem uh (n : Nat) : qw.great (n : Int) = some (decide (vE n = 1)) := by
 unfold qw.great vE
 simp only [decide_eq_true_eq]
 split
 ·congr 1
  rw [Bool.eq_iff_iff]
  simp only [decide_eq_true_eq]
  repeat' split
  all_goals first | omega | simp_all <;> omega
 ·congr 1
  symm
  rw [decide_eq_false_iff_not]
  repeat' split
  all_goals first | omega | simp_all <;> omega
theorem small_ok (n : Nat) : qw.small (n : Int) = some (decide (vE n = 2)) := by
 unfold qw.small vE
 simp only [decide_eq_true_eq]
 split
 ·congr 1
  rw [Bool.eq_iff_iff]
  simp only [decide_eq_true_eq]
  repeat' split
  all_goals first | omega | simp_all <;> omega
 ·congr 1
  symm
  rw [decide_eq_false_iff_not]
  repeat' split
  all_goals first | omega | simp_all <;> omega
theorem k8 (n : Nat) : qw.digit (n : Int) = some (decide (vE n = 3)) := by
 unfold qw.digit vE
 simp only [decide_eq_true_eq]
 split
 ·congr 1
  rw [Bool.eq_iff_iff]
  simp only [decide_eq_true_eq]
  repeat' split
  all_goals first | omega | simp_all <;> omega
 ·congr 1
  symm
  rw [decide_eq_false_iff_not]
  repeat' split
  all_goals first | omega | simp_all <;> omega
def pl (r : List UInt8) : Nat := (r.takeWhile al).length
theorem pl_nil : pl [] = 0 := rfl
theorem jX (c : UInt8) (r : List UInt8) : pl (c :: r) = if al c then pl r + 1 else 0 := by
 unfold pl
 rw [List.takeWhile_cons]
 split <;> simp
theorem pl_le (r : List UInt8) : pl r <= r.length := by
 unfold pl
 exact (List.takeWhile_sublist _).length_le
theorem cls_lt (n : Nat) (h : 128 <= n) : vE n = 0 := by
 unfold vE
 repeat' split
 all_goals first | rfl | omega
theorem rune_low {s : List UInt8} {i : Nat} (h : i < s.length) (ha : s[i].toNat < 128) : wX s (i : Int) = ((s[i].toNat : Nat) : Int) /\ jf s (i : Int) = 1 := by
 have hz : i < (bs s).size := h
 have hg : (bs s)[i]'hz = s[i] := rfl
 have := decode_ascii (bs s) i hz (by rw [hg]; exact ha)
 unfold wX jf
 rw [Int.toNat_natCast, this, hg]
 exact ⟨rfl, rfl⟩
theorem rune_high {s : List UInt8} {i : Nat} (h : i < s.length) (ha : ¬ s[i].toNat < 128) : ∃ n : Nat, wX s (i : Int) = (n : Int) /\ 128 <= n := by
 have hz : i < (bs s).size := h
 have hg : (bs s)[i]'hz = s[i] := rfl
 have := decode_high (bs s) i hz (by rw [hg]; omega)
 exact ⟨_, by unfold wX; rw [Int.toNat_natCast], this.1⟩
theorem run_l1_ok {s : List UInt8} (hb : s.length < 1000000000) : ∀ (j i : Nat), i <= s.length -> s.length - i < j -> qw.run_l1 s j i = some (if i + pl (s.drop i) < s.length then .ret ((i + pl (s.drop i) : Nat) : Int) else .done ())
 | 0, _, _, h => by omega
 | j + 1, i, h1, h2 => by
  simp only [qw.run_l1]
  by_cases hi : i < s.length
  ·rw [xB hi, if_pos rfl, List.drop_eq_getElem_cons hi, jX]
   have key : ∀ n : Nat, wX s (i : Int) = (n : Int) -> ∀ z, z = qw.run_l1 s j ((i : Int) + jf s i) -> ((qw.great (wX s (i : Int))).bind fun v1 => if (!v1) = true then (qw.small (wX s (i : Int))).bind fun v2 => if (!v2) = true then (qw.digit (wX s (i : Int))).bind fun v3 => qw.run_j3 i (qw.run_l1 s j) s (!v3) else qw.run_j3 i (qw.run_l1 s j) s false else qw.run_j3 i (qw.run_l1 s j) s false) = if 0 < vE n then z else some (.ret (i : Int)) := by
    intro n hn z hz
    rw [hn, uh, small_ok, k8]
    simp only [Option.bind_some, qw.run_j3, qw.run_j2, <- hz]
    by_cases c1 : vE n = 1
    ·simp [c1]
    by_cases c2 : vE n = 2
    ·simp [c2]
    by_cases c3 : vE n = 3
    ·simp [c3]
    ·have : vE n = 0 := by
      unfold vE at *
      repeat' split at *
      all_goals first | rfl | omega | simp_all
     simp [this]
   by_cases ha : s[i].toNat < 128
   ·obtain ⟨e1, e2⟩ := rune_low hi ha
    rw [key _ e1 _ rfl, e2, show ((i : Int) + 1) = ((i + 1 : Nat) : Int) by omega, run_l1_ok hb j (i + 1) (by omega) (by omega)]
    unfold al
    by_cases hc : 0 < vE s[i].toNat
    ·rw [if_pos hc, decide_eq_true hc, if_pos rfl, show i + (pl (s.drop (i + 1)) + 1) = i + 1 + pl (s.drop (i + 1)) by omega]
    ·rw [if_neg hc, decide_eq_false hc]
     simp [hi]
   ·obtain ⟨n, e1, e2⟩ := rune_high hi ha
    rw [key _ e1 _ rfl]
    unfold al
    rw [cls_lt n e2, cls_lt s[i].toNat (by omega), if_neg (by omega)]
    simp [hi]
  ·rw [xy hi, if_neg (by simp), List.drop_eq_nil_of_le (by omega), pl_nil, if_neg (by omega)]
theorem run_ok {k : Nat} {s : List UInt8} (hk : s.length < k) (hb : s.length < 1000000000) : qw.run k s = some ((pl s : Nat) : Int) := by
 unfold qw.run
 have := run_l1_ok (s := s) (by omega) k 0 (by omega) (by omega)
 rw [wM, List.drop_zero, Nat.zero_add] at this
 rw [this, Option.bind_some]
 have := pl_le s
 split
 ·rfl
 ·show some _ = _
  congr 1
  omega
end Go.Vc
