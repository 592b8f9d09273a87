/-
  Words: the document's reading of quotes.
-/
import Derived.Test.YthkfffheppfieaaWF
set_option linter.unusedVariables false
set_option linter.unusedSimpArgs false
namespace Go.Vc
open Go
theorem letter_some (c : Int) : ∃ x, F.ref02.letter c = some x := ⟨_, letter_ok c⟩
theorem Said_l5_end {i : Nat} {s : List UInt8} (h : ¬ i + 1 < s.length) (hb : i < 1000000) (j k : Nat) (n b : Int) : F.ref02.Said_l5 i s (j + 1) n b k = some (n, b, (k : Int)) := by
  simp only [F.ref02.Said_l5]
  have e : IntKind.wrap .i64 ((i : Int) + 1) = ((i + 1 : Nat) : Int) := ix_inc (by omega)
  have d : decide (((i + 1 : Nat) : Int) < (s.length : Int)) = false := decide_eq_false (by omega)
  rw [e, d]
  split <;> rfl
theorem Said_l5_ok {i : Nat} {s : List UInt8} (h : i + 1 < s.length) (hb : i < 1000000) : ∀ (d j k : Nat) (n b : Int), k + d = 256 → d < j → F.ref02.Said_l5 i s j n b k = some ((srch (sAt s ((i + 1 : Nat) : Int)) d k n b).1, (srch (sAt s ((i + 1 : Nat) : Int)) d k n b).2, 256)
  | _, 0, _, _, _, _, h => by omega
  | 0, j + 1, k, n, b, hk, _ => by
    obtain rfl : k = 256 := by omega
    simp only [F.ref02.Said_l5, srch]
    rw [if_neg (by simp)]
    rfl
  | d + 1, j + 1, k, n, b, hk, hj => by
    simp only [F.ref02.Said_l5]
    have e : IntKind.wrap .i64 ((i : Int) + 1) = ((i + 1 : Nat) : Int) := ix_inc (by omega)
    have dd : decide (((i + 1 : Nat) : Int) < (s.length : Int)) = true := decide_eq_true (by omega)
    have d2 : decide ((k : Int) < 256) = true := decide_eq_true (by omega)
    rw [d2, if_pos rfl, e, dd]
    obtain ⟨x, hx⟩ := letter_some (IntKind.wrap .u8 (k : Int))
    have hin : inR ((i + 1 : Nat) : Int) s.length = true := ix_in h
    have ih := fun n b => Said_l5_ok h hb d j (k + 1) n b (by omega) (by omega)
    simp only [F.ref02.Said_j6, F.ref02.Said_j8, F.ref02.Said_j9, F.ref02.Said_j7, if_true, e, hin, hx, Option.bind_some, ix_inc (show k < 4611686018427387904 by omega), srch, ih]
    by_cases h1 : x = sAt s ((i + 1 : Nat) : Int)
    · have e1 : (x == sAt s ((i + 1 : Nat) : Int)) = true := by simpa using h1
      by_cases h0 : x = 0
      · have e0 : (x != 0) = false := by simpa using h0
        simp only [e1, e0, if_true, Bool.false_eq_true, if_false]
        rw [if_neg (fun hh => hh.2 h0)]
      · have e0 : (x != 0) = true := by simpa using h0
        simp only [e1, e0, if_true]
        rw [if_pos ⟨h1, h0⟩]
    · have e1 : (x == sAt s ((i + 1 : Nat) : Int)) = false := by simpa using h1
      simp only [e1, Bool.false_eq_true, if_false]
      rw [if_neg (fun hh => h1 hh.1)]
end Go.Vc
