/-
  Words: escapes.
-/
import Derived.Test.YthkfffheppfieaaWD
set_option linter.unusedVariables false
set_option linter.unusedSimpArgs false
namespace Go.Vc
open Go
/-- a hexadecimal digit's number -/
def hv (n : Nat) : Option Nat := if 48 ≤ n ∧ n ≤ 57 then some (n - 48) else if 97 ≤ n ∧ n ≤ 102 then some (n - 87) else if 65 ≤ n ∧ n ≤ 70 then some (n - 55) else none
theorem value_all : ∀ n : _root_.Fin 256, F.words.value (n.val : Int) = some (match hv n.val with | none => -1 | some a => (a : Int)) := by decide +kernel
theorem Digit_all : ∀ n : _root_.Fin 256, F.ref01.Digit 200000 (n.val : Int) = some (match hv n.val with | none => 16 | some a => (a : Int)) := by decide +kernel
theorem value_ok (c : UInt8) : F.words.value (c.toNat : Int) = some (match hv c.toNat with | none => -1 | some a => (a : Int)) := value_all ⟨c.toNat, c.toNat_lt⟩
theorem Digit_ok (c : UInt8) : F.ref01.Digit 200000 (c.toNat : Int) = some (match hv c.toNat with | none => 16 | some a => (a : Int)) := Digit_all ⟨c.toNat, c.toNat_lt⟩
theorem hv_lt {n a : Nat} (h : hv n = some a) : a < 16 := by
  unfold hv at h
  split at h
  · cases h; omega
  split at h
  · cases h; omega
  split at h
  · cases h; omega
  · cases h
/-- the byte that a sign behind a backslash means, if it is one of one letter -/
def sign (v : Nat) : Option Nat := if v = 34 ∨ v = 92 then some v else if v = 110 then some 10 else if v = 116 then some 9 else if v = 114 then some 13 else none
/-- the document's search for it -/
def srch (v : Int) : Nat → Nat → Int → Int → Int × Int
  | 0, _, n, b => (n, b)
  | d + 1, k, n, b => match F.ref02.letter (IntKind.wrap .u8 (k : Int)) with
    | some x => if x = v ∧ x ≠ 0 then srch v d (k + 1) 2 (IntKind.wrap .u8 (k : Int)) else srch v d (k + 1) n b
    | none => (n, b)
theorem srch_all : ∀ n : _root_.Fin 256, srch (n.val : Int) 256 0 0 0 = (match sign n.val with | none => (0, 0) | some b => (2, (b : Int))) := by decide +kernel
/-- what a backslash and what stands behind it mean, and how long it is -/
def esc : List UInt8 → Option (Nat × Nat)
  | _ :: v :: rest => match sign v.toNat with
    | some b => some (b, 2)
    | none => if v.toNat = 120 then (match rest with
        | p :: q :: _ => (match hv p.toNat, hv q.toNat with
          | some a, some b => some (16 * a + b, 4)
          | _, _ => none)
        | _ => none) else none
  | _ => none
def escV : Option (Nat × Nat) → Int × Int
  | none => (0, 0)
  | some (b, n) => ((b : Int), (n : Int))
theorem escape_ok (r : List UInt8) : F.words.escape r = some (escV (esc r)) := by
  unfold F.words.escape
  match r with
  | [] => rfl
  | [c] => rfl
  | c :: v :: rest =>
    have h1 : 1 < (c :: v :: rest).length := by simp
    have hin : inR 1 (c :: v :: rest).length = true := ix_in (i := 1) h1
    have hs : sAt (c :: v :: rest) 1 = ((v.toNat : Nat) : Int) := sAt_get (i := 1) h1
    have d0 : decide (((c :: v :: rest).length : Int) < 2) = false := decide_eq_false (by simp; omega)
    simp only [d0, hin, hs, Bool.false_eq_true, if_false, if_true, F.words.escape_j1, F.words.escape_j4, F.words.escape_j3, F.words.escape_j2]
    unfold esc
    simp only
    generalize hv' : v.toNat = n
    unfold sign
    by_cases c34 : n = 34
    · subst c34; rfl
    by_cases c92 : n = 92
    · subst c92; rfl
    have e34 : ((n : Int) == 34) = false := by rw [beq_eq_false_iff_ne]; omega
    have e92 : ((n : Int) == 92) = false := by rw [beq_eq_false_iff_ne]; omega
    by_cases c110 : n = 110
    · subst c110; rfl
    by_cases c116 : n = 116
    · subst c116; rfl
    by_cases c114 : n = 114
    · subst c114; rfl
    have e110 : ((n : Int) == 110) = false := by rw [beq_eq_false_iff_ne]; omega
    have e116 : ((n : Int) == 116) = false := by rw [beq_eq_false_iff_ne]; omega
    have e114 : ((n : Int) == 114) = false := by rw [beq_eq_false_iff_ne]; omega
    have n0 : ¬ (n = 34 ∨ n = 92) := fun h => h.elim c34 c92
    simp only [e34, e92, e110, e116, e114, Bool.false_eq_true, if_false, if_neg n0, if_neg c110, if_neg c116, if_neg c114]
    by_cases c120 : n = 120
    · have e120 : ((n : Int) == 120) = true := by rw [beq_iff_eq]; omega
      simp only [e120, if_true, if_pos c120]
      match rest with
      | [] => rfl
      | [p] => rfl
      | p :: q :: rest2 =>
        have h2 : 2 < (c :: v :: p :: q :: rest2).length := by simp
        have h3 : 3 < (c :: v :: p :: q :: rest2).length := by simp
        have i2 : inR 2 (c :: v :: p :: q :: rest2).length = true := ix_in (i := 2) h2
        have i3 : inR 3 (c :: v :: p :: q :: rest2).length = true := ix_in (i := 3) h3
        have s2 : sAt (c :: v :: p :: q :: rest2) 2 = ((p.toNat : Nat) : Int) := sAt_get (i := 2) h2
        have s3 : sAt (c :: v :: p :: q :: rest2) 3 = ((q.toNat : Nat) : Int) := sAt_get (i := 3) h3
        have d4 : decide (4 ≤ ((c :: v :: p :: q :: rest2).length : Int)) = true := decide_eq_true (by simp; omega)
        simp only [d4, i2, i3, s2, s3, if_true, value_ok, Option.bind_some]
        cases hp : hv p.toNat with
        | none => simp [escV]
        | some a =>
          have ha := hv_lt hp
          cases hq : hv q.toNat with
          | none => simp [escV]
          | some b =>
            have hb := hv_lt hq
            have g1 : decide (0 ≤ (a : Int)) = true := decide_eq_true (by omega)
            have g2 : decide (0 ≤ (b : Int)) = true := decide_eq_true (by omega)
            simp only [g1, g2, if_true, escV]
            rw [wrap_i64 (n := 16 * (a : Int)) (by omega) (by omega), wrap_i64 (by omega) (by omega), show (16 * (a : Int) + (b : Int)) = ((16 * a + b : Nat) : Int) by omega]
            have : IntKind.wrap .u8 ((16 * a + b : Nat) : Int) = ((16 * a + b : Nat) : Int) := by
              simp only [IntKind.wrap, IntKind.bits, IntKind.signed]
              simp
              omega
            rw [this]
            rfl
    · have e120 : ((n : Int) == 120) = false := by rw [beq_eq_false_iff_ne]; omega
      simp only [e120, Bool.false_eq_true, if_false, if_neg c120]
      rfl
end Go.Vc
