/-
  Words: the document reads quotes as the plain reader does.
-/
import Derived.Test.YthkfffheppfieaaWG
set_option linter.unusedVariables false
set_option linter.unusedSimpArgs false
namespace Go.Vc
open Go
def SaidIs (s : List UInt8) (o : LR ((List Int) × Int) (List Int × Int × Fault)) : Except (Option Nat × Int) (List Int × List UInt8) → Prop
  | .error (none, _) => ∃ out, o = .done (out, (s.length : Int))
  | .error (some m, c) => o = .ret ([], 0, ⟨((s.length - m : Nat) : Int), c⟩)
  | .ok (out, r') => r'.length < s.length ∧ o = .done (out, ((s.length - r'.length - 1 : Nat) : Int))
theorem srch_ok (v : UInt8) : srch (v.toNat : Int) 256 0 0 0 = (match sign v.toNat with | none => (0, 0) | some b => (2, (b : Int))) := srch_all ⟨v.toNat, v.toNat_lt⟩
/-- what the document makes of a backslash at a place -/
theorem Said_esc {s r : List UInt8} {i : Nat} {c : UInt8} {acc : List Int} {rec_ : List Int → Int → Option (LR ((List Int) × Int) (List Int × Int × Fault))} (hb : s.length < 100000) (hc : c.toNat = 92) (hD : D s i (c :: r)) (ha : acc.length < 200000) :
    F.ref02.Said_j4 200000 i s acc rec_ false = (match esc (c :: r) with
      | none => some (.ret ([], 0, ⟨(i : Int), 12⟩))
      | some (b, n) => rec_ (acc ++ [(b : Int)]) ((i + n : Nat) : Int)) := by
  obtain ⟨d1, d2, d3, d4⟩ := D_cons hD
  have d5 := hD.2
  simp only [List.length_cons] at d5
  have hne : (sAt s (i : Int) != 92) = false := by rw [d2]; simp; omega
  have e1 : IntKind.wrap .i64 ((i : Int) + 1) = ((i + 1 : Nat) : Int) := ix_inc (by omega)
  have e2 : IntKind.wrap .i64 ((i : Int) + 2) = ((i + 2 : Nat) : Int) := by rw [wrap_i64 (by omega) (by omega)]; omega
  have e3 : IntKind.wrap .i64 ((i : Int) + 3) = ((i + 3 : Nat) : Int) := by rw [wrap_i64 (by omega) (by omega)]; omega
  have e4 : IntKind.wrap .i64 ((i : Int) + 4) = ((i + 4 : Nat) : Int) := by rw [wrap_i64 (by omega) (by omega)]; omega
  have happ := fun b : Int => app_ok (a := acc) (b := [b]) (by simp; omega)
  have h11 : ∀ n b : Int, F.ref02.Said_j11 i acc rec_ n b = if (n == 0) = true then some (.ret ([], 0, ⟨(i : Int), 12⟩)) else rec_ (acc ++ [b]) (IntKind.wrap .i64 ((i : Int) + n)) := by
    intro n b
    simp only [F.ref02.Said_j11, F.ref02.Said_j3, (happ b).1, (happ b).2, if_true]
  simp only [F.ref02.Said_j4, hne, Bool.false_eq_true, if_false, e1, e3]
  match r, hD, d4, d5 with
  | [], hD, d4, d5 =>
    have hl5 := Said_l5_end (i := i) (s := s) (by simp at d5; omega) (by omega) 199999 0 0 0
    rw [zero_cast] at hl5
    have dlt : decide (((i + 3 : Nat) : Int) < (s.length : Int)) = false := decide_eq_false (by simp at d5; omega)
    rw [hl5, Option.bind_some]
    simp only [dlt, Bool.false_eq_true, if_false, F.ref02.Said_j10, h11]
    rfl
  | v :: rest, hD, d4, d5 =>
    obtain ⟨f1, f2, f3, f4⟩ := D_cons d4
    simp only [List.length_cons] at d5
    have hl5 := Said_l5_ok (i := i) (s := s) (by omega) (by omega) 256 200000 0 0 0 (by omega) (by omega)
    rw [zero_cast, f2, srch_ok] at hl5
    rw [hl5, Option.bind_some]
    unfold esc
    simp only
    cases hs : sign v.toNat with
    | some b0 =>
      have h120 : ((v.toNat : Int) == 120) = false := by
        rw [beq_eq_false_iff_ne]
        intro e
        have : v.toNat = 120 := by omega
        rw [this] at hs
        have hz : sign 120 = none := by decide
        rw [hz] at hs; cases hs
      have key : F.ref02.Said_j11 i acc rec_ 2 (b0 : Int) = rec_ (acc ++ [(b0 : Int)]) ((i + 2 : Nat) : Int) := by
        rw [h11, if_neg (by decide), e2]
      simp only [f3, f2, h120, if_true, F.ref02.Said_j10, Bool.false_eq_true, if_false, key]
      split <;> rfl
    | none =>
      have key0 : F.ref02.Said_j11 i acc rec_ 0 0 = some (.ret ([], 0, ⟨(i : Int), 12⟩)) := by rw [h11]; rfl
      simp only
      by_cases c120 : v.toNat = 120
      · have h120 : ((v.toNat : Int) == 120) = true := by rw [beq_iff_eq]; omega
        rw [if_pos c120]
        match rest, f4, d5 with
        | [], f4, d5 =>
          have dlt : decide (((i + 3 : Nat) : Int) < (s.length : Int)) = false := decide_eq_false (by simp at d5; omega)
          simp only [dlt, Bool.false_eq_true, if_false, F.ref02.Said_j10, key0]
        | [p], f4, d5 =>
          have dlt : decide (((i + 3 : Nat) : Int) < (s.length : Int)) = false := decide_eq_false (by simp at d5; omega)
          simp only [dlt, Bool.false_eq_true, if_false, F.ref02.Said_j10, key0]
        | p :: q :: rest2, f4, d5 =>
          simp only [List.length_cons] at d5
          obtain ⟨g1, g2, g3, g4⟩ := D_cons f4
          obtain ⟨m1, m2, m3, m4⟩ := D_cons g4
          have dlt : decide (((i + 3 : Nat) : Int) < (s.length : Int)) = true := decide_eq_true (by omega)
          have g2' : sAt s ((i + 2 : Nat) : Int) = (p.toNat : Int) := g2
          have m2' : sAt s ((i + 3 : Nat) : Int) = (q.toNat : Int) := m2
          have g3' : inR ((i + 2 : Nat) : Int) s.length = true := g3
          have m3' : inR ((i + 3 : Nat) : Int) s.length = true := m3
          simp only [dlt, f3, f2, h120, if_true, F.ref02.Said_j10, e2, e3, g3', m3', g2', m2', Digit_ok, Option.bind_some]
          cases hp : hv p.toNat with
          | none =>
            simp only
            rw [if_neg (by simp)]
            unfold F.ref02.Said_j12 F.ref02.Said_j13
            rw [if_neg (by simp), key0]
          | some a =>
            have ha' := hv_lt hp
            have da : decide ((a : Int) < 16) = true := decide_eq_true (by omega)
            cases hq : hv q.toNat with
            | none =>
              simp only [da, if_true]
              unfold F.ref02.Said_j12 F.ref02.Said_j13
              rw [if_neg (by simp), key0]
            | some b =>
              have hb' := hv_lt hq
              have db : decide ((b : Int) < 16) = true := decide_eq_true (by omega)
              have hw : IntKind.wrap .u8 (IntKind.wrap .i64 (IntKind.wrap .i64 (16 * (a : Int)) + (b : Int))) = ((16 * a + b : Nat) : Int) := by
                rw [wrap_i64 (n := 16 * (a : Int)) (by omega) (by omega), wrap_i64 (by omega) (by omega), show (16 * (a : Int) + (b : Int)) = ((16 * a + b : Nat) : Int) by omega]
                simp only [IntKind.wrap, IntKind.bits, IntKind.signed]
                simp
                omega
              simp only [da, db, if_true]
              unfold F.ref02.Said_j12 F.ref02.Said_j13
              rw [if_pos rfl, h11, if_neg (by decide), hw, e4]
      · have h120 : ((v.toNat : Int) == 120) = false := by rw [beq_eq_false_iff_ne]; omega
        rw [if_neg c120]
        simp only [f3, f2, h120, if_true, F.ref02.Said_j10, Bool.false_eq_true, if_false, key0]
        split <;> rfl
end Go.Vc
