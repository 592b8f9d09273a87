/-
  Words: the document reads quotes as the plain reader does: whole texts.
-/
import Derived.Test.YthkfffheppfieaaWH
set_option linter.unusedVariables false
set_option linter.unusedSimpArgs false
namespace Go.Vc
open Go
theorem Said_l1_ok {s : List UInt8} (hb : s.length < 100000) : ∀ (j i : Nat) (r : List UInt8) (acc : List Int), D s i r → r.length < j → acc.length + r.length < 200000 → ∃ o, F.ref02.Said_l1 200000 s j acc i = some o ∧ SaidIs s o (quR j r acc)
  | 0, _, _, _, _, h, _ => by omega
  | j + 1, i, r, acc, hD, h1, h2 => by
    simp only [F.ref02.Said_l1]
    cases r with
    | nil =>
      have := D_nil hD
      subst this
      rw [if_neg (by simp)]
      exact ⟨_, rfl, acc, rfl⟩
    | cons c r =>
      obtain ⟨d1, d2, d3, d4⟩ := D_cons hD
      have d5 := hD.2
      simp only [List.length_cons] at h1 h2 d5
      have hsub : s.length - (r.length + 1) = i := by omega
      have dlt : decide ((i : Int) < (s.length : Int)) = true := decide_eq_true (by omega)
      simp only [dlt, d3, if_true]
      unfold quR
      by_cases c34 : c.toNat = 34
      · have e34 : (sAt s (i : Int) != 34) = false := by rw [d2]; simp; omega
        simp only [e34, if_pos c34, F.ref02.Said_j2, Bool.false_eq_true, if_false]
        exact ⟨_, rfl, by omega, by rw [show s.length - r.length - 1 = i by omega]⟩
      have e34 : (sAt s (i : Int) != 34) = true := by rw [d2]; simp; omega
      simp only [e34, if_neg c34, F.ref02.Said_j2, if_true, d3]
      by_cases c92 : c.toNat = 92
      · have dl : decide (sAt s (i : Int) < 32) = false := decide_eq_false (by rw [d2]; omega)
        have dh : decide (126 < sAt s (i : Int)) = false := decide_eq_false (by rw [d2]; omega)
        simp only [dl, dh, Bool.false_eq_true, if_false, if_pos c92]
        rw [Said_esc hb c92 hD (by omega)]
        cases he : esc (c :: r) with
        | none => exact ⟨_, rfl, by simp only [SaidIs, hsub]⟩
        | some p =>
          obtain ⟨b, n⟩ := p
          obtain ⟨l1, l2, l3⟩ := esc_len he
          simp only [List.length_cons] at l2
          exact Said_l1_ok hb j (i + n) ((c :: r).drop n) (acc ++ [(b : Int)]) (D_drop hD (by simp; omega)) (by rw [List.length_drop, List.length_cons]; omega) (by rw [List.length_append, List.length_drop, List.length_cons]; simp; omega)
      rw [if_neg c92]
      by_cases hr : c.toNat < 32 ∨ 126 < c.toNat
      · rw [if_pos hr]
        have hj : F.ref02.Said_j4 200000 i s acc (F.ref02.Said_l1 200000 s j) true = some (.ret ([], 0, ⟨(i : Int), 11⟩)) := rfl
        have hx : (if decide (sAt s (i : Int) < 32) = true then F.ref02.Said_j4 200000 i s acc (F.ref02.Said_l1 200000 s j) true else F.ref02.Said_j4 200000 i s acc (F.ref02.Said_l1 200000 s j) (decide (126 < sAt s (i : Int)))) = some (.ret ([], 0, ⟨(i : Int), 11⟩)) := by
          by_cases hl : c.toNat < 32
          · have dl : decide (sAt s (i : Int) < 32) = true := decide_eq_true (by rw [d2]; omega)
            rw [if_pos dl, hj]
          · have dl : decide (sAt s (i : Int) < 32) = false := decide_eq_false (by rw [d2]; omega)
            have dh : decide (126 < sAt s (i : Int)) = true := decide_eq_true (by rw [d2]; omega)
            simp only [dl, dh, Bool.false_eq_true, if_false, hj]
        rw [hx]
        exact ⟨_, rfl, by simp only [SaidIs, hsub]⟩
      · rw [if_neg hr]
        have dl : decide (sAt s (i : Int) < 32) = false := decide_eq_false (by rw [d2]; omega)
        have dh : decide (126 < sAt s (i : Int)) = false := decide_eq_false (by rw [d2]; omega)
        have hne : (sAt s (i : Int) != 92) = true := by rw [d2]; simp; omega
        have a1 := app_ok (a := acc) (b := [(c.toNat : Int)]) (by simp; omega)
        have ih := Said_l1_ok hb j (i + 1) r (acc ++ [(c.toNat : Int)]) d4 (by omega) (by rw [List.length_append]; simp; omega)
        simp only [dl, dh, Bool.false_eq_true, if_false, F.ref02.Said_j4, hne, if_true]
        simp only [d2, a1.1, a1.2, if_true, F.ref02.Said_j3]
        rw [ix_inc (by omega)]
        exact ih
end Go.Vc
