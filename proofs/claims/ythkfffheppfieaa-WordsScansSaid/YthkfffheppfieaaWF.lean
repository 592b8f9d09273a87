/-
  Words: texts in quotes are read.
-/
import Derived.Test.YthkfffheppfieaaWE
set_option linter.unusedVariables false
set_option linter.unusedSimpArgs false
namespace Go.Vc
open Go
/-- a plain reader of what stands in quotes: what is left behind it; a fault: how much is left there (none: where the quotes began) -/
def quR : Nat → List UInt8 → List Int → Except (Option Nat × Int) (List Int × List UInt8)
  | 0, _, _ => .error (none, 13)
  | _ + 1, [], _ => .error (none, 13)
  | j + 1, c :: r, acc =>
    if c.toNat = 34 then .ok (acc, r)
    else if c.toNat = 92 then (match esc (c :: r) with
      | none => .error (some (r.length + 1), 12)
      | some (b, n) => quR j ((c :: r).drop n) (acc ++ [(b : Int)]))
    else if c.toNat < 32 ∨ 126 < c.toNat then .error (some (r.length + 1), 11)
    else quR j r (acc ++ [(c.toNat : Int)])
/-! ### places -/
def D (s : List UInt8) (i : Nat) (r : List UInt8) : Prop := s.drop i = r ∧ i + r.length = s.length
theorem D_cons {s r : List UInt8} {c : UInt8} {i : Nat} (h : D s i (c :: r)) : i < s.length ∧ sAt s (i : Int) = (c.toNat : Int) ∧ inR (i : Int) s.length = true ∧ D s (i + 1) r := by
  obtain ⟨h1, h2⟩ := h
  simp only [List.length_cons] at h2
  have hi : i < s.length := by omega
  refine ⟨hi, ?_, ix_in hi, ?_, by omega⟩
  · have : s[i] = c := by
      rw [List.drop_eq_getElem_cons hi] at h1
      exact (List.cons.inj h1).1
    simp [sAt, hi, this]
  · rw [List.drop_eq_getElem_cons hi] at h1
    exact (List.cons.inj h1).2
theorem D_drop {s r : List UInt8} {i n : Nat} (h : D s i r) (hn : n ≤ r.length) : D s (i + n) (r.drop n) := by
  obtain ⟨h1, h2⟩ := h
  refine ⟨by rw [← List.drop_drop, h1], by rw [List.length_drop]; omega⟩
theorem D_nil {s : List UInt8} {i : Nat} (h : D s i []) : i = s.length := by have := h.2; simpa using this
theorem D_sub {s r : List UInt8} {i : Nat} (h : D s i r) : sub s (i : Int) (s.length : Int) = r := by
  obtain ⟨h1, h2⟩ := h
  simp only [sub, Int.toNat_natCast, h1]
  rw [List.take_of_length_le (by omega)]
theorem esc_len {r : List UInt8} {b n : Nat} (h : esc r = some (b, n)) : 2 ≤ n ∧ n ≤ r.length ∧ b < 256 := by
  match r, h with
  | c :: v :: rest, h =>
    unfold esc at h
    have hvl := v.toNat_lt
    cases hs : sign v.toNat with
    | some b0 =>
      simp only [hs] at h
      cases h
      refine ⟨by omega, by simp, ?_⟩
      unfold sign at hs
      repeat' split at hs
      all_goals first | (cases hs; omega) | cases hs
    | none =>
      simp only [hs] at h
      split at h
      · split at h
        · split at h
          · rename_i p q _ a b0 ha hb
            cases h
            have := hv_lt ha
            have := hv_lt hb
            refine ⟨by omega, by simp, by omega⟩
          · cases h
        · cases h
      · cases h
def qn (s : List UInt8) (at' : Int) : Except (Option Nat × Int) (List Int × List UInt8) → LR Unit (List Int × Int × Fault)
  | .error (none, _) => .done ()
  | .error (some m, c) => .ret ([], 0, ⟨((s.length - m : Nat) : Int), c⟩)
  | .ok (o, r) => .ret (o, ((s.length - r.length : Nat) : Int), ⟨0, 0⟩)
theorem quoted_l1_ok {s : List UInt8} (hb : s.length < 100000) : ∀ (j i : Nat) (r : List UInt8) (acc : List Int), D s i r → r.length < j → acc.length + r.length < 200000 → F.words.quoted_l1 s j acc i = some (qn s 0 (quR j r acc))
  | 0, _, _, _, _, h, _ => by omega
  | j + 1, i, r, acc, hD, h1, h2 => by
    simp only [F.words.quoted_l1]
    cases r with
    | nil =>
      have := D_nil hD
      subst this
      rw [if_neg (by simp)]
      rfl
    | cons c r =>
      obtain ⟨d1, d2, d3, d4⟩ := D_cons hD
      have d5 := hD.2
      simp only [List.length_cons] at h1 h2 d5
      have hsub : s.length - (r.length + 1) = i := by omega
      have dlt : decide ((i : Int) < (s.length : Int)) = true := decide_eq_true (by omega)
      simp only [dlt, d3, d2, if_true]
      unfold quR
      by_cases c34 : c.toNat = 34
      · have e34 : ((c.toNat : Int) == 34) = true := by rw [beq_iff_eq]; omega
        simp only [e34, if_true, if_pos c34]
        rw [ix_inc (by omega), show i + 1 = s.length - r.length by omega]
        rfl
      have e34 : ((c.toNat : Int) == 34) = false := by rw [beq_eq_false_iff_ne]; omega
      by_cases c92 : c.toNat = 92
      · have e92 : ((c.toNat : Int) == 92) = true := by rw [beq_iff_eq]; omega
        have hcut : okSub (i : Int) (s.length : Int) s.length = true := by simp [okSub]; omega
        simp only [e34, e92, if_true, Bool.false_eq_true, if_false, if_neg c34, if_pos c92, hcut, D_sub hD, escape_ok, Option.bind_some]
        cases he : esc (c :: r) with
        | none =>
          have z : ((escV none).2 == 0) = true := rfl
          simp only [z, if_true, qn, hsub]
        | some p =>
          obtain ⟨b, n⟩ := p
          obtain ⟨l1, l2, l3⟩ := esc_len he
          simp only [List.length_cons] at l2
          have z : ((escV (some (b, n))).2 == 0) = false := by
            show ((n : Int) == 0) = false
            rw [beq_eq_false_iff_ne]; omega
          have a1 := app_ok (a := acc) (b := [(b : Int)]) (by simp; omega)
          have hw : IntKind.wrap .i64 ((i : Int) + (n : Int)) = ((i + n : Nat) : Int) := by rw [wrap_i64 (by omega) (by omega)]; omega
          have ih := quoted_l1_ok hb j (i + n) ((c :: r).drop n) (acc ++ [(b : Int)]) (D_drop hD (by simp; omega)) (by rw [List.length_drop, List.length_cons]; omega) (by rw [List.length_append, List.length_drop, List.length_cons]; simp; omega)
          simp only [z, Bool.false_eq_true, if_false]
          simp only [escV, a1.1, a1.2, if_true, F.words.quoted_j5, F.words.quoted_j4, F.words.quoted_j3, F.words.quoted_j2, hw]
          exact ih
      have e92 : ((c.toNat : Int) == 92) = false := by rw [beq_eq_false_iff_ne]; omega
      simp only [e34, e92, Bool.false_eq_true, if_false, if_neg c34, if_neg c92]
      by_cases hr : c.toNat < 32 ∨ 126 < c.toNat
      · rw [if_pos hr]
        have hj : F.words.quoted_j6 i acc s (F.words.quoted_l1 s j) true = some (.ret ([], 0, ⟨(i : Int), 11⟩)) := rfl
        by_cases hl : c.toNat < 32
        · have dl : decide ((c.toNat : Int) < 32) = true := decide_eq_true (by omega)
          simp only [dl, if_true, hj, qn, hsub]
        · have dl : decide ((c.toNat : Int) < 32) = false := decide_eq_false (by omega)
          have dh : decide (126 < (c.toNat : Int)) = true := decide_eq_true (by omega)
          simp only [dl, dh, Bool.false_eq_true, if_false, hj, qn, hsub]
      · rw [if_neg hr]
        have dl : decide ((c.toNat : Int) < 32) = false := decide_eq_false (by omega)
        have dh : decide (126 < (c.toNat : Int)) = false := decide_eq_false (by omega)
        have a1 := app_ok (a := acc) (b := [(c.toNat : Int)]) (by simp; omega)
        have ih := quoted_l1_ok hb j (i + 1) r (acc ++ [(c.toNat : Int)]) d4 (by omega) (by rw [List.length_append]; simp; omega)
        simp only [dl, dh, Bool.false_eq_true, if_false, F.words.quoted_j6, d2, a1.1, a1.2, if_true, F.words.quoted_j5, F.words.quoted_j4, F.words.quoted_j3, F.words.quoted_j2]
        rw [ix_inc (by omega)]
        exact ih
end Go.Vc
