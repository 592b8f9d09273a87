/-
  Words: both take what stands in quotes as the plain reader does.
-/
import Derived.Test.YthkfffheppfieaaWI
set_option linter.unusedVariables false
set_option linter.unusedSimpArgs false
namespace Go.Vc
open Go
theorem quR_err : ∀ (j : Nat) (r : List UInt8) (acc : List Int) (m : Nat) (c : Int), quR j r acc = .error (some m, c) → c = 11 ∨ c = 12
  | 0, _, _, _, _, h => by cases h
  | j + 1, [], _, _, _, h => by cases h
  | j + 1, c :: r, acc, m, e, h => by
    unfold quR at h
    split at h
    · cases h
    split at h
    · split at h
      · cases h; exact Or.inr rfl
      · exact quR_err j _ _ m e h
    split at h
    · cases h; exact Or.inl rfl
    · exact quR_err j _ _ m e h
def unqP (s : List UInt8) : List Int × Fault :=
  if 65536 < s.length then ([], ⟨0, 2⟩) else
  match s with
  | [] => ([], ⟨0, 13⟩)
  | c :: r => if c.toNat = 34 then (match quR 200000 r [] with
      | .error (none, _) => ([], ⟨0, 13⟩)
      | .error (some m, e) => ([], ⟨((s.length - m : Nat) : Int), e⟩)
      | .ok (out, r') => if r'.length = 0 then (out, ⟨0, 0⟩) else ([], ⟨((s.length - r'.length : Nat) : Int), 15⟩)) else ([], ⟨0, 13⟩)
theorem sAt_zero (c : UInt8) (r : List UInt8) : sAt (c :: r) 0 = (c.toNat : Int) := rfl
theorem D_one (c : UInt8) (r : List UInt8) : D (c :: r) 1 r := ⟨rfl, by simp; omega⟩
theorem wrap_one : IntKind.wrap .i64 ((0 : Int) + 1) = ((1 : Nat) : Int) := by decide
theorem Unquote_ok (s : List UInt8) : F.words.Unquote 200000 s = some (unqP s) := by
  unfold F.words.Unquote unqP
  by_cases hl : 65536 < s.length
  · rw [if_pos (decide_eq_true (by omega)), if_pos hl]
  rw [if_neg (by simp; omega), if_neg hl]
  cases s with
  | nil => rfl
  | cons c r =>
    simp only [List.length_cons] at hl
    have h1 : ((c :: r : List UInt8) == []) = false := rfl
    have h2 : inR 0 (c :: r).length = true := ix_in (i := 0) (by simp)
    simp only [h1, h2, Bool.false_eq_true, if_false, if_true, sAt_zero]
    by_cases c34 : c.toNat = 34
    · have e : ((c.toNat : Int) != 34) = false := by simp; omega
      simp only [e, if_pos c34, F.words.Unquote_j1, Bool.false_eq_true, if_false, F.words.quoted, wrap_one]
      rw [quoted_l1_ok (s := c :: r) (by simp; omega) 200000 1 r [] (D_one c r) (by omega) (by simp; omega)]
      cases hq : quR 200000 r [] with
      | error x =>
        obtain ⟨m, e⟩ := x
        cases m with
        | none => rfl
        | some m =>
          have := quR_err _ _ _ _ _ hq
          simp only [qn, Option.bind_some, LR.fin]
          have z : (e == 0) = false := by rw [beq_eq_false_iff_ne]; omega
          simp only [z, Bool.false_eq_true, if_false, F.words.Unquote_j2]
      | ok x =>
        obtain ⟨out, r'⟩ := x
        simp only [qn, Option.bind_some, LR.fin, BEq.rfl, if_true, F.words.Unquote_j2]
        by_cases hz : r'.length = 0
        · rw [if_neg (by simp; omega), if_pos hz]
        · rw [if_pos (decide_eq_true (by simp only [List.length_cons]; omega)), if_neg hz]
    · have e : ((c.toNat : Int) != 34) = true := by simp; omega
      simp only [e, if_neg c34, F.words.Unquote_j1, if_true]
theorem refUnquote_ok (s : List UInt8) : F.ref02.Unquote 200000 s = some (unqP s) := by
  unfold F.ref02.Unquote unqP
  by_cases hl : 65536 < s.length
  · rw [if_pos (decide_eq_true (by omega)), if_pos hl]
  rw [if_neg (by simp; omega), if_neg hl]
  cases s with
  | nil => rfl
  | cons c r =>
    simp only [List.length_cons] at hl
    have h1 : (((c :: r : List UInt8).length : Int) == 0) = false := by rw [beq_eq_false_iff_ne]; simp; omega
    have h2 : inR 0 (c :: r).length = true := ix_in (i := 0) (by simp)
    simp only [h1, h2, Bool.false_eq_true, if_false, if_true, sAt_zero]
    by_cases c34 : c.toNat = 34
    · have e : ((c.toNat : Int) != 34) = false := by simp; omega
      simp only [e, if_pos c34, F.ref02.Unquote_j1, Bool.false_eq_true, if_false, F.ref02.Said, wrap_one]
      obtain ⟨o, ho, hs⟩ := Said_l1_ok (s := c :: r) (by simp; omega) 200000 1 r [] (D_one c r) (by omega) (by simp; omega)
      rw [ho]
      cases hq : quR 200000 r [] with
      | error x =>
        obtain ⟨m, e⟩ := x
        rw [hq] at hs
        cases m with
        | none =>
          obtain ⟨out, rfl⟩ := hs
          simp only [Option.bind_some, LR.fin]
          rw [if_pos (decide_eq_true (by omega))]
          rfl
        | some m =>
          have := quR_err _ _ _ _ _ hq
          have hs' : o = _ := hs
          subst hs'
          simp only [Option.bind_some, LR.fin]
          have z : (e != 0) = true := by simp; omega
          simp only [z, if_true]
      | ok x =>
        obtain ⟨out, r'⟩ := x
        rw [hq] at hs
        obtain ⟨hlt, rfl⟩ := hs
        simp only [Option.bind_some, LR.fin]
        simp only [List.length_cons] at hlt ⊢
        rw [if_neg (by simp; omega)]
        have hw : IntKind.wrap .i64 (((r.length + 1 - r'.length - 1 : Nat) : Int) + 1) = ((r.length + 1 - r'.length : Nat) : Int) := by rw [wrap_i64 (by omega) (by omega)]; omega
        simp only [hw, Option.bind_some, bne_self_eq_false, Bool.false_eq_true, if_false]
        by_cases hz : r'.length = 0
        · rw [if_neg (by simp; omega), if_pos hz]
        · rw [if_pos (decide_eq_true (by omega)), if_neg hz]
    · have e : ((c.toNat : Int) != 34) = true := by simp; omega
      simp only [e, if_neg c34, F.ref02.Unquote_j1, if_true]
end Go.Vc
