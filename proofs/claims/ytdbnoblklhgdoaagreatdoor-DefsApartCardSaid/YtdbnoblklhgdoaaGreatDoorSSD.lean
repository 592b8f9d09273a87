import Derived.Test.YtdbnoblklhgdoaaGreatDoorSS
set_option linter.unusedVariables false
set_option linter.unusedSimpArgs false
namespace Go.Vc
open Go
def wd (s : List UInt8) (i : Nat) (w : List UInt8) (x : Tk) : Word := ⟨x.kind, w, x.bytes, x.set, x.num, (i : Int), (lnN s i : Int), (colN s i : Int)⟩
def stop (k : Int) : List UInt8 → Prop
  | [] => True
  | c :: _ => (k = 1 ∨ k = 2 → al c = false) ∧ (k = 3 → cls c.toNat ≠ 3)
theorem pl_some (r : List UInt8) : (∀ c ∈ r.take (pl r), al c = true) ∧ (∀ c t, r.drop (pl r) = c :: t → al c = false) ∧ ∀ t, (∀ c t', t = c :: t' → al c = false) → pl (r.take (pl r) ++ t) = pl r := by
  induction r with
  | nil =>
    refine ⟨by simp [pl], by simp [pl], fun t ht => ?_⟩
    cases t with
    | nil => rfl
    | cons c t => simp [pl, ht c t rfl]
  | cons c r ih =>
    obtain ⟨h1, h2, h3⟩ := ih
    by_cases hc : al c = true
    · have e : pl (c :: r) = pl r + 1 := by rw [pl_cons, if_pos hc]
      rw [e]
      refine ⟨fun x hx => ?_, fun x t hx => h2 x t hx, fun t ht => ?_⟩
      · rw [List.take_succ_cons] at hx
        rcases List.mem_cons.1 hx with rfl | hx
        · exact hc
        · exact h1 x hx
      · rw [List.take_succ_cons, List.cons_append, pl_cons, if_pos hc, h3 t ht]
    · have e : pl (c :: r) = 0 := by rw [pl_cons, if_neg hc]
      rw [e]
      refine ⟨fun x hx => (by cases hx), fun x t hx => ?_, fun t ht => ?_⟩
      · rw [List.drop_zero] at hx
        cases hx
        exact Bool.eq_false_iff.2 hc
      · cases t with
        | nil => rfl
        | cons d t => rw [List.take_zero, List.nil_append, pl_cons, ht d t rfl]; rfl
theorem sign_all : ∀ n : _root_.Fin 256, isSign (UInt8.ofNat n.val) = true → n.val ≠ 10 ∧ n.val ≠ 35 ∧ ¬ blank n.val := by decide +kernel
theorem sign_ne {c : UInt8} (h : isSign c = true) : c.toNat ≠ 10 ∧ c.toNat ≠ 35 ∧ ¬ blank c.toNat := sign_all ⟨c.toNat, c.toNat_lt⟩ (by simpa using h)
end Go.Vc
