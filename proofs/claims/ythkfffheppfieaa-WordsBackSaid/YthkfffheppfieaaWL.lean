/-
  Words: what is written in quotes is read back.
-/
import Derived.Test.YthkfffheppfieaaWK
set_option linter.unusedVariables false
set_option linter.unusedSimpArgs false
namespace Go.Vc
open Go
theorem esc_app {l r : List UInt8} {b n : Nat} (h : esc l = some (b, n)) : esc (l ++ r) = some (b, n) := by
  match l, h with
  | c :: v :: rest, h =>
    simp only [List.cons_append]
    unfold esc at h ⊢
    cases hs : sign v.toNat with
    | some b0 => simp only [hs] at h ⊢; exact h
    | none =>
      simp only [hs] at h ⊢
      split at h
      · rename_i c120
        rw [if_pos c120]
        match rest, h with
        | p :: q :: rest2, h => exact h
      · cases h
def okQ (c : Nat) : Bool := match toS (qb (c : Int)) with
  | [x] => decide (x.toNat = c ∧ c ≠ 34 ∧ c ≠ 92 ∧ ¬ (c < 32 ∨ 126 < c))
  | x :: l => decide (x.toNat = 92) && decide (esc (x :: l) = some (c, l.length + 1))
  | [] => false
theorem okQ_all : ∀ c : _root_.Fin 256, okQ c.val = true := by decide +kernel
theorem quR_qb {c : Int} (hc : u8b c) (j : Nat) (r : List UInt8) (acc : List Int) : quR (j + 1) (toS (qb c) ++ r) acc = quR j r (acc ++ [c]) := by
  obtain ⟨n, rfl⟩ := Int.eq_ofNat_of_zero_le hc.1
  have hn : n < 256 := by have := hc.2; omega
  have h := okQ_all ⟨n, hn⟩
  simp only [okQ] at h
  split at h
  · rename_i x hx
    obtain ⟨h1, h2, h3, h4⟩ := of_decide_eq_true h
    rw [hx]
    simp only [List.cons_append, List.nil_append, quR]
    rw [if_neg (by omega), if_neg (by omega), if_neg (by omega), h1]
  · rename_i x l hl hx
    rw [Bool.and_eq_true] at h
    have h1 := of_decide_eq_true h.1
    have h2 := of_decide_eq_true h.2
    rw [hx]
    have h3 := esc_app (r := r) h2
    rw [List.cons_append] at h3 ⊢
    simp only [quR]
    rw [if_neg (by omega), if_pos h1, h3]
    simp
  · cases h
theorem toS_app (a b : List Int) : toS (a ++ b) = toS a ++ toS b := by simp [toS]
theorem quR_qs : ∀ (b : List Int) (hb : ∀ c ∈ b, u8b c) (j : Nat) (acc : List Int), quR (j + b.length + 1) (toS (qs b) ++ [34]) acc = .ok (acc ++ b, [])
  | [], _, j, acc => by
    simp only [qs, toS, List.map_nil, List.nil_append, List.length_nil, Nat.add_zero, List.append_nil]
    rfl
  | c :: b, hb, j, acc => by
    rw [qs, toS_app, List.append_assoc, List.length_cons, show j + (b.length + 1) + 1 = (j + b.length + 1) + 1 by omega, quR_qb (hb c List.mem_cons_self), quR_qs b (fun x hx => hb x (List.mem_cons_of_mem _ hx)), List.append_assoc]
    rfl
theorem toS_len (a : List Int) : (toS a).length = a.length := by simp [toS]
theorem quo_eq (b : List Int) : quo b = 34 :: (toS (qs b) ++ [34]) := by simp [quo, toS]
theorem unqP_quo {b : List Int} (hb : ∀ c ∈ b, u8b c) (hl : b.length ≤ 16000) : unqP (quo b) = (b, ⟨0, 0⟩) := by
  have h4 := qs_len b
  have e : (200000 : Nat) = (199999 - b.length) + b.length + 1 := by omega
  unfold unqP
  rw [quo_eq, if_neg (by simp [toS_len]; omega)]
  simp only []
  rw [if_pos (by decide), e, quR_qs b hb]
  rfl
theorem toS_inj {a b : List Int} (ha : ∀ c ∈ a, u8b c) (hb : ∀ c ∈ b, u8b c) (h : toS a = toS b) : a = b := by
  induction a generalizing b with
  | nil => cases b with
    | nil => rfl
    | cons _ _ => cases h
  | cons x a ih => cases b with
    | nil => cases h
    | cons y b =>
      simp only [toS, List.map_cons, List.cons.injEq] at h
      have h1 := ha x List.mem_cons_self
      have h2 := hb y List.mem_cons_self
      have h3 := congrArg UInt8.toNat h.1
      simp only [UInt8.toNat_ofNat'] at h3
      obtain ⟨_, _⟩ := h1
      obtain ⟨_, _⟩ := h2
      rw [show x = y by omega, ih (fun c hc => ha c (List.mem_cons_of_mem _ hc)) (fun c hc => hb c (List.mem_cons_of_mem _ hc)) h.2]
theorem law_Back {a b : List Int} (ha : ∀ c ∈ a, u8b c) (hb : ∀ c ∈ b, u8b c) : F.law02.WordsBack 200000 a b = some true := by
  unfold F.law02.WordsBack
  by_cases h1 : 16000 < a.length
  · rw [if_pos (decide_eq_true (by omega)), alive_K]; rfl
  rw [if_neg (by simp; omega)]
  by_cases h2 : 16000 < b.length
  · rw [if_pos (decide_eq_true (by omega)), alive_K]; rfl
  rw [if_neg (by simp; omega), Quote_ok (by omega) ha (by omega), Option.bind_some, Unquote_ok, unqP_quo ha (by omega), Option.bind_some, alive_K]
  simp only [Option.bind_some, if_true, BEq.rfl, Bool.and_true, Bool.true_and]
  rw [Quote_ok (by omega) hb (by omega), Option.bind_some]
  unfold F.law02.WordsBack_j1
  have e : quo a = quo b ↔ toS a = toS b := by
    constructor
    · intro h
      have := unqP_quo ha (by omega)
      rw [h, unqP_quo hb (by omega)] at this
      injection this with h5 _
      rw [h5]
    · intro h
      rw [toS_inj ha hb h]
  congr 1
  rw [Bool.eq_iff_iff]
  simp only [beq_iff_eq]
  constructor
  · intro _; trivial
  · intro _
    rw [Bool.eq_iff_iff]
    simpa using e
end Go.Vc
