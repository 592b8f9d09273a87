/-
  The texts of a definition's parts, plain; both write them so: symbols, productions.
-/
import Derived.Test.YtdbnoblklhgdoaaGreatDoorPG
import Derived.Test.YtdbnoblklhgdoaaGreatDoorWD
import Derived.Test.YtdbnoblklhgdoaaGreatDoorCQ1
set_option linter.unusedVariables false
set_option linter.unusedSimpArgs false
namespace Go.Vc
open Go
theorem dt {p : Prop} [i : Decidable p] (h : p) : decide p = true := decide_eq_true h
theorem la {α : Type} {a b : List α} : (a ++ b).length = a.length + b.length := List.length_append
theorem lc {α : Type} {a : α} {b : List α} : (a :: b).length = b.length + 1 := List.length_cons
theorem ln {α : Type} : ([] : List α).length = 0 := List.length_nil
theorem u8b_ofS (s : List UInt8) : ∀ c ∈ ofS s, u8b c := by
  intro c hc
  unfold ofS at hc
  obtain ⟨b, _, rfl⟩ := List.mem_map.1 hc
  have := b.toNat_lt
  exact ⟨by omega, by omega⟩
theorem ofS_len (s : List UInt8) : (ofS s).length = s.length := by simp [ofS]
theorem quo_len (b : List Int) : (quo b).length ≤ 4 * b.length + 2 := by
  have := qs_len b
  unfold quo toS
  simp
  omega
theorem quo_ofS {k : Nat} {s : List UInt8} (hs : s.length ≤ 60000) (hk : 100000 ≤ k) : F.words.Quote k (ofS s) = some (quo (ofS s)) ∧ F.ref02.Quote k (ofS s) = some (quo (ofS s)) := by
  have h1 : (ofS s).length < 70000 := by rw [ofS_len]; omega
  exact ⟨Quote_ok h1 (u8b_ofS s) hk, refQuote_ok h1 (u8b_ofS s) hk⟩
theorem quo_lenS (s : List UInt8) : (quo (ofS s)).length ≤ 4 * s.length + 2 := by
  have := quo_len (ofS s)
  rw [ofS_len] at this
  exact this
theorem isNm_len {s : List UInt8} (h : isNm s = true) : s ≠ [] ∧ s.length ≤ 32 := by
  cases s with
  | nil => cases h
  | cons c r =>
    simp only [isNm, Bool.and_eq_true, decide_eq_true_eq] at h
    exact ⟨by simp, h.1⟩
theorem nmE_len {s : List UInt8} {e : Bool} (h : nmE s e = true) : s.length ≤ 32 := by
  unfold nmE at h
  simp only [Bool.or_eq_true, Bool.and_eq_true, beq_iff_eq] at h
  rcases h with ⟨_, rfl⟩ | h
  · simp
  · exact (isNm_len h).2
theorem symP_len {s : Sym} (h : symP s = true) : s.Text.length ≤ 32 ∧ s.Name.length ≤ 32 ∧ s.Sep.length ≤ 32 ∧ (s.Sep ≠ [] → s.Name ≠ []) := by
  unfold symP at h
  split at h
  · simp only [Bool.and_eq_true, decide_eq_true_eq, beq_iff_eq] at h
    obtain ⟨h1, _, h2, h3⟩ := h
    rw [h2, h3]; exact ⟨h1, by simp, by simp, fun h => absurd rfl h⟩
  split at h
  · simp only [Bool.and_eq_true, beq_iff_eq] at h
    obtain ⟨h1, h2, h3⟩ := h
    rw [h1, h2, h3]; exact ⟨by simp, by simp, by simp, fun h => absurd rfl h⟩
  split at h
  · simp only [Bool.and_eq_true, beq_iff_eq] at h
    obtain ⟨h1, _, h2, h3⟩ := h
    rw [h1, h3]; exact ⟨by simp, (isNm_len h2).2, by simp, fun h => absurd rfl h⟩
  split at h
  · simp only [Bool.and_eq_true, Bool.or_eq_true, beq_iff_eq] at h
    obtain ⟨h1, h2, h3⟩ := h
    rw [h1, h2]
    refine ⟨by simp, ?_, by simp, fun h => absurd rfl h⟩
    rcases h3 with h3 | ⟨_, h3⟩
    · rw [h3]; simp
    · exact (isNm_len h3).2
  split at h
  · split at h
    · rename_i hn
      rw [beq_iff_eq] at hn
      simp only [Bool.and_eq_true, beq_iff_eq] at h
      rw [h.1, h.2, hn]; exact ⟨by simp, by simp, by simp, fun h => absurd rfl h⟩
    · simp only [Bool.and_eq_true, beq_iff_eq, decide_eq_true_eq] at h
      obtain ⟨h1, _, h2, h3⟩ := h
      rw [h1]; exact ⟨by simp, (isNm_len h2).2, h3, fun _ => (isNm_len h2).1⟩
  · cases h
def symA (s : Sym) : List UInt8 := if s.Name = [] then Cp.printT s.Set else s.Name
def symB (s : Sym) : List UInt8 := if s.Sep = [] then symA s else [123] ++ s.Name ++ [32] ++ quo (ofS s.Sep) ++ [125]
def symT (s : Sym) : List UInt8 :=
  if s.Kind = 1 then quo (ofS s.Text) else if s.Kind = 4 then symB s ++ [63] else if s.Kind = 5 then symB s ++ [42] else if s.Kind = 6 then symB s ++ [43] else symB s
theorem symB_len {s : Sym} (h : symP s = true) : (symB s).length ≤ 2500 := by
  obtain ⟨h1, h2, h3, _⟩ := symP_len h
  have := Cp.printT_len s.Set
  have := quo_lenS s.Sep
  unfold symB symA
  split
  · split <;> omega
  · simp only [la, lc, ln]; omega
theorem symT_len {s : Sym} (h : symP s = true) : (symT s).length ≤ 2600 := by
  obtain ⟨h1, h2, h3, _⟩ := symP_len h
  have := symB_len h
  have := quo_lenS s.Text
  unfold symT
  split
  · omega
  repeat' split
  all_goals first | omega | (simp only [la, lc, ln]; omega)
section
variable {k : Nat} (hk : 200000 ≤ k)
include hk
theorem symText_ok {s : Sym} (h : symP s = true) (ho : Cp.okS s.Set) : F.defs.symText k s = some (symT s) ∧ F.ref03.symText k s = some (symT s) := by
  obtain ⟨h1, h2, h3, h4⟩ := symP_len h
  have e1 := Cp.Print_ok ho (show 300 ≤ k by omega)
  have e2 := Cp.refPrint_ok ho (show 300 ≤ k by omega)
  have q1 := quo_ofS (s := s.Sep) (by omega) (show 100000 ≤ k by omega)
  have q2 := quo_ofS (s := s.Text) (by omega) (show 100000 ≤ k by omega)
  have b1 := Cp.printT_len s.Set
  have b2 := quo_lenS s.Sep
  have bB := symB_len h
  have j2 : F.defs.symText_j2 k s (symB s) = some (symT s) ∧ F.ref03.symText_j2 k s (symB s) = some (symT s) := by
    unfold F.defs.symText_j2 F.ref03.symText_j2 symT
    rw [q2.1, q2.2]
    by_cases k1 : s.Kind = 1
    · simp only [k1]; exact ⟨rfl, rfl⟩
    have hc : ∀ c : UInt8, decide ((symB s).length + [c].length ≤ 9223372036854775807) = true := fun c => decide_eq_true (by simp only [List.length_cons, List.length_nil]; omega)
    simp only [hc, if_true]
    by_cases k4 : s.Kind = 4
    · simp only [k4]; exact ⟨rfl, rfl⟩
    by_cases k5 : s.Kind = 5
    · simp only [k5]; exact ⟨rfl, rfl⟩
    by_cases k6 : s.Kind = 6
    · simp only [k6]; exact ⟨rfl, rfl⟩
    simp [k1, k4, k5, k6]
  have j1 : F.defs.symText_j1 k s (symA s) = some (symT s) ∧ F.ref03.symText_j1 k s (symA s) = some (symT s) := by
    unfold F.defs.symText_j1 F.ref03.symText_j1
    rw [q1.1, q1.2]
    by_cases hs : s.Sep = []
    · have : symB s = symA s := by unfold symB; rw [if_pos hs]
      rw [← this, hs]
      exact j2
    · have hs' : (!(s.Sep == [])) = true := by simp [hs]
      have hA : symA s = s.Name := by unfold symA; rw [if_neg (h4 hs)]
      have hB : symB s = [123] ++ s.Name ++ [32] ++ quo (ofS s.Sep) ++ [125] := by unfold symB; rw [if_neg hs]
      rw [hs', if_pos rfl, if_pos rfl, hA]
      rw [if_pos (dt (by simp only [la, lc, ln]; omega)), if_pos (dt (by simp only [la, lc, ln]; omega))]
      rw [if_pos (dt (by simp only [la, lc, ln]; omega)), if_pos (dt (by simp only [la, lc, ln]; omega))]
      simp only [Option.bind_some]
      rw [if_pos (dt (by simp only [la, lc, ln]; omega)), if_pos (dt (by simp only [la, lc, ln]; omega))]
      rw [if_pos (dt (by simp only [la, lc, ln]; omega)), if_pos (dt (by simp only [la, lc, ln]; omega))]
      rw [← hB]
      exact j2
  unfold F.defs.symText F.ref03.symText
  rw [e1, e2]
  by_cases hn : s.Name = []
  · have : symA s = Cp.printT s.Set := by unfold symA; rw [if_pos hn]
    rw [this] at j1
    simp only [hn, BEq.rfl, if_true, Option.bind_some]
    exact j1
  · have : symA s = s.Name := by unfold symA; rw [if_neg hn]
    rw [this] at j1
    have hn' : (s.Name == []) = false := by simp [hn]
    simp only [hn', Bool.false_eq_true, if_false]
    exact j1
end
def symsT (l : List Sym) : List UInt8 := l.flatMap fun s => 32 :: symT s
def prodT (p : Prod) : List UInt8 :=
  (if p.Lex then [108, 101, 120, 32] else [99, 102, 32]) ++ p.Sort_ ++ (if p.Cons = [] then [] else 46 :: p.Cons) ++ [32, 61] ++ symsT p.Syms ++ (if p.Bracket then [32, 98, 114, 97, 99, 107, 101, 116] else [])
theorem symsT_len : ∀ {l : List Sym}, l.all symP = true → (symsT l).length ≤ 2601 * l.length
  | [], _ => by simp [symsT]
  | s :: r, h => by
    simp only [List.all_cons, Bool.and_eq_true] at h
    have h1 := symT_len h.1
    have h2 := symsT_len h.2
    simp only [symsT, List.flatMap_cons, List.length_append, List.length_cons] at *
    omega
theorem prodP_spec {p : Prod} (h : prodP p = true) : p.Sort_.length ≤ 32 ∧ p.Cons.length ≤ 32 ∧ 1 ≤ p.Syms.length ∧ p.Syms.length ≤ 12 ∧ p.Syms.all symP = true ∧ isNm p.Sort_ = true ∧ nmE p.Cons true = true ∧ (if p.Lex then !p.Bracket else p.Bracket == (p.Cons == [])) = true := by
  simp only [prodP, Bool.and_eq_true, decide_eq_true_eq] at h
  obtain ⟨h1, h2, ⟨h3, h4⟩, h5, h6⟩ := h
  exact ⟨(isNm_len h1).2, nmE_len h2, h3, h4, h6, h1, h2, h5⟩
theorem prodT_len {p : Prod} (h : prodP p = true) : (prodT p).length ≤ 40000 := by
  obtain ⟨h1, h2, _, h4, h5, _⟩ := prodP_spec h
  have := symsT_len h5
  unfold prodT
  simp only [List.length_append]
  repeat' split
  all_goals simp only [List.length_cons, List.length_nil]; omega
theorem loop_txt {α : Type} {xs : List α} {f : α → List UInt8} {L : Nat → Int → List UInt8 → Option (List UInt8)} (B M : Nat) (hf : ∀ x ∈ xs, (f x).length ≤ M)
    (h1 : ∀ j i acc, (h : i < xs.length) → acc.length ≤ B + M * i → L (j + 1) (i : Int) acc = L j ((i + 1 : Nat) : Int) (acc ++ f xs[i]))
    (h2 : ∀ j acc, L (j + 1) (xs.length : Int) acc = some acc) : ∀ j i acc, i ≤ xs.length → acc.length ≤ B + M * i → xs.length - i < j → L j (i : Int) acc = some (acc ++ (xs.drop i).flatMap f)
  | 0, _, _, _, _, h => by omega
  | j + 1, i, acc, hi, ha, hj => by
    by_cases h : i < xs.length
    · have hm := hf _ (List.getElem_mem h)
      rw [h1 j i acc h ha, loop_txt B M hf h1 h2 j (i + 1) _ (by omega) (by rw [List.length_append, Nat.mul_add]; omega) (by omega), List.drop_eq_getElem_cons h]
      simp only [List.flatMap_cons, List.append_assoc]
    · have : i = xs.length := by omega
      subst this
      rw [h2 j, List.drop_length]
      simp
theorem loop_txt0 {α : Type} {xs : List α} {f : α → List UInt8} {L : Nat → Int → List UInt8 → Option (List UInt8)} {k : Nat} (B M : Nat) (hk : xs.length < k) (hf : ∀ x ∈ xs, (f x).length ≤ M)
    (h1 : ∀ j i acc, (h : i < xs.length) → acc.length ≤ B + M * i → L (j + 1) (i : Int) acc = L j ((i + 1 : Nat) : Int) (acc ++ f xs[i]))
    (h2 : ∀ j acc, L (j + 1) (xs.length : Int) acc = some acc) (acc : List UInt8) (ha : acc.length ≤ B) : L k 0 acc = some (acc ++ xs.flatMap f) := by
  have := loop_txt B M hf h1 h2 k 0 acc (by omega) (by omega) (by omega)
  rwa [List.drop_zero] at this
section
variable {k : Nat} (hk : 200000 ≤ k)
include hk
theorem prodText_ok {p : Prod} (h : prodP p = true) (ho : ∀ s ∈ p.Syms, Cp.okS s.Set) : F.defs.prodText k p = some (prodT p ++ [59, 10]) ∧ F.ref03.prodText k p = some (prodT p) := by
  obtain ⟨h1, h2, _, h4, h5, _⟩ := prodP_spec h
  have hs := List.all_eq_true.1 h5
  have hlS := symsT_len h5
  have l3 : ∀ acc, acc.length ≤ 1000 → F.defs.prodText_l3 k p k acc 0 = some (acc ++ symsT p.Syms) := fun acc ha => by
    refine loop_txt0 (f := fun s => 32 :: symT s) (L := fun j i acc => F.defs.prodText_l3 k p j acc i) 1000 2601 (by omega) (fun s hm => by have := symT_len (hs s hm); simp only [List.length_cons]; omega) (fun j i acc h ha => ?_) (fun j acc => ?_) acc ha
    · have hm := List.getElem_mem h
      have hl := symT_len (hs _ hm)
      simp only [F.defs.prodText_l3, ix_lt h, ix_in h, ix_at h, if_true, (symText_ok hk (hs _ hm) (ho _ hm)).1, Option.bind_some, ix_inc (show i < 4611686018427387904 by omega)]
      rw [if_pos (dt (by simp only [la, lc, ln]; omega)), if_pos (dt (by simp only [la, lc, ln]; omega))]
      rfl
    · simp only [F.defs.prodText_l3, ix_ge (Nat.lt_irrefl _)]; rfl
  have l3r : ∀ acc, acc.length ≤ 1000 → F.ref03.prodText_l3 k p k acc 0 = some (acc ++ symsT p.Syms) := fun acc ha => by
    refine loop_txt0 (f := fun s => 32 :: symT s) (L := fun j i acc => F.ref03.prodText_l3 k p j acc i) 1000 2601 (by omega) (fun s hm => by have := symT_len (hs s hm); simp only [List.length_cons]; omega) (fun j i acc h ha => ?_) (fun j acc => ?_) acc ha
    · have hm := List.getElem_mem h
      have hl := symT_len (hs _ hm)
      simp only [F.ref03.prodText_l3, ix_lt h, ix_in h, ix_at h, if_true, (symText_ok hk (hs _ hm) (ho _ hm)).2, Option.bind_some, ix_inc (show i < 4611686018427387904 by omega)]
      rw [if_pos (dt (by simp only [la, lc, ln]; omega)), if_pos (dt (by simp only [la, lc, ln]; omega)), List.append_assoc]
      rfl
    · simp only [F.ref03.prodText_l3, ix_ge (Nat.lt_irrefl _)]; rfl
  have j2 : ∀ acc, acc.length ≤ 900 → F.defs.prodText_j2 k p acc = some (acc ++ [32, 61] ++ symsT p.Syms ++ (if p.Bracket then [32, 98, 114, 97, 99, 107, 101, 116] else []) ++ [59, 10]) ∧ F.ref03.prodText_j2 k p acc = some (acc ++ [32, 61] ++ symsT p.Syms ++ (if p.Bracket then [32, 98, 114, 97, 99, 107, 101, 116] else [])) := fun acc ha => by
    have e1 := l3 (acc ++ [32, 61]) (by simp only [la, lc, ln]; omega)
    have e2 := l3r (acc ++ [32, 61]) (by simp only [la, lc, ln]; omega)
    constructor
    · unfold F.defs.prodText_j2
      rw [if_pos (dt (by simp only [la, lc, ln]; omega)), e1]
      simp only [Option.bind_some]
      cases p.Bracket with
      | true =>
        simp only [if_true]
        rw [if_pos (dt (by simp only [la, lc, ln]; omega)), if_pos (dt (by simp only [la, lc, ln]; omega))]
      | false =>
        simp only [Bool.false_eq_true, if_false, List.append_nil]
        rw [if_pos (dt (by simp only [la, lc, ln]; omega))]
    · unfold F.ref03.prodText_j2
      rw [if_pos (dt (by simp only [la, lc, ln]; omega)), e2]
      simp only [Option.bind_some]
      cases p.Bracket with
      | true =>
        simp only [if_true]
        rw [if_pos (dt (by simp only [la, lc, ln]; omega))]
      | false =>
        simp only [Bool.false_eq_true, if_false, List.append_nil]
  have j1 : ∀ acc, acc.length ≤ 10 → F.defs.prodText_j1 k p acc = some (acc ++ p.Sort_ ++ (if p.Cons = [] then [] else 46 :: p.Cons) ++ [32, 61] ++ symsT p.Syms ++ (if p.Bracket then [32, 98, 114, 97, 99, 107, 101, 116] else []) ++ [59, 10]) ∧ F.ref03.prodText_j1 k p acc = some (acc ++ p.Sort_ ++ (if p.Cons = [] then [] else 46 :: p.Cons) ++ [32, 61] ++ symsT p.Syms ++ (if p.Bracket then [32, 98, 114, 97, 99, 107, 101, 116] else [])) := fun acc ha => by
    by_cases hc : p.Cons = []
    · have := j2 (acc ++ p.Sort_) (by simp only [List.length_append]; omega)
      constructor
      · unfold F.defs.prodText_j1
        rw [if_pos (dt (by omega))]
        simp only [hc, BEq.rfl, Bool.not_true, Bool.false_eq_true, if_false, if_true, List.append_nil]
        exact this.1
      · unfold F.ref03.prodText_j1
        rw [if_pos (dt (by omega))]
        simp only [hc, BEq.rfl, Bool.not_true, Bool.false_eq_true, if_false, if_true, List.append_nil]
        exact this.2
    · have hc' : (!(p.Cons == [])) = true := by simp [hc]
      have := j2 (acc ++ p.Sort_ ++ 46 :: p.Cons) (by simp only [List.length_append, List.length_cons]; omega)
      constructor
      · unfold F.defs.prodText_j1
        rw [if_pos (dt (by omega)), hc', if_pos rfl, if_neg hc, if_pos (dt (by simp only [la, lc, ln]; omega)), if_pos (dt (by simp only [la, lc, ln]; omega))]
        exact this.1
      · unfold F.ref03.prodText_j1
        rw [if_pos (dt (by omega)), hc', if_pos rfl, if_neg hc, if_pos (dt (by simp only [la, lc, ln]; omega)), if_pos (dt (by simp only [la, lc, ln]; omega))]
        rw [show acc ++ p.Sort_ ++ [46] ++ p.Cons = acc ++ p.Sort_ ++ 46 :: p.Cons by simp]
        exact this.2
  unfold F.defs.prodText F.ref03.prodText prodT
  cases p.Lex with
  | true => exact j1 _ (by decide)
  | false => exact j1 _ (by decide)
end
end Go.Vc
