/-
  Words: the program's scanner reads a word as the plain one.
-/
import Derived.Test.YthkfffheppfieaaCB
import Derived.Test.YthkfffheppfieaaWJ
set_option linter.unusedVariables false
set_option linter.unusedSimpArgs false
namespace Go.Vc
open Go
def wd (s : List UInt8) (i : Nat) (w : List UInt8) (x : Tk) : Word := ⟨x.kind, w, x.bytes, x.set, x.num, (i : Int), (lnN s i : Int), (colN s i : Int)⟩
theorem put_ok {s r : List UInt8} {out : List Word} {i n : Nat} (hb : s.length < 100000) (ho : out.length < 1000000) (hD : D s i r) (hn : n ≤ r.length) (x : Tk) (t : List UInt8) (a b c : Int) (hw : lnN s (i + n) = lnN s i ∧ topN s (i + n) = topN s i) :
    F.words.scanner_put (stA s i out) ⟨x.kind, t, x.bytes, x.set, x.num, a, b, c⟩ ((i + n : Nat) : Int) = some (stA s (i + n) (out ++ [wd s i (r.take n) x])) := by
  obtain ⟨h1, h2⟩ := D_subn hD hn
  have hc := colN_le s i
  have h3 := hD.2
  unfold F.words.scanner_put stA
  simp only
  rw [if_pos h1, if_pos (by rw [decide_eq_true_eq]; simp; omega), if_pos (by rw [decide_eq_true_eq]; simp; omega), h2]
  have e : IntKind.wrap .i64 (IntKind.wrap .i64 ((i : Int) - topN s i) + 1) = (colN s i : Int) := by
    unfold topN
    rw [wrap_i64 (n := (i : Int) - _) (by omega) (by omega), wrap_i64 (by omega) (by omega)]
    omega
  rw [e, hw.1, hw.2]
  rfl
theorem numR_some : ∀ (r : List UInt8) (c : Nat) (n : Int) (m : Nat) (v : Int), numR c n r = some (m, v) → ∃ w r', r = w ++ r' ∧ m = c + w.length ∧ (∀ d ∈ w, cls d.toNat = 3) ∧ (∀ t, (∀ d t', t = d :: t' → cls d.toNat ≠ 3) → numR c n (w ++ t) = some (m, v)) ∧ (∀ d t', r' = d :: t' → cls d.toNat ≠ 3)
  | [], c, n, m, v, h => by
    unfold numR at h
    simp only [Option.some.injEq, Prod.mk.injEq] at h
    obtain ⟨rfl, rfl⟩ := h
    refine ⟨[], [], rfl, rfl, fun d hd => (by cases hd), fun t ht => ?_, fun d t' e => (by cases e)⟩
    cases t with
    | nil => rfl
    | cons d t => rw [List.nil_append, numR, if_neg (ht d t rfl)]
  | d :: r, c, n, m, v, h => by
    unfold numR at h
    split at h
    · rename_i hd
      split at h
      · cases h
      rename_i hc
      obtain ⟨w, r', h1, h2, h3, h4, h5⟩ := numR_some r _ _ _ _ h
      refine ⟨d :: w, r', by rw [h1]; rfl, by simp; omega, ?_, ?_, h5⟩
      · intro x hx
        rcases List.mem_cons.1 hx with rfl | hx
        · exact hd
        · exact h3 x hx
      · intro t ht
        rw [List.cons_append, numR, if_pos hd, if_neg hc]
        exact h4 t ht
    · rename_i hd
      simp only [Option.some.injEq, Prod.mk.injEq] at h
      obtain ⟨rfl, rfl⟩ := h
      refine ⟨[], d :: r, rfl, rfl, fun d hd => (by cases hd), fun t ht => ?_, fun x t' e => ?_⟩
      · cases t with
        | nil => rfl
        | cons d t => rw [List.nil_append, numR, if_neg (ht d t rfl)]
      · cases e
        exact hd
def nmO (s : Words_scanner) (i : Nat) : Option (Nat × Int) → LR (Int × Int) (Int × Words_scanner)
  | none => .ret (21, s)
  | some (m, n) => .done (((i + m : Nat) : Int), n)
theorem number_l1_ok {S : Words_scanner} (hb : S.text.length < 100000) {i : Nat} (hat : S.at_ = (i : Int)) (hi : i ≤ S.text.length) : ∀ (j : Nat) (r : List UInt8) (c : Nat) (n : Int), D S.text (i + c) r → r.length < j → F.words.scanner_number_l1 S j ((i + c : Nat) : Int) n = some (nmO S i (numR c n r))
  | 0, _, _, _, _, h => by omega
  | j + 1, r, c, n, hD, hj => by
    have h2 := hD.2
    simp only [F.words.scanner_number_l1]
    cases r with
    | nil =>
      have := D_nil hD
      rw [if_neg (by rw [decide_eq_true_eq]; omega)]
      unfold F.words.scanner_number_j2
      rw [if_neg (by simp)]
      rfl
    | cons d r =>
      obtain ⟨d1, d2, d3, d4⟩ := D_cons hD
      simp only [List.length_cons] at hj h2
      have hdl := d.toNat_lt
      rw [if_pos (by rw [decide_eq_true_eq]; omega), if_pos d3, d2, wrap_i32 (by omega) (by omega), digit_ok, Option.bind_some]
      unfold F.words.scanner_number_j2 numR
      by_cases h3 : cls d.toNat = 3
      · rw [if_pos (by simpa using h3), if_pos h3, hat]
        rw [wrap_i64 (n := ((i + c : Nat) : Int) - (i : Int)) (by omega) (by omega), show ((i + c : Nat) : Int) - (i : Int) = (c : Int) by omega]
        by_cases h6 : c = 6
        · rw [if_pos (by simp [h6]), if_pos h6]
          rfl
        · rw [if_neg (by simp; omega), if_neg h6, if_pos d3, d2, ix_inc (by omega)]
          exact number_l1_ok hb hat hi j r (c + 1) _ d4 (by omega)
      · rw [if_neg (by simpa using h3), if_neg h3]
        rfl
theorem mem10 {w : List UInt8} (h : ∀ d ∈ w, cls d.toNat = 3) : (10 : UInt8) ∉ w := fun hm => by
  have := h _ hm
  revert this
  decide
theorem number_ok {s r : List UInt8} {out : List Word} {i : Nat} {c : UInt8} (hb : s.length < 100000) (ho : out.length < 1000000) (hD : D s i (c :: r)) :
    F.words.scanner_number 200000 (stA s i out) = some (match numR 0 0 (c :: r) with
      | none => (21, stA s i out)
      | some (m, n) => if c.toNat = 48 ∧ 1 < m then (21, stA s i out) else (0, stA s (i + m) (out ++ [wd s i ((c :: r).take m) ⟨3, [], noS, n⟩]))) := by
  obtain ⟨d1, d2, d3, d4⟩ := D_cons hD
  have h2 := hD.2
  simp only [List.length_cons] at h2
  unfold F.words.scanner_number
  have := number_l1_ok (S := stA s i out) hb (i := i) rfl (show i ≤ s.length by omega) 200000 (c :: r) 0 0 hD (by simp only [List.length_cons]; omega)
  show ((F.words.scanner_number_l1 (stA s i out) 200000 ((i + 0 : Nat) : Int) 0).bind _) = _
  rw [this, Option.bind_some]
  cases hn : numR 0 0 (c :: r) with
  | none => rfl
  | some p =>
    obtain ⟨m, n⟩ := p
    simp only [nmO, LR.fin]
    obtain ⟨w, r', e1, e2, e3, e4, e5⟩ := numR_some _ _ _ _ _ hn
    have hlen : m ≤ (c :: r).length := by rw [e1, List.length_append]; omega
    have h10 : (10 : UInt8) ∉ (c :: r).take m := by
      rw [e1, e2, Nat.zero_add, List.take_left']
      exact mem10 e3
      rfl
    have hp := put_ok (out := out) hb ho hD hlen ⟨3, [], noS, n⟩ [] 0 0 0 (ln_NF m (by have := hD.2; omega) (D_NF hD hlen h10))
    have hj : ∀ b : Bool, F.words.scanner_number_j3 (stA s i out) (((i + m : Nat) : Int), n) b = some (if b = true then (21, stA s i out) else (0, stA s (i + m) (out ++ [wd s i ((c :: r).take m) ⟨3, [], noS, n⟩]))) := by
      intro b
      unfold F.words.scanner_number_j3
      cases b with
      | true => rfl
      | false =>
        rw [if_neg (by simp), if_neg (by simp)]
        show ((F.words.scanner_put (stA s i out) ⟨3, [], [], noS, n, 0, 0, 0⟩ ((i + m : Nat) : Int)).bind _) = _
        rw [hp]
        rfl
    show (if inR (i : Int) s.length = true then (if (sAt s (i : Int) == 48) = true then F.words.scanner_number_j3 (stA s i out) (((i + m : Nat) : Int), n) (decide (IntKind.wrap .i64 ((i : Int) + 1) < ((i + m : Nat) : Int))) else F.words.scanner_number_j3 (stA s i out) (((i + m : Nat) : Int), n) false) else none) = _
    rw [if_pos d3, d2, hj, hj, ix_inc (by omega)]
    by_cases h48 : c.toNat = 48
    · rw [if_pos (by simp [h48])]
      by_cases h1 : 1 < m
      · rw [if_pos (by rw [decide_eq_true_eq]; omega), if_pos ⟨h48, h1⟩]
      · rw [if_neg (by rw [decide_eq_true_eq]; omega), if_neg (by omega)]
    · rw [if_neg (by simp; omega), if_neg (by simp), if_neg (by omega)]
/-! ### brackets -/
theorem brk_some : ∀ (r : List UInt8) (m : Nat), brk r = some m → 1 ≤ m ∧ m ≤ r.length ∧ ∀ t, brk (r.take m ++ t) = some m
  | [], _, h => by cases h
  | [c], m, h => by
    unfold brk at h
    split at h
    · cases h
    rename_i h92
    split at h
    · rename_i h93
      cases h
      refine ⟨by omega, by simp, fun t => ?_⟩
      show brk (c :: t) = _
      rw [brk.eq_def]
      simp only
      rw [if_neg h92, if_pos h93]
    · cases h
  | c :: d :: r, m, h => by
    rw [brk] at h
    split at h
    · rename_i h92
      cases hb : brk r with
      | none => rw [hb] at h; cases h
      | some n =>
        rw [hb] at h
        simp only [Option.map_some, Option.some.injEq] at h
        subst h
        obtain ⟨h1, h2, h3⟩ := brk_some r n hb
        refine ⟨by omega, by simp; omega, fun t => ?_⟩
        show brk (c :: d :: (r.take n ++ t)) = _
        rw [brk, if_pos h92, h3]
        rfl
    rename_i h92
    split at h
    · rename_i h93
      cases h
      refine ⟨by omega, by simp, fun t => ?_⟩
      show brk (c :: t) = _
      rw [brk.eq_def]
      simp only
      rw [if_neg h92, if_pos h93]
    · rename_i h93
      cases hb : brk (d :: r) with
      | none => rw [hb] at h; cases h
      | some n =>
        rw [hb] at h
        simp only [Option.map_some, Option.some.injEq] at h
        subst h
        obtain ⟨h1, h2, h3⟩ := brk_some (d :: r) n hb
        refine ⟨by omega, by simp at h2 ⊢; omega, fun t => ?_⟩
        show brk (c :: ((d :: r).take n ++ t)) = _
        have h4 := h3 t
        rw [brk.eq_def]
        simp only
        rw [if_neg h92, if_neg h93, h4]
        rfl
def bkO (s r0 : List UInt8) (i0 i : Nat) : Option Nat → LR Unit (S4 × Int × Fault)
  | none => .done ()
  | some m => let p := psP (r0.take (i - i0 + m)); .ret (p.1, ((i + m : Nat) : Int), ⟨if p.2.Code ≠ 0 then p.2.At + (i0 : Int) else p.2.At, p.2.Code⟩)
theorem bracketed_l1_ok {s r0 : List UInt8} (hb : s.length ≤ 65536) {i0 : Nat} (hD0 : D s i0 r0) : ∀ (j i : Nat) (r : List UInt8), i0 ≤ i → D s i r → r.length < j → F.words.bracketed_l1 200000 s (i0 : Int) j i = some (bkO s r0 i0 i (brk r))
  | 0, _, _, _, _, h => by omega
  | j + 1, i, r, hi, hD, hj => by
    simp only [F.words.bracketed_l1]
    cases r with
    | nil =>
      have := D_nil hD
      rw [if_neg (by rw [decide_eq_true_eq]; omega)]
      rfl
    | cons c r =>
      obtain ⟨d1, d2, d3, d4⟩ := D_cons hD
      have d5 := hD.2
      have d6 := hD0.2
      simp only [List.length_cons] at hj d5
      rw [if_pos (by rw [decide_eq_true_eq]; omega), if_pos d3, d2]
      simp only [F.words.bracketed_j4, F.words.bracketed_j3, F.words.bracketed_j2, F.words.bracketed_j5]
      rw [ix_inc (by omega), ix_inc (show i + 1 < 4611686018427387904 by omega)]
      by_cases h92 : c.toNat = 92
      · rw [if_pos (by simp [h92])]
        cases r with
        | nil =>
          have hj1 : 0 < j := by simp at hj; omega
          obtain ⟨j, rfl⟩ : ∃ j', j = j' + 1 := ⟨j - 1, by omega⟩
          simp only [F.words.bracketed_l1]
          rw [if_neg (by rw [decide_eq_true_eq]; simp at d5; omega), brk, if_pos h92]
          rfl
        | cons d r =>
          obtain ⟨_, _, _, d7⟩ := D_cons d4
          simp only [List.length_cons] at hj
          rw [bracketed_l1_ok hb hD0 j (i + 1 + 1) r (by omega) d7 (by omega), brk, if_pos h92]
          cases brk r with
          | none => rfl
          | some m =>
            simp only [Option.map_some, bkO]
            rw [show i + 1 + 1 + m = i + (m + 2) by omega, show i + 1 + 1 - i0 + m = i - i0 + (m + 2) by omega]
      · rw [if_neg (by simp; omega)]
        have hbk : brk (c :: r) = if c.toNat = 93 then some 1 else (brk r).map (· + 1) := by
          rw [brk.eq_def]
          simp only
          rw [if_neg h92]
        rw [hbk]
        by_cases h93 : c.toNat = 93
        · rw [if_pos (by simp [h93]), if_pos h93]
          have hle : i + 1 - i0 ≤ r0.length := by omega
          obtain ⟨g1, g2⟩ := D_subn hD0 hle
          rw [show i0 + (i + 1 - i0) = i + 1 by omega] at g1 g2
          rw [if_pos g1, g2]
          obtain ⟨p1, p2⟩ := psP_ok (t := r0.take (i + 1 - i0)) (by rw [List.length_take]; omega)
          rw [p1, Option.bind_some]
          simp only [bkO]
          rw [show i - i0 + 1 = i + 1 - i0 by omega]
          generalize hp : psP (r0.take (i + 1 - i0)) = p at *
          by_cases hc : p.2.Code = 0
          · rw [if_neg (by simpa using hc), if_neg (by simpa using hc)]
          · rw [if_pos (by simpa using hc), if_pos hc]
            rcases p2 with hf | hf
            · have hl := hf.2.2
              have hl0 := hf.2.1
              rw [List.length_take] at hl
              rw [wrap_i64 (by omega) (by omega)]
            · exact absurd hf.1 hc
        · rw [if_neg (by simp; omega), if_neg h93, bracketed_l1_ok hb hD0 j (i + 1) r (by omega) d4 (by omega)]
          cases brk r with
          | none => rfl
          | some m =>
            simp only [Option.map_some, bkO]
            rw [show i + 1 + m = i + (m + 1) by omega, show i + 1 - i0 + m = i - i0 + (m + 1) by omega]
end Go.Vc
