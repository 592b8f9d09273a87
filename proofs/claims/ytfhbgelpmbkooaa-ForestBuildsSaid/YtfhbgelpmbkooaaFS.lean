/-
  Sets as bits: the program's and the document's 'has' are one.
-/
import Derived.Test.YtfhbgelpmbkooaaFU
set_option linter.unusedVariables false
set_option linter.unusedSimpArgs false
namespace Go.Vc
open Go
theorem wrap_u8 {n : Int} (h1 : 0 ≤ n) (h2 : n < 256) : IntKind.wrap .u8 n = n := by
  simp only [IntKind.wrap, IntKind.bits, IntKind.signed]
  simp
  omega
theorem wrap_u64 {n : Int} (h1 : 0 ≤ n) (h2 : n < 18446744073709551616) : IntKind.wrap .u64 n = n := by
  simp only [IntKind.wrap, IntKind.bits, IntKind.signed]
  simp
  omega
def okW (w : Int) : Prop := 0 ≤ w ∧ w < 18446744073709551616
def okS (s : S4) : Prop := okW s.w0 ∧ okW s.w1 ∧ okW s.w2 ∧ okW s.w3
theorem okW_lt {w : Int} (h : okW w) : w.toNat < 2 ^ 64 := by unfold okW at h; omega
theorem ofInt_ok {w : Int} (h : okW w) : (BitVec.ofInt 64 w).toNat = w.toNat := by
  rw [BitVec.toNat_ofInt]
  unfold okW at h
  omega
theorem wrap_nat {n : Nat} (h : n < 2 ^ 64) : IntKind.wrap .u64 (n : Int) = (n : Int) := wrap_u64 (by omega) (by omega)
theorem okW_nat {n : Nat} (h : n < 2 ^ 64) : okW (n : Int) := ⟨by omega, by omega⟩
theorem gand_nat {a b : Int} (ha : okW a) (hb : okW b) : gand .u64 a b = ((a.toNat &&& b.toNat : Nat) : Int) := by
  have e : (BitVec.ofInt 64 a &&& BitVec.ofInt 64 b).toNat = a.toNat &&& b.toNat := by rw [BitVec.toNat_and, ofInt_ok ha, ofInt_ok hb]
  show IntKind.wrap .u64 (((BitVec.ofInt 64 a &&& BitVec.ofInt 64 b).toNat : Nat) : Int) = _
  rw [e, wrap_nat (Nat.and_lt_two_pow _ (okW_lt hb))]
def bit (s : S4) (i : Nat) : Bool := (s.get ((i / 64 : Nat) : Int)).toNat.testBit (i % 64)
theorem get_ok {s : S4} (hs : okS s) (j : Int) : okW (s.get j) := by
  obtain ⟨h0, h1, h2, h3⟩ := hs
  unfold S4.get
  split <;> assumption
theorem idx_u8 {i : Nat} (hi : i < 256) : gquo .u8 (i : Int) 64 = ((i / 64 : Nat) : Int) ∧ grem (i : Int) 64 = ((i % 64 : Nat) : Int) := by
  constructor
  · show IntKind.wrap .u8 ((i : Int).tdiv 64) = _
    have : (i : Int).tdiv 64 = ((i / 64 : Nat) : Int) := by rw [Int.tdiv_eq_ediv_of_nonneg (by omega)]; omega
    rw [this, wrap_u8 (by omega) (by omega)]
  · show (i : Int).tmod 64 = _
    rw [Int.tmod_eq_emod_of_nonneg (by omega)]; omega
theorem idx_i64 {i : Nat} (hi : i < 256) : gquo .i64 (i : Int) 64 = ((i / 64 : Nat) : Int) := by
  show IntKind.wrap .i64 ((i : Int).tdiv 64) = _
  have : (i : Int).tdiv 64 = ((i / 64 : Nat) : Int) := by rw [Int.tdiv_eq_ediv_of_nonneg (by omega)]; omega
  rw [this, wrap_i64 (by omega) (by omega)]
theorem gshr_nat {w : Int} (hw : okW w) {b : Nat} (hb : b < 64) : gshr .u64 w (b : Int) = ((w.toNat >>> b : Nat) : Int) := by
  show w.fdiv (2 ^ (min (b : Int).toNat 64)) = _
  have e1 : min (b : Int).toNat 64 = b := by omega
  have e2 : w = ((w.toNat : Nat) : Int) := by unfold okW at hw; omega
  rw [e1, Nat.shiftRight_eq_div_pow]
  conv => lhs; rw [e2]
  have : ((2 : Int) ^ b) = ((2 ^ b : Nat) : Int) := by norm_cast
  rw [this, Int.fdiv_eq_ediv_of_nonneg _ (Int.natCast_nonneg _)]
  norm_cast
theorem shr_lt {n b : Nat} (h : n < 2 ^ 64) : n >>> b < 2 ^ 64 := by
  rw [Nat.shiftRight_eq_div_pow]
  exact Nat.lt_of_le_of_lt (Nat.div_le_self _ _) h
theorem Has_bit {s : S4} (hs : okS s) {i : Nat} (hi : i < 256) : F.charset.Has s (i : Int) = some (bit s i) := by
  obtain ⟨h1, h2⟩ := idx_u8 hi
  unfold F.charset.Has
  rw [h1, h2, if_pos (by rw [inR_iff]; omega), if_neg (by rw [decide_eq_true_eq]; omega)]
  have hw := get_ok hs ((i / 64 : Nat) : Int)
  rw [gshr_nat hw (Nat.mod_lt _ (by decide)), gand_nat (okW_nat (shr_lt (okW_lt hw))) ⟨by decide, by decide⟩]
  unfold bit
  rw [Int.toNat_natCast]
  have e : (Int.toNat 1) = 1 := rfl
  rw [e, Nat.and_one_is_mod]
  rw [Nat.testBit_eq_decide_div_mod_eq, Nat.shiftRight_eq_div_pow]
  generalize (s.get ((i / 64 : Nat) : Int)).toNat / 2 ^ (i % 64) % 2 = y
  congr 1
  rw [Bool.eq_iff_iff]
  simp
  omega
theorem half {w : Int} (hw : okW w) : gquo .u64 w 2 = ((w.toNat / 2 : Nat) : Int) ∧ okW (gquo .u64 w 2) := by
  have h : gquo .u64 w 2 = ((w.toNat / 2 : Nat) : Int) := by
    show IntKind.wrap .u64 (w.tdiv 2) = _
    have : w.tdiv 2 = ((w.toNat / 2 : Nat) : Int) := by rw [Int.tdiv_eq_ediv_of_nonneg hw.1]; unfold okW at hw; omega
    rw [this]
    unfold okW at hw
    exact wrap_u64 (by omega) (by omega)
  refine ⟨h, ?_⟩
  rw [h]
  unfold okW at hw ⊢
  omega
theorem Has_l2 {n : Int} {m : Nat} (hn : grem n 64 = (m : Int)) (hm : m < 1000) (d : Nat) : ∀ (j i : Nat) (w : Int), okW w → i + d = m → d < j → F.ref01.Has_l2 n j w (i : Int) = some ((w.toNat >>> d : Nat) : Int) := by
  induction d with
  | zero =>
    intro j i w hw hi hj
    cases j with
    | zero => omega
    | succ j =>
      simp only [F.ref01.Has_l2, hn]
      rw [if_neg (by rw [decide_eq_true_eq]; omega), Nat.shiftRight_zero]
      unfold okW at hw
      congr 1
      omega
  | succ d ih =>
    intro j i w hw hi hj
    cases j with
    | zero => omega
    | succ j =>
      simp only [F.ref01.Has_l2, hn]
      rw [if_pos (by rw [decide_eq_true_eq]; omega)]
      obtain ⟨h1, h2⟩ := half hw
      have h3 : IntKind.wrap .i64 ((i : Int) + 1) = ((i + 1 : Nat) : Int) := by rw [wrap_i64 (by omega) (by omega)]; rfl
      rw [h3, ih j (i + 1) _ h2 (by omega) (by omega), h1]
      simp only [Int.toNat_natCast]
      rw [Nat.shiftRight_eq_div_pow, Nat.shiftRight_eq_div_pow, Nat.div_div_eq_div_mul, Nat.pow_succ, Nat.mul_comm 2]
theorem rem2 {x : Nat} : (grem ((x : Nat) : Int) 2 == 1) = x.testBit 0 := by
  have : grem ((x : Nat) : Int) 2 = ((x % 2 : Nat) : Int) := by
    show ((x : Nat) : Int).tmod 2 = _
    rw [Int.tmod_eq_emod_of_nonneg (by omega)]; omega
  rw [this, Nat.testBit_zero, Bool.eq_iff_iff]
  simp
  omega
theorem refHas_bit {s : S4} (hs : okS s) {i k : Nat} (hi : i < 256) (hk : 100 ≤ k) : F.ref01.Has k s (i : Int) = some (bit s i) := by
  obtain ⟨h0, h1, h2, h3⟩ := hs
  have hg : grem (i : Int) 64 = ((i % 64 : Nat) : Int) := (idx_u8 hi).2
  have key : ∀ w, okW w → F.ref01.Has_j1 k (i : Int) w = some (w.toNat.testBit (i % 64)) := by
    intro w hw
    unfold F.ref01.Has_j1
    have h5 := Has_l2 hg (by omega) (i % 64) k 0 w hw (by omega) (by omega)
    simp only [Int.ofNat_zero] at h5
    have h6 : F.ref01.Has_l2 (i : Int) k w 0 = some ((w.toNat >>> (i % 64) : Nat) : Int) := h5
    rw [h6, Option.bind_some, rem2, Nat.testBit_shiftRight]
    simp
  unfold F.ref01.Has F.ref01.Has_j3
  rw [if_neg (by rw [decide_eq_true_eq]; omega), if_neg (by rw [decide_eq_true_eq]; omega), idx_i64 hi]
  unfold bit
  have hc : i / 64 = 0 ∨ i / 64 = 1 ∨ i / 64 = 2 ∨ i / 64 = 3 := by omega
  rcases hc with hc | hc | hc | hc <;> rw [hc]
  · simpa [S4.get] using key _ h0
  · simpa [S4.get] using key _ h1
  · simpa [S4.get] using key _ h2
  · simpa [S4.get] using key _ h3
theorem hasB_bit {s : S4} (hs : okS s) {i : Nat} (hi : i < 256) : hasB s (i : Int) = bit s i := by
  have h := Has_ok (s := s) (b := (i : Int)) (by omega) (by omega)
  rw [Has_bit hs hi] at h
  exact (Option.some.inj h).symm
theorem RefHas_ok {s : S4} (hs : okS s) {b : Int} (h0 : 0 ≤ b) (h1 : b < 256) {k : Nat} (hk : 100 ≤ k) : F.ref01.Has k s b = some (hasB s b) := by
  obtain ⟨i, rfl⟩ : ∃ i : Nat, b = i := ⟨b.toNat, by omega⟩
  rw [refHas_bit hs (by omega) hk, hasB_bit hs (by omega)]
def WordsG (g : Gram) : Prop := ∀ r ∈ g.Rules, ∀ s ∈ r.Rhs, okS s.Set
end Go.Vc
