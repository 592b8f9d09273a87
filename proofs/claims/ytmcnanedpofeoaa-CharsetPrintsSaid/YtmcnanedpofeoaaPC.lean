/-
  A set as 256 bits: charset.Has, ref.Has, ref.With.
-/
import Derived.Test.YtmcnanedpofeoaaPB
namespace Go.Vc
open Go

def bit (s : S4) (i : Nat) : Bool := (s.get ((i / 64 : Nat) : Int)).toNat.testBit (i % 64)
theorem get_ok {s : S4} (hs : okS s) (j : Int) : okW (s.get j) := by
  obtain ⟨h0, h1, h2, h3⟩ := hs
  unfold S4.get
  split <;> assumption
theorem idx_u8 {i : Nat} (hi : i < 256) : gquo .u8 (i : Int) 64 = ((i / 64 : Nat) : Int) ∧ grem (i : Int) 64 = ((i % 64 : Nat) : Int) := by
  constructor
  · show IntKind.wrap .u8 ((i : Int).tdiv 64) = _
    have : (i : Int).tdiv 64 = ((i / 64 : Nat) : Int) := by rw [Int.tdiv_eq_ediv_of_nonneg (by omega)]; omega
    rw [this, wrap_u8 (by omega) (by omega)]
  · show (i : Int).tmod 64 = _
    rw [Int.tmod_eq_emod_of_nonneg (by omega)]; omega
theorem idx_i64 {i : Nat} (hi : i < 256) : gquo .i64 (i : Int) 64 = ((i / 64 : Nat) : Int) := by
  show IntKind.wrap .i64 ((i : Int).tdiv 64) = _
  have : (i : Int).tdiv 64 = ((i / 64 : Nat) : Int) := by rw [Int.tdiv_eq_ediv_of_nonneg (by omega)]; omega
  rw [this, wrap_i64 (by omega) (by omega)]
theorem gshr_nat {w : Int} (hw : okW w) {b : Nat} (hb : b < 64) : gshr .u64 w (b : Int) = ((w.toNat >>> b : Nat) : Int) := by
  show w.fdiv (2 ^ (min (b : Int).toNat 64)) = _
  have e1 : min (b : Int).toNat 64 = b := by omega
  have e2 : w = ((w.toNat : Nat) : Int) := by unfold okW at hw; omega
  rw [e1, Nat.shiftRight_eq_div_pow]
  conv => lhs; rw [e2]
  have : ((2 : Int) ^ b) = ((2 ^ b : Nat) : Int) := by norm_cast
  rw [this, Int.fdiv_eq_ediv_of_nonneg _ (Int.natCast_nonneg _)]
  norm_cast
theorem shr_lt {n b : Nat} (h : n < 2 ^ 64) : n >>> b < 2 ^ 64 := by
  rw [Nat.shiftRight_eq_div_pow]
  exact Nat.lt_of_le_of_lt (Nat.div_le_self _ _) h
theorem Has_bit {s : S4} (hs : okS s) {i : Nat} (hi : i < 256) : F.charset.Has s (i : Int) = some (bit s i) := by
  obtain ⟨h1, h2⟩ := idx_u8 hi
  unfold F.charset.Has
  rw [h1, h2, if_pos (by rw [inR_iff]; omega), if_neg (by rw [decide_eq_true_eq]; omega)]
  have hw := get_ok hs ((i / 64 : Nat) : Int)
  rw [gshr_nat hw (Nat.mod_lt _ (by decide)), gand_nat (okW_nat (shr_lt (okW_lt hw))) ⟨by decide, by decide⟩]
  unfold bit
  rw [Int.toNat_natCast]
  have e : (Int.toNat 1) = 1 := rfl
  rw [e, Nat.and_one_is_mod]
  rw [Nat.testBit_eq_decide_div_mod_eq, Nat.shiftRight_eq_div_pow]
  generalize (s.get ((i / 64 : Nat) : Int)).toNat / 2 ^ (i % 64) % 2 = y
  congr 1
  rw [Bool.eq_iff_iff]
  simp
  omega
theorem hasB_bit {s : S4} (hs : okS s) {i : Nat} (hi : i < 256) : hasB s (i : Int) = bit s i := by
  unfold hasB
  rw [Has_bit hs hi]; rfl
end Go.Vc
