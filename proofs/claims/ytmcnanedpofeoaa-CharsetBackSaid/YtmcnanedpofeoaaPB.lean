/-
  Words as rows of bits.
-/
import Derived.Test.YtmcnanedpofeoaaTT
namespace Go.Vc
open Go

def okW (w : Int) : Prop := 0 ≤ w ∧ w < 18446744073709551616
def okS (s : S4) : Prop := okW s.w0 ∧ okW s.w1 ∧ okW s.w2 ∧ okW s.w3
theorem okW_lt {w : Int} (h : okW w) : w.toNat < 2 ^ 64 := by unfold okW at h; omega
theorem ofInt_ok {w : Int} (h : okW w) : (BitVec.ofInt 64 w).toNat = w.toNat := by
  rw [BitVec.toNat_ofInt]
  unfold okW at h
  omega
theorem wrap_nat {n : Nat} (h : n < 2 ^ 64) : IntKind.wrap .u64 (n : Int) = (n : Int) := wrap_u64 (by omega) (by omega)
theorem okW_nat {n : Nat} (h : n < 2 ^ 64) : okW (n : Int) := ⟨by omega, by omega⟩
theorem gand_nat {a b : Int} (ha : okW a) (hb : okW b) : gand .u64 a b = ((a.toNat &&& b.toNat : Nat) : Int) := by
  have e : (BitVec.ofInt 64 a &&& BitVec.ofInt 64 b).toNat = a.toNat &&& b.toNat := by rw [BitVec.toNat_and, ofInt_ok ha, ofInt_ok hb]
  show IntKind.wrap .u64 (((BitVec.ofInt 64 a &&& BitVec.ofInt 64 b).toNat : Nat) : Int) = _
  rw [e, wrap_nat (Nat.and_lt_two_pow _ (okW_lt hb))]
theorem gor_nat {a b : Int} (ha : okW a) (hb : okW b) : gor .u64 a b = ((a.toNat ||| b.toNat : Nat) : Int) := by
  have e : (BitVec.ofInt 64 a ||| BitVec.ofInt 64 b).toNat = a.toNat ||| b.toNat := by rw [BitVec.toNat_or, ofInt_ok ha, ofInt_ok hb]
  show IntKind.wrap .u64 (((BitVec.ofInt 64 a ||| BitVec.ofInt 64 b).toNat : Nat) : Int) = _
  rw [e, wrap_nat (Nat.or_lt_two_pow (okW_lt ha) (okW_lt hb))]
theorem gxor_nat {a b : Int} (ha : okW a) (hb : okW b) : gxor .u64 a b = ((a.toNat ^^^ b.toNat : Nat) : Int) := by
  have e : (BitVec.ofInt 64 a ^^^ BitVec.ofInt 64 b).toNat = a.toNat ^^^ b.toNat := by rw [BitVec.toNat_xor, ofInt_ok ha, ofInt_ok hb]
  show IntKind.wrap .u64 (((BitVec.ofInt 64 a ^^^ BitVec.ofInt 64 b).toNat : Nat) : Int) = _
  rw [e, wrap_nat (Nat.xor_lt_two_pow (okW_lt ha) (okW_lt hb))]
theorem gandNot_bit {a b : Int} (ha : okW a) (hb : okW b) (i : Nat) (hi : i < 64) : okW (gandNot .u64 a b) ∧ (gandNot .u64 a b).toNat.testBit i = (a.toNat.testBit i && !b.toNat.testBit i) := by
  have hlt := (BitVec.ofInt 64 a &&& ~~~ BitVec.ofInt 64 b).isLt
  have e : gandNot .u64 a b = (((BitVec.ofInt 64 a &&& ~~~ BitVec.ofInt 64 b).toNat : Nat) : Int) := wrap_nat hlt
  rw [e]
  refine ⟨okW_nat hlt, ?_⟩
  rw [Int.toNat_natCast, BitVec.testBit_toNat, BitVec.getLsbD_and, BitVec.getLsbD_not, ← BitVec.testBit_toNat, ← BitVec.testBit_toNat, ofInt_ok ha, ofInt_ok hb]
  simp [hi]
theorem gnot_bit {a : Int} (ha : okW a) (i : Nat) (hi : i < 64) : okW (gnot .u64 a) ∧ (gnot .u64 a).toNat.testBit i = !a.toNat.testBit i := by
  have hm : okW 18446744073709551615 := ⟨by decide, by decide⟩
  have e : gnot .u64 a = ((18446744073709551615 ^^^ a.toNat : Nat) : Int) := by
    have h2 : gnot .u64 a = gxor .u64 18446744073709551615 a := by
      show gxor .u64 (if IntKind.signed .u64 then -1 else IntKind.max .u64) a = _
      rfl
    rw [h2, gxor_nat hm ha]
    rfl
  have hlt : 18446744073709551615 ^^^ a.toNat < 2 ^ 64 := Nat.xor_lt_two_pow (by decide) (okW_lt ha)
  rw [e]
  refine ⟨okW_nat hlt, ?_⟩
  rw [Int.toNat_natCast, Nat.testBit_xor]
  have h3 : (18446744073709551615 : Nat).testBit i = true := by
    have := Nat.testBit_two_pow_sub_one 64 i
    simpa [hi] using this
  rw [h3]; simp
theorem word_ext {a b : Int} (ha : okW a) (hb : okW b) (h : ∀ i, i < 64 → a.toNat.testBit i = b.toNat.testBit i) : a = b := by
  have : a.toNat = b.toNat := by
    apply Nat.eq_of_testBit_eq
    intro i
    by_cases hi : i < 64
    · exact h i hi
    · rw [Nat.testBit_lt_two_pow (Nat.lt_of_lt_of_le (okW_lt ha) (Nat.pow_le_pow_right (by decide) (by omega))), Nat.testBit_lt_two_pow (Nat.lt_of_lt_of_le (okW_lt hb) (Nat.pow_le_pow_right (by decide) (by omega)))]
  unfold okW at ha hb
  omega
end Go.Vc
