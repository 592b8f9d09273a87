/-
  The reference's Has and With.
-/
import Derived.Test.YtmcnanedpofeoaaPC
namespace Go.Vc
open Go

theorem half {w : Int} (hw : okW w) : gquo .u64 w 2 = ((w.toNat / 2 : Nat) : Int) ∧ okW (gquo .u64 w 2) := by
  have h : gquo .u64 w 2 = ((w.toNat / 2 : Nat) : Int) := by
    show IntKind.wrap .u64 (w.tdiv 2) = _
    have : w.tdiv 2 = ((w.toNat / 2 : Nat) : Int) := by rw [Int.tdiv_eq_ediv_of_nonneg hw.1]; unfold okW at hw; omega
    rw [this]
    unfold okW at hw
    exact wrap_u64 (by omega) (by omega)
  refine ⟨h, ?_⟩
  rw [h]
  unfold okW at hw ⊢
  omega
theorem Has_l2 {n : Int} {m : Nat} (hn : grem n 64 = (m : Int)) (hm : m < 1000) (d : Nat) : ∀ (j i : Nat) (w : Int), okW w → i + d = m → d < j → F.ref01.Has_l2 n j w (i : Int) = some ((w.toNat >>> d : Nat) : Int) := by
  induction d with
  | zero =>
    intro j i w hw hi hj
    cases j with
    | zero => omega
    | succ j =>
      simp only [F.ref01.Has_l2, hn]
      rw [if_neg (by rw [decide_eq_true_eq]; omega), Nat.shiftRight_zero]
      unfold okW at hw
      congr 1
      omega
  | succ d ih =>
    intro j i w hw hi hj
    cases j with
    | zero => omega
    | succ j =>
      simp only [F.ref01.Has_l2, hn]
      rw [if_pos (by rw [decide_eq_true_eq]; omega)]
      obtain ⟨h1, h2⟩ := half hw
      have h3 : IntKind.wrap .i64 ((i : Int) + 1) = ((i + 1 : Nat) : Int) := by rw [wrap_i64 (by omega) (by omega)]; rfl
      rw [h3, ih j (i + 1) _ h2 (by omega) (by omega), h1]
      simp only [Int.toNat_natCast]
      rw [Nat.shiftRight_eq_div_pow, Nat.shiftRight_eq_div_pow, Nat.div_div_eq_div_mul, Nat.pow_succ, Nat.mul_comm 2]
theorem rem2 {x : Nat} : (grem ((x : Nat) : Int) 2 == 1) = x.testBit 0 := by
  have : grem ((x : Nat) : Int) 2 = ((x % 2 : Nat) : Int) := by
    show ((x : Nat) : Int).tmod 2 = _
    rw [Int.tmod_eq_emod_of_nonneg (by omega)]; omega
  rw [this, Nat.testBit_zero, Bool.eq_iff_iff]
  simp
  omega
theorem refHas_bit {s : S4} (hs : okS s) {i k : Nat} (hi : i < 256) (hk : 100 ≤ k) : F.ref01.Has k s (i : Int) = some (bit s i) := by
  obtain ⟨h0, h1, h2, h3⟩ := hs
  have hg : grem (i : Int) 64 = ((i % 64 : Nat) : Int) := (idx_u8 hi).2
  have key : ∀ w, okW w → F.ref01.Has_j1 k (i : Int) w = some (w.toNat.testBit (i % 64)) := by
    intro w hw
    unfold F.ref01.Has_j1
    have h5 := Has_l2 hg (by omega) (i % 64) k 0 w hw (by omega) (by omega)
    simp only [Int.ofNat_zero] at h5
    have h6 : F.ref01.Has_l2 (i : Int) k w 0 = some ((w.toNat >>> (i % 64) : Nat) : Int) := h5
    rw [h6, Option.bind_some, rem2, Nat.testBit_shiftRight]
    simp
  unfold F.ref01.Has F.ref01.Has_j3
  rw [if_neg (by rw [decide_eq_true_eq]; omega), if_neg (by rw [decide_eq_true_eq]; omega), idx_i64 hi]
  unfold bit
  have hc : i / 64 = 0 ∨ i / 64 = 1 ∨ i / 64 = 2 ∨ i / 64 = 3 := by omega
  rcases hc with hc | hc | hc | hc <;> rw [hc]
  · simpa [S4.get] using key _ h0
  · simpa [S4.get] using key _ h1
  · simpa [S4.get] using key _ h2
  · simpa [S4.get] using key _ h3
end Go.Vc
