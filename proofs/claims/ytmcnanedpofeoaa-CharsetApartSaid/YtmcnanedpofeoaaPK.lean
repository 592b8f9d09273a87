/-
  Counting bits: bits.OnesCount64, charset.Size.
-/
import Derived.Test.YtmcnanedpofeoaaPJ
namespace Go.Vc
open Go

/-- the sum of n fields of f bits -/
def fsum (f : Nat) : Nat → Nat → Nat
  | 0, _ => 0
  | n + 1, x => x % 2 ^ f + fsum f n (x / 2 ^ f)
def fle (f c : Nat) : Nat → Nat → Prop
  | 0, _ => True
  | n + 1, x => x % 2 ^ f ≤ c ∧ fle f c n (x / 2 ^ f)
def msk (f : Nat) : Nat → Nat
  | 0 => 0
  | n + 1 => (2 ^ f - 1) + 2 ^ (2 * f) * msk f n
theorem and_block {k a b : Nat} (ha : a < 2 ^ k) (hb : b < 2 ^ k) (u v : Nat) : (a + 2 ^ k * u) &&& (b + 2 ^ k * v) = (a &&& b) + 2 ^ k * (u &&& v) := by
  apply Nat.eq_of_testBit_eq
  intro i
  rw [Nat.testBit_and, Nat.add_comm a, Nat.add_comm b, Nat.add_comm (a &&& b), Nat.testBit_two_pow_mul_add _ ha, Nat.testBit_two_pow_mul_add _ hb, Nat.testBit_two_pow_mul_add _ (Nat.and_lt_two_pow _ hb)]
  split <;> rw [Nat.testBit_and]
theorem pow_split (f : Nat) : 2 ^ (2 * f) = 2 ^ f * 2 ^ f := by rw [← Nat.pow_add]; congr 1; omega
theorem and_msk (f n x : Nat) : x &&& msk f (n + 1) = x % 2 ^ f + 2 ^ (2 * f) * (x / 2 ^ (2 * f) &&& msk f n) := by
  have hp := Nat.two_pow_pos f
  have h1 : x = x % 2 ^ (2 * f) + 2 ^ (2 * f) * (x / 2 ^ (2 * f)) := (Nat.mod_add_div _ _).symm
  have h2 : 2 ^ f - 1 < 2 ^ (2 * f) := by
    rw [pow_split]
    have : 2 ^ f * 1 ≤ 2 ^ f * 2 ^ f := Nat.mul_le_mul_left _ hp
    omega
  conv => lhs; rw [h1]
  simp only [msk]
  rw [and_block (Nat.mod_lt _ (Nat.two_pow_pos _)) h2, Nat.and_two_pow_sub_one_eq_mod, pow_split, Nat.mod_mul_right_mod]
/-- one addition of neighbours -/
def adj (f n x : Nat) : Nat := (x / 2 ^ f &&& msk f n) + (x &&& msk f n)
theorem adj_step (f n x : Nat) : adj f (n + 1) x = (x % 2 ^ f + x / 2 ^ f % 2 ^ f) + 2 ^ (2 * f) * adj f n (x / 2 ^ (2 * f)) := by
  unfold adj
  rw [and_msk, and_msk, Nat.mul_add]
  have : x / 2 ^ f / 2 ^ (2 * f) = x / 2 ^ (2 * f) / 2 ^ f := by rw [Nat.div_div_eq_div_mul, Nat.div_div_eq_div_mul, Nat.mul_comm]
  rw [this]
  omega
theorem two_lt {f : Nat} (hf : 1 ≤ f) {a b : Nat} (ha : a < 2 ^ f) (hb : b < 2 ^ f) : a + b < 2 ^ (2 * f) := by
  rw [pow_split]
  have h2 : 2 ≤ 2 ^ f := by
    have := Nat.pow_le_pow_right (n := 2) (by decide) hf
    omega
  have : 2 ^ f * 2 ≤ 2 ^ f * 2 ^ f := Nat.mul_le_mul_left _ h2
  omega
theorem fsum_adj {f : Nat} (hf : 1 ≤ f) : ∀ (n x : Nat), fsum (2 * f) n (adj f n x) = fsum f (2 * n) x
  | 0, x => rfl
  | n + 1, x => by
    have hlt := two_lt hf (Nat.mod_lt x (Nat.two_pow_pos f)) (Nat.mod_lt (x / 2 ^ f) (Nat.two_pow_pos f))
    rw [show 2 * (n + 1) = (2 * n) + 1 + 1 by omega]
    simp only [fsum]
    rw [adj_step, Nat.add_mul_mod_self_left, Nat.mod_eq_of_lt hlt, Nat.add_mul_div_left _ _ (Nat.two_pow_pos _), Nat.div_eq_of_lt hlt, Nat.zero_add, fsum_adj hf n, Nat.div_div_eq_div_mul, ← pow_split]
    omega
theorem fle_adj {f c : Nat} (hf : 1 ≤ f) : ∀ (n x : Nat), fle f c (2 * n) x → fle (2 * f) (2 * c) n (adj f n x)
  | 0, x, _ => trivial
  | n + 1, x, h => by
    have hlt := two_lt hf (Nat.mod_lt x (Nat.two_pow_pos f)) (Nat.mod_lt (x / 2 ^ f) (Nat.two_pow_pos f))
    rw [show 2 * (n + 1) = (2 * n) + 1 + 1 by omega] at h
    simp only [fle] at h ⊢
    rw [adj_step, Nat.add_mul_mod_self_left, Nat.mod_eq_of_lt hlt, Nat.add_mul_div_left _ _ (Nat.two_pow_pos _), Nat.div_eq_of_lt hlt, Nat.zero_add]
    refine ⟨by omega, fle_adj hf n _ ?_⟩
    rw [pow_split, ← Nat.div_div_eq_div_mul]
    exact h.2.2
theorem mdiv {p a b : Nat} (hb : b < p) : (p * a + b) / p = a := by
  rw [Nat.mul_add_div (by omega), Nat.div_eq_of_lt hb, Nat.add_zero]
/-- .. masked behind it -/
theorem adj2_step {f c : Nat} (hc : 2 * c < 2 ^ f) : ∀ (n x : Nat), fle f c (2 * n) x → x < 2 ^ (f * (2 * n)) → ((x / 2 ^ f + x) &&& msk f n) = adj f n x
  | 0, x, _, _ => by simp [msk, adj]
  | n + 1, x, h, hx => by
    rw [show 2 * (n + 1) = (2 * n) + 1 + 1 by omega] at h
    simp only [fle] at h
    have hp := Nat.two_pow_pos f
    have e1 : (x / 2 ^ f + x) % 2 ^ f = x % 2 ^ f + x / 2 ^ f % 2 ^ f := by
      rw [Nat.add_mod, Nat.add_comm, Nat.mod_eq_of_lt]
      omega
    have hx2 : x / 2 ^ (2 * f) < 2 ^ (f * (2 * n)) := by
      rw [Nat.div_lt_iff_lt_mul (Nat.two_pow_pos _), ← Nat.pow_add]
      have e : f * (2 * n) + 2 * f = f * (2 * (n + 1)) := by rw [Nat.mul_add, Nat.mul_add]; omega
      rw [e]; exact hx
    have hn : x / 2 ^ (2 * f) % 2 ^ f ≤ c := by
      have : fle f c (2 * n) (x / 2 ^ f / 2 ^ f) := h.2.2
      cases n with
      | zero =>
        have : x / 2 ^ (2 * f) = 0 := by simpa using hx2
        rw [this]; simp
      | succ n =>
        rw [show 2 * (n + 1) = (2 * n) + 1 + 1 by omega] at this
        rw [pow_split, ← Nat.div_div_eq_div_mul]
        exact this.1
    have e2 : (x / 2 ^ f + x) / 2 ^ (2 * f) = x / 2 ^ (2 * f) / 2 ^ f + x / 2 ^ (2 * f) := by
      rw [pow_split, ← Nat.div_div_eq_div_mul, ← Nat.div_div_eq_div_mul]
      have h1 : (x / 2 ^ f + x) / 2 ^ f = x / 2 ^ f / 2 ^ f + x / 2 ^ f := by
        have hd1 := Nat.div_add_mod (x / 2 ^ f) (2 ^ f)
        have hd2 := Nat.div_add_mod x (2 ^ f)
        have : x / 2 ^ f + x = 2 ^ f * (x / 2 ^ f / 2 ^ f + x / 2 ^ f) + (x / 2 ^ f % 2 ^ f + x % 2 ^ f) := by rw [Nat.mul_add]; omega
        rw [this, mdiv (by omega)]
      rw [h1]
      have h3 : x / 2 ^ f / 2 ^ f % 2 ^ f ≤ c := by rw [Nat.div_div_eq_div_mul, ← pow_split]; exact hn
      have hd1 := Nat.div_add_mod (x / 2 ^ f / 2 ^ f) (2 ^ f)
      have hd2 := Nat.div_add_mod (x / 2 ^ f) (2 ^ f)
      have : x / 2 ^ f / 2 ^ f + x / 2 ^ f = 2 ^ f * (x / 2 ^ f / 2 ^ f / 2 ^ f + x / 2 ^ f / 2 ^ f) + (x / 2 ^ f / 2 ^ f % 2 ^ f + x / 2 ^ f % 2 ^ f) := by rw [Nat.mul_add]; omega
      rw [this, mdiv (by omega)]
    rw [and_msk, e1, e2, adj2_step hc n _ (by rw [pow_split, ← Nat.div_div_eq_div_mul]; exact h.2.2) hx2, adj_step]
theorem fle_le (f c : Nat) : ∀ (n x : Nat), (∀ y, y % 2 ^ f ≤ c) → fle f c n x
  | 0, _, _ => trivial
  | n + 1, _, h => ⟨h _, fle_le f c n _ h⟩
def cntP (p : Nat → Bool) : Nat → Nat
  | 0 => 0
  | n + 1 => cntP p n + (p n).toNat
theorem cntP_add (p : Nat → Bool) (m : Nat) : ∀ n, cntP p (m + n) = cntP p m + cntP (fun i => p (m + i)) n
  | 0 => rfl
  | n + 1 => by
    rw [← Nat.add_assoc]
    simp only [cntP, cntP_add p m n]
    omega
theorem cntP_congr {p q : Nat → Bool} : ∀ {n : Nat}, (∀ i, i < n → p i = q i) → cntP p n = cntP q n
  | 0, _ => rfl
  | n + 1, h => by
    simp only [cntP]
    rw [cntP_congr (fun i hi => h i (by omega)), h n (by omega)]
theorem fsum_cnt : ∀ (n x : Nat), fsum 1 n x = cntP x.testBit n
  | 0, _ => rfl
  | n + 1, x => by
    rw [Nat.add_comm n 1, cntP_add, Nat.add_comm 1 n]
    simp only [fsum]
    rw [fsum_cnt n]
    have e : cntP x.testBit 1 = x % 2 ^ 1 := by
      simp only [cntP, Nat.testBit_zero, Nat.zero_add, Nat.pow_one]
      rcases Nat.mod_two_eq_zero_or_one x with h | h <;> rw [h] <;> rfl
    rw [e]
    congr 1
    refine cntP_congr (fun i _ => ?_)
    rw [Nat.add_comm 1 i, Nat.testBit_succ, Nat.pow_one]

/-- the last three additions -/
theorem last3c {c0 c1 c2 c3 c4 c5 c6 c7 : Nat} (h0 : c0 ≤ 8) (h1 : c1 ≤ 8) (h2 : c2 ≤ 8) (h3 : c3 ≤ 8) (h4 : c4 ≤ 8) (h5 : c5 ≤ 8) (h6 : c6 ≤ 8) (h7 : c7 ≤ 8) {y y1 z1 z2 : Nat}
    (hy : y = c0 + 256 * y1) (hy1 : y1 = c1 + 256 * (c2 + 256 * (c3 + 256 * (c4 + 256 * (c5 + 256 * (c6 + 256 * c7))))))
    (hz1 : z1 = y + y / 256) (hz2 : z2 = z1 + z1 / 65536) : z1 < 18446744073709551616 ∧ z2 < 18446744073709551616 ∧ z2 + z2 / 4294967296 < 18446744073709551616 ∧ (z2 + z2 / 4294967296) % 128 = c0 + (c1 + (c2 + (c3 + (c4 + (c5 + (c6 + (c7 + 0))))))) := by
  have e0 : y / 256 = y1 := by omega
  rw [e0] at hz1
  obtain ⟨A, hA⟩ : ∃ A, A = (c0 + c1) + 256 * (c1 + c2) := ⟨_, rfl⟩
  obtain ⟨B, hB⟩ : ∃ A, A = (c2 + c3) + 256 * (c3 + c4) := ⟨_, rfl⟩
  obtain ⟨C, hC⟩ : ∃ A, A = (c4 + c5) + 256 * (c5 + c6) := ⟨_, rfl⟩
  obtain ⟨D, hD⟩ : ∃ A, A = (c6 + c7) + 256 * c7 := ⟨_, rfl⟩
  have ez1 : z1 = A + 65536 * (B + 65536 * (C + 65536 * D)) := by omega
  have bA : A ≤ 4112 := by omega
  have bB : B ≤ 4112 := by omega
  have bC : C ≤ 4112 := by omega
  have bD : D ≤ 4112 := by omega
  clear hy hy1 hz1 e0
  have e1 : z1 / 65536 = B + 65536 * (C + 65536 * D) := by omega
  rw [e1] at hz2
  have ez2 : z2 = (A + B) + 65536 * ((B + C) + 65536 * ((C + D) + 65536 * D)) := by omega
  have e2 : z2 / 4294967296 = (C + D) + 65536 * D := by
    have : z2 = ((A + B) + 65536 * (B + C)) + 4294967296 * ((C + D) + 65536 * D) := by omega
    rw [this]
    omega
  rw [e2]
  refine ⟨by omega, by omega, by omega, ?_⟩
  have : z2 + (C + D + 65536 * D) = (A + B + C + D) + 128 * (512 * ((B + C) + 65536 * ((C + D) + 65536 * D)) + 512 * D) := by omega
  rw [this, Nat.add_mul_mod_self_left]
  clear this e1 e2 ez1 ez2 hz2
  have : A + B + C + D = (c0 + (c1 + (c2 + (c3 + (c4 + (c5 + (c6 + (c7 + 0)))))))) + 128 * (2 * (c1 + c2) + 2 * (c3 + c4) + 2 * (c5 + c6) + 2 * c7) := by omega
  rw [this, Nat.add_mul_mod_self_left]
  omega
theorem last3 {y : Nat} (h : fle 8 8 8 y) (hy : y < 18446744073709551616) {z1 z2 : Nat} (hz1 : z1 = y + y / 256) (hz2 : z2 = z1 + z1 / 65536) :
    z1 < 18446744073709551616 ∧ z2 < 18446744073709551616 ∧ z2 + z2 / 4294967296 < 18446744073709551616 ∧ (z2 + z2 / 4294967296) % 128 = fsum 8 8 y := by
  simp only [fle, fsum] at h ⊢
  obtain ⟨h0, h1, h2, h3, h4, h5, h6, h7, _⟩ := h
  have e : ∀ x : Nat, x = x % 2 ^ 8 + 256 * (x / 2 ^ 8) := by intro x; omega
  refine last3c h0 h1 h2 h3 h4 h5 h6 h7 (e y) ?_ hz1 hz2
  rw [← show y / 2 ^ 8 / 2 ^ 8 / 2 ^ 8 / 2 ^ 8 / 2 ^ 8 / 2 ^ 8 / 2 ^ 8 = y / 2 ^ 8 / 2 ^ 8 / 2 ^ 8 / 2 ^ 8 / 2 ^ 8 / 2 ^ 8 / 2 ^ 8 % 2 ^ 8 by omega, ← e, ← e, ← e, ← e, ← e, ← e]
def y1I (x : Int) : Int := IntKind.wrap .u64 (gand .u64 (gshr .u64 x 1) 6148914691236517205 + gand .u64 x 6148914691236517205)
def y2I (x : Int) : Int := IntKind.wrap .u64 (gand .u64 (gshr .u64 x 2) 3689348814741910323 + gand .u64 x 3689348814741910323)
def y3I (x : Int) : Int := gand .u64 (IntKind.wrap .u64 (gshr .u64 x 4 + x)) 1085102592571150095
def z1I (x : Int) : Int := IntKind.wrap .u64 (x + gshr .u64 x 8)
def z2I (x : Int) : Int := IntKind.wrap .u64 (x + gshr .u64 x 16)
def z3I (x : Int) : Int := IntKind.wrap .u64 (x + gshr .u64 x 32)
theorem ones_eq (x : Int) : F.bits.OnesCount64 x = some (gand .i64 (IntKind.wrap .i64 (z3I (z2I (z1I (y3I (y2I (y1I x))))))) 127) := rfl

theorem gshr_d {x : Nat} (b d : Nat) (hb : b < 64) (hd : 2 ^ b = d) (hx : x < 18446744073709551616) : gshr .u64 (x : Int) (b : Int) = ((x / d : Nat) : Int) := by
  rw [gshr_nat (okW_nat (by omega)) hb, Int.toNat_natCast, Nat.shiftRight_eq_div_pow, hd]
theorem gand_d {x m : Nat} (hx : x < 18446744073709551616) (hm : m < 18446744073709551616) : gand .u64 (x : Int) (m : Int) = ((x &&& m : Nat) : Int) := by
  rw [gand_nat (okW_nat (by omega)) (okW_nat (by omega)), Int.toNat_natCast, Int.toNat_natCast]
theorem y1_ok {x : Nat} (hx : x < 18446744073709551616) : y1I (x : Int) = ((adj 1 32 x : Nat) : Int) ∧ adj 1 32 x < 18446744073709551616 := by
  have hm : msk 1 32 = 6148914691236517205 := by decide
  have hb : adj 1 32 x ≤ 12297829382473034410 := by
    unfold adj
    rw [hm]
    have h1 : x / 2 ^ 1 &&& 6148914691236517205 ≤ 6148914691236517205 := Nat.and_le_right
    have h2 : x &&& 6148914691236517205 ≤ 6148914691236517205 := Nat.and_le_right
    omega
  refine ⟨?_, by omega⟩
  have e : y1I (x : Int) = IntKind.wrap .u64 (gand .u64 (gshr .u64 (x : Int) ((1 : Nat) : Int)) ((6148914691236517205 : Nat) : Int) + gand .u64 (x : Int) ((6148914691236517205 : Nat) : Int)) := rfl
  rw [e, gshr_d 1 2 (by decide) (by decide) hx, gand_d (by omega) (by decide), gand_d hx (by decide)]
  rw [← Int.natCast_add]
  have e2 : (x / 2 &&& 6148914691236517205) + (x &&& 6148914691236517205) = adj 1 32 x := by
    unfold adj; rw [hm]
  rw [e2, wrap_nat (by omega)]
theorem y2_ok {x : Nat} (hx : x < 18446744073709551616) : y2I (x : Int) = ((adj 2 16 x : Nat) : Int) ∧ adj 2 16 x ≤ 7378697629483820646 := by
  have hm : msk 2 16 = 3689348814741910323 := by decide
  have hb : adj 2 16 x ≤ 7378697629483820646 := by
    unfold adj
    rw [hm]
    have h1 : x / 2 ^ 2 &&& 3689348814741910323 ≤ 3689348814741910323 := Nat.and_le_right
    have h2 : x &&& 3689348814741910323 ≤ 3689348814741910323 := Nat.and_le_right
    omega
  refine ⟨?_, hb⟩
  have e : y2I (x : Int) = IntKind.wrap .u64 (gand .u64 (gshr .u64 (x : Int) ((2 : Nat) : Int)) ((3689348814741910323 : Nat) : Int) + gand .u64 (x : Int) ((3689348814741910323 : Nat) : Int)) := rfl
  rw [e, gshr_d 2 4 (by decide) (by decide) hx, gand_d (by omega) (by decide), gand_d hx (by decide)]
  rw [← Int.natCast_add]
  have e2 : (x / 4 &&& 3689348814741910323) + (x &&& 3689348814741910323) = adj 2 16 x := by
    unfold adj; rw [hm]
  rw [e2, wrap_nat (by omega)]
theorem y3_ok {x : Nat} (hx : x ≤ 7378697629483820646) (h : fle 4 4 16 x) : y3I (x : Int) = ((adj 4 8 x : Nat) : Int) := by
  have hm : msk 4 8 = 1085102592571150095 := by decide
  have e : y3I (x : Int) = gand .u64 (IntKind.wrap .u64 (gshr .u64 (x : Int) ((4 : Nat) : Int) + (x : Int))) ((1085102592571150095 : Nat) : Int) := rfl
  rw [e, gshr_d 4 16 (by decide) (by decide) (by omega), ← Int.natCast_add, wrap_nat (by omega), gand_d (by omega) (by decide), ← hm]
  have := adj2_step (f := 4) (c := 4) (by decide) 8 x h (by simp; omega)
  rw [← this]
theorem ones_ok {x : Nat} (hx : x < 18446744073709551616) : F.bits.OnesCount64 (x : Int) = some ((cntP x.testBit 64 : Nat) : Int) := by
  rw [ones_eq]
  obtain ⟨h1, b1⟩ := y1_ok hx
  have f1 : fle 2 2 32 (adj 1 32 x) := fle_adj (c := 1) (by decide) 32 x (fle_le 1 1 64 x (fun y => by omega))
  have f2 : fle 4 4 16 (adj 2 16 (adj 1 32 x)) := fle_adj (c := 2) (by decide) 16 _ f1
  have f3 : fle 8 8 8 (adj 4 8 (adj 2 16 (adj 1 32 x))) := fle_adj (c := 4) (by decide) 8 _ f2
  obtain ⟨h2, b2⟩ := y2_ok b1
  rw [h1, h2, y3_ok b2 f2]
  have s3 : fsum 8 8 (adj 4 8 (adj 2 16 (adj 1 32 x))) = cntP x.testBit 64 := by
    rw [fsum_adj (f := 4) (by decide) 8, fsum_adj (f := 2) (by decide) 16, fsum_adj (f := 1) (by decide) 32, fsum_cnt]
  have b3 : adj 4 8 (adj 2 16 (adj 1 32 x)) ≤ 2170205185142300190 := by
    have hm : msk 4 8 = 1085102592571150095 := by decide
    unfold adj
    rw [hm]
    generalize (x / 2 ^ 1 &&& msk 1 32) + (x &&& msk 1 32) = u
    generalize (u / 2 ^ 2 &&& msk 2 16) + (u &&& msk 2 16) = v
    have h1 : v / 2 ^ 4 &&& 1085102592571150095 ≤ 1085102592571150095 := Nat.and_le_right
    have h2 : v &&& 1085102592571150095 ≤ 1085102592571150095 := Nat.and_le_right
    omega
  rw [← s3]
  generalize adj 4 8 (adj 2 16 (adj 1 32 x)) = y at *
  obtain ⟨q1, q2, q3, q4⟩ := last3 f3 (by omega) rfl rfl
  have e1 : z1I (y : Int) = ((y + y / 256 : Nat) : Int) := by
    have e : z1I (y : Int) = IntKind.wrap .u64 ((y : Int) + gshr .u64 (y : Int) ((8 : Nat) : Int)) := rfl
    rw [e, gshr_d 8 256 (by decide) (by decide) (by omega), ← Int.natCast_add, wrap_nat q1]
  rw [e1]
  generalize y + y / 256 = z at *
  have e2 : z2I (z : Int) = ((z + z / 65536 : Nat) : Int) := by
    have e : z2I (z : Int) = IntKind.wrap .u64 ((z : Int) + gshr .u64 (z : Int) ((16 : Nat) : Int)) := rfl
    rw [e, gshr_d 16 65536 (by decide) (by decide) q1, ← Int.natCast_add, wrap_nat q2]
  rw [e2]
  generalize z + z / 65536 = t at *
  have e3 : z3I (t : Int) = ((t + t / 4294967296 : Nat) : Int) := by
    have e : z3I (t : Int) = IntKind.wrap .u64 ((t : Int) + gshr .u64 (t : Int) ((32 : Nat) : Int)) := rfl
    rw [e, gshr_d 32 4294967296 (by decide) (by decide) q2, ← Int.natCast_add, wrap_nat q3]
  rw [e3, ← q4]
  generalize t + t / 4294967296 = r at *
  have e4 : gand .i64 (IntKind.wrap .i64 (r : Int)) 127 = ((r % 128 : Nat) : Int) := by
    show IntKind.wrap .i64 ((BitVec.ofInt 64 (IntKind.wrap .i64 (r : Int)) &&& BitVec.ofInt 64 127).toNat : Int) = _
    have hb : BitVec.ofInt 64 (IntKind.wrap .i64 (r : Int)) = BitVec.ofNat 64 r := by
      apply BitVec.eq_of_toNat_eq
      rw [BitVec.toNat_ofInt, BitVec.toNat_ofNat]
      simp only [IntKind.wrap, IntKind.bits, IntKind.signed]
      simp
      omega
    rw [hb, BitVec.toNat_and, BitVec.toNat_ofNat, Nat.mod_eq_of_lt q3]
    have e5 : (BitVec.ofInt 64 127).toNat = 2 ^ 7 - 1 := by decide
    rw [e5, Nat.and_two_pow_sub_one_eq_mod, wrap_i64 (by omega) (by omega)]
  rw [e4]
theorem upTo_cnt {s : S4} (hs : okS s) : ∀ n, n ≤ 256 → (upTo s n).length = cntP (bit s) n
  | 0, _ => rfl
  | n + 1, h => by
    rw [upTo_step, List.length_append, upTo_cnt hs n (by omega), hasB_bit hs (by omega)]
    simp only [cntP]
    cases bit s n <;> rfl
theorem allB_cnt {s : S4} (hs : okS s) : (allB s).length = cntP (bit s) 256 := upTo_cnt hs 256 (Nat.le_refl _)
theorem Size_ok {s : S4} (hs : okS s) {k : Nat} (hk : 5 ≤ k) : F.charset.Size k s = some ((cntP (bit s) 256 : Nat) : Int) := by
  obtain ⟨k, rfl⟩ : ∃ k', k = k' + 5 := ⟨k - 5, by omega⟩
  obtain ⟨w0, w1, w2, w3⟩ := s
  obtain ⟨h0, h1, h2, h3⟩ := hs
  have key : ∀ w, okW w → F.bits.OnesCount64 w = some ((cntP w.toNat.testBit 64 : Nat) : Int) := by
    intro w hw
    have e : w = ((w.toNat : Nat) : Int) := by unfold okW at hw; omega
    conv => lhs; rw [e]
    exact ones_ok (okW_lt hw)
  have cle : ∀ (p : Nat → Bool) n, cntP p n ≤ n := by
    intro p n
    induction n with
    | zero => exact Nat.le_refl _
    | succ n ih =>
      simp only [cntP]
      have : (p n).toNat ≤ 1 := by cases p n <;> decide
      omega
  have e : F.charset.Size (k + 5) (S4.mk w0 w1 w2 w3) = ((F.bits.OnesCount64 w0).bind fun a => (F.bits.OnesCount64 w1).bind fun b => (F.bits.OnesCount64 w2).bind fun c => (F.bits.OnesCount64 w3).bind fun d =>
      some (IntKind.wrap .i64 (IntKind.wrap .i64 (IntKind.wrap .i64 (IntKind.wrap .i64 (0 + a) + b) + c) + d))) := by
    have g0 := key w0 h0
    have g1 := key w1 h1
    have g2 := key w2 h2
    have g3 := key w3 h3
    rw [g0, g1, g2, g3]
    unfold F.charset.Size
    simp only [F.charset.Size_l1]
    have i0 : inR 0 4 = true := by decide
    have w1' : IntKind.wrap .i64 (0 + 1) = 1 := by decide
    have w2' : IntKind.wrap .i64 (1 + 1) = 2 := by decide
    have w3' : IntKind.wrap .i64 (2 + 1) = 3 := by decide
    have w4' : IntKind.wrap .i64 (3 + 1) = 4 := by decide
    have i1 : inR 1 4 = true := by decide
    have i2 : inR 2 4 = true := by decide
    have i3 : inR 3 4 = true := by decide
    have d0 : decide ((0 : Int) < 4) = true := by decide
    have d1 : decide ((1 : Int) < 4) = true := by decide
    have d2 : decide ((2 : Int) < 4) = true := by decide
    have d3 : decide ((3 : Int) < 4) = true := by decide
    have d4 : decide ((4 : Int) < 4) = false := by decide
    have s0 : (S4.mk w0 w1 w2 w3).get 0 = w0 := rfl
    have s1 : (S4.mk w0 w1 w2 w3).get 1 = w1 := rfl
    have s2 : (S4.mk w0 w1 w2 w3).get 2 = w2 := rfl
    have s3 : (S4.mk w0 w1 w2 w3).get 3 = w3 := rfl
    simp only [i0, i1, i2, i3, w1', w2', w3', w4', d0, d1, d2, d3, d4, s0, s1, s2, s3, g0, g1, g2, g3, if_true, Option.bind_some, Bool.false_eq_true, if_false]
  rw [e, key w0 h0, key w1 h1, key w2 h2, key w3 h3]
  simp only [Option.bind_some]
  have hsum : cntP (bit (S4.mk w0 w1 w2 w3)) 256 = cntP w0.toNat.testBit 64 + cntP w1.toNat.testBit 64 + cntP w2.toNat.testBit 64 + cntP w3.toNat.testBit 64 := by
    rw [show 256 = 64 + 64 + 64 + 64 from rfl, cntP_add, cntP_add, cntP_add]
    have hb : ∀ j, j < 4 → ∀ i, i < 64 → bit (S4.mk w0 w1 w2 w3) (64 * j + i) = ((S4.mk w0 w1 w2 w3).get ((j : Nat) : Int)).toNat.testBit i := by
      intro j hj i hi
      unfold bit
      have e1 : (64 * j + i) / 64 = j := by omega
      have e2 : (64 * j + i) % 64 = i := by omega
      rw [e1, e2]
    have k0 : cntP (bit (S4.mk w0 w1 w2 w3)) 64 = cntP w0.toNat.testBit 64 := cntP_congr (fun i hi => by
      have := hb 0 (by decide) i hi
      rw [Nat.mul_zero, Nat.zero_add] at this
      exact this)
    have k1 : cntP (fun i => bit (S4.mk w0 w1 w2 w3) (64 + i)) 64 = cntP w1.toNat.testBit 64 := cntP_congr (fun i hi => hb 1 (by decide) i hi)
    have k2 : cntP (fun i => bit (S4.mk w0 w1 w2 w3) (64 + 64 + i)) 64 = cntP w2.toNat.testBit 64 := cntP_congr (fun i hi => hb 2 (by decide) i hi)
    have k3 : cntP (fun i => bit (S4.mk w0 w1 w2 w3) (64 + 64 + 64 + i)) 64 = cntP w3.toNat.testBit 64 := cntP_congr (fun i hi => hb 3 (by decide) i hi)
    rw [k0, k1, k2, k3]
  rw [hsum]
  have c0 := cle w0.toNat.testBit 64
  have c1 := cle w1.toNat.testBit 64
  have c2 := cle w2.toNat.testBit 64
  have c3 := cle w3.toNat.testBit 64
  generalize cntP w0.toNat.testBit 64 = a at *
  generalize cntP w1.toNat.testBit 64 = b at *
  generalize cntP w2.toNat.testBit 64 = c at *
  generalize cntP w3.toNat.testBit 64 = d at *
  rw [wrap_i64 (n := 0 + (a : Int)) (by omega) (by omega), wrap_i64 (n := 0 + (a : Int) + b) (by omega) (by omega), wrap_i64 (n := 0 + (a : Int) + b + c) (by omega) (by omega), wrap_i64 (by omega) (by omega)]
  congr 1
  omega
end Go.Vc
