/-
  Sets, as predicates; the document's and the program's operations on them (from the seat of the sets).
-/
import Derived.Test.YthkfffheppfieaaWD
import Derived.KernelRfl
set_option linter.unusedVariables false
set_option linter.unusedSimpArgs false
set_option maxHeartbeats 1000000
namespace Go.Vc.Cp
open Go Go.Vc
theorem wrap_u8 {n : Int} (h1 : 0 ≤ n) (h2 : n < 256) : IntKind.wrap .u8 n = n := by
  simp only [IntKind.wrap, IntKind.bits, IntKind.signed]
  simp
  omega
theorem wrap_u64 {n : Int} (h1 : 0 ≤ n) (h2 : n < 18446744073709551616) : IntKind.wrap .u64 n = n := by
  simp only [IntKind.wrap, IntKind.bits, IntKind.signed]
  simp
  omega
def okW (w : Int) : Prop := 0 ≤ w ∧ w < 18446744073709551616
def okS (s : S4) : Prop := okW s.w0 ∧ okW s.w1 ∧ okW s.w2 ∧ okW s.w3
theorem okW_lt {w : Int} (h : okW w) : w.toNat < 2 ^ 64 := by unfold okW at h; omega
theorem ofInt_ok {w : Int} (h : okW w) : (BitVec.ofInt 64 w).toNat = w.toNat := by
  rw [BitVec.toNat_ofInt]
  unfold okW at h
  omega
theorem wrap_nat {n : Nat} (h : n < 2 ^ 64) : IntKind.wrap .u64 (n : Int) = (n : Int) := wrap_u64 (by omega) (by omega)
theorem okW_nat {n : Nat} (h : n < 2 ^ 64) : okW (n : Int) := ⟨by omega, by omega⟩
theorem gand_nat {a b : Int} (ha : okW a) (hb : okW b) : gand .u64 a b = ((a.toNat &&& b.toNat : Nat) : Int) := by
  have e : (BitVec.ofInt 64 a &&& BitVec.ofInt 64 b).toNat = a.toNat &&& b.toNat := by rw [BitVec.toNat_and, ofInt_ok ha, ofInt_ok hb]
  show IntKind.wrap .u64 (((BitVec.ofInt 64 a &&& BitVec.ofInt 64 b).toNat : Nat) : Int) = _
  rw [e, wrap_nat (Nat.and_lt_two_pow _ (okW_lt hb))]
theorem gor_nat {a b : Int} (ha : okW a) (hb : okW b) : gor .u64 a b = ((a.toNat ||| b.toNat : Nat) : Int) := by
  have e : (BitVec.ofInt 64 a ||| BitVec.ofInt 64 b).toNat = a.toNat ||| b.toNat := by rw [BitVec.toNat_or, ofInt_ok ha, ofInt_ok hb]
  show IntKind.wrap .u64 (((BitVec.ofInt 64 a ||| BitVec.ofInt 64 b).toNat : Nat) : Int) = _
  rw [e, wrap_nat (Nat.or_lt_two_pow (okW_lt ha) (okW_lt hb))]
theorem gxor_nat {a b : Int} (ha : okW a) (hb : okW b) : gxor .u64 a b = ((a.toNat ^^^ b.toNat : Nat) : Int) := by
  have e : (BitVec.ofInt 64 a ^^^ BitVec.ofInt 64 b).toNat = a.toNat ^^^ b.toNat := by rw [BitVec.toNat_xor, ofInt_ok ha, ofInt_ok hb]
  show IntKind.wrap .u64 (((BitVec.ofInt 64 a ^^^ BitVec.ofInt 64 b).toNat : Nat) : Int) = _
  rw [e, wrap_nat (Nat.xor_lt_two_pow (okW_lt ha) (okW_lt hb))]
theorem gandNot_bit {a b : Int} (ha : okW a) (hb : okW b) (i : Nat) (hi : i < 64) : okW (gandNot .u64 a b) ∧ (gandNot .u64 a b).toNat.testBit i = (a.toNat.testBit i && !b.toNat.testBit i) := by
  have hlt := (BitVec.ofInt 64 a &&& ~~~ BitVec.ofInt 64 b).isLt
  have e : gandNot .u64 a b = (((BitVec.ofInt 64 a &&& ~~~ BitVec.ofInt 64 b).toNat : Nat) : Int) := wrap_nat hlt
  rw [e]
  refine ⟨okW_nat hlt, ?_⟩
  rw [Int.toNat_natCast, BitVec.testBit_toNat, BitVec.getLsbD_and, BitVec.getLsbD_not, ← BitVec.testBit_toNat, ← BitVec.testBit_toNat, ofInt_ok ha, ofInt_ok hb]
  simp [hi]
theorem gnot_bit {a : Int} (ha : okW a) (i : Nat) (hi : i < 64) : okW (gnot .u64 a) ∧ (gnot .u64 a).toNat.testBit i = !a.toNat.testBit i := by
  have hm : okW 18446744073709551615 := ⟨by decide, by decide⟩
  have e : gnot .u64 a = ((18446744073709551615 ^^^ a.toNat : Nat) : Int) := by
    have h2 : gnot .u64 a = gxor .u64 18446744073709551615 a := by
      show gxor .u64 (if IntKind.signed .u64 then -1 else IntKind.max .u64) a = _
      rfl
    rw [h2, gxor_nat hm ha]
    rfl
  have hlt : 18446744073709551615 ^^^ a.toNat < 2 ^ 64 := Nat.xor_lt_two_pow (by decide) (okW_lt ha)
  rw [e]
  refine ⟨okW_nat hlt, ?_⟩
  rw [Int.toNat_natCast, Nat.testBit_xor]
  have h3 : (18446744073709551615 : Nat).testBit i = true := by
    have := Nat.testBit_two_pow_sub_one 64 i
    simpa [hi] using this
  rw [h3]; simp
theorem word_ext {a b : Int} (ha : okW a) (hb : okW b) (h : ∀ i, i < 64 → a.toNat.testBit i = b.toNat.testBit i) : a = b := by
  have : a.toNat = b.toNat := by
    apply Nat.eq_of_testBit_eq
    intro i
    by_cases hi : i < 64
    · exact h i hi
    · rw [Nat.testBit_lt_two_pow (Nat.lt_of_lt_of_le (okW_lt ha) (Nat.pow_le_pow_right (by decide) (by omega))), Nat.testBit_lt_two_pow (Nat.lt_of_lt_of_le (okW_lt hb) (Nat.pow_le_pow_right (by decide) (by omega)))]
  unfold okW at ha hb
  omega
def bit (s : S4) (i : Nat) : Bool := (s.get ((i / 64 : Nat) : Int)).toNat.testBit (i % 64)
theorem get_ok {s : S4} (hs : okS s) (j : Int) : okW (s.get j) := by
  obtain ⟨h0, h1, h2, h3⟩ := hs
  unfold S4.get
  split <;> assumption
theorem idx_u8 {i : Nat} (hi : i < 256) : gquo .u8 (i : Int) 64 = ((i / 64 : Nat) : Int) ∧ grem (i : Int) 64 = ((i % 64 : Nat) : Int) := by
  constructor
  · show IntKind.wrap .u8 ((i : Int).tdiv 64) = _
    have : (i : Int).tdiv 64 = ((i / 64 : Nat) : Int) := by rw [Int.tdiv_eq_ediv_of_nonneg (by omega)]; omega
    rw [this, wrap_u8 (by omega) (by omega)]
  · show (i : Int).tmod 64 = _
    rw [Int.tmod_eq_emod_of_nonneg (by omega)]; omega
theorem idx_i64 {i : Nat} (hi : i < 256) : gquo .i64 (i : Int) 64 = ((i / 64 : Nat) : Int) := by
  show IntKind.wrap .i64 ((i : Int).tdiv 64) = _
  have : (i : Int).tdiv 64 = ((i / 64 : Nat) : Int) := by rw [Int.tdiv_eq_ediv_of_nonneg (by omega)]; omega
  rw [this, wrap_i64 (by omega) (by omega)]
theorem gshr_nat {w : Int} (hw : okW w) {b : Nat} (hb : b < 64) : gshr .u64 w (b : Int) = ((w.toNat >>> b : Nat) : Int) := by
  show w.fdiv (2 ^ (min (b : Int).toNat 64)) = _
  have e1 : min (b : Int).toNat 64 = b := by omega
  have e2 : w = ((w.toNat : Nat) : Int) := by unfold okW at hw; omega
  rw [e1, Nat.shiftRight_eq_div_pow]
  conv => lhs; rw [e2]
  have : ((2 : Int) ^ b) = ((2 ^ b : Nat) : Int) := by norm_cast
  rw [this, Int.fdiv_eq_ediv_of_nonneg _ (Int.natCast_nonneg _)]
  norm_cast
theorem shr_lt {n b : Nat} (h : n < 2 ^ 64) : n >>> b < 2 ^ 64 := by
  rw [Nat.shiftRight_eq_div_pow]
  exact Nat.lt_of_le_of_lt (Nat.div_le_self _ _) h
theorem half {w : Int} (hw : okW w) : gquo .u64 w 2 = ((w.toNat / 2 : Nat) : Int) ∧ okW (gquo .u64 w 2) := by
  have h : gquo .u64 w 2 = ((w.toNat / 2 : Nat) : Int) := by
    show IntKind.wrap .u64 (w.tdiv 2) = _
    have : w.tdiv 2 = ((w.toNat / 2 : Nat) : Int) := by rw [Int.tdiv_eq_ediv_of_nonneg hw.1]; unfold okW at hw; omega
    rw [this]
    unfold okW at hw
    exact wrap_u64 (by omega) (by omega)
  refine ⟨h, ?_⟩
  rw [h]
  unfold okW at hw ⊢
  omega
theorem Has_l2 {n : Int} {m : Nat} (hn : grem n 64 = (m : Int)) (hm : m < 1000) (d : Nat) : ∀ (j i : Nat) (w : Int), okW w → i + d = m → d < j → F.ref01.Has_l2 n j w (i : Int) = some ((w.toNat >>> d : Nat) : Int) := by
  induction d with
  | zero =>
    intro j i w hw hi hj
    cases j with
    | zero => omega
    | succ j =>
      simp only [F.ref01.Has_l2, hn]
      rw [if_neg (by rw [decide_eq_true_eq]; omega), Nat.shiftRight_zero]
      unfold okW at hw
      congr 1
      omega
  | succ d ih =>
    intro j i w hw hi hj
    cases j with
    | zero => omega
    | succ j =>
      simp only [F.ref01.Has_l2, hn]
      rw [if_pos (by rw [decide_eq_true_eq]; omega)]
      obtain ⟨h1, h2⟩ := half hw
      have h3 : IntKind.wrap .i64 ((i : Int) + 1) = ((i + 1 : Nat) : Int) := by rw [wrap_i64 (by omega) (by omega)]; rfl
      rw [h3, ih j (i + 1) _ h2 (by omega) (by omega), h1]
      simp only [Int.toNat_natCast]
      rw [Nat.shiftRight_eq_div_pow, Nat.shiftRight_eq_div_pow, Nat.div_div_eq_div_mul, Nat.pow_succ, Nat.mul_comm 2]
theorem rem2 {x : Nat} : (grem ((x : Nat) : Int) 2 == 1) = x.testBit 0 := by
  have : grem ((x : Nat) : Int) 2 = ((x % 2 : Nat) : Int) := by
    show ((x : Nat) : Int).tmod 2 = _
    rw [Int.tmod_eq_emod_of_nonneg (by omega)]; omega
  rw [this, Nat.testBit_zero, Bool.eq_iff_iff]
  simp
  omega
theorem refHas_bit {s : S4} (hs : okS s) {i k : Nat} (hi : i < 256) (hk : 100 ≤ k) : F.ref01.Has k s (i : Int) = some (bit s i) := by
  obtain ⟨h0, h1, h2, h3⟩ := hs
  have hg : grem (i : Int) 64 = ((i % 64 : Nat) : Int) := (idx_u8 hi).2
  have key : ∀ w, okW w → F.ref01.Has_j1 k (i : Int) w = some (w.toNat.testBit (i % 64)) := by
    intro w hw
    unfold F.ref01.Has_j1
    have h5 := Has_l2 hg (by omega) (i % 64) k 0 w hw (by omega) (by omega)
    simp only [Int.ofNat_zero] at h5
    have h6 : F.ref01.Has_l2 (i : Int) k w 0 = some ((w.toNat >>> (i % 64) : Nat) : Int) := h5
    rw [h6, Option.bind_some, rem2, Nat.testBit_shiftRight]
    simp
  unfold F.ref01.Has F.ref01.Has_j3
  rw [if_neg (by rw [decide_eq_true_eq]; omega), if_neg (by rw [decide_eq_true_eq]; omega), idx_i64 hi]
  unfold bit
  have hc : i / 64 = 0 ∨ i / 64 = 1 ∨ i / 64 = 2 ∨ i / 64 = 3 := by omega
  rcases hc with hc | hc | hc | hc <;> rw [hc]
  · simpa [S4.get] using key _ h0
  · simpa [S4.get] using key _ h1
  · simpa [S4.get] using key _ h2
  · simpa [S4.get] using key _ h3
def bt (s : S4) (i : Int) : Bool := if 0 ≤ i ∧ i < 256 then bit s i.toNat else false
theorem bt_nat {s : S4} {i : Nat} (hi : i < 256) : bt s (i : Int) = bit s i := by
  unfold bt
  rw [if_pos (by omega)]
  simp
theorem bt_out {s : S4} {i : Int} (hi : i < 0 ∨ 255 < i) : bt s i = false := by
  unfold bt
  rw [if_neg (by omega)]
theorem refHas_bt {s : S4} (hs : okS s) {k : Nat} (hk : 100 ≤ k) (i : Int) : F.ref01.Has k s i = some (bt s i) := by
  by_cases h1 : i < 0
  · unfold F.ref01.Has
    rw [if_pos (by rw [decide_eq_true_eq]; exact h1), bt_out (.inl h1)]
  · by_cases h2 : 255 < i
    · unfold F.ref01.Has
      rw [if_neg (by rw [decide_eq_true_eq]; exact h1), if_pos (by rw [decide_eq_true_eq]; exact h2), bt_out (.inr h2)]
    · have e : i = ((i.toNat : Nat) : Int) := by omega
      rw [e, refHas_bit hs (by omega) hk, bt_nat (by omega)]
def wordP (p : Nat → Bool) (j : Nat) : Nat := (BitVec.ofBoolListLE ((List.range 64).map fun i => p (64 * j + i))).toNat
theorem wordP_lt (p : Nat → Bool) (j : Nat) : wordP p j < 2 ^ 64 := by
  unfold wordP
  have := (BitVec.ofBoolListLE ((List.range 64).map fun i => p (64 * j + i))).isLt
  simpa using this
theorem wordP_bit (p : Nat → Bool) (j i : Nat) (hi : i < 64) : (wordP p j).testBit i = p (64 * j + i) := by
  unfold wordP
  rw [BitVec.testBit_toNat, BitVec.getLsbD_ofBoolListLE, List.getD_eq_getElem?_getD]
  simp [hi]
def ofP (p : Nat → Bool) : S4 := ⟨wordP p 0, wordP p 1, wordP p 2, wordP p 3⟩
theorem okS_ofP (p : Nat → Bool) : okS (ofP p) := ⟨okW_nat (wordP_lt p 0), okW_nat (wordP_lt p 1), okW_nat (wordP_lt p 2), okW_nat (wordP_lt p 3)⟩
theorem bit_ofP (p : Nat → Bool) {i : Nat} (hi : i < 256) : bit (ofP p) i = p i := by
  unfold bit ofP
  have hc : i / 64 = 0 ∨ i / 64 = 1 ∨ i / 64 = 2 ∨ i / 64 = 3 := by omega
  rcases hc with hc | hc | hc | hc <;> rw [hc] <;> simp only [S4.get, Int.toNat_natCast] <;> rw [wordP_bit _ _ _ (by omega)] <;> congr 1 <;> omega
theorem S4_ext {a b : S4} (ha : okS a) (hb : okS b) (h : ∀ i, i < 256 → bit a i = bit b i) : a = b := by
  have key : ∀ j : Nat, j < 4 → ∀ i : Nat, i < 64 → (a.get (j : Int)).toNat.testBit i = (b.get (j : Int)).toNat.testBit i := by
    intro j hj i hi
    have := h (64 * j + i) (by omega)
    unfold bit at this
    have e1 : (64 * j + i) / 64 = j := by omega
    have e2 : (64 * j + i) % 64 = i := by omega
    rw [e1, e2] at this
    exact this
  obtain ⟨a0, a1, a2, a3⟩ := a
  obtain ⟨b0, b1, b2, b3⟩ := b
  obtain ⟨h0, h1, h2, h3⟩ := ha
  obtain ⟨g0, g1, g2, g3⟩ := hb
  have e0 := word_ext h0 g0 (key 0 (by decide))
  have e1 := word_ext h1 g1 (key 1 (by decide))
  have e2 := word_ext h2 g2 (key 2 (by decide))
  have e3 := word_ext h3 g3 (key 3 (by decide))
  simp only at e0 e1 e2 e3
  subst e0 e1 e2 e3
  rfl
theorem ofP_bit {s : S4} (hs : okS s) : ofP (bit s) = s := S4_ext (okS_ofP _) hs (fun _ hi => bit_ofP _ hi)
theorem ofP_congr {p q : Nat → Bool} (h : ∀ i, i < 256 → p i = q i) : ofP p = ofP q := S4_ext (okS_ofP _) (okS_ofP _) (fun i hi => by rw [bit_ofP _ hi, bit_ofP _ hi, h i hi])
theorem eq_ofP {s : S4} (hs : okS s) {p : Nat → Bool} (h : ∀ i, i < 256 → bit s i = p i) : s = ofP p := S4_ext hs (okS_ofP _) (fun i hi => by rw [bit_ofP _ hi, h i hi])
theorem ofP_none : (S4.mk 0 0 0 0) = ofP (fun _ => false) := by
  refine eq_ofP ⟨⟨by decide, by decide⟩, ⟨by decide, by decide⟩, ⟨by decide, by decide⟩, ⟨by decide, by decide⟩⟩ (fun i hi => ?_)
  unfold bit
  have hc : i / 64 = 0 ∨ i / 64 = 1 ∨ i / 64 = 2 ∨ i / 64 = 3 := by omega
  rcases hc with hc | hc | hc | hc <;> rw [hc] <;> simp [S4.get]
theorem S4_eq_iff (a b : S4) : S4.eq a b = true ↔ a = b := by
  obtain ⟨a0, a1, a2, a3⟩ := a
  obtain ⟨b0, b1, b2, b3⟩ := b
  simp [S4.eq]
theorem S4_eq_self (a : S4) : S4.eq a a = true := (S4_eq_iff a a).2 rfl
theorem op_ofP {g : Int → Int → Int} {f : Bool → Bool → Bool} (hg : ∀ x y, okW x → okW y → okW (g x y) ∧ ∀ i, i < 64 → (g x y).toNat.testBit i = f (x.toNat.testBit i) (y.toNat.testBit i)) {a b : S4} (ha : okS a) (hb : okS b) :
    S4.mk (g a.w0 b.w0) (g a.w1 b.w1) (g a.w2 b.w2) (g a.w3 b.w3) = ofP (fun i => f (bit a i) (bit b i)) := by
  obtain ⟨h0, h1, h2, h3⟩ := ha
  obtain ⟨g0, g1, g2, g3⟩ := hb
  refine eq_ofP ⟨(hg _ _ h0 g0).1, (hg _ _ h1 g1).1, (hg _ _ h2 g2).1, (hg _ _ h3 g3).1⟩ (fun i hi => ?_)
  unfold bit
  have hc : i / 64 = 0 ∨ i / 64 = 1 ∨ i / 64 = 2 ∨ i / 64 = 3 := by omega
  rcases hc with hc | hc | hc | hc <;> rw [hc] <;> simp only [S4.get, Int.toNat_natCast]
  · exact (hg _ _ h0 g0).2 _ (Nat.mod_lt _ (by decide))
  · exact (hg _ _ h1 g1).2 _ (Nat.mod_lt _ (by decide))
  · exact (hg _ _ h2 g2).2 _ (Nat.mod_lt _ (by decide))
  · exact (hg _ _ h3 g3).2 _ (Nat.mod_lt _ (by decide))
theorem Union_ok {a b : S4} (ha : okS a) (hb : okS b) {k : Nat} (hk : 5 ≤ k) : F.charset.Union k a b = some (ofP fun i => bit a i || bit b i) := by
  obtain ⟨k, rfl⟩ : ∃ k', k = k' + 5 := ⟨k - 5, by omega⟩
  have e : F.charset.Union (k + 5) a b = some (S4.mk (gor .u64 a.w0 b.w0) (gor .u64 a.w1 b.w1) (gor .u64 a.w2 b.w2) (gor .u64 a.w3 b.w3)) := rfl
  rw [e, op_ofP (g := gor .u64) (f := or) (fun x y hx hy => ?_) ha hb]
  rw [gor_nat hx hy]
  refine ⟨okW_nat (Nat.or_lt_two_pow (okW_lt hx) (okW_lt hy)), fun i _ => ?_⟩
  rw [Int.toNat_natCast, Nat.testBit_or]
theorem Not_ok {a : S4} (ha : okS a) {k : Nat} (hk : 5 ≤ k) : F.charset.Not k a = some (ofP fun i => !bit a i) := by
  obtain ⟨k, rfl⟩ : ∃ k', k = k' + 5 := ⟨k - 5, by omega⟩
  have e : F.charset.Not (k + 5) a = some (S4.mk (gnot .u64 a.w0) (gnot .u64 a.w1) (gnot .u64 a.w2) (gnot .u64 a.w3)) := rfl
  rw [e, op_ofP (g := fun x _ => gnot .u64 x) (f := fun x _ => !x) (fun x y hx _ => ?_) ha ha]
  exact ⟨(gnot_bit hx 0 (by decide)).1, fun i hi => (gnot_bit hx i hi).2⟩
theorem With_l1 {n : Int} {m : Nat} (hn : grem n 64 = (m : Int)) (hm : m < 64) (d : Nat) : ∀ (j i : Nat), i + d = m → d < j → F.ref01.With_l1 n j ((2 ^ i : Nat) : Int) (i : Int) = some ((2 ^ m : Nat) : Int) := by
  induction d with
  | zero =>
    intro j i hi hj
    cases j with
    | zero => omega
    | succ j =>
      simp only [F.ref01.With_l1, hn]
      rw [if_neg (by rw [decide_eq_true_eq]; omega)]
      rw [show i = m by omega]
  | succ d ih =>
    intro j i hi hj
    cases j with
    | zero => omega
    | succ j =>
      simp only [F.ref01.With_l1, hn]
      rw [if_pos (by rw [decide_eq_true_eq]; omega)]
      have h3 : IntKind.wrap .i64 ((i : Int) + 1) = ((i + 1 : Nat) : Int) := by rw [wrap_i64 (by omega) (by omega)]; rfl
      have hp : 2 ^ (i + 1) < 2 ^ 64 := Nat.pow_lt_pow_right (by decide) (by omega)
      have h4 : IntKind.wrap .u64 (((2 ^ i : Nat) : Int) * 2) = ((2 ^ (i + 1) : Nat) : Int) := by
        rw [Nat.pow_succ] at hp ⊢
        rw [wrap_u64 (by omega) (by omega)]
        omega
      rw [h3, h4]
      exact ih j (i + 1) (by omega) (by omega)
theorem testBit_addPow {w r : Nat} (hr : w.testBit r = false) (j : Nat) : (w + 2 ^ r).testBit j = (w.testBit j || j == r) := by
  have hd := Nat.div_add_mod w (2 ^ r)
  have hm : w % 2 ^ r < 2 ^ r := Nat.mod_lt _ (Nat.two_pow_pos r)
  rw [Nat.testBit_eq_decide_div_mod_eq] at hr
  have hr' : w / 2 ^ r % 2 = 0 := by
    have := of_decide_eq_false hr
    omega
  have e1 : w.testBit j = if j < r then (w % 2 ^ r).testBit j else (w / 2 ^ r).testBit (j - r) := by
    conv => lhs; rw [← hd]
    rw [Nat.testBit_two_pow_mul_add _ hm]
  have e2 : (w + 2 ^ r).testBit j = if j < r then (w % 2 ^ r).testBit j else (w / 2 ^ r + 1).testBit (j - r) := by
    have : w + 2 ^ r = 2 ^ r * (w / 2 ^ r + 1) + w % 2 ^ r := by rw [Nat.mul_add]; omega
    rw [this, Nat.testBit_two_pow_mul_add _ hm]
  rw [e1, e2]
  by_cases hj : j < r
  · have : (j == r) = false := by simp; omega
    rw [if_pos hj, if_pos hj, this, Bool.or_false]
  · rw [if_neg hj, if_neg hj]
    by_cases he : j = r
    · subst he
      rw [Nat.sub_self, Nat.testBit_zero, Nat.testBit_zero]
      simp
      omega
    · have : (j == r) = false := by simp [he]
      rw [this, Bool.or_false]
      obtain ⟨d, hd⟩ : ∃ d, j - r = d + 1 := ⟨j - r - 1, by omega⟩
      rw [hd, Nat.testBit_succ, Nat.testBit_succ]
      congr 1
      omega
theorem addPow_lt {w r : Nat} (hw : w < 2 ^ 64) (hr : r < 64) (hb : w.testBit r = false) : w + 2 ^ r < 2 ^ 64 := by
  apply Nat.lt_pow_two_of_testBit
  intro i hi
  rw [testBit_addPow hb, Nat.testBit_lt_two_pow (Nat.lt_of_lt_of_le hw (Nat.pow_le_pow_right (by decide) hi))]
  simp
  omega
theorem With_ok {s : S4} (hs : okS s) {n k : Nat} (hn : n < 256) (hk : 100 ≤ k) : F.ref01.With k s (n : Int) = some (ofP fun i => bit s i || i == n) := by
  unfold F.ref01.With
  rw [if_neg (by rw [decide_eq_true_eq]; omega), if_neg (by rw [decide_eq_true_eq]; omega), refHas_bit hs hn hk, Option.bind_some]
  cases hb : bit s n with
  | true =>
    rw [if_pos rfl]
    refine congrArg some (eq_ofP hs (fun i _ => ?_))
    by_cases he : i = n
    · subst he; simp [hb]
    · simp [he]
  | false =>
    rw [if_neg (by simp)]
    have h1 := With_l1 (idx_u8 hn).2 (Nat.mod_lt _ (by decide)) (n % 64) k 0 (by omega) (by omega)
    have h2 : F.ref01.With_l1 (n : Int) k 1 0 = some ((2 ^ (n % 64) : Nat) : Int) := h1
    rw [h2, Option.bind_some, idx_i64 hn]
    unfold F.ref01.With_j3 F.ref01.With_j2
    have hw := get_ok hs ((n / 64 : Nat) : Int)
    unfold bit at hb
    have hlt := addPow_lt (okW_lt hw) (Nat.mod_lt _ (by decide)) hb
    have hwr : IntKind.wrap .u64 (s.get ((n / 64 : Nat) : Int) + ((2 ^ (n % 64) : Nat) : Int)) = (((s.get ((n / 64 : Nat) : Int)).toNat + 2 ^ (n % 64) : Nat) : Int) := by
      have e : s.get ((n / 64 : Nat) : Int) + ((2 ^ (n % 64) : Nat) : Int) = (((s.get ((n / 64 : Nat) : Int)).toNat + 2 ^ (n % 64) : Nat) : Int) := by
        have := hw.1
        omega
      rw [e, wrap_nat hlt]
    have key : ∀ t : S4, okS t → (∀ j : Nat, j < 4 → (t.get (j : Int)) = if j = n / 64 then (((s.get ((n / 64 : Nat) : Int)).toNat + 2 ^ (n % 64) : Nat) : Int) else s.get (j : Int)) → t = ofP fun i => bit s i || i == n := by
      intro t ht hg
      refine eq_ofP ht (fun i hi => ?_)
      unfold bit
      rw [hg (i / 64) (by omega)]
      by_cases he : i / 64 = n / 64
      · rw [if_pos he, Int.toNat_natCast, testBit_addPow hb, he]
        congr 1
        rw [Bool.eq_iff_iff]
        simp
        omega
      · rw [if_neg he]
        have : (i == n) = false := by simp; intro h; exact he (by rw [h])
        rw [this, Bool.or_false]
    have hk2 := okW_nat hlt
    obtain ⟨h0, h1, h2, h3⟩ := hs
    have hc : n / 64 = 0 ∨ n / 64 = 1 ∨ n / 64 = 2 ∨ n / 64 = 3 := by omega
    have j4 : ∀ j : Nat, j < 4 → j = 0 ∨ j = 1 ∨ j = 2 ∨ j = 3 := by intro j hj; omega
    rcases hc with hc | hc | hc | hc <;> rw [hc] at hwr hk2 key ⊢ <;> refine congrArg some ?_
    · have hwr' : IntKind.wrap .u64 (s.w0 + ((2 ^ (n % 64) : Nat) : Int)) = _ := hwr
      rw [hwr']
      exact key _ ⟨hk2, h1, h2, h3⟩ (fun j hj => by rcases j4 j hj with rfl | rfl | rfl | rfl <;> rfl)
    · have hwr' : IntKind.wrap .u64 (s.w1 + ((2 ^ (n % 64) : Nat) : Int)) = _ := hwr
      rw [hwr']
      exact key _ ⟨h0, hk2, h2, h3⟩ (fun j hj => by rcases j4 j hj with rfl | rfl | rfl | rfl <;> rfl)
    · have hwr' : IntKind.wrap .u64 (s.w2 + ((2 ^ (n % 64) : Nat) : Int)) = _ := hwr
      rw [hwr']
      exact key _ ⟨h0, h1, hk2, h3⟩ (fun j hj => by rcases j4 j hj with rfl | rfl | rfl | rfl <;> rfl)
    · have hwr' : IntKind.wrap .u64 (s.w3 + ((2 ^ (n % 64) : Nat) : Int)) = _ := hwr
      rw [hwr']
      exact key _ ⟨h0, h1, h2, hk2⟩ (fun j hj => by rcases j4 j hj with rfl | rfl | rfl | rfl <;> rfl)
theorem set_ofP {s : S4} (hs : okS s) {n : Nat} (hn : n < 256) {w : Int} (hw : okW w) {p : Nat → Bool} (h1 : ∀ r, r < 64 → w.toNat.testBit r = p (64 * (n / 64) + r)) (h2 : ∀ x, x < 256 → x / 64 ≠ n / 64 → bit s x = p x) :
    S4.set s ((n / 64 : Nat) : Int) w = ofP p := by
  have key : ∀ t : S4, okS t → (∀ j : Nat, j < 4 → (t.get (j : Int)) = if j = n / 64 then w else s.get (j : Int)) → t = ofP p := by
    intro t ht hg
    refine eq_ofP ht (fun i hi => ?_)
    unfold bit
    rw [hg (i / 64) (by omega)]
    by_cases he : i / 64 = n / 64
    · rw [if_pos he, h1 _ (Nat.mod_lt _ (by decide)), ← he]
      congr 1
      omega
    · rw [if_neg he]
      exact h2 i hi he
  obtain ⟨g0, g1, g2, g3⟩ := hs
  have hc : n / 64 = 0 ∨ n / 64 = 1 ∨ n / 64 = 2 ∨ n / 64 = 3 := by omega
  have j4 : ∀ j : Nat, j < 4 → j = 0 ∨ j = 1 ∨ j = 2 ∨ j = 3 := by intro j hj; omega
  rcases hc with hc | hc | hc | hc <;> rw [hc] at key ⊢
  · exact key _ ⟨hw, g1, g2, g3⟩ (fun j hj => by rcases j4 j hj with rfl | rfl | rfl | rfl <;> rfl)
  · exact key _ ⟨g0, hw, g2, g3⟩ (fun j hj => by rcases j4 j hj with rfl | rfl | rfl | rfl <;> rfl)
  · exact key _ ⟨g0, g1, hw, g3⟩ (fun j hj => by rcases j4 j hj with rfl | rfl | rfl | rfl <;> rfl)
  · exact key _ ⟨g0, g1, g2, hw⟩ (fun j hj => by rcases j4 j hj with rfl | rfl | rfl | rfl <;> rfl)
theorem gshl_one {r : Nat} (hr : r < 64) : gshl .u64 1 (r : Int) = ((2 ^ r : Nat) : Int) := by
  have hp : 2 ^ r < 2 ^ 64 := Nat.pow_lt_pow_right (by decide) hr
  show IntKind.wrap .u64 (1 * 2 ^ (min (r : Int).toNat 64)) = _
  have e : min (r : Int).toNat 64 = r := by omega
  rw [e, Int.one_mul]
  have : ((2 : Int) ^ r) = ((2 ^ r : Nat) : Int) := by norm_cast
  rw [this, wrap_nat hp]
theorem orbit {s : S4} (hs : okS s) {n : Nat} (hn : n < 256) :
    S4.set s ((n / 64 : Nat) : Int) (gor .u64 (S4.get s ((n / 64 : Nat) : Int)) (gshl .u64 1 ((n % 64 : Nat) : Int))) = ofP (fun x => bit s x || x == n) := by
  have hw := get_ok hs ((n / 64 : Nat) : Int)
  have hp : 2 ^ (n % 64) < 2 ^ 64 := Nat.pow_lt_pow_right (by decide) (Nat.mod_lt _ (by decide))
  rw [gshl_one (Nat.mod_lt _ (by decide)), gor_nat hw (okW_nat hp), Int.toNat_natCast]
  refine set_ofP hs hn (okW_nat (Nat.or_lt_two_pow (okW_lt hw) hp)) (fun r hr => ?_) (fun x hx hne => ?_)
  · rw [Int.toNat_natCast, Nat.testBit_or, Nat.testBit_two_pow]
    unfold bit
    have e1 : (64 * (n / 64) + r) / 64 = n / 64 := by omega
    have e2 : (64 * (n / 64) + r) % 64 = r := by omega
    rw [e1, e2]
    congr 1
    rw [Bool.eq_iff_iff]
    simp
    omega
  · have : (x == n) = false := by simp; intro h; exact hne (by rw [h])
    rw [this, Bool.or_false]
theorem wrap_succ {i : Nat} (hi : i < 1000000) : IntKind.wrap .i64 ((i : Int) + 1) = ((i + 1 : Nat) : Int) := by rw [wrap_i64 (by omega) (by omega)]; rfl
theorem Range_l1 {h : Nat} (hh : h < 256) (d : Nat) : ∀ (j i : Nat) (s : S4), okS s → i + d = h + 1 → d < j → F.charset.Range_l1 (h : Int) j (i : Int) s = some (ofP fun x => bit s x || (decide (i ≤ x) && decide (x ≤ h))) := by
  induction d with
  | zero =>
    intro j i s hs hi hj
    cases j with
    | zero => omega
    | succ j =>
      simp only [F.charset.Range_l1]
      rw [if_neg (by rw [decide_eq_true_eq]; omega)]
      refine congrArg some (eq_ofP hs (fun x _ => ?_))
      have : (decide (i ≤ x) && decide (x ≤ h)) = false := by simp; omega
      rw [this, Bool.or_false]
  | succ d ih =>
    intro j i s hs hi hj
    cases j with
    | zero => omega
    | succ j =>
      have hi2 : i < 256 := by omega
      simp only [F.charset.Range_l1, idx_i64 hi2, (idx_u8 hi2).2]
      rw [if_pos (by rw [decide_eq_true_eq]; omega), if_pos (by rw [inR_iff]; omega), if_neg (by rw [decide_eq_true_eq]; omega), orbit hs hi2, wrap_succ (by omega), ih j (i + 1) _ (okS_ofP _) (by omega) (by omega)]
      refine congrArg some (ofP_congr (fun x hx => ?_))
      rw [bit_ofP _ hx]
      cases bit s x with
      | true => rfl
      | false =>
        rw [Bool.eq_iff_iff]
        simp
        omega
theorem okS_none : okS (S4.mk 0 0 0 0) := by rw [ofP_none]; exact okS_ofP _
theorem bit_none {i : Nat} (hi : i < 256) : bit (S4.mk 0 0 0 0) i = false := by rw [ofP_none, bit_ofP _ hi]
def rangeR (lo hi : Int) : S4 × Int := if lo < 0 then (S4.mk 0 0 0 0, 10) else if 255 < hi then (S4.mk 0 0 0 0, 10) else if hi < lo then (S4.mk 0 0 0 0, 10) else (ofP fun x => decide (lo ≤ (x : Int)) && decide ((x : Int) ≤ hi), 0)
theorem Range_ok {lo hi : Int} {k : Nat} (hk : 300 ≤ k) : F.charset.Range k lo hi = some (rangeR lo hi) := by
  unfold F.charset.Range rangeR
  simp only [decide_eq_true_eq]
  split
  · rfl
  split
  · rfl
  split
  · rfl
  have e1 : hi = ((hi.toNat : Nat) : Int) := by omega
  have e2 : lo = ((lo.toNat : Nat) : Int) := by omega
  rw [e1, e2, Range_l1 (by omega) (hi.toNat + 1 - lo.toNat) k lo.toNat _ okS_none (by omega) (by omega), Option.bind_some]
  refine congrArg some (congrArg (fun z => (z, (0 : Int))) (ofP_congr (fun x hx => ?_)))
  rw [bit_none hx, Bool.eq_iff_iff]
  simp
  omega
theorem okS_rangeR (lo hi : Int) : okS (rangeR lo hi).1 := by
  unfold rangeR
  split
  · exact okS_none
  split
  · exact okS_none
  split
  · exact okS_none
  exact okS_ofP _
def opF (kind : Nat) (x y : Bool) : Bool := match kind with
  | 0 => x || y
  | 1 => x && y
  | 2 => x && !y
  | _ => !x
theorem Op_l1 {a b : S4} (ha : okS a) (hb : okS b) {k : Nat} (hk : 100 ≤ k) {kind : Nat} (hkd : kind < 4) (d : Nat) : ∀ (j i : Nat) (s : S4), okS s → i + d = 256 → d < j →
    F.ref01.Op_l1 k a b (kind : Int) j (i : Int) s = some (ofP fun x => bit s x || (decide (i ≤ x) && opF kind (bit a x) (bit b x))) := by
  induction d with
  | zero =>
    intro j i s hs hi hj
    cases j with
    | zero => omega
    | succ j =>
      simp only [F.ref01.Op_l1]
      rw [if_neg (by rw [decide_eq_true_eq]; omega)]
      refine congrArg some (eq_ofP hs (fun x hx => ?_))
      have : decide (i ≤ x) = false := by simp; omega
      rw [this, Bool.false_and, Bool.or_false]
  | succ d ih =>
    intro j i s hs hi hj
    cases j with
    | zero => omega
    | succ j =>
      have hi2 : i < 256 := by omega
      have hstep : F.ref01.Op_l1 k a b (kind : Int) (j + 1) (i : Int) s = if opF kind (bit a i) (bit b i) then F.ref01.Op_l1 k a b (kind : Int) j ((i + 1 : Nat) : Int) (ofP fun x => bit s x || x == i) else F.ref01.Op_l1 k a b (kind : Int) j ((i + 1 : Nat) : Int) s := by
        simp only [F.ref01.Op_l1]
        rw [if_pos (by rw [decide_eq_true_eq]; omega), refHas_bit ha hi2 hk, refHas_bit hb hi2 hk]
        simp only [Option.bind_some, F.ref01.Op_j3, F.ref01.Op_j4, F.ref01.Op_j2, With_ok hs hi2 hk, wrap_succ (show i < 1000000 by omega)]
        have hc : kind = 0 ∨ kind = 1 ∨ kind = 2 ∨ kind = 3 := by omega
        rcases hc with rfl | rfl | rfl | rfl <;> cases bit a i <;> cases bit b i <;> rfl
      rw [hstep]
      cases hf : opF kind (bit a i) (bit b i) with
      | true =>
        rw [if_pos rfl, ih j (i + 1) _ (okS_ofP _) (by omega) (by omega)]
        refine congrArg some (ofP_congr (fun x hx => ?_))
        rw [bit_ofP _ hx]
        by_cases he : x = i
        · subst he
          simp [hf]
        · have e1 : (x == i) = false := by simp [he]
          have e2 : decide (i + 1 ≤ x) = decide (i ≤ x) := by rw [Bool.eq_iff_iff]; simp; omega
          rw [e1, e2, Bool.or_false]
      | false =>
        rw [if_neg (by simp), ih j (i + 1) _ hs (by omega) (by omega)]
        refine congrArg some (ofP_congr (fun x hx => ?_))
        by_cases he : x = i
        · subst he
          simp [hf]
        · have e2 : decide (i + 1 ≤ x) = decide (i ≤ x) := by rw [Bool.eq_iff_iff]; simp; omega
          rw [e2]
theorem Op_ok {a b : S4} (ha : okS a) (hb : okS b) {k : Nat} (hk : 300 ≤ k) {kind : Nat} (hkd : kind < 4) : F.ref01.Op k (kind : Int) a b = some (ofP fun x => opF kind (bit a x) (bit b x)) := by
  unfold F.ref01.Op
  have h := Op_l1 ha hb (k := k) (by omega) hkd 256 k 0 _ okS_none (by omega) (by omega)
  have h2 : F.ref01.Op_l1 k a b (kind : Int) k 0 (S4.mk 0 0 0 0) = _ := h
  rw [h2, Option.bind_some]
  refine congrArg some (ofP_congr (fun x hx => ?_))
  rw [bit_none hx]
  simp
end Go.Vc.Cp
