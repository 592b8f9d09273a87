/-
  Sets as predicates: Union, Meet, Minus, Not, Within, ref.With.
-/
import Derived.Test.YtmcnanedpofeoaaPG
import Derived.Test.YtmcnanedpofeoaaPE
namespace Go.Vc
open Go

def wordP (p : Nat → Bool) (j : Nat) : Nat := (BitVec.ofBoolListLE ((List.range 64).map fun i => p (64 * j + i))).toNat
theorem wordP_lt (p : Nat → Bool) (j : Nat) : wordP p j < 2 ^ 64 := by
  unfold wordP
  have := (BitVec.ofBoolListLE ((List.range 64).map fun i => p (64 * j + i))).isLt
  simpa using this
theorem wordP_bit (p : Nat → Bool) (j i : Nat) (hi : i < 64) : (wordP p j).testBit i = p (64 * j + i) := by
  unfold wordP
  rw [BitVec.testBit_toNat, BitVec.getLsbD_ofBoolListLE, List.getD_eq_getElem?_getD]
  simp [hi]
def ofP (p : Nat → Bool) : S4 := ⟨wordP p 0, wordP p 1, wordP p 2, wordP p 3⟩
theorem okS_ofP (p : Nat → Bool) : okS (ofP p) := ⟨okW_nat (wordP_lt p 0), okW_nat (wordP_lt p 1), okW_nat (wordP_lt p 2), okW_nat (wordP_lt p 3)⟩
theorem bit_ofP (p : Nat → Bool) {i : Nat} (hi : i < 256) : bit (ofP p) i = p i := by
  unfold bit ofP
  have hc : i / 64 = 0 ∨ i / 64 = 1 ∨ i / 64 = 2 ∨ i / 64 = 3 := by omega
  rcases hc with hc | hc | hc | hc <;> rw [hc] <;> simp only [S4.get, Int.toNat_natCast] <;> rw [wordP_bit _ _ _ (by omega)] <;> congr 1 <;> omega
theorem S4_ext {a b : S4} (ha : okS a) (hb : okS b) (h : ∀ i, i < 256 → bit a i = bit b i) : a = b := by
  have key : ∀ j : Nat, j < 4 → ∀ i : Nat, i < 64 → (a.get (j : Int)).toNat.testBit i = (b.get (j : Int)).toNat.testBit i := by
    intro j hj i hi
    have := h (64 * j + i) (by omega)
    unfold bit at this
    have e1 : (64 * j + i) / 64 = j := by omega
    have e2 : (64 * j + i) % 64 = i := by omega
    rw [e1, e2] at this
    exact this
  obtain ⟨a0, a1, a2, a3⟩ := a
  obtain ⟨b0, b1, b2, b3⟩ := b
  obtain ⟨h0, h1, h2, h3⟩ := ha
  obtain ⟨g0, g1, g2, g3⟩ := hb
  have e0 := word_ext h0 g0 (key 0 (by decide))
  have e1 := word_ext h1 g1 (key 1 (by decide))
  have e2 := word_ext h2 g2 (key 2 (by decide))
  have e3 := word_ext h3 g3 (key 3 (by decide))
  simp only at e0 e1 e2 e3
  subst e0 e1 e2 e3
  rfl
theorem ofP_bit {s : S4} (hs : okS s) : ofP (bit s) = s := S4_ext (okS_ofP _) hs (fun _ hi => bit_ofP _ hi)
theorem ofP_congr {p q : Nat → Bool} (h : ∀ i, i < 256 → p i = q i) : ofP p = ofP q := S4_ext (okS_ofP _) (okS_ofP _) (fun i hi => by rw [bit_ofP _ hi, bit_ofP _ hi, h i hi])
theorem eq_ofP {s : S4} (hs : okS s) {p : Nat → Bool} (h : ∀ i, i < 256 → bit s i = p i) : s = ofP p := S4_ext hs (okS_ofP _) (fun i hi => by rw [bit_ofP _ hi, h i hi])
theorem ofP_none : (S4.mk 0 0 0 0) = ofP (fun _ => false) := by
  refine eq_ofP ⟨⟨by decide, by decide⟩, ⟨by decide, by decide⟩, ⟨by decide, by decide⟩, ⟨by decide, by decide⟩⟩ (fun i hi => ?_)
  unfold bit
  have hc : i / 64 = 0 ∨ i / 64 = 1 ∨ i / 64 = 2 ∨ i / 64 = 3 := by omega
  rcases hc with hc | hc | hc | hc <;> rw [hc] <;> simp [S4.get]
theorem S4_eq_iff (a b : S4) : S4.eq a b = true ↔ a = b := by
  obtain ⟨a0, a1, a2, a3⟩ := a
  obtain ⟨b0, b1, b2, b3⟩ := b
  simp [S4.eq]
theorem S4_eq_self (a : S4) : S4.eq a a = true := (S4_eq_iff a a).2 rfl
theorem op_ofP {g : Int → Int → Int} {f : Bool → Bool → Bool} (hg : ∀ x y, okW x → okW y → okW (g x y) ∧ ∀ i, i < 64 → (g x y).toNat.testBit i = f (x.toNat.testBit i) (y.toNat.testBit i)) {a b : S4} (ha : okS a) (hb : okS b) :
    S4.mk (g a.w0 b.w0) (g a.w1 b.w1) (g a.w2 b.w2) (g a.w3 b.w3) = ofP (fun i => f (bit a i) (bit b i)) := by
  obtain ⟨h0, h1, h2, h3⟩ := ha
  obtain ⟨g0, g1, g2, g3⟩ := hb
  refine eq_ofP ⟨(hg _ _ h0 g0).1, (hg _ _ h1 g1).1, (hg _ _ h2 g2).1, (hg _ _ h3 g3).1⟩ (fun i hi => ?_)
  unfold bit
  have hc : i / 64 = 0 ∨ i / 64 = 1 ∨ i / 64 = 2 ∨ i / 64 = 3 := by omega
  rcases hc with hc | hc | hc | hc <;> rw [hc] <;> simp only [S4.get, Int.toNat_natCast]
  · exact (hg _ _ h0 g0).2 _ (Nat.mod_lt _ (by decide))
  · exact (hg _ _ h1 g1).2 _ (Nat.mod_lt _ (by decide))
  · exact (hg _ _ h2 g2).2 _ (Nat.mod_lt _ (by decide))
  · exact (hg _ _ h3 g3).2 _ (Nat.mod_lt _ (by decide))

theorem Union_ok {a b : S4} (ha : okS a) (hb : okS b) {k : Nat} (hk : 5 ≤ k) : F.charset.Union k a b = some (ofP fun i => bit a i || bit b i) := by
  obtain ⟨k, rfl⟩ : ∃ k', k = k' + 5 := ⟨k - 5, by omega⟩
  have e : F.charset.Union (k + 5) a b = some (S4.mk (gor .u64 a.w0 b.w0) (gor .u64 a.w1 b.w1) (gor .u64 a.w2 b.w2) (gor .u64 a.w3 b.w3)) := rfl
  rw [e, op_ofP (g := gor .u64) (f := or) (fun x y hx hy => ?_) ha hb]
  rw [gor_nat hx hy]
  refine ⟨okW_nat (Nat.or_lt_two_pow (okW_lt hx) (okW_lt hy)), fun i _ => ?_⟩
  rw [Int.toNat_natCast, Nat.testBit_or]
theorem Meet_ok {a b : S4} (ha : okS a) (hb : okS b) {k : Nat} (hk : 5 ≤ k) : F.charset.Meet k a b = some (ofP fun i => bit a i && bit b i) := by
  obtain ⟨k, rfl⟩ : ∃ k', k = k' + 5 := ⟨k - 5, by omega⟩
  have e : F.charset.Meet (k + 5) a b = some (S4.mk (gand .u64 a.w0 b.w0) (gand .u64 a.w1 b.w1) (gand .u64 a.w2 b.w2) (gand .u64 a.w3 b.w3)) := rfl
  rw [e, op_ofP (g := gand .u64) (f := and) (fun x y hx hy => ?_) ha hb]
  rw [gand_nat hx hy]
  refine ⟨okW_nat (Nat.and_lt_two_pow _ (okW_lt hy)), fun i _ => ?_⟩
  rw [Int.toNat_natCast, Nat.testBit_and]
theorem Minus_ok {a b : S4} (ha : okS a) (hb : okS b) {k : Nat} (hk : 5 ≤ k) : F.charset.Minus k a b = some (ofP fun i => bit a i && !bit b i) := by
  obtain ⟨k, rfl⟩ : ∃ k', k = k' + 5 := ⟨k - 5, by omega⟩
  have e : F.charset.Minus (k + 5) a b = some (S4.mk (gandNot .u64 a.w0 b.w0) (gandNot .u64 a.w1 b.w1) (gandNot .u64 a.w2 b.w2) (gandNot .u64 a.w3 b.w3)) := rfl
  rw [e, op_ofP (g := gandNot .u64) (f := fun x y => x && !y) (fun x y hx hy => ?_) ha hb]
  exact ⟨(gandNot_bit hx hy 0 (by decide)).1, fun i hi => (gandNot_bit hx hy i hi).2⟩
theorem Not_ok {a : S4} (ha : okS a) {k : Nat} (hk : 5 ≤ k) : F.charset.Not k a = some (ofP fun i => !bit a i) := by
  obtain ⟨k, rfl⟩ : ∃ k', k = k' + 5 := ⟨k - 5, by omega⟩
  have e : F.charset.Not (k + 5) a = some (S4.mk (gnot .u64 a.w0) (gnot .u64 a.w1) (gnot .u64 a.w2) (gnot .u64 a.w3)) := rfl
  rw [e, op_ofP (g := fun x _ => gnot .u64 x) (f := fun x _ => !x) (fun x y hx _ => ?_) ha ha]
  exact ⟨(gnot_bit hx 0 (by decide)).1, fun i hi => (gnot_bit hx i hi).2⟩
theorem Within_ok {a b : S4} (ha : okS a) (hb : okS b) {k : Nat} (hk : 5 ≤ k) : F.charset.Within k a b = some (S4.eq (ofP fun i => bit a i && !bit b i) (ofP fun _ => false)) := by
  unfold F.charset.Within
  rw [Minus_ok ha hb hk, Option.bind_some, ofP_none]

theorem With_l1 {n : Int} {m : Nat} (hn : grem n 64 = (m : Int)) (hm : m < 64) (d : Nat) : ∀ (j i : Nat), i + d = m → d < j → F.ref01.With_l1 n j ((2 ^ i : Nat) : Int) (i : Int) = some ((2 ^ m : Nat) : Int) := by
  induction d with
  | zero =>
    intro j i hi hj
    cases j with
    | zero => omega
    | succ j =>
      simp only [F.ref01.With_l1, hn]
      rw [if_neg (by rw [decide_eq_true_eq]; omega)]
      rw [show i = m by omega]
  | succ d ih =>
    intro j i hi hj
    cases j with
    | zero => omega
    | succ j =>
      simp only [F.ref01.With_l1, hn]
      rw [if_pos (by rw [decide_eq_true_eq]; omega)]
      have h3 : IntKind.wrap .i64 ((i : Int) + 1) = ((i + 1 : Nat) : Int) := by rw [wrap_i64 (by omega) (by omega)]; rfl
      have hp : 2 ^ (i + 1) < 2 ^ 64 := Nat.pow_lt_pow_right (by decide) (by omega)
      have h4 : IntKind.wrap .u64 (((2 ^ i : Nat) : Int) * 2) = ((2 ^ (i + 1) : Nat) : Int) := by
        rw [Nat.pow_succ] at hp ⊢
        rw [wrap_u64 (by omega) (by omega)]
        omega
      rw [h3, h4]
      exact ih j (i + 1) (by omega) (by omega)
theorem testBit_addPow {w r : Nat} (hr : w.testBit r = false) (j : Nat) : (w + 2 ^ r).testBit j = (w.testBit j || j == r) := by
  have hd := Nat.div_add_mod w (2 ^ r)
  have hm : w % 2 ^ r < 2 ^ r := Nat.mod_lt _ (Nat.two_pow_pos r)
  rw [Nat.testBit_eq_decide_div_mod_eq] at hr
  have hr' : w / 2 ^ r % 2 = 0 := by
    have := of_decide_eq_false hr
    omega
  have e1 : w.testBit j = if j < r then (w % 2 ^ r).testBit j else (w / 2 ^ r).testBit (j - r) := by
    conv => lhs; rw [← hd]
    rw [Nat.testBit_two_pow_mul_add _ hm]
  have e2 : (w + 2 ^ r).testBit j = if j < r then (w % 2 ^ r).testBit j else (w / 2 ^ r + 1).testBit (j - r) := by
    have : w + 2 ^ r = 2 ^ r * (w / 2 ^ r + 1) + w % 2 ^ r := by rw [Nat.mul_add]; omega
    rw [this, Nat.testBit_two_pow_mul_add _ hm]
  rw [e1, e2]
  by_cases hj : j < r
  · have : (j == r) = false := by simp; omega
    rw [if_pos hj, if_pos hj, this, Bool.or_false]
  · rw [if_neg hj, if_neg hj]
    by_cases he : j = r
    · subst he
      rw [Nat.sub_self, Nat.testBit_zero, Nat.testBit_zero]
      simp
      omega
    · have : (j == r) = false := by simp [he]
      rw [this, Bool.or_false]
      obtain ⟨d, hd⟩ : ∃ d, j - r = d + 1 := ⟨j - r - 1, by omega⟩
      rw [hd, Nat.testBit_succ, Nat.testBit_succ]
      congr 1
      omega
theorem addPow_lt {w r : Nat} (hw : w < 2 ^ 64) (hr : r < 64) (hb : w.testBit r = false) : w + 2 ^ r < 2 ^ 64 := by
  apply Nat.lt_pow_two_of_testBit
  intro i hi
  rw [testBit_addPow hb, Nat.testBit_lt_two_pow (Nat.lt_of_lt_of_le hw (Nat.pow_le_pow_right (by decide) hi))]
  simp
  omega
theorem With_ok {s : S4} (hs : okS s) {n k : Nat} (hn : n < 256) (hk : 100 ≤ k) : F.ref01.With k s (n : Int) = some (ofP fun i => bit s i || i == n) := by
  unfold F.ref01.With
  rw [if_neg (by rw [decide_eq_true_eq]; omega), if_neg (by rw [decide_eq_true_eq]; omega), refHas_bit hs hn hk, Option.bind_some]
  cases hb : bit s n with
  | true =>
    rw [if_pos rfl]
    refine congrArg some (eq_ofP hs (fun i _ => ?_))
    by_cases he : i = n
    · subst he; simp [hb]
    · simp [he]
  | false =>
    rw [if_neg (by simp)]
    have h1 := With_l1 (idx_u8 hn).2 (Nat.mod_lt _ (by decide)) (n % 64) k 0 (by omega) (by omega)
    have h2 : F.ref01.With_l1 (n : Int) k 1 0 = some ((2 ^ (n % 64) : Nat) : Int) := h1
    rw [h2, Option.bind_some, idx_i64 hn]
    unfold F.ref01.With_j3 F.ref01.With_j2
    have hw := get_ok hs ((n / 64 : Nat) : Int)
    unfold bit at hb
    have hlt := addPow_lt (okW_lt hw) (Nat.mod_lt _ (by decide)) hb
    have hwr : IntKind.wrap .u64 (s.get ((n / 64 : Nat) : Int) + ((2 ^ (n % 64) : Nat) : Int)) = (((s.get ((n / 64 : Nat) : Int)).toNat + 2 ^ (n % 64) : Nat) : Int) := by
      have e : s.get ((n / 64 : Nat) : Int) + ((2 ^ (n % 64) : Nat) : Int) = (((s.get ((n / 64 : Nat) : Int)).toNat + 2 ^ (n % 64) : Nat) : Int) := by
        have := hw.1
        omega
      rw [e, wrap_nat hlt]
    have key : ∀ t : S4, okS t → (∀ j : Nat, j < 4 → (t.get (j : Int)) = if j = n / 64 then (((s.get ((n / 64 : Nat) : Int)).toNat + 2 ^ (n % 64) : Nat) : Int) else s.get (j : Int)) → t = ofP fun i => bit s i || i == n := by
      intro t ht hg
      refine eq_ofP ht (fun i hi => ?_)
      unfold bit
      rw [hg (i / 64) (by omega)]
      by_cases he : i / 64 = n / 64
      · rw [if_pos he, Int.toNat_natCast, testBit_addPow hb, he]
        congr 1
        rw [Bool.eq_iff_iff]
        simp
        omega
      · rw [if_neg he]
        have : (i == n) = false := by simp; intro h; exact he (by rw [h])
        rw [this, Bool.or_false]
    have hk2 := okW_nat hlt
    obtain ⟨h0, h1, h2, h3⟩ := hs
    have hc : n / 64 = 0 ∨ n / 64 = 1 ∨ n / 64 = 2 ∨ n / 64 = 3 := by omega
    have j4 : ∀ j : Nat, j < 4 → j = 0 ∨ j = 1 ∨ j = 2 ∨ j = 3 := by intro j hj; omega
    rcases hc with hc | hc | hc | hc <;> rw [hc] at hwr hk2 key ⊢ <;> refine congrArg some ?_
    · have hwr' : IntKind.wrap .u64 (s.w0 + ((2 ^ (n % 64) : Nat) : Int)) = _ := hwr
      rw [hwr']
      exact key _ ⟨hk2, h1, h2, h3⟩ (fun j hj => by rcases j4 j hj with rfl | rfl | rfl | rfl <;> rfl)
    · have hwr' : IntKind.wrap .u64 (s.w1 + ((2 ^ (n % 64) : Nat) : Int)) = _ := hwr
      rw [hwr']
      exact key _ ⟨h0, hk2, h2, h3⟩ (fun j hj => by rcases j4 j hj with rfl | rfl | rfl | rfl <;> rfl)
    · have hwr' : IntKind.wrap .u64 (s.w2 + ((2 ^ (n % 64) : Nat) : Int)) = _ := hwr
      rw [hwr']
      exact key _ ⟨h0, h1, hk2, h3⟩ (fun j hj => by rcases j4 j hj with rfl | rfl | rfl | rfl <;> rfl)
    · have hwr' : IntKind.wrap .u64 (s.w3 + ((2 ^ (n % 64) : Nat) : Int)) = _ := hwr
      rw [hwr']
      exact key _ ⟨h0, h1, h2, hk2⟩ (fun j hj => by rcases j4 j hj with rfl | rfl | rfl | rfl <;> rfl)
end Go.Vc
