/-
  A set's text is read as the set (from the seat of the sets).
-/
import Derived.Test.YtdbnoblklhgdoaaGreatDoorCQ1
set_option linter.unusedVariables false
set_option linter.unusedSimpArgs false
set_option maxHeartbeats 1000000
namespace Go.Vc.Cp
open Go Go.Vc
def wordP (p : Nat → Bool) (j : Nat) : Nat := (BitVec.ofBoolListLE ((List.range 64).map fun i => p (64 * j + i))).toNat
theorem wordP_lt (p : Nat → Bool) (j : Nat) : wordP p j < 2 ^ 64 := by
  unfold wordP
  have := (BitVec.ofBoolListLE ((List.range 64).map fun i => p (64 * j + i))).isLt
  simpa using this
theorem wordP_bit (p : Nat → Bool) (j i : Nat) (hi : i < 64) : (wordP p j).testBit i = p (64 * j + i) := by
  unfold wordP
  rw [BitVec.testBit_toNat, BitVec.getLsbD_ofBoolListLE, List.getD_eq_getElem?_getD]
  simp [hi]
def ofP (p : Nat → Bool) : S4 := ⟨wordP p 0, wordP p 1, wordP p 2, wordP p 3⟩
theorem okS_ofP (p : Nat → Bool) : okS (ofP p) := ⟨okW_nat (wordP_lt p 0), okW_nat (wordP_lt p 1), okW_nat (wordP_lt p 2), okW_nat (wordP_lt p 3)⟩
theorem bit_ofP (p : Nat → Bool) {i : Nat} (hi : i < 256) : bit (ofP p) i = p i := by
  unfold bit ofP
  have hc : i / 64 = 0 ∨ i / 64 = 1 ∨ i / 64 = 2 ∨ i / 64 = 3 := by omega
  rcases hc with hc | hc | hc | hc <;> rw [hc] <;> simp only [S4.get, Int.toNat_natCast] <;> rw [wordP_bit _ _ _ (by omega)] <;> congr 1 <;> omega
theorem S4_ext {a b : S4} (ha : okS a) (hb : okS b) (h : ∀ i, i < 256 → bit a i = bit b i) : a = b := by
  have key : ∀ j : Nat, j < 4 → ∀ i : Nat, i < 64 → (a.get (j : Int)).toNat.testBit i = (b.get (j : Int)).toNat.testBit i := by
    intro j hj i hi
    have := h (64 * j + i) (by omega)
    unfold bit at this
    have e1 : (64 * j + i) / 64 = j := by omega
    have e2 : (64 * j + i) % 64 = i := by omega
    rw [e1, e2] at this
    exact this
  obtain ⟨a0, a1, a2, a3⟩ := a
  obtain ⟨b0, b1, b2, b3⟩ := b
  obtain ⟨h0, h1, h2, h3⟩ := ha
  obtain ⟨g0, g1, g2, g3⟩ := hb
  have e0 := word_ext h0 g0 (key 0 (by decide))
  have e1 := word_ext h1 g1 (key 1 (by decide))
  have e2 := word_ext h2 g2 (key 2 (by decide))
  have e3 := word_ext h3 g3 (key 3 (by decide))
  simp only at e0 e1 e2 e3
  subst e0 e1 e2 e3
  rfl
theorem ofP_congr {p q : Nat → Bool} (h : ∀ i, i < 256 → p i = q i) : ofP p = ofP q := S4_ext (okS_ofP _) (okS_ofP _) (fun i hi => by rw [bit_ofP _ hi, bit_ofP _ hi, h i hi])
theorem eq_ofP {s : S4} (hs : okS s) {p : Nat → Bool} (h : ∀ i, i < 256 → bit s i = p i) : s = ofP p := S4_ext hs (okS_ofP _) (fun i hi => by rw [bit_ofP _ hi, h i hi])
theorem ofP_none : (S4.mk 0 0 0 0) = ofP (fun _ => false) := by
  refine eq_ofP ⟨⟨by decide, by decide⟩, ⟨by decide, by decide⟩, ⟨by decide, by decide⟩, ⟨by decide, by decide⟩⟩ (fun i hi => ?_)
  unfold bit
  have hc : i / 64 = 0 ∨ i / 64 = 1 ∨ i / 64 = 2 ∨ i / 64 = 3 := by omega
  rcases hc with hc | hc | hc | hc <;> rw [hc] <;> simp [S4.get]
theorem op_ofP {g : Int → Int → Int} {f : Bool → Bool → Bool} (hg : ∀ x y, okW x → okW y → okW (g x y) ∧ ∀ i, i < 64 → (g x y).toNat.testBit i = f (x.toNat.testBit i) (y.toNat.testBit i)) {a b : S4} (ha : okS a) (hb : okS b) :
    S4.mk (g a.w0 b.w0) (g a.w1 b.w1) (g a.w2 b.w2) (g a.w3 b.w3) = ofP (fun i => f (bit a i) (bit b i)) := by
  obtain ⟨h0, h1, h2, h3⟩ := ha
  obtain ⟨g0, g1, g2, g3⟩ := hb
  refine eq_ofP ⟨(hg _ _ h0 g0).1, (hg _ _ h1 g1).1, (hg _ _ h2 g2).1, (hg _ _ h3 g3).1⟩ (fun i hi => ?_)
  unfold bit
  have hc : i / 64 = 0 ∨ i / 64 = 1 ∨ i / 64 = 2 ∨ i / 64 = 3 := by omega
  rcases hc with hc | hc | hc | hc <;> rw [hc] <;> simp only [S4.get, Int.toNat_natCast]
  · exact (hg _ _ h0 g0).2 _ (Nat.mod_lt _ (by decide))
  · exact (hg _ _ h1 g1).2 _ (Nat.mod_lt _ (by decide))
  · exact (hg _ _ h2 g2).2 _ (Nat.mod_lt _ (by decide))
  · exact (hg _ _ h3 g3).2 _ (Nat.mod_lt _ (by decide))
theorem Union_ok {a b : S4} (ha : okS a) (hb : okS b) {k : Nat} (hk : 5 ≤ k) : F.charset.Union k a b = some (ofP fun i => bit a i || bit b i) := by
  obtain ⟨k, rfl⟩ : ∃ k', k = k' + 5 := ⟨k - 5, by omega⟩
  have e : F.charset.Union (k + 5) a b = some (S4.mk (gor .u64 a.w0 b.w0) (gor .u64 a.w1 b.w1) (gor .u64 a.w2 b.w2) (gor .u64 a.w3 b.w3)) := rfl
  rw [e, op_ofP (g := gor .u64) (f := or) (fun x y hx hy => ?_) ha hb]
  rw [gor_nat hx hy]
  refine ⟨okW_nat (Nat.or_lt_two_pow (okW_lt hx) (okW_lt hy)), fun i _ => ?_⟩
  rw [Int.toNat_natCast, Nat.testBit_or]
theorem Not_ok {a : S4} (ha : okS a) {k : Nat} (hk : 5 ≤ k) : F.charset.Not k a = some (ofP fun i => !bit a i) := by
  obtain ⟨k, rfl⟩ : ∃ k', k = k' + 5 := ⟨k - 5, by omega⟩
  have e : F.charset.Not (k + 5) a = some (S4.mk (gnot .u64 a.w0) (gnot .u64 a.w1) (gnot .u64 a.w2) (gnot .u64 a.w3)) := rfl
  rw [e, op_ofP (g := fun x _ => gnot .u64 x) (f := fun x _ => !x) (fun x y hx _ => ?_) ha ha]
  exact ⟨(gnot_bit hx 0 (by decide)).1, fun i hi => (gnot_bit hx i hi).2⟩
theorem set_ofP {s : S4} (hs : okS s) {n : Nat} (hn : n < 256) {w : Int} (hw : okW w) {p : Nat → Bool} (h1 : ∀ r, r < 64 → w.toNat.testBit r = p (64 * (n / 64) + r)) (h2 : ∀ x, x < 256 → x / 64 ≠ n / 64 → bit s x = p x) :
    S4.set s ((n / 64 : Nat) : Int) w = ofP p := by
  have key : ∀ t : S4, okS t → (∀ j : Nat, j < 4 → (t.get (j : Int)) = if j = n / 64 then w else s.get (j : Int)) → t = ofP p := by
    intro t ht hg
    refine eq_ofP ht (fun i hi => ?_)
    unfold bit
    rw [hg (i / 64) (by omega)]
    by_cases he : i / 64 = n / 64
    · rw [if_pos he, h1 _ (Nat.mod_lt _ (by decide)), ← he]
      congr 1
      omega
    · rw [if_neg he]
      exact h2 i hi he
  obtain ⟨g0, g1, g2, g3⟩ := hs
  have hc : n / 64 = 0 ∨ n / 64 = 1 ∨ n / 64 = 2 ∨ n / 64 = 3 := by omega
  have j4 : ∀ j : Nat, j < 4 → j = 0 ∨ j = 1 ∨ j = 2 ∨ j = 3 := by intro j hj; omega
  rcases hc with hc | hc | hc | hc <;> rw [hc] at key ⊢
  · exact key _ ⟨hw, g1, g2, g3⟩ (fun j hj => by rcases j4 j hj with rfl | rfl | rfl | rfl <;> rfl)
  · exact key _ ⟨g0, hw, g2, g3⟩ (fun j hj => by rcases j4 j hj with rfl | rfl | rfl | rfl <;> rfl)
  · exact key _ ⟨g0, g1, hw, g3⟩ (fun j hj => by rcases j4 j hj with rfl | rfl | rfl | rfl <;> rfl)
  · exact key _ ⟨g0, g1, g2, hw⟩ (fun j hj => by rcases j4 j hj with rfl | rfl | rfl | rfl <;> rfl)
theorem gshl_one {r : Nat} (hr : r < 64) : gshl .u64 1 (r : Int) = ((2 ^ r : Nat) : Int) := by
  have hp : 2 ^ r < 2 ^ 64 := Nat.pow_lt_pow_right (by decide) hr
  show IntKind.wrap .u64 (1 * 2 ^ (min (r : Int).toNat 64)) = _
  have e : min (r : Int).toNat 64 = r := by omega
  rw [e, Int.one_mul]
  have : ((2 : Int) ^ r) = ((2 ^ r : Nat) : Int) := by norm_cast
  rw [this, wrap_nat hp]
theorem orbit {s : S4} (hs : okS s) {n : Nat} (hn : n < 256) :
    S4.set s ((n / 64 : Nat) : Int) (gor .u64 (S4.get s ((n / 64 : Nat) : Int)) (gshl .u64 1 ((n % 64 : Nat) : Int))) = ofP (fun x => bit s x || x == n) := by
  have hw := get_ok hs ((n / 64 : Nat) : Int)
  have hp : 2 ^ (n % 64) < 2 ^ 64 := Nat.pow_lt_pow_right (by decide) (Nat.mod_lt _ (by decide))
  rw [gshl_one (Nat.mod_lt _ (by decide)), gor_nat hw (okW_nat hp), Int.toNat_natCast]
  refine set_ofP hs hn (okW_nat (Nat.or_lt_two_pow (okW_lt hw) hp)) (fun r hr => ?_) (fun x hx hne => ?_)
  · rw [Int.toNat_natCast, Nat.testBit_or, Nat.testBit_two_pow]
    unfold bit
    have e1 : (64 * (n / 64) + r) / 64 = n / 64 := by omega
    have e2 : (64 * (n / 64) + r) % 64 = r := by omega
    rw [e1, e2]
    congr 1
    rw [Bool.eq_iff_iff]
    simp
    omega
  · have : (x == n) = false := by simp; intro h; exact hne (by rw [h])
    rw [this, Bool.or_false]
theorem Range_l1 {h : Nat} (hh : h < 256) (d : Nat) : ∀ (j i : Nat) (s : S4), okS s → i + d = h + 1 → d < j → F.charset.Range_l1 (h : Int) j (i : Int) s = some (ofP fun x => bit s x || (decide (i ≤ x) && decide (x ≤ h))) := by
  induction d with
  | zero =>
    intro j i s hs hi hj
    cases j with
    | zero => omega
    | succ j =>
      simp only [F.charset.Range_l1]
      rw [if_neg (by rw [decide_eq_true_eq]; omega)]
      refine congrArg some (eq_ofP hs (fun x _ => ?_))
      have : (decide (i ≤ x) && decide (x ≤ h)) = false := by simp; omega
      rw [this, Bool.or_false]
  | succ d ih =>
    intro j i s hs hi hj
    cases j with
    | zero => omega
    | succ j =>
      have hi2 : i < 256 := by omega
      simp only [F.charset.Range_l1, idx_i64 hi2, (idx_u8 hi2).2]
      rw [if_pos (by rw [decide_eq_true_eq]; omega), if_pos (by rw [inR_iff]; omega), if_neg (by rw [decide_eq_true_eq]; omega), orbit hs hi2, wrap_succ (by omega), ih j (i + 1) _ (okS_ofP _) (by omega) (by omega)]
      refine congrArg some (ofP_congr (fun x hx => ?_))
      rw [bit_ofP _ hx]
      cases bit s x with
      | true => rfl
      | false =>
        rw [Bool.eq_iff_iff]
        simp
        omega
theorem okS_none : okS (S4.mk 0 0 0 0) := by rw [ofP_none]; exact okS_ofP _
theorem bit_none {i : Nat} (hi : i < 256) : bit (S4.mk 0 0 0 0) i = false := by rw [ofP_none, bit_ofP _ hi]
def rangeR (lo hi : Int) : S4 × Int := if lo < 0 then (S4.mk 0 0 0 0, 10) else if 255 < hi then (S4.mk 0 0 0 0, 10) else if hi < lo then (S4.mk 0 0 0 0, 10) else (ofP fun x => decide (lo ≤ (x : Int)) && decide ((x : Int) ≤ hi), 0)
theorem Range_ok {lo hi : Int} {k : Nat} (hk : 300 ≤ k) : F.charset.Range k lo hi = some (rangeR lo hi) := by
  unfold F.charset.Range rangeR
  simp only [decide_eq_true_eq]
  split
  · rfl
  split
  · rfl
  split
  · rfl
  have e1 : hi = ((hi.toNat : Nat) : Int) := by omega
  have e2 : lo = ((lo.toNat : Nat) : Int) := by omega
  rw [e1, e2, Range_l1 (by omega) (hi.toNat + 1 - lo.toNat) k lo.toNat _ okS_none (by omega) (by omega), Option.bind_some]
  refine congrArg some (congrArg (fun z => (z, (0 : Int))) (ofP_congr (fun x hx => ?_)))
  rw [bit_none hx, Bool.eq_iff_iff]
  simp
  omega
def yhexv (c : Nat) : Nat := if 48 ≤ c ∧ c ≤ 57 then c - 48 else if 97 ≤ c ∧ c ≤ 102 then c - 97 + 10 else if 65 ≤ c ∧ c ≤ 70 then c - 65 + 10 else 16
theorem ydigit_all : ∀ c : _root_.Fin 256, F.charset.digit (c.val : Int) = some (if yhexv c.val < 16 then (yhexv c.val : Int) else -1) := by decide +kernel
def yspec9 (c : Nat) : Nat := if c = 10 then 110 else if c = 9 then 116 else if c = 13 then 114 else if c = 32 then 115 else if c = 91 ∨ c = 93 ∨ c = 92 ∨ c = 45 ∨ c = 94 then c else 0
def yescv (c : Nat) : Nat := if c = 110 then 10 else if c = 116 then 9 else if c = 114 then 13 else if c = 115 then 32 else if c = 91 ∨ c = 93 ∨ c = 92 ∨ c = 45 ∨ c = 94 then c else 256
def yhexS : List UInt8 → Nat × Nat × Nat
  | a :: b :: _ => if yhexv a.toNat < 16 ∧ yhexv b.toNat < 16 then (16 * yhexv a.toNat + yhexv b.toNat, 4, 0) else (0, 0, 12)
  | _ => (0, 0, 12)
def yescS : List UInt8 → Nat × Nat × Nat
  | [] => (0, 0, 12)
  | d :: r => if d.toNat = 120 then yhexS r else if yescv d.toNat < 256 then (yescv d.toNat, 2, 0) else (0, 0, 12)
def yoneS : List UInt8 → Nat × Nat × Nat
  | [] => (0, 0, 14)
  | c :: r => if c.toNat ≠ 92 then (if c.toNat ≤ 32 ∨ 127 ≤ c.toNat ∨ yspec9 c.toNat ≠ 0 then (0, 0, 11) else (c.toNat, 1, 0)) else yescS r
theorem yu8_lt (c : UInt8) : c.toNat < 256 := c.toNat_lt
theorem yhexv_le (c : Nat) : yhexv c ≤ 16 := by unfold yhexv; split <;> (try split) <;> (try split) <;> omega
theorem yhexS_spec (r : List UInt8) : (yhexS r).1 < 256 ∧ ((yhexS r).2.2 = 0 → (yhexS r).2.1 = 4 ∧ 2 ≤ r.length) := by
  match r with
  | [] => simp [yhexS]
  | [a] => simp [yhexS]
  | a :: b :: r =>
    simp only [yhexS]
    split
    · simp; omega
    · simp
theorem yescS_spec (r : List UInt8) : (yescS r).1 < 256 ∧ ((yescS r).2.2 = 0 → 2 ≤ (yescS r).2.1 ∧ (yescS r).2.1 ≤ r.length + 1) := by
  match r with
  | [] => simp [yescS]
  | d :: r =>
    simp only [yescS]
    split
    · have := yhexS_spec r
      refine ⟨this.1, fun h => ?_⟩
      have := this.2 h
      simp
      omega
    · split
      · simp; omega
      · simp
theorem yoneS_spec (r : List UInt8) : (yoneS r).1 < 256 ∧ ((yoneS r).2.2 = 0 → 1 ≤ (yoneS r).2.1 ∧ (yoneS r).2.1 ≤ r.length) := by
  match r with
  | [] => simp [yoneS]
  | c :: r =>
    have := yu8_lt c
    simp only [yoneS]
    split
    · split <;> simp <;> omega
    · have := yescS_spec r
      refine ⟨this.1, fun h => ?_⟩
      have := this.2 h
      simp
      omega
theorem ydigit_ok (c : UInt8) : F.charset.digit (c.toNat : Int) = some (if yhexv c.toNat < 16 then (yhexv c.toNat : Int) else -1) := ydigit_all ⟨c.toNat, yu8_lt c⟩
theorem ydrop_cons {t : List UInt8} {i : Nat} (hi : i < t.length) : ∃ c r, t.drop i = c :: r ∧ r.length + i + 1 = t.length ∧ sAt t (i : Int) = (c.toNat : Int) := by
  refine ⟨t[i], t.drop (i + 1), List.drop_eq_getElem_cons hi, by rw [List.length_drop]; omega, ?_⟩
  unfold sAt
  rw [Int.toNat_natCast, List.getD_eq_getElem?_getD, List.getElem?_eq_getElem hi]; rfl
theorem ysub_rest {t : List UInt8} {i : Nat} (_ : i ≤ t.length) : sub t (i : Int) (t.length : Int) = t.drop i := by
  unfold sub
  rw [Int.toNat_natCast, Int.toNat_natCast]
  apply List.take_of_length_le
  simp
def ycharR (t : List UInt8) (i : Nat) (rd : Charset_reader) : Int × Fault × Charset_reader :=
  if (yoneS (t.drop i)).2.2 = 0 then (((yoneS (t.drop i)).1 : Int), ⟨0, 0⟩, ⟨t, ((i + (yoneS (t.drop i)).2.1 : Nat) : Int)⟩) else (0, ⟨(i : Int), ((yoneS (t.drop i)).2.2 : Int)⟩, rd)
theorem yescaped_ok {t : List UInt8} (ht : t.length < 100000) {i : Nat} (hi : i < t.length) : ∃ rd, F.charset.reader_escaped ⟨t, (i : Int)⟩ = some
    (if (yescS (t.drop (i + 1))).2.2 = 0 then (((yescS (t.drop (i + 1))).1 : Int), ⟨0, 0⟩, ⟨t, ((i + (yescS (t.drop (i + 1))).2.1 : Nat) : Int)⟩) else (0, ⟨(i : Int), ((yescS (t.drop (i + 1))).2.2 : Int)⟩, rd)) := by
  have w1 : IntKind.wrap .i64 ((i : Int) + 1) = ((i + 1 : Nat) : Int) := wrap_succ (by omega)
  have w2 : IntKind.wrap .i64 ((i : Int) + 2) = ((i + 2 : Nat) : Int) := by rw [wrap_i64 (by omega) (by omega)]; rfl
  have w4 : IntKind.wrap .i64 (((i + 2 : Nat) : Int) + 2) = ((i + 4 : Nat) : Int) := by rw [wrap_i64 (by omega) (by omega)]; omega
  have hok : okSub ((i + 1 : Nat) : Int) (t.length : Int) t.length = true := by rw [okSub_iff]; omega
  unfold F.charset.reader_escaped
  simp only [w1, w2, hok, if_true, ysub_rest (show i + 1 ≤ t.length by omega)]
  generalize hr : t.drop (i + 1) = r
  have hrl : r.length = t.length - (i + 1) := by rw [← hr, List.length_drop]
  match r, hrl, hr with
  | [], hrl, hr => exact ⟨⟨t, (i : Int)⟩, by simp [yescS]⟩
  | d :: r, hrl, hr =>
    simp only [List.length_cons] at hrl
    have hs0 : sAt (d :: r) 0 = (d.toNat : Int) := rfl
    have hd := yu8_lt d
    have hbad : F.charset.reader_escaped_j1 ⟨t, (i : Int)⟩ = some (0, ⟨(i : Int), 12⟩, ⟨t, ((i + 2 : Nat) : Int)⟩) := by
      unfold F.charset.reader_escaped_j1
      simp only [w2]
    have hin0 : inR 0 (d :: r).length = true := by rw [inR_iff]; simp
    have hne : ((d :: r) == ([] : List UInt8)) = false := by simp
    have good : ∀ m : Nat, m ≠ 120 → d.toNat = m → yescv m < 256 → F.charset.reader_escaped_j1 ⟨t, (i : Int)⟩ = F.charset.reader_escaped_j1 ⟨t, (i : Int)⟩ → ∀ (v : Int) (rd : Charset_reader), v = (yescv m : Int) → some (v, (⟨0, 0⟩ : Fault), (⟨t, ((i + 2 : Nat) : Int)⟩ : Charset_reader)) = some
        (if (yescS (d :: r)).2.2 = 0 then (((yescS (d :: r)).1 : Int), ⟨0, 0⟩, ⟨t, ((i + (yescS (d :: r)).2.1 : Nat) : Int)⟩) else (0, ⟨(i : Int), ((yescS (d :: r)).2.2 : Int)⟩, rd)) := by
      intro m hm hdm hlt _ v rd hv
      have : yescS (d :: r) = (yescv m, 2, 0) := by
        simp only [yescS]
        rw [hdm, if_neg hm, if_pos hlt]
      rw [this, hv]
      rfl
    rw [if_neg (by rw [hne]; simp), if_pos hin0, hs0]
    by_cases c1 : d.toNat = 110
    · rw [if_pos (by simp [c1])]
      exact ⟨⟨t, 0⟩, good 110 (by decide) c1 (by decide) rfl _ _ (by decide)⟩
    rw [if_neg (by simp; omega)]
    by_cases c2 : d.toNat = 116
    · rw [if_pos (by simp [c2])]
      exact ⟨⟨t, 0⟩, good 116 (by decide) c2 (by decide) rfl _ _ (by decide)⟩
    rw [if_neg (by simp; omega)]
    by_cases c3 : d.toNat = 114
    · rw [if_pos (by simp [c3])]
      exact ⟨⟨t, 0⟩, good 114 (by decide) c3 (by decide) rfl _ _ (by decide)⟩
    rw [if_neg (by simp; omega)]
    by_cases c4 : d.toNat = 115
    · rw [if_pos (by simp [c4])]
      exact ⟨⟨t, 0⟩, good 115 (by decide) c4 (by decide) rfl _ _ (by decide)⟩
    rw [if_neg (by simp; omega)]
    have j3t : F.charset.reader_escaped_j3 ⟨t, (i : Int)⟩ true = some (IntKind.wrap .i64 (d.toNat : Int), (⟨0, 0⟩ : Fault), (⟨t, ((i + 2 : Nat) : Int)⟩ : Charset_reader)) := by
      unfold F.charset.reader_escaped_j3
      simp only [w1, w2, ysub_rest (show i + 1 ≤ t.length by omega), hr, hs0, if_true]
    by_cases c5 : d.toNat = 91
    · rw [if_pos (by simp [c5]), show ((d.toNat : Int) == 91) = true by simp [c5], j3t, c5]
      exact ⟨⟨t, 0⟩, good 91 (by decide) c5 (by decide) rfl _ _ (by decide)⟩
    rw [if_neg (by simp; omega)]
    by_cases c6 : d.toNat = 93
    · rw [if_pos (by simp [c6]), show ((d.toNat : Int) == 93) = true by simp [c6], j3t, c6]
      exact ⟨⟨t, 0⟩, good 93 (by decide) c6 (by decide) rfl _ _ (by decide)⟩
    rw [if_neg (by simp; omega)]
    simp only [F.charset.reader_escaped_j6]
    by_cases c7 : d.toNat = 92
    · rw [if_pos (by simp [c7]), show ((d.toNat : Int) == 92) = true by simp [c7], j3t, c7]
      exact ⟨⟨t, 0⟩, good 92 (by decide) c7 (by decide) rfl _ _ (by decide)⟩
    rw [if_neg (by simp; omega)]
    by_cases c8 : d.toNat = 45
    · rw [if_pos (by simp [c8]), show ((d.toNat : Int) == 45) = true by simp [c8], j3t, c8]
      exact ⟨⟨t, 0⟩, good 45 (by decide) c8 (by decide) rfl _ _ (by decide)⟩
    rw [if_neg (by simp; omega)]
    by_cases c9 : d.toNat = 94
    · rw [show ((d.toNat : Int) == 94) = true by simp [c9], j3t, c9]
      exact ⟨⟨t, 0⟩, good 94 (by decide) c9 (by decide) rfl _ _ (by decide)⟩
    rw [show ((d.toNat : Int) == 94) = false by simp; omega]
    have he : yescv d.toNat = 256 := by
      unfold yescv
      rw [if_neg c1, if_neg c2, if_neg c3, if_neg c4, if_neg (by omega)]
    unfold F.charset.reader_escaped_j3 F.charset.reader_escaped_j4 F.charset.reader_escaped_j2
    simp only [w1, ysub_rest (show i + 1 ≤ t.length by omega), hr, hs0, Bool.false_eq_true, if_false, hbad]
    refine ⟨⟨t, ((i + 2 : Nat) : Int)⟩, ?_⟩
    by_cases c10 : d.toNat = 120
    · rw [if_pos (by simp [c10])]
      have hes : yescS (d :: r) = yhexS r := by simp only [yescS]; rw [if_pos c10]
      rw [hes]
      match r, hrl, hr with
      | a :: b :: r', hrl, hr =>
        simp only [List.length_cons] at hrl
        have hs1 : sAt (d :: a :: b :: r') 1 = (a.toNat : Int) := rfl
        have hs2 : sAt (d :: a :: b :: r') 2 = (b.toNat : Int) := rfl
        have va := yhexv_le a.toNat
        have vb := yhexv_le b.toNat
        have hi1 : inR 1 (d :: a :: b :: r').length = true := by rw [inR_iff]; simp; omega
        have hi2 : inR 2 (d :: a :: b :: r').length = true := by rw [inR_iff]; simp; omega
        rw [if_pos (by rw [decide_eq_true_eq]; simp; omega), if_pos hi1, hs1, hs2, ydigit_ok, ydigit_ok, if_pos hi2]
        unfold F.charset.reader_escaped_j5 F.charset.reader_escaped_j4 F.charset.reader_escaped_j2
        simp only [w1, w2, w4, ysub_rest (show i + 1 ≤ t.length by omega), hr, hbad, hi1, hi2, hs1, hs2, ydigit_ok, if_true, Option.bind_some, yhexS]
        by_cases h1 : yhexv a.toNat < 16
        · by_cases h2 : yhexv b.toNat < 16
          · simp only [h1, h2, if_true, and_self]
            rw [if_pos (by rw [decide_eq_true_eq]; omega), if_pos (by rw [decide_eq_true_eq]; omega)]
            rw [wrap_i64 (n := 16 * _) (by omega) (by omega), wrap_i64 (by omega) (by omega)]
            simp only [Int.natCast_add, Int.natCast_mul]
            rfl
          · simp only [h1, h2, if_true, if_false, and_false]
            simp
        · simp only [h1, if_false, false_and]
          simp
      | [], hrl, hr =>
        unfold F.charset.reader_escaped_j5 F.charset.reader_escaped_j4 F.charset.reader_escaped_j2
        simp only [hbad, yhexS]
        rw [if_neg (by rw [decide_eq_true_eq]; simp)]
        simp
      | [a], hrl, hr =>
        unfold F.charset.reader_escaped_j5 F.charset.reader_escaped_j4 F.charset.reader_escaped_j2
        simp only [hbad, yhexS]
        rw [if_neg (by rw [decide_eq_true_eq]; simp)]
        simp
    · rw [if_neg (by simp; omega)]
      have hes : yescS (d :: r) = (0, 0, 12) := by
        simp only [yescS]
        rw [if_neg c10, if_neg (by omega)]
      rw [hes]
      simp
theorem ychar_ok {t : List UInt8} (ht : t.length < 100000) {i : Nat} (hi : i ≤ t.length) : ∃ rd, F.charset.reader_char ⟨t, (i : Int)⟩ = some (ycharR t i rd) := by
  unfold F.charset.reader_char ycharR
  by_cases h0 : i = t.length
  · rw [if_pos (by rw [decide_eq_true_eq]; simp only; omega), List.drop_eq_nil_of_le (by omega)]
    refine ⟨⟨t, (i : Int)⟩, ?_⟩
    subst h0
    simp [yoneS]
  · obtain ⟨c, r, hd, hr, hc⟩ := ydrop_cons (t := t) (i := i) (by omega)
    have hd1 : t.drop (i + 1) = r := by rw [← List.drop_drop, hd]; rfl
    have hcl := yu8_lt c
    rw [if_neg (by rw [decide_eq_true_eq]; simp only; omega), if_pos (by rw [inR_iff]; simp only; omega)]
    simp only [hc, hd]
    by_cases h92 : c.toNat = 92
    · have ho : yoneS (c :: r) = yescS r := by simp only [yoneS]; rw [if_neg (by simp [h92])]
      rw [if_pos (by simp [h92]), ho]
      obtain ⟨rd, hE⟩ := yescaped_ok ht (i := i) (by omega)
      rw [hd1] at hE
      refine ⟨rd, ?_⟩
      rw [hE, Option.bind_some]
    · have hbad : (c.toNat ≤ 32 ∨ 127 ≤ c.toNat ∨ yspec9 c.toNat ≠ 0) → yoneS (c :: r) = (0, 0, 11) := by
        intro h
        simp only [yoneS]
        rw [if_pos h92, if_pos h]
      rw [if_neg (by simp; omega)]
      refine ⟨⟨t, (i : Int)⟩, ?_⟩
      simp only [F.charset.reader_char_j1]
      have w1 : IntKind.wrap .i64 ((i : Int) + 1) = ((i + 1 : Nat) : Int) := wrap_succ (by omega)
      by_cases c1 : c.toNat ≤ 32
      · rw [if_pos (by rw [decide_eq_true_eq]; omega), hbad (.inl c1)]; simp
      rw [if_neg (by rw [decide_eq_true_eq]; omega)]
      by_cases c2 : 127 ≤ c.toNat
      · rw [if_pos (by rw [decide_eq_true_eq]; omega), hbad (.inr (.inl c2))]; simp
      rw [if_neg (by rw [decide_eq_true_eq]; omega)]
      by_cases c3 : c.toNat = 91
      · rw [if_pos (by simp [c3]), hbad (by rw [c3]; decide)]; simp
      rw [if_neg (by simp; omega)]
      by_cases c4 : c.toNat = 93
      · rw [if_pos (by simp [c4]), hbad (by rw [c4]; decide)]; simp
      rw [if_neg (by simp; omega)]
      by_cases c5 : c.toNat = 45
      · rw [if_pos (by simp [c5]), hbad (by rw [c5]; decide)]; simp
      rw [if_neg (by simp; omega)]
      by_cases c6 : c.toNat = 94
      · rw [show ((c.toNat : Int) == 94) = true by simp [c6], hbad (by rw [c6]; decide)]; simp
      rw [show ((c.toNat : Int) == 94) = false by simp; omega]
      have hs : yspec9 c.toNat = 0 := by
        unfold yspec9
        rw [if_neg (by omega), if_neg (by omega), if_neg (by omega), if_neg (by omega), if_neg (by omega)]
      have ho : yoneS (c :: r) = (c.toNat, 1, 0) := by
        simp only [yoneS]
        rw [if_pos h92, if_neg (by rw [hs]; omega)]
      rw [ho, w1, wrap_i64 (by omega) (by omega)]
      simp [hc]
inductive ItemR where
  | err (a c : Nat)
  | ok (lo hi next : Nat)
def itemS (t : List UInt8) (i : Nat) : ItemR :=
  let o := yoneS (t.drop i)
  if o.2.2 ≠ 0 then .err i o.2.2 else
  if t[i + o.2.1]? = some 45 then
    let p := yoneS (t.drop (i + o.2.1 + 1))
    if p.2.2 ≠ 0 then .err (i + o.2.1 + 1) p.2.2 else if p.1 < o.1 then .err i 10 else .ok o.1 p.1 (i + o.2.1 + 1 + p.2.1)
  else .ok o.1 o.1 (i + o.2.1)
def rngS (s : S4) (lo hi : Nat) : S4 := ofP fun x => bit s x || (decide (lo ≤ x) && decide (x ≤ hi))
theorem okS_rng (s : S4) (lo hi : Nat) : okS (rngS s lo hi) := okS_ofP _
def parseL (t : List UInt8) : Nat → Nat → S4 → Option (LR (Nat × S4) Fault)
  | 0, _, _ => none
  | j + 1, i, s => if t[i]? = some 93 then some (.done (i, s)) else match itemS t i with
    | .err a c => some (.ret ⟨(a : Int), (c : Int)⟩)
    | .ok lo hi nx => parseL t j nx (rngS s lo hi)
theorem byte_eq {t : List UInt8} {i : Nat} (hi : i < t.length) (m : UInt8) : (sAt t (i : Int) == (m.toNat : Int)) = decide (t[i]? = some m) := by
  unfold sAt
  rw [Int.toNat_natCast, List.getD_eq_getElem?_getD, List.getElem?_eq_getElem hi]
  rw [Bool.eq_iff_iff]
  simp only [Option.getD_some, beq_iff_eq, decide_eq_true_eq, Option.some.injEq]
  constructor
  · intro h
    apply UInt8.toNat_inj.1
    omega
  · intro h; rw [h]
theorem itemS_spec {t : List UInt8} {i lo hi nx : Nat} (h : itemS t i = .ok lo hi nx) (hi' : i ≤ t.length) : lo ≤ hi ∧ hi < 256 ∧ i < nx ∧ nx ≤ t.length := by
  unfold itemS at h
  have h1 := yoneS_spec (t.drop i)
  simp only at h
  split at h
  · cases h
  rename_i e1
  have h1' := h1.2 (by simpa using e1)
  rw [List.length_drop] at h1'
  split at h
  · have h2 := yoneS_spec (t.drop (i + (yoneS (t.drop i)).2.1 + 1))
    split at h
    · cases h
    rename_i e2
    split at h
    · cases h
    rename_i g e3
    have h2' := h2.2 (by simpa using e2)
    rw [List.length_drop] at h2'
    simp only [ItemR.ok.injEq] at h
    obtain ⟨rfl, rfl, rfl⟩ := h
    omega
  · simp only [ItemR.ok.injEq] at h
    obtain ⟨rfl, rfl, rfl⟩ := h
    omega
theorem rangeR_nat {lo hi : Nat} (h1 : lo ≤ hi) (h2 : hi < 256) : rangeR (lo : Int) (hi : Int) = (ofP fun x => decide (lo ≤ x) && decide (x ≤ hi), 0) := by
  unfold rangeR
  rw [if_neg (by omega), if_neg (by omega), if_neg (by omega)]
  refine congrArg (fun z => (z, (0 : Int))) (ofP_congr (fun x _ => ?_))
  rw [Bool.eq_iff_iff]
  simp
theorem rangeR_bad {lo hi : Nat} (h1 : hi < lo) (h2 : lo < 256) : rangeR (lo : Int) (hi : Int) = (S4.mk 0 0 0 0, 10) := by
  unfold rangeR
  rw [if_neg (by omega), if_neg (by omega), if_pos (by omega)]
def itemO (t : List UInt8) (i : Nat) (rd : Charset_reader) : S4 × Fault × Charset_reader := match itemS t i with
  | .err a c => (S4.mk 0 0 0 0, ⟨(a : Int), (c : Int)⟩, rd)
  | .ok lo hi nx => (ofP fun x => decide (lo ≤ x) && decide (x ≤ hi), ⟨0, 0⟩, ⟨t, (nx : Int)⟩)
theorem yitem_ok {t : List UInt8} (ht : t.length < 90000) {k : Nat} (hk : 300 ≤ k) {i : Nat} (hi : i ≤ t.length) : ∃ rd, F.charset.reader_item k ⟨t, (i : Int)⟩ = some (itemO t i rd) := by
  obtain ⟨rd, hc⟩ := ychar_ok (t := t) (by omega) hi
  unfold F.charset.reader_item
  rw [hc, Option.bind_some]
  have h1 := yoneS_spec (t.drop i)
  unfold ycharR itemO itemS
  generalize hog : yoneS (t.drop i) = o at *
  by_cases he : o.2.2 = 0
  · have h1' := h1.2 he
    rw [List.length_drop] at h1'
    rw [if_pos he]
    simp only [he]
    rw [if_neg (show ¬ ((0 : Int) != 0) = true by decide), if_neg (show ¬ ((0 : Nat) ≠ 0) by decide)]
    have j2 : ∀ (hi' : Nat) (a c : Int) (nx : Nat) (g : Int × Fault × Charset_reader), g.1 = (o.1 : Int) → hi' < 256 → F.charset.reader_item_j2 k g (Charset_reader.mk t (i : Int)) (hi' : Int) t (nx : Int) a c =
        some (if hi' < o.1 then (S4.mk 0 0 0 0, ⟨(i : Int), 10⟩, ⟨t, (nx : Int)⟩) else (ofP fun x => decide (o.1 ≤ x) && decide (x ≤ hi'), ⟨0, 0⟩, ⟨t, (nx : Int)⟩)) := by
      intro hi' a c nx g hg hlt
      unfold F.charset.reader_item_j2
      rw [hg, Range_ok hk, Option.bind_some]
      by_cases hb : hi' < o.1
      · rw [rangeR_bad hb h1.1, if_pos hb]; rfl
      · rw [rangeR_nat (by omega) hlt, if_neg hb]; rfl
    by_cases hn : i + o.2.1 < t.length
    · rw [if_pos (by rw [decide_eq_true_eq]; omega), if_pos (by rw [inR_iff]; omega)]
      have hb := byte_eq hn 45
      have hb' : (sAt t ((i + o.2.1 : Nat) : Int) == 45) = decide (t[i + o.2.1]? = some 45) := hb
      rw [hb']
      unfold F.charset.reader_item_j1
      by_cases h45 : t[i + o.2.1]? = some 45
      · rw [if_pos (by simpa using h45), if_pos h45]
        have w1 : IntKind.wrap .i64 (((i + o.2.1 : Nat) : Int) + 1) = ((i + o.2.1 + 1 : Nat) : Int) := wrap_succ (by omega)
        obtain ⟨rd2, hc2⟩ := ychar_ok (t := t) (by omega) (i := i + o.2.1 + 1) (by omega)
        rw [w1, hc2, Option.bind_some]
        have h2 := yoneS_spec (t.drop (i + o.2.1 + 1))
        unfold ycharR
        generalize yoneS (t.drop (i + o.2.1 + 1)) = p at *
        by_cases he2 : p.2.2 = 0
        · rw [if_pos he2]
          simp only [he2]
          rw [if_neg (show ¬ ((0 : Int) != 0) = true by decide), if_neg (show ¬ ((0 : Nat) ≠ 0) by decide), j2 p.1 _ _ _ _ rfl h2.1]
          by_cases hb : p.1 < o.1
          · rw [if_pos hb, if_pos hb]; exact ⟨⟨t, _⟩, rfl⟩
          · rw [if_neg hb, if_neg hb]; exact ⟨rd, rfl⟩
        · rw [if_neg he2]
          simp only
          rw [if_pos (by simp; omega), if_pos he2]
          exact ⟨rd2, rfl⟩
      · rw [if_neg (by simpa using h45), if_neg h45, j2 o.1 _ _ _ _ rfl h1.1, if_neg (by omega)]
        exact ⟨rd, rfl⟩
    · rw [if_neg (by rw [decide_eq_true_eq]; omega)]
      have h45 : ¬ t[i + o.2.1]? = some 45 := by rw [List.getElem?_eq_none (by omega)]; simp
      unfold F.charset.reader_item_j1
      rw [if_neg (by simp), if_neg h45, j2 o.1 _ _ _ _ rfl h1.1, if_neg (by omega)]
      exact ⟨rd, rfl⟩
  · rw [if_neg he]
    simp only
    rw [if_pos (by simp; omega), if_pos he]
    exact ⟨rd, rfl⟩
def liftA (t : List UInt8) : LR (Nat × S4) Fault → LR (S4 × List UInt8 × Int) (S4 × Fault)
  | .done x => .done (x.2, t, (x.1 : Int))
  | .ret f => .ret (S4.mk 0 0 0 0, f)
theorem itemS_err {t : List UInt8} {i a c : Nat} (h : itemS t i = .err a c) : c ≠ 0 := by
  unfold itemS at h
  simp only at h
  split at h
  · rename_i e; simp only [ItemR.err.injEq] at h; rw [← h.2]; exact e
  split at h
  · split at h
    · rename_i e; simp only [ItemR.err.injEq] at h; rw [← h.2]; exact e
    split at h
    · simp only [ItemR.err.injEq] at h; omega
    · cases h
  · cases h
theorem Parse_l4_ok {t : List UInt8} (ht : t.length < 90000) {k : Nat} (hk : 300 ≤ k) : ∀ (j i : Nat) (s : S4), i ≤ t.length → okS s → F.charset.Parse_l4 k t j s t (i : Int) = (parseL t j i s).map (liftA t)
  | 0, _, _, _, _ => rfl
  | j + 1, i, s, hi, hs => by
    have step : F.charset.Parse_j5 k t (i : Int) s (F.charset.Parse_l4 k t j) true = ((match itemS t i with
        | .err a c => some (.ret ⟨(a : Int), (c : Int)⟩)
        | .ok lo hi nx => parseL t j nx (rngS s lo hi) : Option (LR (Nat × S4) Fault))).map (liftA t) := by
      obtain ⟨rd, hit⟩ := yitem_ok ht hk hi
      unfold F.charset.Parse_j5
      rw [if_pos rfl, hit, Option.bind_some]
      unfold itemO
      cases h : itemS t i with
      | err a c =>
        have := itemS_err h
        simp only
        rw [if_pos (by simp; omega)]
        rfl
      | ok lo hi' nx =>
        have hsp := itemS_spec h hi
        simp only
        rw [if_neg (by decide), Union_ok hs (okS_ofP _) (by omega), Option.bind_some]
        have e : (ofP fun i => bit s i || bit (ofP fun x => decide (lo ≤ x) && decide (x ≤ hi')) i) = rngS s lo hi' := ofP_congr (fun x hx => by rw [bit_ofP _ hx])
        rw [e, Parse_l4_ok ht hk j nx _ (by omega) (okS_rng _ _ _)]
    simp only [F.charset.Parse_l4, parseL]
    by_cases h0 : i = t.length
    · rw [if_pos (by rw [decide_eq_true_eq]; omega), step, if_neg (by rw [List.getElem?_eq_none (by omega)]; simp)]
    · rw [if_neg (by rw [decide_eq_true_eq]; omega), if_pos (by rw [inR_iff]; omega)]
      have hb := byte_eq (t := t) (i := i) (by omega) 93
      have hb' : (sAt t (i : Int) == 93) = decide (t[i]? = some 93) := hb
      by_cases h93 : t[i]? = some 93
      · rw [if_pos h93, bne, hb']
        simp only [h93, decide_true, Bool.not_true, F.charset.Parse_j5]
        rfl
      · rw [if_neg h93, bne, hb']
        simp only [h93, decide_false, Bool.not_false]
        exact step
theorem parseL_some {t : List UInt8} : ∀ (d j i : Nat) (s : S4), t.length ≤ i + d → i ≤ t.length → d < j → okS s → ∃ r, parseL t j i s = some r ∧ ∀ n u, r = .done (n, u) → n < t.length ∧ okS u := by
  intro d
  induction d using Nat.strongRecOn with
  | _ d ih =>
    intro j i s hd hi hj hs
    cases j with
    | zero => omega
    | succ j =>
      simp only [parseL]
      split
      · rename_i h
        refine ⟨_, rfl, fun n u hx => ?_⟩
        simp only [LR.done.injEq, Prod.mk.injEq] at hx
        obtain ⟨rfl, rfl⟩ := hx
        exact ⟨(List.getElem?_eq_some_iff.1 h).1, hs⟩
      · cases h : itemS t i with
        | err a c => exact ⟨_, rfl, fun n u hx => by cases hx⟩
        | ok lo hi' nx =>
          have hsp := itemS_spec h hi
          simp only
          cases d with
          | zero => omega
          | succ d => exact ih (t.length - nx) (by omega) j nx _ (by omega) hsp.2.2.2 (by omega) (okS_ofP _)
def parseT (k : Nat) (t : List UInt8) : Option (S4 × Fault) :=
  if 65536 < t.length then some (S4.mk 0 0 0 0, ⟨0, 2⟩) else
  if t[0]? ≠ some 91 then some (S4.mk 0 0 0 0, ⟨0, 13⟩) else
  (parseL t k (if t[1]? = some 94 then 2 else 1) (S4.mk 0 0 0 0)).map fun r => match r with
    | .ret f => (S4.mk 0 0 0 0, f)
    | .done x => if x.1 + 1 < t.length then (S4.mk 0 0 0 0, ⟨((x.1 + 1 : Nat) : Int), 15⟩) else if t[1]? = some 94 then (ofP fun i => !bit x.2 i, ⟨0, 0⟩) else (x.2, ⟨0, 0⟩)
theorem yParse_ok {t : List UInt8} (ht : t.length < 80000) {k : Nat} (hk : 90000 ≤ k) : F.charset.Parse k t = parseT k t := by
  unfold F.charset.Parse parseT
  by_cases h1 : 65536 < t.length
  · rw [if_pos (by rw [decide_eq_true_eq]; omega), if_pos h1]
  rw [if_neg (by rw [decide_eq_true_eq]; omega), if_neg h1]
  by_cases h2 : t = []
  · subst h2; rfl
  have hpos : 0 < t.length := List.length_pos_iff.2 h2
  have hb := byte_eq (t := t) (i := 0) hpos 91
  have hb' : (sAt t 0 == 91) = decide (t[0]? = some 91) := hb
  rw [if_neg (by simpa using h2), if_pos (by rw [inR_iff]; omega), bne, hb']
  by_cases h3 : t[0]? = some 91
  · rw [if_neg (by simpa using h3)]
    simp only [h3, decide_true, Bool.not_true, F.charset.Parse_j1, Bool.false_eq_true, if_false]
    have j3 : ∀ (b : Bool) (n : Nat), n ≤ t.length → F.charset.Parse_j3 k t b (n : Int) = (parseL t k n (S4.mk 0 0 0 0)).map fun r => match r with
        | .ret f => (S4.mk 0 0 0 0, f)
        | .done x => if x.1 + 1 < t.length then (S4.mk 0 0 0 0, ⟨((x.1 + 1 : Nat) : Int), 15⟩) else if b then (ofP fun i => !bit x.2 i, ⟨0, 0⟩) else (x.2, ⟨0, 0⟩) := by
      intro b n hn
      unfold F.charset.Parse_j3
      rw [Parse_l4_ok (by omega) (by omega) k n _ hn okS_none]
      obtain ⟨r, hr, hd⟩ := parseL_some (t := t) (t.length - n) k n (S4.mk 0 0 0 0) (by omega) hn (by omega) okS_none
      rw [hr]
      simp only [Option.map_some, Option.bind_some]
      cases r with
      | ret f => rfl
      | done x =>
        obtain ⟨hlt, hok⟩ := hd x.1 x.2 rfl
        simp only [liftA, LR.fin, wrap_succ (show x.1 < 1000000 by omega)]
        by_cases h4 : x.1 + 1 < t.length
        · rw [if_pos (by rw [decide_eq_true_eq]; omega), if_pos h4]
        · rw [if_neg (by rw [decide_eq_true_eq]; omega), if_neg h4]
          cases b with
          | true => simp only [if_true]; rw [Not_ok hok (by omega)]; rfl
          | false => rfl
    by_cases h4 : 1 < t.length
    · rw [if_pos (by rw [decide_eq_true_eq]; omega), if_pos (by rw [inR_iff]; omega)]
      have hb2 := byte_eq (t := t) (i := 1) h4 94
      have hb2' : (sAt t 1 == 94) = decide (t[1]? = some 94) := hb2
      rw [hb2']
      unfold F.charset.Parse_j2
      by_cases h5 : t[1]? = some 94
      · simp only [h5, decide_true, if_true]
        exact j3 true 2 (by omega)
      · simp only [h5, decide_false, Bool.false_eq_true, if_false]
        exact j3 false 1 (by omega)
    · rw [if_neg (by rw [decide_eq_true_eq]; omega)]
      have h5 : ¬ t[1]? = some 94 := by rw [List.getElem?_eq_none (by omega)]; simp
      unfold F.charset.Parse_j2
      simp only [h5, Bool.false_eq_true, if_false]
      exact j3 false 1 (by omega)
  · rw [if_pos h3]
    simp only [h3, decide_false, Bool.not_false, F.charset.Parse_j1, if_true]
def sgB (b : Nat) : Bool := match sg b with
  | [c] => decide (c.toNat = b ∧ c.toNat ≠ 92 ∧ ¬ (c.toNat ≤ 32 ∨ 127 ≤ c.toNat ∨ yspec9 c.toNat ≠ 0))
  | [c, d] => decide (c.toNat = 92 ∧ d.toNat ≠ 120 ∧ yescv d.toNat = b)
  | [c, d, x, y] => decide (c.toNat = 92 ∧ d.toNat = 120 ∧ yhexv x.toNat < 16 ∧ yhexv y.toNat < 16 ∧ 16 * yhexv x.toNat + yhexv y.toNat = b)
  | _ => false
theorem sgB_all : ∀ b : _root_.Fin 256, sgB b.val = true := by decide +kernel
theorem sg_head_all : ∀ b : _root_.Fin 256, (sg b.val).head? ≠ none ∧ (sg b.val).head? ≠ some 93 ∧ (sg b.val).head? ≠ some 45 ∧ (sg b.val).head? ≠ some 94 := by decide +kernel
theorem sg_one {b : Nat} (hb : b < 256) (rest : List UInt8) : yoneS (sg b ++ rest) = (b, (sg b).length, 0) := by
  have h := sgB_all ⟨b, hb⟩
  unfold sgB at h
  simp only at h
  split at h
  · rename_i c e
    obtain ⟨h1, h2, h3⟩ := of_decide_eq_true h
    rw [e]
    simp only [List.cons_append, List.nil_append, yoneS]
    rw [if_pos h2, if_neg h3, h1]; rfl
  · rename_i c d e
    obtain ⟨h1, h2, h3⟩ := of_decide_eq_true h
    rw [e]
    simp only [List.cons_append, List.nil_append, yoneS, yescS]
    rw [if_neg (by simp [h1]), if_neg h2, if_pos (by omega), h3]; rfl
  · rename_i c d x y e
    obtain ⟨h1, h2, h3, h4, h5⟩ := of_decide_eq_true h
    rw [e]
    simp only [List.cons_append, List.nil_append, yoneS, yescS, yhexS]
    rw [if_neg (by simp [h1]), if_pos h2, if_pos ⟨h3, h4⟩, h5]; rfl
  · cases h
theorem get_drop {t u : List UInt8} {i : Nat} (h : t.drop i = u) : t[i]? = u.head? := by
  rw [← h, List.head?_drop]
theorem drop_more {t u v : List UInt8} {i : Nat} (h : t.drop i = u ++ v) : t.drop (i + u.length) = v := by
  rw [← List.drop_drop, h]; simp
theorem head_app {u v : List UInt8} (h : u.head? ≠ none) : (u ++ v).head? = u.head? := by
  cases u with
  | nil => simp at h
  | cons a u => rfl
theorem sg_head {b : Nat} (hb : b < 256) (rest : List UInt8) : (sg b ++ rest).head? ≠ some 93 ∧ (sg b ++ rest).head? ≠ some 45 ∧ (sg b ++ rest).head? ≠ some 94 := by
  obtain ⟨h1, h2, h3, h4⟩ := sg_head_all ⟨b, hb⟩
  rw [head_app h1]
  exact ⟨h2, h3, h4⟩
theorem body_head {l : List Run} (hl : ∀ r ∈ l, okR r) : (bodyT l ++ [93]).head? ≠ some 45 ∧ (bodyT l ++ [93]).head? ≠ some 94 := by
  cases l with
  | nil => simp [bodyT]
  | cons r l =>
    have hr := hl r List.mem_cons_self
    unfold okR at hr
    have := sg_head (b := r.Lo.toNat) (by omega) ((if r.Lo + 1 < r.Hi then [45] else []) ++ ((if r.Lo < r.Hi then sg r.Hi.toNat else []) ++ (bodyT l ++ [93])))
    have e : bodyT (r :: l) ++ [93] = sg r.Lo.toNat ++ ((if r.Lo + 1 < r.Hi then [45] else []) ++ ((if r.Lo < r.Hi then sg r.Hi.toNat else []) ++ (bodyT l ++ [93]))) := by
      simp [bodyT, runT]
    rw [e]
    exact this.2
def inRun (l : List Run) (x : Nat) : Bool := l.any fun r => decide (r.Lo ≤ (x : Int)) && decide ((x : Int) ≤ r.Hi)
theorem rngS_rngS {s : S4} {a b c d : Nat} : rngS (rngS s a b) c d = ofP fun x => bit s x || ((decide (a ≤ x) && decide (x ≤ b)) || (decide (c ≤ x) && decide (x ≤ d))) := by
  unfold rngS
  refine ofP_congr (fun x hx => ?_)
  rw [bit_ofP _ hx, Bool.or_assoc]
theorem parse_runs {t : List UInt8} : ∀ (l : List Run) (i j : Nat) (s : S4), (∀ r ∈ l, okR r) → okS s → t.drop i = bodyT l ++ [93] → i ≤ t.length → 2 * l.length < j → parseL t j i s = some (.done (t.length - 1, ofP fun x => bit s x || inRun l x))
  | [], i, j, s, _, hs, hd, hi, hj => by
    cases j with
    | zero => simp at hj
    | succ j =>
      have hd' : t.drop i = [93] := by rw [hd]; rfl
      have hlen : t.length - i = 1 := by rw [← List.length_drop, hd']; rfl
      simp only [parseL]
      rw [if_pos (by rw [get_drop hd']; rfl)]
      have : i = t.length - 1 := by omega
      rw [← this]
      refine congrArg (fun z => some (LR.done (i, z))) (eq_ofP hs (fun x _ => ?_))
      simp [inRun]
  | r :: l, i, j, s, hl, hs, hd, hi, hj => by
    have hr := hl r List.mem_cons_self
    have hl' : ∀ r ∈ l, okR r := fun x hx => hl x (List.mem_cons_of_mem _ hx)
    obtain ⟨h1, h2, h3⟩ := hr
    obtain ⟨lo, hlo⟩ : ∃ n : Nat, r.Lo = (n : Int) := ⟨r.Lo.toNat, by omega⟩
    obtain ⟨hh, hhi⟩ : ∃ n : Nat, r.Hi = (n : Int) := ⟨r.Hi.toNat, by omega⟩
    have hbh := body_head hl'
    simp only [List.length_cons] at hj
    cases j with
    | zero => omega
    | succ j =>
    have e : t.drop i = sg lo ++ ((if (lo : Int) + 1 < hh then [45] else []) ++ ((if (lo : Int) < hh then sg hh else []) ++ (bodyT l ++ [93]))) := by
      rw [hd]; simp [bodyT, runT, hlo, hhi]
    have hone := sg_one (b := lo) (by omega) ((if (lo : Int) + 1 < hh then [45] else []) ++ ((if (lo : Int) < hh then sg hh else []) ++ (bodyT l ++ [93])))
    rw [← e] at hone
    have hd1 := drop_more e
    have hle1 : i + (sg lo).length ≤ t.length := by
      have := congrArg List.length e
      rw [List.length_drop, List.length_append] at this
      omega
    have hu : ∀ u : S4, (∀ x, x < 256 → bit u x = (bit s x || (decide (lo ≤ x) && decide (x ≤ hh)))) → (ofP fun x => bit u x || inRun l x) = ofP fun x => bit s x || inRun (r :: l) x := by
      intro u hu
      refine ofP_congr (fun x hx => ?_)
      rw [hu x hx, Bool.or_assoc]
      congr 1
      simp only [inRun, List.any_cons, hlo, hhi]
      congr 1
      congr 1
      · rw [Bool.eq_iff_iff]; simp
      · rw [Bool.eq_iff_iff]; simp
    simp only [parseL]
    rw [if_neg (by rw [get_drop e]; exact (sg_head (by omega) _).1)]
    by_cases c1 : (lo : Int) + 1 < hh
    · have c2 : (lo : Int) < hh := by omega
      rw [if_pos c1, if_pos c2] at hd1
      have hd2 : t.drop (i + (sg lo).length + 1) = sg hh ++ (bodyT l ++ [93]) := by
        have := drop_more (u := [45]) hd1
        exact this
      have hone2 := sg_one (b := hh) (by omega) (bodyT l ++ [93])
      rw [← hd2] at hone2
      have hd3 := drop_more hd2
      have hle3 : i + (sg lo).length + 1 + (sg hh).length ≤ t.length := by
        have := congrArg List.length hd2
        rw [List.length_drop, List.length_append, List.length_append] at this
        simp only [List.length_cons] at this
        omega
      have hit : itemS t i = .ok lo hh (i + (sg lo).length + 1 + (sg hh).length) := by
        unfold itemS
        simp only [hone]
        rw [if_neg (by simp), if_pos (by rw [get_drop hd1]; rfl), hone2]
        simp only
        rw [if_neg (by simp), if_neg (by omega)]
      rw [hit]
      simp only
      rw [parse_runs l _ j _ hl' (okS_rng _ _ _) hd3 hle3 (by omega)]
      refine congrArg (fun z => some (LR.done (t.length - 1, z))) (hu _ (fun x hx => ?_))
      unfold rngS
      rw [bit_ofP _ hx]
    · rw [if_neg c1, List.nil_append] at hd1
      by_cases c2 : (lo : Int) < hh
      · rw [if_pos c2] at hd1
        have hone2 := sg_one (b := hh) (by omega) (bodyT l ++ [93])
        rw [← hd1] at hone2
        have hd3 := drop_more hd1
        have hle3 : i + (sg lo).length + (sg hh).length ≤ t.length := by
          have := congrArg List.length hd1
          rw [List.length_drop, List.length_append, List.length_append] at this
          simp only [List.length_cons] at this
          omega
        have hit : itemS t i = .ok lo lo (i + (sg lo).length) := by
          unfold itemS
          simp only [hone]
          rw [if_neg (by simp), if_neg (by rw [get_drop hd1]; exact (sg_head (by omega) _).2.1)]
        have hit2 : itemS t (i + (sg lo).length) = .ok hh hh (i + (sg lo).length + (sg hh).length) := by
          unfold itemS
          simp only [hone2]
          rw [if_neg (by simp), if_neg (by rw [get_drop hd3]; exact hbh.1)]
        cases j with
        | zero => omega
        | succ j =>
        rw [hit]
        simp only [parseL]
        rw [if_neg (by rw [get_drop hd1]; exact (sg_head (by omega) _).1), hit2]
        simp only
        rw [parse_runs l _ j _ hl' (okS_rng _ _ _) hd3 hle3 (by omega)]
        refine congrArg (fun z => some (LR.done (t.length - 1, z))) (hu _ (fun x hx => ?_))
        rw [rngS_rngS, bit_ofP _ hx]
        congr 1
        rw [Bool.eq_iff_iff]
        simp
        omega
      · rw [if_neg c2, List.nil_append] at hd1
        have hit : itemS t i = .ok lo lo (i + (sg lo).length) := by
          unfold itemS
          simp only [hone]
          rw [if_neg (by simp), if_neg (by rw [get_drop hd1]; exact hbh.1)]
        rw [hit]
        simp only
        rw [parse_runs l _ j _ hl' (okS_rng _ _ _) hd1 hle1 (by omega)]
        refine congrArg (fun z => some (LR.done (t.length - 1, z))) (hu _ (fun x hx => ?_))
        unfold rngS
        rw [bit_ofP _ hx]
        congr 2
        rw [show hh = lo by omega]
theorem Cr_mem {s : S4} {m : Nat} (h : (bt s (m : Int) && !bt s ((m : Int) - 1)) = true) : ∀ n, m < n → (⟨(m : Int), (ext s 256 m : Int)⟩ : Run) ∈ Cr s n
  | 0, hn => by omega
  | n + 1, hn => by
    rw [Cr_succ, List.mem_append]
    by_cases he : m = n
    · subst he
      right
      rw [if_pos h]
      simp
    · exact .inl (Cr_mem h n (by omega))
theorem Cr_bits {s : S4} : ∀ n, n ≤ 256 → ∀ r ∈ Cr s n, ∀ x : Nat, r.Lo ≤ (x : Int) → (x : Int) ≤ r.Hi → bt s (x : Int) = true
  | 0, _, r, h, _, _, _ => by simp [Cr] at h
  | n + 1, hn, r, h, x, h1, h2 => by
    rw [Cr_succ, List.mem_append] at h
    rcases h with h | h
    · exact Cr_bits n (by omega) r h x h1 h2
    · split at h
      · rename_i hb
        simp only [List.mem_cons, List.not_mem_nil, or_false] at h
        subst h
        obtain ⟨_, _, h3, _⟩ := ext_spec (s := s) 256 n (by omega) (by omega)
        simp only at h1 h2
        rcases Nat.eq_or_lt_of_le (show n ≤ x by omega) with he | he
        · subst he
          rw [Bool.and_eq_true] at hb
          exact hb.1
        · exact h3 x he (by omega)
      · simp at h
theorem run_start {s : S4} (x : Nat) (h : bt s (x : Int) = true) : ∃ m, m ≤ x ∧ (bt s (m : Int) && !bt s ((m : Int) - 1)) = true ∧ ∀ y, m ≤ y → y ≤ x → bt s (y : Int) = true := by
  induction x with
  | zero =>
    refine ⟨0, Nat.le_refl _, ?_, fun y _ h2 => ?_⟩
    · rw [h, bt_out (.inl (by omega))]; rfl
    · obtain rfl : y = 0 := by omega
      exact h
  | succ x ih =>
    cases hp : bt s (x : Int) with
    | true =>
      obtain ⟨m, h1, h2, h3⟩ := ih hp
      refine ⟨m, by omega, h2, fun y g1 g2 => ?_⟩
      rcases Nat.eq_or_lt_of_le g2 with he | he
      · subst he; exact h
      · exact h3 y g1 (by omega)
    | false =>
      refine ⟨x + 1, Nat.le_refl _, ?_, fun y g1 g2 => ?_⟩
      · have e : ((x + 1 : Nat) : Int) - 1 = (x : Int) := by omega
        rw [h, e, hp]; rfl
      · obtain rfl : y = x + 1 := by omega
        exact h
theorem inRun_Cr {s : S4} {x : Nat} (hx : x < 256) : inRun (Cr s 256) x = bit s x := by
  rw [Bool.eq_iff_iff, ← bt_nat hx]
  unfold inRun
  rw [List.any_eq_true]
  constructor
  · rintro ⟨r, hr, h⟩
    simp only [Bool.and_eq_true, decide_eq_true_eq] at h
    exact Cr_bits 256 (Nat.le_refl _) r hr x h.1 h.2
  · intro h
    obtain ⟨m, h1, h2, h3⟩ := run_start x h
    refine ⟨_, Cr_mem h2 256 (by omega), ?_⟩
    obtain ⟨g1, g2, g3, g4⟩ := ext_spec (s := s) 256 m (by omega) (by omega)
    simp only [Bool.and_eq_true, decide_eq_true_eq]
    refine ⟨by omega, ?_⟩
    rcases Nat.lt_or_ge (ext s 256 m) x with hlt | hge
    · have := h3 (ext s 256 m + 1) (by omega) (by omega)
      rw [show ((ext s 256 m + 1 : Nat) : Int) = (ext s 256 m : Int) + 1 from rfl, g4] at this
      cases this
    · omega
theorem parse_print {s : S4} (hs : okS s) {k : Nat} (hk : 90000 ≤ k) : parseT k (printT s) = some (s, ⟨0, 0⟩) := by
  have hlen := printT_len s
  have hok := Cr_okR (s := s) 256 (Nat.le_refl _)
  have hl := Cr_len s 256
  have hd : (printT s).drop 1 = bodyT (Cr s 256) ++ [93] := by simp [printT]
  have h94 : ¬ (printT s)[1]? = some 94 := by rw [get_drop hd]; exact (body_head hok).2
  unfold parseT
  rw [if_neg (by omega), if_neg (by simp [printT]), if_neg h94, parse_runs (Cr s 256) 1 k _ hok okS_none hd (by simp [printT]) (by omega)]
  simp only [Option.map_some]
  rw [if_neg (by omega), if_neg h94]
  refine congrArg (fun z => some (z, (⟨0, 0⟩ : Fault))) (eq_ofP hs (fun x hx => ?_)).symm
  rw [bit_none hx, inRun_Cr hx, Bool.false_or]
end Go.Vc.Cp
