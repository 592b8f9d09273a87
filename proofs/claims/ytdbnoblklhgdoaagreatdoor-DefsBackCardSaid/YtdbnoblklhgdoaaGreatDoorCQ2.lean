import Derived.Test.YtdbnoblklhgdoaaGreatDoorCQ1
set_option linter.unusedVariables false
set_option linter.unusedSimpArgs false
set_option maxHeartbeats 1000000
namespace Go.Vc.Cp
open Go Go.Vc
def u2 (p : Nat -> Bool) (j : Nat) : Nat := (BitVec.ofBoolListLE ((List.range 64).map fun i => p (64 * j + i))).toNat
theorem gU (p : Nat -> Bool) (j : Nat) : u2 p j < 2 ^ 64 := by
 unfold u2
 have := (BitVec.ofBoolListLE ((List.range 64).map fun i => p (64 * j + i))).isLt
 simpa using this
theorem wordP_bit (p : Nat -> Bool) (j i : Nat) (hi : i < 64) : (u2 p j).testBit i = p (64 * j + i) := by
 unfold u2
 rw [BitVec.testBit_toNat, BitVec.getLsbD_ofBoolListLE, List.getD_eq_getElem?_getD]
 simp [hi]
def uI (p : Nat -> Bool) : S4 := ⟨u2 p 0, u2 p 1, u2 p 2, u2 p 3⟩
theorem okS_ofP (p : Nat -> Bool) : okS (uI p) := ⟨kH (gU p 0), kH (gU p 1), kH (gU p 2), kH (gU p 3)⟩
theorem vZ (p : Nat -> Bool) {i : Nat} (hi : i < 256) : qp (uI p) i = p i := by
 unfold qp uI
 have hc : i / 64 = 0 \/ i / 64 = 1 \/ i / 64 = 2 \/ i / 64 = 3 := by omega
 rcases hc with hc | hc | hc | hc <;> rw [hc] <;> simp only [S4.get, Int.toNat_natCast] <;> rw [wordP_bit _ _ _ (by omega)] <;> congr 1 <;> omega
theorem S4_ext {a b : S4} (ha : okS a) (hb : okS b) (h : ∀ i, i < 256 -> qp a i = qp b i) : a = b := by
 have key : ∀ j : Nat, j < 4 -> ∀ i : Nat, i < 64 -> (a.get (j : Int)).toNat.testBit i = (b.get (j : Int)).toNat.testBit i := by
  intro j hj i hi
  have := h (64 * j + i) (by omega)
  unfold qp at this
  have e1 : (64 * j + i) / 64 = j := by omega
  have e2 : (64 * j + i) % 64 = i := by omega
  rw [e1, e2] at this
  exact this
 obtain ⟨a0, a1, a2, a3⟩ := a
 obtain ⟨b0, b1, b2, b3⟩ := b
 obtain ⟨h0, h1, h2, h3⟩ := ha
 obtain ⟨g0, g1, g2, g3⟩ := hb
 have e0 := gT h0 g0 (key 0 (by decide))
 have e1 := gT h1 g1 (key 1 (by decide))
 have e2 := gT h2 g2 (key 2 (by decide))
 have e3 := gT h3 g3 (key 3 (by decide))
 simp only at e0 e1 e2 e3
 subst e0 e1 e2 e3
 rfl
theorem kN {p q : Nat -> Bool} (h : ∀ i, i < 256 -> p i = q i) : uI p = uI q := S4_ext (okS_ofP _) (okS_ofP _) (fun i hi => by rw [vZ _ hi, vZ _ hi, h i hi])
theorem uR {s : S4} (hs : okS s) {p : Nat -> Bool} (h : ∀ i, i < 256 -> qp s i = p i) : s = uI p := S4_ext hs (okS_ofP _) (fun i hi => by rw [vZ _ hi, h i hi])
theorem ofP_none : (S4.mk 0 0 0 0) = uI (fun _ => false) := by
 refine uR ⟨⟨by decide, by decide⟩, ⟨by decide, by decide⟩, ⟨by decide, by decide⟩, ⟨by decide, by decide⟩⟩ (fun i hi => ?_)
 unfold qp
 have hc : i / 64 = 0 \/ i / 64 = 1 \/ i / 64 = 2 \/ i / 64 = 3 := by omega
 rcases hc with hc | hc | hc | hc <;> rw [hc] <;> simp [S4.get]
theorem op_ofP {g : Int -> Int -> Int} {f : Bool -> Bool -> Bool} (hg : ∀ x y, gp x -> gp y -> gp (g x y) /\ ∀ i, i < 64 -> (g x y).toNat.testBit i = f (x.toNat.testBit i) (y.toNat.testBit i)) {a b : S4} (ha : okS a) (hb : okS b) :
  S4.mk (g a.w0 b.w0) (g a.w1 b.w1) (g a.w2 b.w2) (g a.w3 b.w3) = uI (fun i => f (qp a i) (qp b i)) := by
 obtain ⟨h0, h1, h2, h3⟩ := ha
 obtain ⟨g0, g1, g2, g3⟩ := hb
 refine uR ⟨(hg _ _ h0 g0).1, (hg _ _ h1 g1).1, (hg _ _ h2 g2).1, (hg _ _ h3 g3).1⟩ (fun i hi => ?_)
 unfold qp
 have hc : i / 64 = 0 \/ i / 64 = 1 \/ i / 64 = 2 \/ i / 64 = 3 := by omega
 rcases hc with hc | hc | hc | hc <;> rw [hc] <;> simp only [S4.get, Int.toNat_natCast]
 ·exact (hg _ _ h0 g0).2 _ (Nat.mod_lt _ (by decide))
 ·exact (hg _ _ h1 g1).2 _ (Nat.mod_lt _ (by decide))
 ·exact (hg _ _ h2 g2).2 _ (Nat.mod_lt _ (by decide))
 ·exact (hg _ _ h3 g3).2 _ (Nat.mod_lt _ (by decide))
theorem Union_ok {a b : S4} (ha : okS a) (hb : okS b) {k : Nat} (hk : 5 <= k) : qc.Union k a b = some (uI fun i => qp a i || qp b i) := by
 obtain ⟨k, rfl⟩ : ∃ k', k = k' + 5 := ⟨k - 5, by omega⟩
 have e : qc.Union (k + 5) a b = some (S4.mk (gor .u64 a.w0 b.w0) (gor .u64 a.w1 b.w1) (gor .u64 a.w2 b.w2) (gor .u64 a.w3 b.w3)) := rfl
 rw [e, op_ofP (g := gor .u64) (f := or) (fun x y hx hy => ?_) ha hb]
 rw [gor_nat hx hy]
 refine ⟨kH (Nat.or_lt_two_pow (ko hx) (ko hy)), fun i _ => ?_⟩
 rw [Int.toNat_natCast, Nat.testBit_or]
theorem Not_ok {a : S4} (ha : okS a) {k : Nat} (hk : 5 <= k) : qc.Not k a = some (uI fun i => !qp a i) := by
 obtain ⟨k, rfl⟩ : ∃ k', k = k' + 5 := ⟨k - 5, by omega⟩
 have e : qc.Not (k + 5) a = some (S4.mk (gu .u64 a.w0) (gu .u64 a.w1) (gu .u64 a.w2) (gu .u64 a.w3)) := rfl
 rw [e, op_ofP (g := fun x _ => gu .u64 x) (f := fun x _ => !x) (fun x y hx _ => ?_) ha ha]
 exact ⟨(gnot_bit hx 0 (by decide)).1, fun i hi => (gnot_bit hx i hi).2⟩
theorem set_ofP {s : S4} (hs : okS s) {n : Nat} (hn : n < 256) {w : Int} (hw : gp w) {p : Nat -> Bool} (h1 : ∀ r, r < 64 -> w.toNat.testBit r = p (64 * (n / 64) + r)) (h2 : ∀ x, x < 256 -> x / 64 ≠ n / 64 -> qp s x = p x) :
  S4.set s ((n / 64 : Nat) : Int) w = uI p := by
 have key : ∀ t : S4, okS t -> (∀ j : Nat, j < 4 -> (t.get (j : Int)) = if j = n / 64 then w else s.get (j : Int)) -> t = uI p := by
  intro t ht hg
  refine uR ht (fun i hi => ?_)
  unfold qp
  rw [hg (i / 64) (by omega)]
  by_cases he : i / 64 = n / 64
  ·rw [if_pos he, h1 _ (Nat.mod_lt _ (by decide)), <- he]
   congr 1
   omega
  ·rw [if_neg he]
   exact h2 i hi he
 obtain ⟨g0, g1, g2, g3⟩ := hs
 have hc : n / 64 = 0 \/ n / 64 = 1 \/ n / 64 = 2 \/ n / 64 = 3 := by omega
 have j4 : ∀ j : Nat, j < 4 -> j = 0 \/ j = 1 \/ j = 2 \/ j = 3 := by intro j hj; omega
 rcases hc with hc | hc | hc | hc <;> rw [hc] at key ⊢
 ·exact key _ ⟨hw, g1, g2, g3⟩ (fun j hj => by rcases j4 j hj with rfl | rfl | rfl | rfl <;> rfl)
 ·exact key _ ⟨g0, hw, g2, g3⟩ (fun j hj => by rcases j4 j hj with rfl | rfl | rfl | rfl <;> rfl)
 ·exact key _ ⟨g0, g1, hw, g3⟩ (fun j hj => by rcases j4 j hj with rfl | rfl | rfl | rfl <;> rfl)
 ·exact key _ ⟨g0, g1, g2, hw⟩ (fun j hj => by rcases j4 j hj with rfl | rfl | rfl | rfl <;> rfl)
theorem gshl_one {r : Nat} (hr : r < 64) : gshl .u64 1 (r : Int) = ((2 ^ r : Nat) : Int) := by
 have hp : 2 ^ r < 2 ^ 64 := Nat.pow_lt_pow_right (by decide) hr
 show IntKind.wrap .u64 (1 * 2 ^ (min (r : Int).toNat 64)) = _
 have e : min (r : Int).toNat 64 = r := by omega
 rw [e, Int.one_mul]
 have : ((2 : Int) ^ r) = ((2 ^ r : Nat) : Int) := by norm_cast
 rw [this, gR hp]
theorem orbit {s : S4} (hs : okS s) {n : Nat} (hn : n < 256) :
  S4.set s ((n / 64 : Nat) : Int) (gor .u64 (S4.get s ((n / 64 : Nat) : Int)) (gshl .u64 1 ((n % 64 : Nat) : Int))) = uI (fun x => qp s x || x == n) := by
 have hw := get_ok hs ((n / 64 : Nat) : Int)
 have hp : 2 ^ (n % 64) < 2 ^ 64 := Nat.pow_lt_pow_right (by decide) (Nat.mod_lt _ (by decide))
 rw [gshl_one (Nat.mod_lt _ (by decide)), gor_nat hw (kH hp), Int.toNat_natCast]
 refine set_ofP hs hn (kH (Nat.or_lt_two_pow (ko hw) hp)) (fun r hr => ?_) (fun x hx hne => ?_)
 ·rw [Int.toNat_natCast, Nat.testBit_or, Nat.testBit_two_pow]
  unfold qp
  have e1 : (64 * (n / 64) + r) / 64 = n / 64 := by omega
  have e2 : (64 * (n / 64) + r) % 64 = r := by omega
  rw [e1, e2]
  congr 1
  rw [Bool.eq_iff_iff]
  simp
  omega
 ·have : (x == n) = false := by simp; intro h; exact hne (by rw [h])
  rw [this, Bool.or_false]
theorem Range_l1 {h : Nat} (hh : h < 256) (d : Nat) : ∀ (j i : Nat) (s : S4), okS s -> i + d = h + 1 -> d < j -> qc.Range_l1 (h : Int) j (i : Int) s = some (uI fun x => qp s x || (decide (i <= x) && decide (x <= h))) := by
 induction d with
 | zero =>
  intro j i s hs hi hj
  cases j with
  | zero => omega
  | succ j =>
   simp only [qc.Range_l1]
   rw [if_neg (by rw [decide_eq_true_eq]; omega)]
   refine congrArg some (uR hs (fun x _ => ?_))
   have : (decide (i <= x) && decide (x <= h)) = false := by simp; omega
   rw [this, Bool.or_false]
 | succ d ih =>
  intro j i s hs hi hj
  cases j with
  | zero => omega
  | succ j =>
   have hi2 : i < 256 := by omega
   simp only [qc.Range_l1, idx_i64 hi2, (idx_u8 hi2).2]
   rw [if_pos (by rw [decide_eq_true_eq]; omega), if_pos (by rw [yy]; omega), if_neg (by rw [decide_eq_true_eq]; omega), orbit hs hi2, xR (by omega), ih j (i + 1) _ (okS_ofP _) (by omega) (by omega)]
   refine congrArg some (kN (fun x hx => ?_))
   rw [vZ _ hx]
   cases qp s x with
   | true => rfl
   | false =>
    rw [Bool.eq_iff_iff]
    simp
    omega
theorem okS_none : okS (S4.mk 0 0 0 0) := by rw [ofP_none]; exact okS_ofP _
theorem bit_none {i : Nat} (hi : i < 256) : qp (S4.mk 0 0 0 0) i = false := by rw [ofP_none, vZ _ hi]
def uE (lo hi : Int) : S4 × Int := if lo < 0 then (S4.mk 0 0 0 0, 10) else if 255 < hi then (S4.mk 0 0 0 0, 10) else if hi < lo then (S4.mk 0 0 0 0, 10) else (uI fun x => decide (lo <= (x : Int)) && decide ((x : Int) <= hi), 0)
theorem Range_ok {lo hi : Int} {k : Nat} (hk : 300 <= k) : qc.Range k lo hi = some (uE lo hi) := by
 unfold qc.Range uE
 simp only [decide_eq_true_eq]
 split
 ·rfl
 split
 ·rfl
 split
 ·rfl
 have e1 : hi = ((hi.toNat : Nat) : Int) := by omega
 have e2 : lo = ((lo.toNat : Nat) : Int) := by omega
 rw [e1, e2, Range_l1 (by omega) (hi.toNat + 1 - lo.toNat) k lo.toNat _ okS_none (by omega) (by omega), Option.bind_some]
 refine congrArg some (congrArg (fun z => (z, (0 : Int))) (kN (fun x hx => ?_)))
 rw [bit_none hx, Bool.eq_iff_iff]
 simp
 omega
def kx (c : Nat) : Nat := if 48 <= c /\ c <= 57 then c - 48 else if 97 <= c /\ c <= 102 then c - 97 + 10 else if 65 <= c /\ c <= 70 then c - 65 + 10 else 16
theorem ydigit_all : ∀ c : _root_.Fin 256, qc.digit (c.val : Int) = some (if kx c.val < 16 then (kx c.val : Int) else -1) := by decide +kernel
def yspec9 (c : Nat) : Nat := if c = 10 then 110 else if c = 9 then 116 else if c = 13 then 114 else if c = 32 then 115 else if c = 91 \/ c = 93 \/ c = 92 \/ c = 45 \/ c = 94 then c else 0
def uZ (c : Nat) : Nat := if c = 110 then 10 else if c = 116 then 9 else if c = 114 then 13 else if c = 115 then 32 else if c = 91 \/ c = 93 \/ c = 92 \/ c = 45 \/ c = 94 then c else 256
def qf : List UInt8 -> Nat × Nat × Nat
 | a :: b :: _ => if kx a.toNat < 16 /\ kx b.toNat < 16 then (16 * kx a.toNat + kx b.toNat, 4, 0) else (0, 0, 12)
 | _ => (0, 0, 12)
def wo : List UInt8 -> Nat × Nat × Nat
 | [] => (0, 0, 12)
 | d :: r => if d.toNat = 120 then qf r else if uZ d.toNat < 256 then (uZ d.toNat, 2, 0) else (0, 0, 12)
def wa : List UInt8 -> Nat × Nat × Nat
 | [] => (0, 0, 14)
 | c :: r => if c.toNat ≠ 92 then (if c.toNat <= 32 \/ 127 <= c.toNat \/ yspec9 c.toNat ≠ 0 then (0, 0, 11) else (c.toNat, 1, 0)) else wo r
theorem yu8_lt (c : UInt8) : c.toNat < 256 := c.toNat_lt
theorem yhexv_le (c : Nat) : kx c <= 16 := by unfold kx; split <;> (try split) <;> (try split) <;> omega
theorem yhexS_spec (r : List UInt8) : (qf r).1 < 256 /\ ((qf r).2.2 = 0 -> (qf r).2.1 = 4 /\ 2 <= r.length) := by
 match r with
 | [] => simp [qf]
 | [a] => simp [qf]
 | a :: b :: r =>
  simp only [qf]
  split
  ·simp; omega
  ·simp
theorem yescS_spec (r : List UInt8) : (wo r).1 < 256 /\ ((wo r).2.2 = 0 -> 2 <= (wo r).2.1 /\ (wo r).2.1 <= r.length + 1) := by
 match r with
 | [] => simp [wo]
 | d :: r =>
  simp only [wo]
  split
  ·have := yhexS_spec r
   refine ⟨this.1, fun h => ?_⟩
   have := this.2 h
   simp
   omega
  ·split
   ·simp; omega
   ·simp
theorem jN (r : List UInt8) : (wa r).1 < 256 /\ ((wa r).2.2 = 0 -> 1 <= (wa r).2.1 /\ (wa r).2.1 <= r.length) := by
 match r with
 | [] => simp [wa]
 | c :: r =>
  have := yu8_lt c
  simp only [wa]
  split
  ·split <;> simp <;> omega
  ·have := yescS_spec r
   refine ⟨this.1, fun h => ?_⟩
   have := this.2 h
   simp
   omega
theorem uu (c : UInt8) : qc.digit (c.toNat : Int) = some (if kx c.toNat < 16 then (kx c.toNat : Int) else -1) := ydigit_all ⟨c.toNat, yu8_lt c⟩
theorem ydrop_cons {t : List UInt8} {i : Nat} (hi : i < t.length) : ∃ c r, t.drop i = c :: r /\ r.length + i + 1 = t.length /\ yk t (i : Int) = (c.toNat : Int) := by
 refine ⟨t[i], t.drop (i + 1), List.drop_eq_getElem_cons hi, by rw [List.length_drop]; omega, ?_⟩
 unfold yk
 rw [Int.toNat_natCast, List.getD_eq_getElem?_getD, List.getElem?_eq_getElem hi]; rfl
theorem qN {t : List UInt8} {i : Nat} (_ : i <= t.length) : sub t (i : Int) (t.length : Int) = t.drop i := by
 unfold sub
 rw [Int.toNat_natCast, Int.toNat_natCast]
 apply List.take_of_length_le
 simp
def ycharR (t : List UInt8) (i : Nat) (rd : zl) : Int × Fault × zl :=
 if (wa (t.drop i)).2.2 = 0 then (((wa (t.drop i)).1 : Int), ⟨0, 0⟩, ⟨t, ((i + (wa (t.drop i)).2.1 : Nat) : Int)⟩) else (0, ⟨(i : Int), ((wa (t.drop i)).2.2 : Int)⟩, rd)
theorem yescaped_ok {t : List UInt8} (ht : t.length < 100000) {i : Nat} (hi : i < t.length) : ∃ rd, qc.reader_escaped ⟨t, (i : Int)⟩ = some
  (if (wo (t.drop (i + 1))).2.2 = 0 then (((wo (t.drop (i + 1))).1 : Int), ⟨0, 0⟩, ⟨t, ((i + (wo (t.drop (i + 1))).2.1 : Nat) : Int)⟩) else (0, ⟨(i : Int), ((wo (t.drop (i + 1))).2.2 : Int)⟩, rd)) := by
 have w1 : IntKind.wrap .i64 ((i : Int) + 1) = ((i + 1 : Nat) : Int) := xR (by omega)
 have w2 : IntKind.wrap .i64 ((i : Int) + 2) = ((i + 2 : Nat) : Int) := by rw [zO (by omega) (by omega)]; rfl
 have w4 : IntKind.wrap .i64 (((i + 2 : Nat) : Int) + 2) = ((i + 4 : Nat) : Int) := by rw [zO (by omega) (by omega)]; omega
 have hok : vp ((i + 1 : Nat) : Int) (t.length : Int) t.length = true := by rw [qS]; omega
 unfold qc.reader_escaped
 simp only [w1, w2, hok, if_true, qN (show i + 1 <= t.length by omega)]
 generalize hr : t.drop (i + 1) = r
 have hrl : r.length = t.length - (i + 1) := by rw [<- hr, List.length_drop]
 match r, hrl, hr with
 | [], hrl, hr => exact ⟨⟨t, (i : Int)⟩, by simp [wo]⟩
 | d :: r, hrl, hr =>
  simp only [List.length_cons] at hrl
  have hs0 : yk (d :: r) 0 = (d.toNat : Int) := rfl
  have hd := yu8_lt d
  have hbad : qc.reader_escaped_j1 ⟨t, (i : Int)⟩ = some (0, ⟨(i : Int), 12⟩, ⟨t, ((i + 2 : Nat) : Int)⟩) := by
   unfold qc.reader_escaped_j1
   simp only [w2]
  have hin0 : xf 0 (d :: r).length = true := by rw [yy]; simp
  have hne : ((d :: r) == ([] : List UInt8)) = false := by simp
  have good : ∀ m : Nat, m ≠ 120 -> d.toNat = m -> uZ m < 256 -> qc.reader_escaped_j1 ⟨t, (i : Int)⟩ = qc.reader_escaped_j1 ⟨t, (i : Int)⟩ -> ∀ (v : Int) (rd : zl), v = (uZ m : Int) -> some (v, (⟨0, 0⟩ : Fault), (⟨t, ((i + 2 : Nat) : Int)⟩ : zl)) = some
    (if (wo (d :: r)).2.2 = 0 then (((wo (d :: r)).1 : Int), ⟨0, 0⟩, ⟨t, ((i + (wo (d :: r)).2.1 : Nat) : Int)⟩) else (0, ⟨(i : Int), ((wo (d :: r)).2.2 : Int)⟩, rd)) := by
   intro m hm hdm hlt _ v rd hv
   have : wo (d :: r) = (uZ m, 2, 0) := by
    simp only [wo]
    rw [hdm, if_neg hm, if_pos hlt]
   rw [this, hv]
   rfl
  rw [if_neg (by rw [hne]; simp), if_pos hin0, hs0]
  by_cases c1 : d.toNat = 110
  ·rw [if_pos (by simp [c1])]
   exact ⟨⟨t, 0⟩, good 110 (by decide) c1 (by decide) rfl _ _ (by decide)⟩
  rw [if_neg (by simp; omega)]
  by_cases c2 : d.toNat = 116
  ·rw [if_pos (by simp [c2])]
   exact ⟨⟨t, 0⟩, good 116 (by decide) c2 (by decide) rfl _ _ (by decide)⟩
  rw [if_neg (by simp; omega)]
  by_cases c3 : d.toNat = 114
  ·rw [if_pos (by simp [c3])]
   exact ⟨⟨t, 0⟩, good 114 (by decide) c3 (by decide) rfl _ _ (by decide)⟩
  rw [if_neg (by simp; omega)]
  by_cases c4 : d.toNat = 115
  ·rw [if_pos (by simp [c4])]
   exact ⟨⟨t, 0⟩, good 115 (by decide) c4 (by decide) rfl _ _ (by decide)⟩
  rw [if_neg (by simp; omega)]
  have j3t : qc.reader_escaped_j3 ⟨t, (i : Int)⟩ true = some (IntKind.wrap .i64 (d.toNat : Int), (⟨0, 0⟩ : Fault), (⟨t, ((i + 2 : Nat) : Int)⟩ : zl)) := by
   unfold qc.reader_escaped_j3
   simp only [w1, w2, qN (show i + 1 <= t.length by omega), hr, hs0, if_true]
  by_cases c5 : d.toNat = 91
  ·rw [if_pos (by simp [c5]), show ((d.toNat : Int) == 91) = true by simp [c5], j3t, c5]
   exact ⟨⟨t, 0⟩, good 91 (by decide) c5 (by decide) rfl _ _ (by decide)⟩
  rw [if_neg (by simp; omega)]
  by_cases c6 : d.toNat = 93
  ·rw [if_pos (by simp [c6]), show ((d.toNat : Int) == 93) = true by simp [c6], j3t, c6]
   exact ⟨⟨t, 0⟩, good 93 (by decide) c6 (by decide) rfl _ _ (by decide)⟩
  rw [if_neg (by simp; omega)]
  simp only [qc.reader_escaped_j6]
  by_cases c7 : d.toNat = 92
  ·rw [if_pos (by simp [c7]), show ((d.toNat : Int) == 92) = true by simp [c7], j3t, c7]
   exact ⟨⟨t, 0⟩, good 92 (by decide) c7 (by decide) rfl _ _ (by decide)⟩
  rw [if_neg (by simp; omega)]
  by_cases c8 : d.toNat = 45
  ·rw [if_pos (by simp [c8]), show ((d.toNat : Int) == 45) = true by simp [c8], j3t, c8]
   exact ⟨⟨t, 0⟩, good 45 (by decide) c8 (by decide) rfl _ _ (by decide)⟩
  rw [if_neg (by simp; omega)]
  by_cases c9 : d.toNat = 94
  ·rw [show ((d.toNat : Int) == 94) = true by simp [c9], j3t, c9]
   exact ⟨⟨t, 0⟩, good 94 (by decide) c9 (by decide) rfl _ _ (by decide)⟩
  rw [show ((d.toNat : Int) == 94) = false by simp; omega]
  have he : uZ d.toNat = 256 := by
   unfold uZ
   rw [if_neg c1, if_neg c2, if_neg c3, if_neg c4, if_neg (by omega)]
  unfold qc.reader_escaped_j3 qc.reader_escaped_j4 qc.reader_escaped_j2
  simp only [w1, qN (show i + 1 <= t.length by omega), hr, hs0, Bool.false_eq_true, if_false, hbad]
  refine ⟨⟨t, ((i + 2 : Nat) : Int)⟩, ?_⟩
  by_cases c10 : d.toNat = 120
  ·rw [if_pos (by simp [c10])]
   have hes : wo (d :: r) = qf r := by simp only [wo]; rw [if_pos c10]
   rw [hes]
   match r, hrl, hr with
   | a :: b :: r', hrl, hr =>
    simp only [List.length_cons] at hrl
    have hs1 : yk (d :: a :: b :: r') 1 = (a.toNat : Int) := rfl
    have hs2 : yk (d :: a :: b :: r') 2 = (b.toNat : Int) := rfl
    have va := yhexv_le a.toNat
    have vb := yhexv_le b.toNat
    have hi1 : xf 1 (d :: a :: b :: r').length = true := by rw [yy]; simp; omega
    have hi2 : xf 2 (d :: a :: b :: r').length = true := by rw [yy]; simp; omega
    rw [if_pos (by rw [decide_eq_true_eq]; simp; omega), if_pos hi1, hs1, hs2, uu, uu, if_pos hi2]
    unfold qc.reader_escaped_j5 qc.reader_escaped_j4 qc.reader_escaped_j2
    simp only [w1, w2, w4, qN (show i + 1 <= t.length by omega), hr, hbad, hi1, hi2, hs1, hs2, uu, if_true, Option.bind_some, qf]
    by_cases h1 : kx a.toNat < 16
    ·by_cases h2 : kx b.toNat < 16
     ·simp only [h1, h2, if_true, and_self]
      rw [if_pos (by rw [decide_eq_true_eq]; omega), if_pos (by rw [decide_eq_true_eq]; omega)]
      rw [zO (n := 16 * _) (by omega) (by omega), zO (by omega) (by omega)]
      simp only [Int.natCast_add, Int.natCast_mul]
      rfl
     ·simp only [h1, h2, if_true, if_false, and_false]
      simp
    ·simp only [h1, if_false, false_and]
     simp
   | [], hrl, hr =>
    unfold qc.reader_escaped_j5 qc.reader_escaped_j4 qc.reader_escaped_j2
    simp only [hbad, qf]
    rw [if_neg (by rw [decide_eq_true_eq]; simp)]
    simp
   | [a], hrl, hr =>
    unfold qc.reader_escaped_j5 qc.reader_escaped_j4 qc.reader_escaped_j2
    simp only [hbad, qf]
    rw [if_neg (by rw [decide_eq_true_eq]; simp)]
    simp
  ·rw [if_neg (by simp; omega)]
   have hes : wo (d :: r) = (0, 0, 12) := by
    simp only [wo]
    rw [if_neg c10, if_neg (by omega)]
   rw [hes]
   simp
theorem ychar_ok {t : List UInt8} (ht : t.length < 100000) {i : Nat} (hi : i <= t.length) : ∃ rd, qc.reader_char ⟨t, (i : Int)⟩ = some (ycharR t i rd) := by
 unfold qc.reader_char ycharR
 by_cases h0 : i = t.length
 ·rw [if_pos (by rw [decide_eq_true_eq]; simp only; omega), List.drop_eq_nil_of_le (by omega)]
  refine ⟨⟨t, (i : Int)⟩, ?_⟩
  subst h0
  simp [wa]
 ·obtain ⟨c, r, hd, hr, hc⟩ := ydrop_cons (t := t) (i := i) (by omega)
  have hd1 : t.drop (i + 1) = r := by rw [<- List.drop_drop, hd]; rfl
  have hcl := yu8_lt c
  rw [if_neg (by rw [decide_eq_true_eq]; simp only; omega), if_pos (by rw [yy]; simp only; omega)]
  simp only [hc, hd]
  by_cases h92 : c.toNat = 92
  ·have ho : wa (c :: r) = wo r := by simp only [wa]; rw [if_neg (by simp [h92])]
   rw [if_pos (by simp [h92]), ho]
   obtain ⟨rd, hE⟩ := yescaped_ok ht (i := i) (by omega)
   rw [hd1] at hE
   refine ⟨rd, ?_⟩
   rw [hE, Option.bind_some]
  ·have hbad : (c.toNat <= 32 \/ 127 <= c.toNat \/ yspec9 c.toNat ≠ 0) -> wa (c :: r) = (0, 0, 11) := by
    intro h
    simp only [wa]
    rw [if_pos h92, if_pos h]
   rw [if_neg (by simp; omega)]
   refine ⟨⟨t, (i : Int)⟩, ?_⟩
   simp only [qc.reader_char_j1]
   have w1 : IntKind.wrap .i64 ((i : Int) + 1) = ((i + 1 : Nat) : Int) := xR (by omega)
   by_cases c1 : c.toNat <= 32
   ·rw [if_pos (by rw [decide_eq_true_eq]; omega), hbad (.inl c1)]; simp
   rw [if_neg (by rw [decide_eq_true_eq]; omega)]
   by_cases c2 : 127 <= c.toNat
   ·rw [if_pos (by rw [decide_eq_true_eq]; omega), hbad (.inr (.inl c2))]; simp
   rw [if_neg (by rw [decide_eq_true_eq]; omega)]
   by_cases c3 : c.toNat = 91
   ·rw [if_pos (by simp [c3]), hbad (by rw [c3]; decide)]; simp
   rw [if_neg (by simp; omega)]
   by_cases c4 : c.toNat = 93
   ·rw [if_pos (by simp [c4]), hbad (by rw [c4]; decide)]; simp
   rw [if_neg (by simp; omega)]
   by_cases c5 : c.toNat = 45
   ·rw [if_pos (by simp [c5]), hbad (by rw [c5]; decide)]; simp
   rw [if_neg (by simp; omega)]
   by_cases c6 : c.toNat = 94
   ·rw [show ((c.toNat : Int) == 94) = true by simp [c6], hbad (by rw [c6]; decide)]; simp
   rw [show ((c.toNat : Int) == 94) = false by simp; omega]
   have hs : yspec9 c.toNat = 0 := by
    unfold yspec9
    rw [if_neg (by omega), if_neg (by omega), if_neg (by omega), if_neg (by omega), if_neg (by omega)]
   have ho : wa (c :: r) = (c.toNat, 1, 0) := by
    simp only [wa]
    rw [if_pos h92, if_neg (by rw [hs]; omega)]
   rw [ho, w1, zO (by omega) (by omega)]
   simp [hc]
inductive ItemR where
 | err (a c : Nat)
 | ok (lo hi next : Nat)
def itemS (t : List UInt8) (i : Nat) : ItemR :=
 let o := wa (t.drop i)
 if o.2.2 ≠ 0 then .err i o.2.2 else
 if t[i + o.2.1]? = some 45 then
  let p := wa (t.drop (i + o.2.1 + 1))
  if p.2.2 ≠ 0 then .err (i + o.2.1 + 1) p.2.2 else if p.1 < o.1 then .err i 10 else .ok o.1 p.1 (i + o.2.1 + 1 + p.2.1)
 else .ok o.1 o.1 (i + o.2.1)
def rngS (s : S4) (lo hi : Nat) : S4 := uI fun x => qp s x || (decide (lo <= x) && decide (x <= hi))
theorem okS_rng (s : S4) (lo hi : Nat) : okS (rngS s lo hi) := okS_ofP _
def parseL (t : List UInt8) : Nat -> Nat -> S4 -> Option (LR (Nat × S4) Fault)
 | 0, _, _ => none
 | j + 1, i, s => if t[i]? = some 93 then some (.done (i, s)) else match itemS t i with
  | .err a c => some (.ret ⟨(a : Int), (c : Int)⟩)
  | .ok lo hi nx => parseL t j nx (rngS s lo hi)
theorem byte_eq {t : List UInt8} {i : Nat} (hi : i < t.length) (m : UInt8) : (yk t (i : Int) == (m.toNat : Int)) = decide (t[i]? = some m) := by
 unfold yk
 rw [Int.toNat_natCast, List.getD_eq_getElem?_getD, List.getElem?_eq_getElem hi]
 rw [Bool.eq_iff_iff]
 simp only [Option.getD_some, beq_iff_eq, decide_eq_true_eq, Option.some.injEq]
 constructor
 ·intro h
  apply UInt8.toNat_inj.1
  omega
 ·intro h; rw [h]
theorem itemS_spec {t : List UInt8} {i lo hi nx : Nat} (h : itemS t i = .ok lo hi nx) (hi' : i <= t.length) : lo <= hi /\ hi < 256 /\ i < nx /\ nx <= t.length := by
 unfold itemS at h
 have h1 := jN (t.drop i)
 simp only at h
 split at h
 ·cases h
 rename_i e1
 have h1' := h1.2 (by simpa using e1)
 rw [List.length_drop] at h1'
 split at h
 ·have h2 := jN (t.drop (i + (wa (t.drop i)).2.1 + 1))
  split at h
  ·cases h
  rename_i e2
  split at h
  ·cases h
  rename_i g e3
  have h2' := h2.2 (by simpa using e2)
  rw [List.length_drop] at h2'
  simp only [ItemR.ok.injEq] at h
  obtain ⟨rfl, rfl, rfl⟩ := h
  omega
 ·simp only [ItemR.ok.injEq] at h
  obtain ⟨rfl, rfl, rfl⟩ := h
  omega
theorem rangeR_nat {lo hi : Nat} (h1 : lo <= hi) (h2 : hi < 256) : uE (lo : Int) (hi : Int) = (uI fun x => decide (lo <= x) && decide (x <= hi), 0) := by
 unfold uE
 rw [if_neg (by omega), if_neg (by omega), if_neg (by omega)]
 refine congrArg (fun z => (z, (0 : Int))) (kN (fun x _ => ?_))
 rw [Bool.eq_iff_iff]
 simp
theorem rangeR_bad {lo hi : Nat} (h1 : hi < lo) (h2 : lo < 256) : uE (lo : Int) (hi : Int) = (S4.mk 0 0 0 0, 10) := by
 unfold uE
 rw [if_neg (by omega), if_neg (by omega), if_pos (by omega)]
def itemO (t : List UInt8) (i : Nat) (rd : zl) : S4 × Fault × zl := match itemS t i with
 | .err a c => (S4.mk 0 0 0 0, ⟨(a : Int), (c : Int)⟩, rd)
 | .ok lo hi nx => (uI fun x => decide (lo <= x) && decide (x <= hi), ⟨0, 0⟩, ⟨t, (nx : Int)⟩)
theorem yitem_ok {t : List UInt8} (ht : t.length < 90000) {k : Nat} (hk : 300 <= k) {i : Nat} (hi : i <= t.length) : ∃ rd, qc.reader_item k ⟨t, (i : Int)⟩ = some (itemO t i rd) := by
 obtain ⟨rd, hc⟩ := ychar_ok (t := t) (by omega) hi
 unfold qc.reader_item
 rw [hc, Option.bind_some]
 have h1 := jN (t.drop i)
 unfold ycharR itemO itemS
 generalize hog : wa (t.drop i) = o at *
 by_cases he : o.2.2 = 0
 ·have h1' := h1.2 he
  rw [List.length_drop] at h1'
  rw [if_pos he]
  simp only [he]
  rw [if_neg (show ¬ ((0 : Int) != 0) = true by decide), if_neg (show ¬ ((0 : Nat) ≠ 0) by decide)]
  have j2 : ∀ (hi' : Nat) (a c : Int) (nx : Nat) (g : Int × Fault × zl), g.1 = (o.1 : Int) -> hi' < 256 -> qc.reader_item_j2 k g (zl.mk t (i : Int)) (hi' : Int) t (nx : Int) a c =
    some (if hi' < o.1 then (S4.mk 0 0 0 0, ⟨(i : Int), 10⟩, ⟨t, (nx : Int)⟩) else (uI fun x => decide (o.1 <= x) && decide (x <= hi'), ⟨0, 0⟩, ⟨t, (nx : Int)⟩)) := by
   intro hi' a c nx g hg hlt
   unfold qc.reader_item_j2
   rw [hg, Range_ok hk, Option.bind_some]
   by_cases hb : hi' < o.1
   ·rw [rangeR_bad hb h1.1, if_pos hb]; rfl
   ·rw [rangeR_nat (by omega) hlt, if_neg hb]; rfl
  by_cases hn : i + o.2.1 < t.length
  ·rw [if_pos (by rw [decide_eq_true_eq]; omega), if_pos (by rw [yy]; omega)]
   have hb := byte_eq hn 45
   have hb' : (yk t ((i + o.2.1 : Nat) : Int) == 45) = decide (t[i + o.2.1]? = some 45) := hb
   rw [hb']
   unfold qc.reader_item_j1
   by_cases h45 : t[i + o.2.1]? = some 45
   ·rw [if_pos (by simpa using h45), if_pos h45]
    have w1 : IntKind.wrap .i64 (((i + o.2.1 : Nat) : Int) + 1) = ((i + o.2.1 + 1 : Nat) : Int) := xR (by omega)
    obtain ⟨rd2, hc2⟩ := ychar_ok (t := t) (by omega) (i := i + o.2.1 + 1) (by omega)
    rw [w1, hc2, Option.bind_some]
    have h2 := jN (t.drop (i + o.2.1 + 1))
    unfold ycharR
    generalize wa (t.drop (i + o.2.1 + 1)) = p at *
    by_cases he2 : p.2.2 = 0
    ·rw [if_pos he2]
     simp only [he2]
     rw [if_neg (show ¬ ((0 : Int) != 0) = true by decide), if_neg (show ¬ ((0 : Nat) ≠ 0) by decide), j2 p.1 _ _ _ _ rfl h2.1]
     by_cases hb : p.1 < o.1
     ·rw [if_pos hb, if_pos hb]; exact ⟨⟨t, _⟩, rfl⟩
     ·rw [if_neg hb, if_neg hb]; exact ⟨rd, rfl⟩
    ·rw [if_neg he2]
     simp only
     rw [if_pos (by simp; omega), if_pos he2]
     exact ⟨rd2, rfl⟩
   ·rw [if_neg (by simpa using h45), if_neg h45, j2 o.1 _ _ _ _ rfl h1.1, if_neg (by omega)]
    exact ⟨rd, rfl⟩
  ·rw [if_neg (by rw [decide_eq_true_eq]; omega)]
   have h45 : ¬ t[i + o.2.1]? = some 45 := by rw [List.getElem?_eq_none (by omega)]; simp
   unfold qc.reader_item_j1
   rw [if_neg (by simp), if_neg h45, j2 o.1 _ _ _ _ rfl h1.1, if_neg (by omega)]
   exact ⟨rd, rfl⟩
 ·rw [if_neg he]
  simp only
  rw [if_pos (by simp; omega), if_pos he]
  exact ⟨rd, rfl⟩
def liftA (t : List UInt8) : LR (Nat × S4) Fault -> LR (S4 × List UInt8 × Int) (S4 × Fault)
 | .done x => .done (x.2, t, (x.1 : Int))
 | .ret f => .ret (S4.mk 0 0 0 0, f)
theorem itemS_err {t : List UInt8} {i a c : Nat} (h : itemS t i = .err a c) : c ≠ 0 := by
 unfold itemS at h
 simp only at h
 split at h
 ·rename_i e; simp only [ItemR.err.injEq] at h; rw [<- h.2]; exact e
 split at h
 ·split at h
  ·rename_i e; simp only [ItemR.err.injEq] at h; rw [<- h.2]; exact e
  split at h
  ·simp only [ItemR.err.injEq] at h; omega
  ·cases h
 ·cases h
theorem Parse_l4_ok {t : List UInt8} (ht : t.length < 90000) {k : Nat} (hk : 300 <= k) : ∀ (j i : Nat) (s : S4), i <= t.length -> okS s -> qc.Parse_l4 k t j s t (i : Int) = (parseL t j i s).map (liftA t)
 | 0, _, _, _, _ => rfl
 | j + 1, i, s, hi, hs => by
  have step : qc.Parse_j5 k t (i : Int) s (qc.Parse_l4 k t j) true = ((match itemS t i with
    | .err a c => some (.ret ⟨(a : Int), (c : Int)⟩)
    | .ok lo hi nx => parseL t j nx (rngS s lo hi) : Option (LR (Nat × S4) Fault))).map (liftA t) := by
   obtain ⟨rd, hit⟩ := yitem_ok ht hk hi
   unfold qc.Parse_j5
   rw [if_pos rfl, hit, Option.bind_some]
   unfold itemO
   cases h : itemS t i with
   | err a c =>
    have := itemS_err h
    simp only
    rw [if_pos (by simp; omega)]
    rfl
   | ok lo hi' nx =>
    have hsp := itemS_spec h hi
    simp only
    rw [if_neg (by decide), Union_ok hs (okS_ofP _) (by omega), Option.bind_some]
    have e : (uI fun i => qp s i || qp (uI fun x => decide (lo <= x) && decide (x <= hi')) i) = rngS s lo hi' := kN (fun x hx => by rw [vZ _ hx])
    rw [e, Parse_l4_ok ht hk j nx _ (by omega) (okS_rng _ _ _)]
  simp only [qc.Parse_l4, parseL]
  by_cases h0 : i = t.length
  ·rw [if_pos (by rw [decide_eq_true_eq]; omega), step, if_neg (by rw [List.getElem?_eq_none (by omega)]; simp)]
  ·rw [if_neg (by rw [decide_eq_true_eq]; omega), if_pos (by rw [yy]; omega)]
   have hb := byte_eq (t := t) (i := i) (by omega) 93
   have hb' : (yk t (i : Int) == 93) = decide (t[i]? = some 93) := hb
   by_cases h93 : t[i]? = some 93
   ·rw [if_pos h93, bne, hb']
    simp only [h93, decide_true, Bool.not_true, qc.Parse_j5]
    rfl
   ·rw [if_neg h93, bne, hb']
    simp only [h93, decide_false, Bool.not_false]
    exact step
theorem parseL_some {t : List UInt8} : ∀ (d j i : Nat) (s : S4), t.length <= i + d -> i <= t.length -> d < j -> okS s -> ∃ r, parseL t j i s = some r /\ ∀ n u, r = .done (n, u) -> n < t.length /\ okS u := by
 intro d
 induction d using Nat.strongRecOn with
 | _ d ih =>
  intro j i s hd hi hj hs
  cases j with
  | zero => omega
  | succ j =>
   simp only [parseL]
   split
   ·rename_i h
    refine ⟨_, rfl, fun n u hx => ?_⟩
    simp only [LR.done.injEq, Prod.mk.injEq] at hx
    obtain ⟨rfl, rfl⟩ := hx
    exact ⟨(List.getElem?_eq_some_iff.1 h).1, hs⟩
   ·cases h : itemS t i with
    | err a c => exact ⟨_, rfl, fun n u hx => by cases hx⟩
    | ok lo hi' nx =>
     have hsp := itemS_spec h hi
     simp only
     cases d with
     | zero => omega
     | succ d => exact ih (t.length - nx) (by omega) j nx _ (by omega) hsp.2.2.2 (by omega) (okS_ofP _)
def parseT (k : Nat) (t : List UInt8) : Option (S4 × Fault) :=
 if 65536 < t.length then some (S4.mk 0 0 0 0, ⟨0, 2⟩) else
 if t[0]? ≠ some 91 then some (S4.mk 0 0 0 0, ⟨0, 13⟩) else
 (parseL t k (if t[1]? = some 94 then 2 else 1) (S4.mk 0 0 0 0)).map fun r => match r with
  | .ret f => (S4.mk 0 0 0 0, f)
  | .done x => if x.1 + 1 < t.length then (S4.mk 0 0 0 0, ⟨((x.1 + 1 : Nat) : Int), 15⟩) else if t[1]? = some 94 then (uI fun i => !qp x.2 i, ⟨0, 0⟩) else (x.2, ⟨0, 0⟩)
theorem yParse_ok {t : List UInt8} (ht : t.length < 80000) {k : Nat} (hk : 90000 <= k) : qc.Parse k t = parseT k t := by
 unfold qc.Parse parseT
 by_cases h1 : 65536 < t.length
 ·rw [if_pos (by rw [decide_eq_true_eq]; omega), if_pos h1]
 rw [if_neg (by rw [decide_eq_true_eq]; omega), if_neg h1]
 by_cases h2 : t = []
 ·subst h2; rfl
 have hpos : 0 < t.length := List.length_pos_iff.2 h2
 have hb := byte_eq (t := t) (i := 0) hpos 91
 have hb' : (yk t 0 == 91) = decide (t[0]? = some 91) := hb
 rw [if_neg (by simpa using h2), if_pos (by rw [yy]; omega), bne, hb']
 by_cases h3 : t[0]? = some 91
 ·rw [if_neg (by simpa using h3)]
  simp only [h3, decide_true, Bool.not_true, qc.Parse_j1, Bool.false_eq_true, if_false]
  have j3 : ∀ (b : Bool) (n : Nat), n <= t.length -> qc.Parse_j3 k t b (n : Int) = (parseL t k n (S4.mk 0 0 0 0)).map fun r => match r with
    | .ret f => (S4.mk 0 0 0 0, f)
    | .done x => if x.1 + 1 < t.length then (S4.mk 0 0 0 0, ⟨((x.1 + 1 : Nat) : Int), 15⟩) else if b then (uI fun i => !qp x.2 i, ⟨0, 0⟩) else (x.2, ⟨0, 0⟩) := by
   intro b n hn
   unfold qc.Parse_j3
   rw [Parse_l4_ok (by omega) (by omega) k n _ hn okS_none]
   obtain ⟨r, hr, hd⟩ := parseL_some (t := t) (t.length - n) k n (S4.mk 0 0 0 0) (by omega) hn (by omega) okS_none
   rw [hr]
   simp only [Option.map_some, Option.bind_some]
   cases r with
   | ret f => rfl
   | done x =>
    obtain ⟨hlt, hok⟩ := hd x.1 x.2 rfl
    simp only [liftA, LR.fin, xR (show x.1 < 1000000 by omega)]
    by_cases h4 : x.1 + 1 < t.length
    ·rw [if_pos (by rw [decide_eq_true_eq]; omega), if_pos h4]
    ·rw [if_neg (by rw [decide_eq_true_eq]; omega), if_neg h4]
     cases b with
     | true => simp only [if_true]; rw [Not_ok hok (by omega)]; rfl
     | false => rfl
  by_cases h4 : 1 < t.length
  ·rw [if_pos (by rw [decide_eq_true_eq]; omega), if_pos (by rw [yy]; omega)]
   have hb2 := byte_eq (t := t) (i := 1) h4 94
   have hb2' : (yk t 1 == 94) = decide (t[1]? = some 94) := hb2
   rw [hb2']
   unfold qc.Parse_j2
   by_cases h5 : t[1]? = some 94
   ·simp only [h5, decide_true, if_true]
    exact j3 true 2 (by omega)
   ·simp only [h5, decide_false, Bool.false_eq_true, if_false]
    exact j3 false 1 (by omega)
  ·rw [if_neg (by rw [decide_eq_true_eq]; omega)]
   have h5 : ¬ t[1]? = some 94 := by rw [List.getElem?_eq_none (by omega)]; simp
   unfold qc.Parse_j2
   simp only [h5, Bool.false_eq_true, if_false]
   exact j3 false 1 (by omega)
 ·rw [if_pos h3]
  simp only [h3, decide_false, Bool.not_false, qc.Parse_j1, if_true]
def sgB (b : Nat) : Bool := match sg b with
 | [c] => decide (c.toNat = b /\ c.toNat ≠ 92 /\ ¬ (c.toNat <= 32 \/ 127 <= c.toNat \/ yspec9 c.toNat ≠ 0))
 | [c, d] => decide (c.toNat = 92 /\ d.toNat ≠ 120 /\ uZ d.toNat = b)
 | [c, d, x, y] => decide (c.toNat = 92 /\ d.toNat = 120 /\ kx x.toNat < 16 /\ kx y.toNat < 16 /\ 16 * kx x.toNat + kx y.toNat = b)
 | _ => false
theorem sgB_all : ∀ b : _root_.Fin 256, sgB b.val = true := by decide +kernel
theorem sg_head_all : ∀ b : _root_.Fin 256, (sg b.val).head? ≠ none /\ (sg b.val).head? ≠ some 93 /\ (sg b.val).head? ≠ some 45 /\ (sg b.val).head? ≠ some 94 := by decide +kernel
theorem sg_one {b : Nat} (hb : b < 256) (rest : List UInt8) : wa (sg b ++ rest) = (b, (sg b).length, 0) := by
 have h := sgB_all ⟨b, hb⟩
 unfold sgB at h
 simp only at h
 split at h
 ·rename_i c e
  obtain ⟨h1, h2, h3⟩ := of_decide_eq_true h
  rw [e]
  simp only [List.cons_append, List.nil_append, wa]
  rw [if_pos h2, if_neg h3, h1]; rfl
 ·rename_i c d e
  obtain ⟨h1, h2, h3⟩ := of_decide_eq_true h
  rw [e]
  simp only [List.cons_append, List.nil_append, wa, wo]
  rw [if_neg (by simp [h1]), if_neg h2, if_pos (by omega), h3]; rfl
 ·rename_i c d x y e
  obtain ⟨h1, h2, h3, h4, h5⟩ := of_decide_eq_true h
  rw [e]
  simp only [List.cons_append, List.nil_append, wa, wo, qf]
  rw [if_neg (by simp [h1]), if_pos h2, if_pos ⟨h3, h4⟩, h5]; rfl
 ·cases h
theorem kk {t u : List UInt8} {i : Nat} (h : t.drop i = u) : t[i]? = u.head? := by
 rw [<- h, List.head?_drop]
theorem ga {t u v : List UInt8} {i : Nat} (h : t.drop i = u ++ v) : t.drop (i + u.length) = v := by
 rw [<- List.drop_drop, h]; simp
theorem head_app {u v : List UInt8} (h : u.head? ≠ none) : (u ++ v).head? = u.head? := by
 cases u with
 | nil => simp at h
 | cons a u => rfl
theorem sg_head {b : Nat} (hb : b < 256) (rest : List UInt8) : (sg b ++ rest).head? ≠ some 93 /\ (sg b ++ rest).head? ≠ some 45 /\ (sg b ++ rest).head? ≠ some 94 := by
 obtain ⟨h1, h2, h3, h4⟩ := sg_head_all ⟨b, hb⟩
 rw [head_app h1]
 exact ⟨h2, h3, h4⟩
theorem body_head {l : List vw} (hl : ∀ r ∈ l, okR r) : (bodyT l ++ [93]).head? ≠ some 45 /\ (bodyT l ++ [93]).head? ≠ some 94 := by
 cases l with
 | nil => simp [bodyT]
 | cons r l =>
  have hr := hl r List.mem_cons_self
  unfold okR at hr
  have := sg_head (b := r.Lo.toNat) (by omega) ((if r.Lo + 1 < r.Hi then [45] else []) ++ ((if r.Lo < r.Hi then sg r.Hi.toNat else []) ++ (bodyT l ++ [93])))
  have e : bodyT (r :: l) ++ [93] = sg r.Lo.toNat ++ ((if r.Lo + 1 < r.Hi then [45] else []) ++ ((if r.Lo < r.Hi then sg r.Hi.toNat else []) ++ (bodyT l ++ [93]))) := by
   simp [bodyT, runT]
  rw [e]
  exact this.2
def inRun (l : List vw) (x : Nat) : Bool := l.any fun r => decide (r.Lo <= (x : Int)) && decide ((x : Int) <= r.Hi)
theorem rngS_rngS {s : S4} {a b c d : Nat} : rngS (rngS s a b) c d = uI fun x => qp s x || ((decide (a <= x) && decide (x <= b)) || (decide (c <= x) && decide (x <= d))) := by
 unfold rngS
 refine kN (fun x hx => ?_)
 rw [vZ _ hx, Bool.or_assoc]
theorem jY {t : List UInt8} : ∀ (l : List vw) (i j : Nat) (s : S4), (∀ r ∈ l, okR r) -> okS s -> t.drop i = bodyT l ++ [93] -> i <= t.length -> 2 * l.length < j -> parseL t j i s = some (.done (t.length - 1, uI fun x => qp s x || inRun l x))
 | [], i, j, s, _, hs, hd, hi, hj => by
  cases j with
  | zero => simp at hj
  | succ j =>
   have hd' : t.drop i = [93] := by rw [hd]; rfl
   have hlen : t.length - i = 1 := by rw [<- List.length_drop, hd']; rfl
   simp only [parseL]
   rw [if_pos (by rw [kk hd']; rfl)]
   have : i = t.length - 1 := by omega
   rw [<- this]
   refine congrArg (fun z => some (LR.done (i, z))) (uR hs (fun x _ => ?_))
   simp [inRun]
 | r :: l, i, j, s, hl, hs, hd, hi, hj => by
  have hr := hl r List.mem_cons_self
  have hl' : ∀ r ∈ l, okR r := fun x hx => hl x (List.mem_cons_of_mem _ hx)
  obtain ⟨h1, h2, h3⟩ := hr
  obtain ⟨lo, hlo⟩ : ∃ n : Nat, r.Lo = (n : Int) := ⟨r.Lo.toNat, by omega⟩
  obtain ⟨hh, hhi⟩ : ∃ n : Nat, r.Hi = (n : Int) := ⟨r.Hi.toNat, by omega⟩
  have hbh := body_head hl'
  simp only [List.length_cons] at hj
  cases j with
  | zero => omega
  | succ j =>
  have e : t.drop i = sg lo ++ ((if (lo : Int) + 1 < hh then [45] else []) ++ ((if (lo : Int) < hh then sg hh else []) ++ (bodyT l ++ [93]))) := by
   rw [hd]; simp [bodyT, runT, hlo, hhi]
  have hone := sg_one (b := lo) (by omega) ((if (lo : Int) + 1 < hh then [45] else []) ++ ((if (lo : Int) < hh then sg hh else []) ++ (bodyT l ++ [93])))
  rw [<- e] at hone
  have hd1 := ga e
  have hle1 : i + (sg lo).length <= t.length := by
   have := congrArg List.length e
   rw [List.length_drop, List.length_append] at this
   omega
  have hu : ∀ u : S4, (∀ x, x < 256 -> qp u x = (qp s x || (decide (lo <= x) && decide (x <= hh)))) -> (uI fun x => qp u x || inRun l x) = uI fun x => qp s x || inRun (r :: l) x := by
   intro u hu
   refine kN (fun x hx => ?_)
   rw [hu x hx, Bool.or_assoc]
   congr 1
   simp only [inRun, List.any_cons, hlo, hhi]
   congr 1
   congr 1
   ·rw [Bool.eq_iff_iff]; simp
   ·rw [Bool.eq_iff_iff]; simp
  simp only [parseL]
  rw [if_neg (by rw [kk e]; exact (sg_head (by omega) _).1)]
  by_cases c1 : (lo : Int) + 1 < hh
  ·have c2 : (lo : Int) < hh := by omega
   rw [if_pos c1, if_pos c2] at hd1
   have hd2 : t.drop (i + (sg lo).length + 1) = sg hh ++ (bodyT l ++ [93]) := by
    have := ga (u := [45]) hd1
    exact this
   have hone2 := sg_one (b := hh) (by omega) (bodyT l ++ [93])
   rw [<- hd2] at hone2
   have hd3 := ga hd2
   have hle3 : i + (sg lo).length + 1 + (sg hh).length <= t.length := by
    have := congrArg List.length hd2
    rw [List.length_drop, List.length_append, List.length_append] at this
    simp only [List.length_cons] at this
    omega
   have hit : itemS t i = .ok lo hh (i + (sg lo).length + 1 + (sg hh).length) := by
    unfold itemS
    simp only [hone]
    rw [if_neg (by simp), if_pos (by rw [kk hd1]; rfl), hone2]
    simp only
    rw [if_neg (by simp), if_neg (by omega)]
   rw [hit]
   simp only
   rw [jY l _ j _ hl' (okS_rng _ _ _) hd3 hle3 (by omega)]
   refine congrArg (fun z => some (LR.done (t.length - 1, z))) (hu _ (fun x hx => ?_))
   unfold rngS
   rw [vZ _ hx]
  ·rw [if_neg c1, List.nil_append] at hd1
   by_cases c2 : (lo : Int) < hh
   ·rw [if_pos c2] at hd1
    have hone2 := sg_one (b := hh) (by omega) (bodyT l ++ [93])
    rw [<- hd1] at hone2
    have hd3 := ga hd1
    have hle3 : i + (sg lo).length + (sg hh).length <= t.length := by
     have := congrArg List.length hd1
     rw [List.length_drop, List.length_append, List.length_append] at this
     simp only [List.length_cons] at this
     omega
    have hit : itemS t i = .ok lo lo (i + (sg lo).length) := by
     unfold itemS
     simp only [hone]
     rw [if_neg (by simp), if_neg (by rw [kk hd1]; exact (sg_head (by omega) _).2.1)]
    have hit2 : itemS t (i + (sg lo).length) = .ok hh hh (i + (sg lo).length + (sg hh).length) := by
     unfold itemS
     simp only [hone2]
     rw [if_neg (by simp), if_neg (by rw [kk hd3]; exact hbh.1)]
    cases j with
    | zero => omega
    | succ j =>
    rw [hit]
    simp only [parseL]
    rw [if_neg (by rw [kk hd1]; exact (sg_head (by omega) _).1), hit2]
    simp only
    rw [jY l _ j _ hl' (okS_rng _ _ _) hd3 hle3 (by omega)]
    refine congrArg (fun z => some (LR.done (t.length - 1, z))) (hu _ (fun x hx => ?_))
    rw [rngS_rngS, vZ _ hx]
    congr 1
    rw [Bool.eq_iff_iff]
    simp
    omega
   ·rw [if_neg c2, List.nil_append] at hd1
    have hit : itemS t i = .ok lo lo (i + (sg lo).length) := by
     unfold itemS
     simp only [hone]
     rw [if_neg (by simp), if_neg (by rw [kk hd1]; exact hbh.1)]
    rw [hit]
    simp only
    rw [jY l _ j _ hl' (okS_rng _ _ _) hd1 hle1 (by omega)]
    refine congrArg (fun z => some (LR.done (t.length - 1, z))) (hu _ (fun x hx => ?_))
    unfold rngS
    rw [vZ _ hx]
    congr 2
    rw [show hh = lo by omega]
theorem Cr_mem {s : S4} {m : Nat} (h : (bt s (m : Int) && !bt s ((m : Int) - 1)) = true) : ∀ n, m < n -> (⟨(m : Int), (ext s 256 m : Int)⟩ : vw) ∈ Cr s n
 | 0, hn => by omega
 | n + 1, hn => by
  rw [kL, List.mem_append]
  by_cases he : m = n
  ·subst he
   right
   rw [if_pos h]
   simp
  ·exact .inl (Cr_mem h n (by omega))
theorem Cr_bits {s : S4} : ∀ n, n <= 256 -> ∀ r ∈ Cr s n, ∀ x : Nat, r.Lo <= (x : Int) -> (x : Int) <= r.Hi -> bt s (x : Int) = true
 | 0, _, r, h, _, _, _ => by simp [Cr] at h
 | n + 1, hn, r, h, x, h1, h2 => by
  rw [kL, List.mem_append] at h
  rcases h with h | h
  ·exact Cr_bits n (by omega) r h x h1 h2
  ·split at h
   ·rename_i hb
    simp only [List.mem_cons, List.not_mem_nil, or_false] at h
    subst h
    obtain ⟨_, _, h3, _⟩ := qI (s := s) 256 n (by omega) (by omega)
    simp only at h1 h2
    rcases Nat.eq_or_lt_of_le (show n <= x by omega) with he | he
    ·subst he
     rw [Bool.and_eq_true] at hb
     exact hb.1
    ·exact h3 x he (by omega)
   ·simp at h
theorem run_start {s : S4} (x : Nat) (h : bt s (x : Int) = true) : ∃ m, m <= x /\ (bt s (m : Int) && !bt s ((m : Int) - 1)) = true /\ ∀ y, m <= y -> y <= x -> bt s (y : Int) = true := by
 induction x with
 | zero =>
  refine ⟨0, Nat.le_refl _, ?_, fun y _ h2 => ?_⟩
  ·rw [h, bt_out (.inl (by omega))]; rfl
  ·obtain rfl : y = 0 := by omega
   exact h
 | succ x ih =>
  cases hp : bt s (x : Int) with
  | true =>
   obtain ⟨m, h1, h2, h3⟩ := ih hp
   refine ⟨m, by omega, h2, fun y g1 g2 => ?_⟩
   rcases Nat.eq_or_lt_of_le g2 with he | he
   ·subst he; exact h
   ·exact h3 y g1 (by omega)
  | false =>
   refine ⟨x + 1, Nat.le_refl _, ?_, fun y g1 g2 => ?_⟩
   ·have e : ((x + 1 : Nat) : Int) - 1 = (x : Int) := by omega
    rw [h, e, hp]; rfl
   ·obtain rfl : y = x + 1 := by omega
    exact h
theorem inRun_Cr {s : S4} {x : Nat} (hx : x < 256) : inRun (Cr s 256) x = qp s x := by
 rw [Bool.eq_iff_iff, <- bt_nat hx]
 unfold inRun
 rw [List.any_eq_true]
 constructor
 ·rintro ⟨r, hr, h⟩
  simp only [Bool.and_eq_true, decide_eq_true_eq] at h
  exact Cr_bits 256 (Nat.le_refl _) r hr x h.1 h.2
 ·intro h
  obtain ⟨m, h1, h2, h3⟩ := run_start x h
  refine ⟨_, Cr_mem h2 256 (by omega), ?_⟩
  obtain ⟨g1, g2, g3, g4⟩ := qI (s := s) 256 m (by omega) (by omega)
  simp only [Bool.and_eq_true, decide_eq_true_eq]
  refine ⟨by omega, ?_⟩
  rcases Nat.lt_or_ge (ext s 256 m) x with hlt | hge
  ·have := h3 (ext s 256 m + 1) (by omega) (by omega)
   rw [show ((ext s 256 m + 1 : Nat) : Int) = (ext s 256 m : Int) + 1 from rfl, g4] at this
   cases this
  ·omega
theorem parse_print {s : S4} (hs : okS s) {k : Nat} (hk : 90000 <= k) : parseT k (printT s) = some (s, ⟨0, 0⟩) := by
 have hlen := printT_len s
 have hok := Cr_okR (s := s) 256 (Nat.le_refl _)
 have hl := Cr_len s 256
 have hd : (printT s).drop 1 = bodyT (Cr s 256) ++ [93] := by simp [printT]
 have h94 : ¬ (printT s)[1]? = some 94 := by rw [kk hd]; exact (body_head hok).2
 unfold parseT
 rw [if_neg (by omega), if_neg (by simp [printT]), if_neg h94, jY (Cr s 256) 1 k _ hok okS_none hd (by simp [printT]) (by omega)]
 simp only [Option.map_some]
 rw [if_neg (by omega), if_neg h94]
 refine congrArg (fun z => some (z, (⟨0, 0⟩ : Fault))) (uR hs (fun x hx => ?_)).symm
 rw [bit_none hx, inRun_Cr hx, Bool.false_or]
end Go.Vc.Cp
