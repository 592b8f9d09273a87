/-
  Loops that make sets: Range, Of, ref.Op; the laws Makes, Goes, Algebra.
-/
import Derived.Test.YtmcnanedpofeoaaPK
namespace Go.Vc
open Go

theorem set_ofP {s : S4} (hs : okS s) {n : Nat} (hn : n < 256) {w : Int} (hw : okW w) {p : Nat → Bool} (h1 : ∀ r, r < 64 → w.toNat.testBit r = p (64 * (n / 64) + r)) (h2 : ∀ x, x < 256 → x / 64 ≠ n / 64 → bit s x = p x) :
    S4.set s ((n / 64 : Nat) : Int) w = ofP p := by
  have key : ∀ t : S4, okS t → (∀ j : Nat, j < 4 → (t.get (j : Int)) = if j = n / 64 then w else s.get (j : Int)) → t = ofP p := by
    intro t ht hg
    refine eq_ofP ht (fun i hi => ?_)
    unfold bit
    rw [hg (i / 64) (by omega)]
    by_cases he : i / 64 = n / 64
    · rw [if_pos he, h1 _ (Nat.mod_lt _ (by decide)), ← he]
      congr 1
      omega
    · rw [if_neg he]
      exact h2 i hi he
  obtain ⟨g0, g1, g2, g3⟩ := hs
  have hc : n / 64 = 0 ∨ n / 64 = 1 ∨ n / 64 = 2 ∨ n / 64 = 3 := by omega
  have j4 : ∀ j : Nat, j < 4 → j = 0 ∨ j = 1 ∨ j = 2 ∨ j = 3 := by intro j hj; omega
  rcases hc with hc | hc | hc | hc <;> rw [hc] at key ⊢
  · exact key _ ⟨hw, g1, g2, g3⟩ (fun j hj => by rcases j4 j hj with rfl | rfl | rfl | rfl <;> rfl)
  · exact key _ ⟨g0, hw, g2, g3⟩ (fun j hj => by rcases j4 j hj with rfl | rfl | rfl | rfl <;> rfl)
  · exact key _ ⟨g0, g1, hw, g3⟩ (fun j hj => by rcases j4 j hj with rfl | rfl | rfl | rfl <;> rfl)
  · exact key _ ⟨g0, g1, g2, hw⟩ (fun j hj => by rcases j4 j hj with rfl | rfl | rfl | rfl <;> rfl)
theorem gshl_one {r : Nat} (hr : r < 64) : gshl .u64 1 (r : Int) = ((2 ^ r : Nat) : Int) := by
  have hp : 2 ^ r < 2 ^ 64 := Nat.pow_lt_pow_right (by decide) hr
  show IntKind.wrap .u64 (1 * 2 ^ (min (r : Int).toNat 64)) = _
  have e : min (r : Int).toNat 64 = r := by omega
  rw [e, Int.one_mul]
  have : ((2 : Int) ^ r) = ((2 ^ r : Nat) : Int) := by norm_cast
  rw [this, wrap_nat hp]
theorem orbit {s : S4} (hs : okS s) {n : Nat} (hn : n < 256) :
    S4.set s ((n / 64 : Nat) : Int) (gor .u64 (S4.get s ((n / 64 : Nat) : Int)) (gshl .u64 1 ((n % 64 : Nat) : Int))) = ofP (fun x => bit s x || x == n) := by
  have hw := get_ok hs ((n / 64 : Nat) : Int)
  have hp : 2 ^ (n % 64) < 2 ^ 64 := Nat.pow_lt_pow_right (by decide) (Nat.mod_lt _ (by decide))
  rw [gshl_one (Nat.mod_lt _ (by decide)), gor_nat hw (okW_nat hp), Int.toNat_natCast]
  refine set_ofP hs hn (okW_nat (Nat.or_lt_two_pow (okW_lt hw) hp)) (fun r hr => ?_) (fun x hx hne => ?_)
  · rw [Int.toNat_natCast, Nat.testBit_or, Nat.testBit_two_pow]
    unfold bit
    have e1 : (64 * (n / 64) + r) / 64 = n / 64 := by omega
    have e2 : (64 * (n / 64) + r) % 64 = r := by omega
    rw [e1, e2]
    congr 1
    rw [Bool.eq_iff_iff]
    simp
    omega
  · have : (x == n) = false := by simp; intro h; exact hne (by rw [h])
    rw [this, Bool.or_false]
theorem wrap_succ {i : Nat} (hi : i < 1000000) : IntKind.wrap .i64 ((i : Int) + 1) = ((i + 1 : Nat) : Int) := by rw [wrap_i64 (by omega) (by omega)]; rfl

theorem Range_l1 {h : Nat} (hh : h < 256) (d : Nat) : ∀ (j i : Nat) (s : S4), okS s → i + d = h + 1 → d < j → F.charset.Range_l1 (h : Int) j (i : Int) s = some (ofP fun x => bit s x || (decide (i ≤ x) && decide (x ≤ h))) := by
  induction d with
  | zero =>
    intro j i s hs hi hj
    cases j with
    | zero => omega
    | succ j =>
      simp only [F.charset.Range_l1]
      rw [if_neg (by rw [decide_eq_true_eq]; omega)]
      refine congrArg some (eq_ofP hs (fun x _ => ?_))
      have : (decide (i ≤ x) && decide (x ≤ h)) = false := by simp; omega
      rw [this, Bool.or_false]
  | succ d ih =>
    intro j i s hs hi hj
    cases j with
    | zero => omega
    | succ j =>
      have hi2 : i < 256 := by omega
      simp only [F.charset.Range_l1, idx_i64 hi2, (idx_u8 hi2).2]
      rw [if_pos (by rw [decide_eq_true_eq]; omega), if_pos (by rw [inR_iff]; omega), if_neg (by rw [decide_eq_true_eq]; omega), orbit hs hi2, wrap_succ (by omega), ih j (i + 1) _ (okS_ofP _) (by omega) (by omega)]
      refine congrArg some (ofP_congr (fun x hx => ?_))
      rw [bit_ofP _ hx]
      cases bit s x with
      | true => rfl
      | false =>
        rw [Bool.eq_iff_iff]
        simp
        omega
theorem refRange_l1 {h k : Nat} (hh : h < 256) (hk : 100 ≤ k) (d : Nat) : ∀ (j i : Nat) (s : S4), okS s → i + d = h + 1 → d < j → F.ref01.Range_l1 k (h : Int) j (i : Int) s = some (ofP fun x => bit s x || (decide (i ≤ x) && decide (x ≤ h))) := by
  induction d with
  | zero =>
    intro j i s hs hi hj
    cases j with
    | zero => omega
    | succ j =>
      simp only [F.ref01.Range_l1]
      rw [if_neg (by rw [decide_eq_true_eq]; omega)]
      refine congrArg some (eq_ofP hs (fun x _ => ?_))
      have : (decide (i ≤ x) && decide (x ≤ h)) = false := by simp; omega
      rw [this, Bool.or_false]
  | succ d ih =>
    intro j i s hs hi hj
    cases j with
    | zero => omega
    | succ j =>
      have hi2 : i < 256 := by omega
      simp only [F.ref01.Range_l1]
      rw [if_pos (by rw [decide_eq_true_eq]; omega), With_ok hs hi2 hk, Option.bind_some, wrap_succ (by omega), ih j (i + 1) _ (okS_ofP _) (by omega) (by omega)]
      refine congrArg some (ofP_congr (fun x hx => ?_))
      rw [bit_ofP _ hx]
      cases bit s x with
      | true => rfl
      | false =>
        rw [Bool.eq_iff_iff]
        simp
        omega
theorem okS_none : okS (S4.mk 0 0 0 0) := by rw [ofP_none]; exact okS_ofP _
theorem bit_none {i : Nat} (hi : i < 256) : bit (S4.mk 0 0 0 0) i = false := by rw [ofP_none, bit_ofP _ hi]
/-- what Range says -/
def rangeR (lo hi : Int) : S4 × Int := if lo < 0 then (S4.mk 0 0 0 0, 10) else if 255 < hi then (S4.mk 0 0 0 0, 10) else if hi < lo then (S4.mk 0 0 0 0, 10) else (ofP fun x => decide (lo ≤ (x : Int)) && decide ((x : Int) ≤ hi), 0)
theorem Range_ok {lo hi : Int} {k : Nat} (hk : 300 ≤ k) : F.charset.Range k lo hi = some (rangeR lo hi) := by
  unfold F.charset.Range rangeR
  simp only [decide_eq_true_eq]
  split
  · rfl
  split
  · rfl
  split
  · rfl
  have e1 : hi = ((hi.toNat : Nat) : Int) := by omega
  have e2 : lo = ((lo.toNat : Nat) : Int) := by omega
  rw [e1, e2, Range_l1 (by omega) (hi.toNat + 1 - lo.toNat) k lo.toNat _ okS_none (by omega) (by omega), Option.bind_some]
  refine congrArg some (congrArg (fun z => (z, (0 : Int))) (ofP_congr (fun x hx => ?_)))
  rw [bit_none hx, Bool.eq_iff_iff]
  simp
  omega
theorem refRange_ok {lo hi : Int} {k : Nat} (hk : 300 ≤ k) : F.ref01.Range k lo hi = some (rangeR lo hi) := by
  unfold F.ref01.Range rangeR
  simp only [decide_eq_true_eq]
  split
  · rfl
  split
  · rfl
  split
  · rfl
  have e1 : hi = ((hi.toNat : Nat) : Int) := by omega
  have e2 : lo = ((lo.toNat : Nat) : Int) := by omega
  rw [e1, e2, refRange_l1 (by omega) (by omega) (hi.toNat + 1 - lo.toNat) k lo.toNat _ okS_none (by omega) (by omega), Option.bind_some]
  refine congrArg some (congrArg (fun z => (z, (0 : Int))) (ofP_congr (fun x hx => ?_)))
  rw [bit_none hx, Bool.eq_iff_iff]
  simp
  omega
theorem okS_rangeR (lo hi : Int) : okS (rangeR lo hi).1 := by
  unfold rangeR
  split
  · exact okS_none
  split
  · exact okS_none
  split
  · exact okS_none
  exact okS_ofP _

theorem at_nat {α : Type} [Inhabited α] {b : List α} {i : Nat} (hi : i < b.length) : at_ b (i : Int) = b[i] := by
  unfold at_
  rw [Int.toNat_natCast, List.getD_eq_getElem?_getD, List.getElem?_eq_getElem hi]; rfl
def isB (n : Int) : Prop := 0 ≤ n ∧ n < 256
def ofL (b : List Int) (i : Nat) : S4 := ofP fun x => (b.take i).any (· == (x : Int))
theorem okS_ofL (b : List Int) (i : Nat) : okS (ofL b i) := okS_ofP _
theorem ofL_step {b : List Int} {i : Nat} (hi : i < b.length) {n : Nat} (hn : b[i] = (n : Int)) : ofL b (i + 1) = ofP fun x => bit (ofL b i) x || x == n := by
  refine ofP_congr (fun x hx => ?_)
  unfold ofL
  rw [bit_ofP _ hx, List.take_succ_eq_append_getElem hi, List.any_append, hn]
  congr 1
  rw [Bool.eq_iff_iff]
  simp
  omega
theorem Of_l1 {b : List Int} (hb : ∀ n ∈ b, isB n) (hl : b.length < 1000000) (d : Nat) : ∀ (j i : Nat), i + d = b.length → d < j → F.charset.Of_l1 b j (i : Int) (ofL b i) = some (ofL b b.length) := by
  induction d with
  | zero =>
    intro j i hi hj
    cases j with
    | zero => omega
    | succ j =>
      simp only [F.charset.Of_l1]
      rw [if_neg (by rw [decide_eq_true_eq]; omega)]
      rw [show i = b.length by omega]
  | succ d ih =>
    intro j i hi hj
    cases j with
    | zero => omega
    | succ j =>
      have hlt : i < b.length := by omega
      obtain ⟨n, hn, hn2⟩ : ∃ n : Nat, b[i] = (n : Int) ∧ n < 256 := by
        have := hb b[i] (List.getElem_mem hlt)
        unfold isB at this
        exact ⟨b[i].toNat, by omega, by omega⟩
      simp only [F.charset.Of_l1, at_nat hlt, hn, (idx_u8 hn2).1, (idx_u8 hn2).2]
      rw [if_pos (by rw [decide_eq_true_eq]; omega), if_pos (by rw [inR_iff]; omega), if_pos (by rw [inR_iff]; omega), if_neg (by rw [decide_eq_true_eq]; omega), orbit (okS_ofL b i) hn2, wrap_succ (by omega), ← ofL_step hlt hn]
      exact ih j (i + 1) (by omega) (by omega)
theorem refOf_l1 {b : List Int} (hb : ∀ n ∈ b, isB n) (hl : b.length < 1000000) {k : Nat} (hk : 100 ≤ k) (d : Nat) : ∀ (j i : Nat), i + d = b.length → d < j → F.ref01.Of_l1 k b j (i : Int) (ofL b i) = some (ofL b b.length) := by
  induction d with
  | zero =>
    intro j i hi hj
    cases j with
    | zero => omega
    | succ j =>
      simp only [F.ref01.Of_l1]
      rw [if_neg (by rw [decide_eq_true_eq]; omega)]
      rw [show i = b.length by omega]
  | succ d ih =>
    intro j i hi hj
    cases j with
    | zero => omega
    | succ j =>
      have hlt : i < b.length := by omega
      obtain ⟨n, hn, hn2⟩ : ∃ n : Nat, b[i] = (n : Int) ∧ n < 256 := by
        have := hb b[i] (List.getElem_mem hlt)
        unfold isB at this
        exact ⟨b[i].toNat, by omega, by omega⟩
      simp only [F.ref01.Of_l1, at_nat hlt, hn]
      rw [if_pos (by rw [decide_eq_true_eq]; omega), if_pos (by rw [inR_iff]; omega), wrap_i64 (by omega) (by omega), With_ok (okS_ofL b i) hn2 hk, Option.bind_some, wrap_succ (by omega), ← ofL_step hlt hn]
      exact ih j (i + 1) (by omega) (by omega)
theorem ofL_zero (b : List Int) : ofL b 0 = S4.mk 0 0 0 0 := by
  rw [ofP_none]; rfl
theorem Of_ok {b : List Int} (hb : ∀ n ∈ b, isB n) (hl : b.length < 1000000) {k : Nat} (hk : b.length < k) : F.charset.Of k b = some (ofL b b.length) := by
  unfold F.charset.Of
  have := Of_l1 hb hl b.length k 0 (by omega) hk
  rw [ofL_zero] at this
  have h2 : F.charset.Of_l1 b k 0 (S4.mk 0 0 0 0) = _ := this
  rw [h2]; rfl
theorem refOf_ok {b : List Int} (hb : ∀ n ∈ b, isB n) (hl : b.length < 1000000) {k : Nat} (hk : b.length < k) (hk2 : 100 ≤ k) : F.ref01.Of k b = some (ofL b b.length) := by
  unfold F.ref01.Of
  have := refOf_l1 hb hl hk2 b.length k 0 (by omega) hk
  rw [ofL_zero] at this
  have h2 : F.ref01.Of_l1 k b k 0 (S4.mk 0 0 0 0) = _ := this
  rw [h2]; rfl
theorem alive_5000 : F.law01.alive 5000 = some true := by kernel_rfl
theorem law_Makes {l : List Int} (hl : ∀ n ∈ l, isB n) (lo hi : Int) {b : Int} (hb : isB b) : F.law01.CharsetMakes 5000 l lo hi b = some true := by
  unfold F.law01.CharsetMakes
  rw [alive_5000]
  split
  · rfl
  rename_i h
  rw [decide_eq_true_eq] at h
  have hlen : l.length ≤ 4096 := by omega
  rw [if_pos (by rw [decide_eq_true_eq]; simp; omega), if_pos (by rw [decide_eq_true_eq]; simp; omega)]
  simp only [List.nil_append]
  obtain ⟨n, rfl, hn⟩ : ∃ n : Nat, b = (n : Int) ∧ n < 256 := by
    unfold isB at hb
    exact ⟨b.toNat, by omega, by omega⟩
  rw [Of_ok hl (by omega) (by omega), Range_ok (by omega), refRange_ok (by omega)]
  simp only [Option.bind_some, if_true]
  rw [refOf_ok hl (by omega) (by omega) (by omega)]
  simp only [Option.bind_some, S4_eq_self, if_true, BEq.rfl]
  rw [wrap_i64 (by omega) (by omega), Has_bit (okS_ofL _ _) hn, refHas_bit (s := ofL l l.length) (okS_ofL _ _) hn (by omega), Has_bit (okS_rangeR _ _) hn, refHas_bit (okS_rangeR _ _) hn (by omega)]
  simp only [Option.bind_some, BEq.rfl, if_true]
  rfl
def opF (kind : Nat) (x y : Bool) : Bool := match kind with
  | 0 => x || y
  | 1 => x && y
  | 2 => x && !y
  | _ => !x
theorem Op_l1 {a b : S4} (ha : okS a) (hb : okS b) {k : Nat} (hk : 100 ≤ k) {kind : Nat} (hkd : kind < 4) (d : Nat) : ∀ (j i : Nat) (s : S4), okS s → i + d = 256 → d < j →
    F.ref01.Op_l1 k a b (kind : Int) j (i : Int) s = some (ofP fun x => bit s x || (decide (i ≤ x) && opF kind (bit a x) (bit b x))) := by
  induction d with
  | zero =>
    intro j i s hs hi hj
    cases j with
    | zero => omega
    | succ j =>
      simp only [F.ref01.Op_l1]
      rw [if_neg (by rw [decide_eq_true_eq]; omega)]
      refine congrArg some (eq_ofP hs (fun x hx => ?_))
      have : decide (i ≤ x) = false := by simp; omega
      rw [this, Bool.false_and, Bool.or_false]
  | succ d ih =>
    intro j i s hs hi hj
    cases j with
    | zero => omega
    | succ j =>
      have hi2 : i < 256 := by omega
      have hstep : F.ref01.Op_l1 k a b (kind : Int) (j + 1) (i : Int) s = if opF kind (bit a i) (bit b i) then F.ref01.Op_l1 k a b (kind : Int) j ((i + 1 : Nat) : Int) (ofP fun x => bit s x || x == i) else F.ref01.Op_l1 k a b (kind : Int) j ((i + 1 : Nat) : Int) s := by
        simp only [F.ref01.Op_l1]
        rw [if_pos (by rw [decide_eq_true_eq]; omega), refHas_bit ha hi2 hk, refHas_bit hb hi2 hk]
        simp only [Option.bind_some, F.ref01.Op_j3, F.ref01.Op_j4, F.ref01.Op_j2, With_ok hs hi2 hk, wrap_succ (show i < 1000000 by omega)]
        have hc : kind = 0 ∨ kind = 1 ∨ kind = 2 ∨ kind = 3 := by omega
        rcases hc with rfl | rfl | rfl | rfl <;> cases bit a i <;> cases bit b i <;> rfl
      rw [hstep]
      cases hf : opF kind (bit a i) (bit b i) with
      | true =>
        rw [if_pos rfl, ih j (i + 1) _ (okS_ofP _) (by omega) (by omega)]
        refine congrArg some (ofP_congr (fun x hx => ?_))
        rw [bit_ofP _ hx]
        by_cases he : x = i
        · subst he
          simp [hf]
        · have e1 : (x == i) = false := by simp [he]
          have e2 : decide (i + 1 ≤ x) = decide (i ≤ x) := by rw [Bool.eq_iff_iff]; simp; omega
          rw [e1, e2, Bool.or_false]
      | false =>
        rw [if_neg (by simp), ih j (i + 1) _ hs (by omega) (by omega)]
        refine congrArg some (ofP_congr (fun x hx => ?_))
        by_cases he : x = i
        · subst he
          simp [hf]
        · have e2 : decide (i + 1 ≤ x) = decide (i ≤ x) := by rw [Bool.eq_iff_iff]; simp; omega
          rw [e2]
theorem Op_ok {a b : S4} (ha : okS a) (hb : okS b) {k : Nat} (hk : 300 ≤ k) {kind : Nat} (hkd : kind < 4) : F.ref01.Op k (kind : Int) a b = some (ofP fun x => opF kind (bit a x) (bit b x)) := by
  unfold F.ref01.Op
  have h := Op_l1 ha hb (k := k) (by omega) hkd 256 k 0 _ okS_none (by omega) (by omega)
  have h2 : F.ref01.Op_l1 k a b (kind : Int) k 0 (S4.mk 0 0 0 0) = _ := h
  rw [h2, Option.bind_some]
  refine congrArg some (ofP_congr (fun x hx => ?_))
  rw [bit_none hx]
  simp
theorem law_Goes {a b : S4} (ha : okS a) (hb : okS b) : F.law01.CharsetGoes 300 a b = some true := by
  have o0 := Op_ok ha hb (k := 300) (by omega) (kind := 0) (by decide)
  have o1 := Op_ok ha hb (k := 300) (by omega) (kind := 1) (by decide)
  have o2 := Op_ok ha hb (k := 300) (by omega) (kind := 2) (by decide)
  have o3 := Op_ok ha hb (k := 300) (by omega) (kind := 3) (by decide)
  unfold F.law01.CharsetGoes
  rw [alive_ok, Union_ok ha hb (by omega), Meet_ok ha hb (by omega), Minus_ok ha hb (by omega), Not_ok ha (by omega), Within_ok ha hb (by omega), Size_ok ha (by omega), refBytes ha (by omega)]
  have o0' : F.ref01.Op 300 0 a b = some (ofP fun i => bit a i || bit b i) := o0
  have o1' : F.ref01.Op 300 1 a b = some (ofP fun i => bit a i && bit b i) := o1
  have o2' : F.ref01.Op 300 2 a b = some (ofP fun i => bit a i && !bit b i) := o2
  have o3' : F.ref01.Op 300 3 a b = some (ofP fun i => !bit a i) := o3
  rw [o0', o1', o2', o3']
  simp only [Option.bind_some, if_true, S4_eq_self, ← ofP_none, BEq.rfl, allB_cnt ha]
  rfl
theorem cntP_or_and (p q : Nat → Bool) : ∀ n, cntP (fun i => p i || q i) n + cntP (fun i => p i && q i) n = cntP p n + cntP q n
  | 0 => rfl
  | n + 1 => by
    have := cntP_or_and p q n
    simp only [cntP]
    cases p n <;> cases q n <;> simp <;> omega
theorem cntP_not (p : Nat → Bool) : ∀ n, cntP p n + cntP (fun i => !p i) n = n
  | 0 => rfl
  | n + 1 => by
    have := cntP_not p n
    simp only [cntP]
    cases p n <;> simp <;> omega
theorem cntP_le (p : Nat → Bool) (n : Nat) : cntP p n ≤ n := by
  have := cntP_not p n
  omega
theorem law_Algebra {a b c : S4} (ha : okS a) (hb : okS b) (hc : okS c) : F.law01.CharsetAlgebra 300 a b c = some true := by
  have hk : 5 ≤ 300 := by decide
  unfold F.law01.CharsetAlgebra F.law01.CharsetAlgebra_j1 F.law01.CharsetAlgebra_j2
  have cu := cntP_or_and (bit a) (bit b) 256
  have cn := cntP_not (bit a) 256
  have c1 := cntP_le (fun i => bit a i || bit b i) 256
  have c2 := cntP_le (fun i => bit a i && bit b i) 256
  have c3 := cntP_le (bit a) 256
  have c4 := cntP_le (bit b) 256
  have c5 := cntP_le (fun i => !bit a i) 256
  rw [Union_ok ha hb hk, Not_ok ha hk, Not_ok hb hk, Meet_ok ha hb hk, Minus_ok ha hb hk, Size_ok ha hk, Size_ok hb hk, Union_ok hb hc hk, Meet_ok ha hc hk, alive_ok]
  simp only [Option.bind_some]
  rw [Not_ok (okS_ofP _) hk, Meet_ok (okS_ofP _) (okS_ofP _) hk, Meet_ok ha (okS_ofP _) hk, Size_ok (okS_ofP _) hk, Size_ok (okS_ofP _) hk, Size_ok (okS_ofP _) hk, Meet_ok ha (okS_ofP _) hk, Union_ok (okS_ofP _) (okS_ofP _) hk, Not_ok (okS_ofP _) hk]
  simp only [Option.bind_some]
  have s1 : cntP (bit (ofP fun i => bit a i || bit b i)) 256 = cntP (fun i => bit a i || bit b i) 256 := cntP_congr (fun i hi => bit_ofP _ hi)
  have s2 : cntP (bit (ofP fun i => bit a i && bit b i)) 256 = cntP (fun i => bit a i && bit b i) 256 := cntP_congr (fun i hi => bit_ofP _ hi)
  have s3 : cntP (bit (ofP fun i => !bit a i)) 256 = cntP (fun i => !bit a i) 256 := cntP_congr (fun i hi => bit_ofP _ hi)
  rw [s1, s2, s3]
  have e1 : (ofP fun i => !bit (ofP fun i => bit a i || bit b i) i) = ofP fun i => bit (ofP fun i => !bit a i) i && bit (ofP fun i => !bit b i) i := ofP_congr (fun i hi => by rw [bit_ofP _ hi, bit_ofP _ hi, bit_ofP _ hi]; cases bit a i <;> cases bit b i <;> rfl)
  have e2 : (ofP fun i => bit a i && !bit b i) = ofP fun i => bit a i && bit (ofP fun i => !bit b i) i := ofP_congr (fun i hi => by rw [bit_ofP _ hi])
  have e3 : (ofP fun i => bit a i && bit (ofP fun i => bit b i || bit c i) i) = ofP fun i => bit (ofP fun i => bit a i && bit b i) i || bit (ofP fun i => bit a i && bit c i) i := ofP_congr (fun i hi => by rw [bit_ofP _ hi, bit_ofP _ hi, bit_ofP _ hi]; cases bit a i <;> cases bit b i <;> cases bit c i <;> rfl)
  have e4 : (ofP fun i => !bit (ofP fun i => !bit a i) i) = a := (eq_ofP ha (fun i hi => by rw [bit_ofP _ hi]; simp)).symm
  rw [e1, e2, e3, e4]
  simp only [S4_eq_self, Bool.not_true, Bool.false_eq_true, if_false, if_true]
  rw [wrap_i64 (by omega) (by omega), wrap_i64 (by omega) (by omega), wrap_i64 (by omega) (by omega)]
  rw [← Int.natCast_add, ← Int.natCast_add, ← Int.natCast_add, cu, cn]
  simp [F.law01.CharsetAlgebra_j3]
end Go.Vc
