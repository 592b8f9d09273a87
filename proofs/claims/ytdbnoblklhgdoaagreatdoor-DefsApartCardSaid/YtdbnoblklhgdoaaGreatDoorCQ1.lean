/-
  Sets as bits; a set's text, the program's and the document's (from the seat of the sets).
-/
import Derived.Test.YtdbnoblklhgdoaaGreatDoorWA
import Derived.Test.YtdbnoblklhgdoaaGreatDoorTT
import Derived.KernelRfl
set_option linter.unusedVariables false
set_option linter.unusedSimpArgs false
set_option maxHeartbeats 1000000
namespace Go.Vc.Cp
open Go Go.Vc Go.Vc.Rg
theorem wrap_u8 {n : Int} (h1 : 0 ≤ n) (h2 : n < 256) : IntKind.wrap .u8 n = n := by
  simp only [IntKind.wrap, IntKind.bits, IntKind.signed]
  simp
  omega
theorem wrap_u64 {n : Int} (h1 : 0 ≤ n) (h2 : n < 18446744073709551616) : IntKind.wrap .u64 n = n := by
  simp only [IntKind.wrap, IntKind.bits, IntKind.signed]
  simp
  omega
def okW (w : Int) : Prop := 0 ≤ w ∧ w < 18446744073709551616
def okS (s : S4) : Prop := okW s.w0 ∧ okW s.w1 ∧ okW s.w2 ∧ okW s.w3
theorem okW_lt {w : Int} (h : okW w) : w.toNat < 2 ^ 64 := by unfold okW at h; omega
theorem ofInt_ok {w : Int} (h : okW w) : (BitVec.ofInt 64 w).toNat = w.toNat := by
  rw [BitVec.toNat_ofInt]
  unfold okW at h
  omega
theorem wrap_nat {n : Nat} (h : n < 2 ^ 64) : IntKind.wrap .u64 (n : Int) = (n : Int) := wrap_u64 (by omega) (by omega)
theorem okW_nat {n : Nat} (h : n < 2 ^ 64) : okW (n : Int) := ⟨by omega, by omega⟩
theorem gand_nat {a b : Int} (ha : okW a) (hb : okW b) : gand .u64 a b = ((a.toNat &&& b.toNat : Nat) : Int) := by
  have e : (BitVec.ofInt 64 a &&& BitVec.ofInt 64 b).toNat = a.toNat &&& b.toNat := by rw [BitVec.toNat_and, ofInt_ok ha, ofInt_ok hb]
  show IntKind.wrap .u64 (((BitVec.ofInt 64 a &&& BitVec.ofInt 64 b).toNat : Nat) : Int) = _
  rw [e, wrap_nat (Nat.and_lt_two_pow _ (okW_lt hb))]
theorem gor_nat {a b : Int} (ha : okW a) (hb : okW b) : gor .u64 a b = ((a.toNat ||| b.toNat : Nat) : Int) := by
  have e : (BitVec.ofInt 64 a ||| BitVec.ofInt 64 b).toNat = a.toNat ||| b.toNat := by rw [BitVec.toNat_or, ofInt_ok ha, ofInt_ok hb]
  show IntKind.wrap .u64 (((BitVec.ofInt 64 a ||| BitVec.ofInt 64 b).toNat : Nat) : Int) = _
  rw [e, wrap_nat (Nat.or_lt_two_pow (okW_lt ha) (okW_lt hb))]
theorem gxor_nat {a b : Int} (ha : okW a) (hb : okW b) : gxor .u64 a b = ((a.toNat ^^^ b.toNat : Nat) : Int) := by
  have e : (BitVec.ofInt 64 a ^^^ BitVec.ofInt 64 b).toNat = a.toNat ^^^ b.toNat := by rw [BitVec.toNat_xor, ofInt_ok ha, ofInt_ok hb]
  show IntKind.wrap .u64 (((BitVec.ofInt 64 a ^^^ BitVec.ofInt 64 b).toNat : Nat) : Int) = _
  rw [e, wrap_nat (Nat.xor_lt_two_pow (okW_lt ha) (okW_lt hb))]
theorem gnot_bit {a : Int} (ha : okW a) (i : Nat) (hi : i < 64) : okW (gnot .u64 a) ∧ (gnot .u64 a).toNat.testBit i = !a.toNat.testBit i := by
  have hm : okW 18446744073709551615 := ⟨by decide, by decide⟩
  have e : gnot .u64 a = ((18446744073709551615 ^^^ a.toNat : Nat) : Int) := by
    have h2 : gnot .u64 a = gxor .u64 18446744073709551615 a := by
      show gxor .u64 (if IntKind.signed .u64 then -1 else IntKind.max .u64) a = _
      rfl
    rw [h2, gxor_nat hm ha]
    rfl
  have hlt : 18446744073709551615 ^^^ a.toNat < 2 ^ 64 := Nat.xor_lt_two_pow (by decide) (okW_lt ha)
  rw [e]
  refine ⟨okW_nat hlt, ?_⟩
  rw [Int.toNat_natCast, Nat.testBit_xor]
  have h3 : (18446744073709551615 : Nat).testBit i = true := by
    have := Nat.testBit_two_pow_sub_one 64 i
    simpa [hi] using this
  rw [h3]; simp
theorem word_ext {a b : Int} (ha : okW a) (hb : okW b) (h : ∀ i, i < 64 → a.toNat.testBit i = b.toNat.testBit i) : a = b := by
  have : a.toNat = b.toNat := by
    apply Nat.eq_of_testBit_eq
    intro i
    by_cases hi : i < 64
    · exact h i hi
    · rw [Nat.testBit_lt_two_pow (Nat.lt_of_lt_of_le (okW_lt ha) (Nat.pow_le_pow_right (by decide) (by omega))), Nat.testBit_lt_two_pow (Nat.lt_of_lt_of_le (okW_lt hb) (Nat.pow_le_pow_right (by decide) (by omega)))]
  unfold okW at ha hb
  omega
def bit (s : S4) (i : Nat) : Bool := (s.get ((i / 64 : Nat) : Int)).toNat.testBit (i % 64)
theorem get_ok {s : S4} (hs : okS s) (j : Int) : okW (s.get j) := by
  obtain ⟨h0, h1, h2, h3⟩ := hs
  unfold S4.get
  split <;> assumption
theorem idx_u8 {i : Nat} (hi : i < 256) : gquo .u8 (i : Int) 64 = ((i / 64 : Nat) : Int) ∧ grem (i : Int) 64 = ((i % 64 : Nat) : Int) := by
  constructor
  · show IntKind.wrap .u8 ((i : Int).tdiv 64) = _
    have : (i : Int).tdiv 64 = ((i / 64 : Nat) : Int) := by rw [Int.tdiv_eq_ediv_of_nonneg (by omega)]; omega
    rw [this, wrap_u8 (by omega) (by omega)]
  · show (i : Int).tmod 64 = _
    rw [Int.tmod_eq_emod_of_nonneg (by omega)]; omega
theorem idx_i64 {i : Nat} (hi : i < 256) : gquo .i64 (i : Int) 64 = ((i / 64 : Nat) : Int) := by
  show IntKind.wrap .i64 ((i : Int).tdiv 64) = _
  have : (i : Int).tdiv 64 = ((i / 64 : Nat) : Int) := by rw [Int.tdiv_eq_ediv_of_nonneg (by omega)]; omega
  rw [this, wrap_i64 (by omega) (by omega)]
theorem gshr_nat {w : Int} (hw : okW w) {b : Nat} (hb : b < 64) : gshr .u64 w (b : Int) = ((w.toNat >>> b : Nat) : Int) := by
  show w.fdiv (2 ^ (min (b : Int).toNat 64)) = _
  have e1 : min (b : Int).toNat 64 = b := by omega
  have e2 : w = ((w.toNat : Nat) : Int) := by unfold okW at hw; omega
  rw [e1, Nat.shiftRight_eq_div_pow]
  conv => lhs; rw [e2]
  have : ((2 : Int) ^ b) = ((2 ^ b : Nat) : Int) := by norm_cast
  rw [this, Int.fdiv_eq_ediv_of_nonneg _ (Int.natCast_nonneg _)]
  norm_cast
theorem shr_lt {n b : Nat} (h : n < 2 ^ 64) : n >>> b < 2 ^ 64 := by
  rw [Nat.shiftRight_eq_div_pow]
  exact Nat.lt_of_le_of_lt (Nat.div_le_self _ _) h
theorem Has_bit {s : S4} (hs : okS s) {i : Nat} (hi : i < 256) : F.charset.Has s (i : Int) = some (bit s i) := by
  obtain ⟨h1, h2⟩ := idx_u8 hi
  unfold F.charset.Has
  rw [h1, h2, if_pos (by rw [inR_iff]; omega), if_neg (by rw [decide_eq_true_eq]; omega)]
  have hw := get_ok hs ((i / 64 : Nat) : Int)
  rw [gshr_nat hw (Nat.mod_lt _ (by decide)), gand_nat (okW_nat (shr_lt (okW_lt hw))) ⟨by decide, by decide⟩]
  unfold bit
  rw [Int.toNat_natCast]
  have e : (Int.toNat 1) = 1 := rfl
  rw [e, Nat.and_one_is_mod]
  rw [Nat.testBit_eq_decide_div_mod_eq, Nat.shiftRight_eq_div_pow]
  generalize (s.get ((i / 64 : Nat) : Int)).toNat / 2 ^ (i % 64) % 2 = y
  congr 1
  rw [Bool.eq_iff_iff]
  simp
  omega
theorem hasB_bit {s : S4} (hs : okS s) {i : Nat} (hi : i < 256) : hasB s (i : Int) = bit s i := by
  unfold hasB
  rw [Has_bit hs hi]; rfl
theorem half {w : Int} (hw : okW w) : gquo .u64 w 2 = ((w.toNat / 2 : Nat) : Int) ∧ okW (gquo .u64 w 2) := by
  have h : gquo .u64 w 2 = ((w.toNat / 2 : Nat) : Int) := by
    show IntKind.wrap .u64 (w.tdiv 2) = _
    have : w.tdiv 2 = ((w.toNat / 2 : Nat) : Int) := by rw [Int.tdiv_eq_ediv_of_nonneg hw.1]; unfold okW at hw; omega
    rw [this]
    unfold okW at hw
    exact wrap_u64 (by omega) (by omega)
  refine ⟨h, ?_⟩
  rw [h]
  unfold okW at hw ⊢
  omega
theorem Has_l2 {n : Int} {m : Nat} (hn : grem n 64 = (m : Int)) (hm : m < 1000) (d : Nat) : ∀ (j i : Nat) (w : Int), okW w → i + d = m → d < j → F.ref01.Has_l2 n j w (i : Int) = some ((w.toNat >>> d : Nat) : Int) := by
  induction d with
  | zero =>
    intro j i w hw hi hj
    cases j with
    | zero => omega
    | succ j =>
      simp only [F.ref01.Has_l2, hn]
      rw [if_neg (by rw [decide_eq_true_eq]; omega), Nat.shiftRight_zero]
      unfold okW at hw
      congr 1
      omega
  | succ d ih =>
    intro j i w hw hi hj
    cases j with
    | zero => omega
    | succ j =>
      simp only [F.ref01.Has_l2, hn]
      rw [if_pos (by rw [decide_eq_true_eq]; omega)]
      obtain ⟨h1, h2⟩ := half hw
      have h3 : IntKind.wrap .i64 ((i : Int) + 1) = ((i + 1 : Nat) : Int) := by rw [wrap_i64 (by omega) (by omega)]; rfl
      rw [h3, ih j (i + 1) _ h2 (by omega) (by omega), h1]
      simp only [Int.toNat_natCast]
      rw [Nat.shiftRight_eq_div_pow, Nat.shiftRight_eq_div_pow, Nat.div_div_eq_div_mul, Nat.pow_succ, Nat.mul_comm 2]
theorem rem2 {x : Nat} : (grem ((x : Nat) : Int) 2 == 1) = x.testBit 0 := by
  have : grem ((x : Nat) : Int) 2 = ((x % 2 : Nat) : Int) := by
    show ((x : Nat) : Int).tmod 2 = _
    rw [Int.tmod_eq_emod_of_nonneg (by omega)]; omega
  rw [this, Nat.testBit_zero, Bool.eq_iff_iff]
  simp
  omega
theorem refHas_bit {s : S4} (hs : okS s) {i k : Nat} (hi : i < 256) (hk : 100 ≤ k) : F.ref01.Has k s (i : Int) = some (bit s i) := by
  obtain ⟨h0, h1, h2, h3⟩ := hs
  have hg : grem (i : Int) 64 = ((i % 64 : Nat) : Int) := (idx_u8 hi).2
  have key : ∀ w, okW w → F.ref01.Has_j1 k (i : Int) w = some (w.toNat.testBit (i % 64)) := by
    intro w hw
    unfold F.ref01.Has_j1
    have h5 := Has_l2 hg (by omega) (i % 64) k 0 w hw (by omega) (by omega)
    simp only [Int.ofNat_zero] at h5
    have h6 : F.ref01.Has_l2 (i : Int) k w 0 = some ((w.toNat >>> (i % 64) : Nat) : Int) := h5
    rw [h6, Option.bind_some, rem2, Nat.testBit_shiftRight]
    simp
  unfold F.ref01.Has F.ref01.Has_j3
  rw [if_neg (by rw [decide_eq_true_eq]; omega), if_neg (by rw [decide_eq_true_eq]; omega), idx_i64 hi]
  unfold bit
  have hc : i / 64 = 0 ∨ i / 64 = 1 ∨ i / 64 = 2 ∨ i / 64 = 3 := by omega
  rcases hc with hc | hc | hc | hc <;> rw [hc]
  · simpa [S4.get] using key _ h0
  · simpa [S4.get] using key _ h1
  · simpa [S4.get] using key _ h2
  · simpa [S4.get] using key _ h3
theorem upTo_step (s : S4) (n : Nat) : upTo s (n + 1) = upTo s n ++ (if hasB s (n : Int) then [(n : Int)] else []) := by
  simp only [upTo, List.range_succ, List.map_append, List.filter_append, List.map_cons, List.map_nil, List.filter_cons, List.filter_nil]
  rfl
def bt (s : S4) (i : Int) : Bool := if 0 ≤ i ∧ i < 256 then bit s i.toNat else false
theorem bt_nat {s : S4} {i : Nat} (hi : i < 256) : bt s (i : Int) = bit s i := by
  unfold bt
  rw [if_pos (by omega)]
  simp
theorem bt_out {s : S4} {i : Int} (hi : i < 0 ∨ 255 < i) : bt s i = false := by
  unfold bt
  rw [if_neg (by omega)]
theorem refHas_bt {s : S4} (hs : okS s) {k : Nat} (hk : 100 ≤ k) (i : Int) : F.ref01.Has k s i = some (bt s i) := by
  by_cases h1 : i < 0
  · unfold F.ref01.Has
    rw [if_pos (by rw [decide_eq_true_eq]; exact h1), bt_out (.inl h1)]
  · by_cases h2 : 255 < i
    · unfold F.ref01.Has
      rw [if_neg (by rw [decide_eq_true_eq]; exact h1), if_pos (by rw [decide_eq_true_eq]; exact h2), bt_out (.inr h2)]
    · have e : i = ((i.toNat : Nat) : Int) := by omega
      rw [e, refHas_bit hs (by omega) hk, bt_nat (by omega)]
def ext (s : S4) : Nat → Nat → Nat
  | 0, h => h
  | f + 1, h => if bt s ((h : Int) + 1) then ext s f (h + 1) else h
theorem ext_spec {s : S4} (f : Nat) : ∀ h : Nat, h < 256 → 256 ≤ h + f → h ≤ ext s f h ∧ ext s f h < 256 ∧ (∀ j : Nat, h < j → j ≤ ext s f h → bt s (j : Int) = true) ∧ bt s ((ext s f h : Int) + 1) = false := by
  induction f with
  | zero => intro h h1 h2; omega
  | succ f ih =>
    intro h h1 h2
    simp only [ext]
    cases hb : bt s ((h : Int) + 1) with
    | true =>
      simp only [if_true]
      have hlt : h + 1 < 256 := by
        rcases Nat.lt_or_ge (h + 1) 256 with h3 | h3
        · exact h3
        · rw [bt_out (.inr (by omega))] at hb; cases hb
      obtain ⟨g1, g2, g3, g4⟩ := ih (h + 1) hlt (by omega)
      refine ⟨by omega, g2, fun j hj1 hj2 => ?_, g4⟩
      rcases Nat.eq_or_lt_of_le (show h + 1 ≤ j by omega) with h3 | h3
      · subst h3; exact hb
      · exact g3 j h3 hj2
    | false =>
      simp only [Bool.false_eq_true, if_false]
      exact ⟨Nat.le_refl _, h1, fun j a b => by omega, hb⟩
theorem refRuns_l4 {s : S4} (hs : okS s) {k : Nat} (hk : 100 ≤ k) (f : Nat) : ∀ (j h : Nat), h < 256 → 256 ≤ h + f → f < j → F.ref01.Runs_l4 k s j (h : Int) = some (ext s f h : Int) := by
  induction f with
  | zero => intro j h h1 h2; omega
  | succ f ih =>
    intro j h h1 h2 h3
    cases j with
    | zero => omega
    | succ j =>
      have hw : IntKind.wrap .i64 ((h : Int) + 1) = (h : Int) + 1 := wrap_i64 (by omega) (by omega)
      simp only [F.ref01.Runs_l4, ext, hw]
      rw [refHas_bt hs hk, Option.bind_some]
      cases hb : bt s ((h : Int) + 1) with
      | true =>
        have hlt : h + 1 < 256 := by
          rcases Nat.lt_or_ge (h + 1) 256 with h4 | h4
          · exact h4
          · rw [bt_out (.inr (by omega))] at hb; cases hb
        simp only [if_true]
        have := ih j (h + 1) hlt (by omega) (by omega)
        simpa using this
      | false => simp
def Cr (s : S4) : Nat → List Run
  | 0 => []
  | n + 1 => Cr s n ++ (if bt s (n : Int) && !bt s ((n : Int) - 1) then [⟨(n : Int), (ext s 256 n : Int)⟩] else [])
theorem Cr_succ (s : S4) (n : Nat) : Cr s (n + 1) = Cr s n ++ (if bt s (n : Int) && !bt s ((n : Int) - 1) then [⟨(n : Int), (ext s 256 n : Int)⟩] else []) := rfl
theorem Cr_len (s : S4) : ∀ n, (Cr s n).length ≤ n
  | 0 => by simp [Cr]
  | n + 1 => by
    have := Cr_len s n
    simp only [Cr, List.length_append]
    split <;> simp <;> omega
theorem refRuns_l1 {s : S4} (hs : okS s) {k : Nat} (hk : 300 ≤ k) (d : Nat) : ∀ (j i : Nat), i + d = 256 → d < j → F.ref01.Runs_l1 k s j (Cr s i) (i : Int) = some (Cr s 256) := by
  induction d with
  | zero =>
    intro j i hi hj
    cases j with
    | zero => omega
    | succ j =>
      obtain rfl : i = 256 := by omega
      simp only [F.ref01.Runs_l1]
      rw [if_neg (by decide)]
  | succ d ih =>
    intro j i hi hj
    cases j with
    | zero => omega
    | succ j =>
      have hlen := Cr_len s i
      have h3 : IntKind.wrap .i64 ((i : Int) + 1) = ((i + 1 : Nat) : Int) := by rw [wrap_i64 (by omega) (by omega)]; rfl
      have h4 : IntKind.wrap .i64 ((i : Int) - 1) = (i : Int) - 1 := wrap_i64 (by omega) (by omega)
      have hn := ih j (i + 1) (by omega) (by omega)
      simp only [F.ref01.Runs_l1, h4]
      rw [if_pos (by rw [decide_eq_true_eq]; omega), refHas_bt hs (by omega), Option.bind_some, refHas_bt hs (by omega), Option.bind_some]
      cases hx : bt s (i : Int) with
      | false =>
        simp only [Bool.not_false, if_true, F.ref01.Runs_j3, F.ref01.Runs_j2, h3]
        rw [Cr_succ, hx, Bool.false_and, if_neg (by simp), List.append_nil] at hn
        exact hn
      | true =>
        simp only [Bool.not_true, Bool.false_eq_true, if_false, F.ref01.Runs_j3, F.ref01.Runs_j2, h3]
        cases hy : bt s ((i : Int) - 1) with
        | true =>
          simp only [if_true]
          rw [Cr_succ, hx, hy, Bool.not_true, Bool.and_false, if_neg (by simp), List.append_nil] at hn
          exact hn
        | false =>
          simp only [Bool.false_eq_true, if_false]
          rw [refRuns_l4 hs (by omega) 256 k i (by omega) (by omega) (by omega), Option.bind_some, if_pos (by rw [decide_eq_true_eq]; simp; omega), if_pos (by rw [decide_eq_true_eq]; simp; omega)]
          rw [Cr_succ, hx, hy, Bool.not_false, Bool.and_true, if_pos rfl] at hn
          exact hn
theorem refRuns {s : S4} (hs : okS s) {k : Nat} (hk : 300 ≤ k) : F.ref01.Runs k s = some (Cr s 256) := by
  unfold F.ref01.Runs
  have := refRuns_l1 hs hk 256 k 0 rfl (by omega)
  have h2 : F.ref01.Runs_l1 k s k [] 0 = some (Cr s 256) := this
  rw [h2]; rfl
def cutR (n : Int) (r : Run) : Run := ⟨r.Lo, min r.Hi (n - 1)⟩
structure Inv (s : S4) (n : Nat) : Prop where
  pos : ∀ r ∈ Cr s n, 0 ≤ r.Hi ∧ r.Hi < 256
  on : bt s ((n : Int) - 1) = true → ∃ init last, Cr s n = init ++ [last] ∧ (n : Int) - 1 ≤ last.Hi ∧ (∀ j : Int, (n : Int) - 1 ≤ j → j ≤ last.Hi → bt s j = true) ∧ bt s (last.Hi + 1) = false ∧ ∀ r ∈ init, r.Hi < (n : Int) - 1
  off : bt s ((n : Int) - 1) = false → ∀ r ∈ Cr s n, r.Hi < (n : Int) - 1
theorem inv (s : S4) : ∀ n : Nat, n ≤ 256 → Inv s n
  | 0, _ => ⟨fun r h => by simp [Cr] at h, fun h => (by rw [bt_out (.inl (by omega))] at h; cases h), fun _ r h => by simp [Cr] at h⟩
  | n + 1, hn => by
    have ih := inv s n (by omega)
    have e1 : ((n + 1 : Nat) : Int) - 1 = (n : Int) := by omega
    cases hx : bt s (n : Int) with
    | false =>
      have hC : Cr s (n + 1) = Cr s n := by rw [Cr_succ, hx, Bool.false_and, if_neg (by simp), List.append_nil]
      refine ⟨by rw [hC]; exact ih.pos, fun h => (by rw [e1, hx] at h; cases h), fun _ r hr => ?_⟩
      rw [hC] at hr
      rw [e1]
      cases hy : bt s ((n : Int) - 1) with
      | false => have := ih.off hy r hr; omega
      | true =>
        obtain ⟨init, last, h1, h2, h3, h4, h5⟩ := ih.on hy
        rw [h1] at hr
        rcases List.mem_append.1 hr with hr | hr
        · have := h5 r hr; omega
        · obtain rfl : r = last := by simpa using hr
          rcases (show r.Hi < n ∨ n ≤ r.Hi by omega) with h6 | h6
          · exact h6
          · rw [h3 n (by omega) h6] at hx; cases hx
    | true =>
      cases hy : bt s ((n : Int) - 1) with
      | true =>
        have hC : Cr s (n + 1) = Cr s n := by rw [Cr_succ, hx, hy, Bool.not_true, Bool.and_false, if_neg (by simp), List.append_nil]
        refine ⟨by rw [hC]; exact ih.pos, fun _ => ?_, fun h => by rw [e1, hx] at h; cases h⟩
        obtain ⟨init, last, h1, h2, h3, h4, h5⟩ := ih.on hy
        rw [hC, e1]
        have h6 : (n : Int) ≤ last.Hi := by
          rcases (show last.Hi < n ∨ (n : Int) ≤ last.Hi by omega) with h6 | h6
          · have : last.Hi + 1 = n := by omega
            rw [this, hx] at h4; cases h4
          · exact h6
        exact ⟨init, last, h1, h6, fun j hj1 hj2 => h3 j (by omega) hj2, h4, fun r hr => by have := h5 r hr; omega⟩
      | false =>
        have hC : Cr s (n + 1) = Cr s n ++ [⟨(n : Int), (ext s 256 n : Int)⟩] := by rw [Cr_succ, hx, hy, Bool.not_false, Bool.and_true, if_pos rfl]
        obtain ⟨g1, g2, g3, g4⟩ := ext_spec (s := s) 256 n (by omega) (by omega)
        refine ⟨fun r hr => ?_, fun _ => ?_, fun h => by rw [e1, hx] at h; cases h⟩
        · rw [hC] at hr
          rcases List.mem_append.1 hr with hr | hr
          · exact ih.pos r hr
          · obtain rfl : r = _ := by simpa using hr
            exact ⟨by simp, by simp; omega⟩
        · rw [hC, e1]
          refine ⟨_, _, rfl, by simp; omega, fun j hj1 hj2 => ?_, g4, fun r hr => by have := ih.off hy r hr; omega⟩
          simp only at hj2
          rcases (show (n : Int) < j ∨ j ≤ n by omega) with h6 | h6
          · have := g3 j.toNat (by omega) (by omega)
            rw [show j = ((j.toNat : Nat) : Int) by omega]
            exact this
          · rw [show j = (n : Int) by omega]; exact hx
theorem at_last {α : Type} [Inhabited α] (l : List α) (x : α) : at_ (l ++ [x]) (((l ++ [x]).length : Int) - 1) = x := by
  have : (((l ++ [x]).length : Int) - 1) = (l.length : Int) := by simp
  rw [this]; exact at_snoc l x
theorem set_last {α : Type} (l : List α) (x y : α) : set_ (l ++ [x]) (((l ++ [x]).length : Int) - 1) y = l ++ [y] := by
  have : (((l ++ [x]).length : Int) - 1) = (l.length : Int) := by simp
  rw [this]
  simp [set_]
theorem map_cut {l : List Run} {n : Int} (h : ∀ r ∈ l, r.Hi < n) : l.map (cutR (n + 1)) = l.map (cutR n) := by
  apply List.map_congr_left
  intro r hr
  have := h r hr
  simp only [cutR, Run.mk.injEq, true_and]
  omega
theorem Runs_step {s : S4} {n : Nat} (hn : n < 256) (hx : bt s (n : Int) = true) : F.charset.Runs_b1 (n : Int) ((Cr s n).map (cutR n)) = some (.next ((Cr s (n + 1)).map (cutR ((n + 1 : Nat) : Int)))) := by
  have hi := inv s n (by omega)
  have hlen := Cr_len s n
  have hwn : IntKind.wrap .i64 (n : Int) = (n : Int) := wrap_i64 (by omega) (by omega)
  have ecast : ((n + 1 : Nat) : Int) = (n : Int) + 1 := by omega
  cases hy : bt s ((n : Int) - 1) with
  | true =>
    obtain ⟨init, last, h1, h2, h3, h4, h5⟩ := hi.on hy
    have hC : Cr s (n + 1) = Cr s n := by rw [Cr_succ, hx, hy, Bool.not_true, Bool.and_false, if_neg (by simp), List.append_nil]
    have h6 : (n : Int) ≤ last.Hi := by
      rcases (show last.Hi < n ∨ (n : Int) ≤ last.Hi by omega) with h6 | h6
      · have : last.Hi + 1 = n := by omega
        rw [this, hx] at h4; cases h4
      · exact h6
    rw [hC, h1, List.map_append, List.map_append, ecast, map_cut (l := init) (n := n) (fun r hr => by have := h5 r hr; omega)]
    simp only [List.map_cons, List.map_nil]
    generalize hM : init.map (cutR (n : Int)) = M
    have hMl : M.length < 256 := by rw [← hM]; rw [h1] at hlen; simp at hlen ⊢; omega
    have hw : IntKind.wrap .i64 (((M ++ [cutR n last]).length : Int) - 1) = ((M ++ [cutR n last]).length : Int) - 1 := wrap_i64 (by omega) (by simp; omega)
    have hc : cutR n last = ⟨last.Lo, (n : Int) - 1⟩ := by simp only [cutR, Run.mk.injEq, true_and]; omega
    have hc2 : cutR ((n : Int) + 1) last = ⟨last.Lo, (n : Int)⟩ := by simp only [cutR, Run.mk.injEq, true_and]; omega
    unfold F.charset.Runs_b1 F.charset.Runs_j3 F.charset.Runs_j2
    rw [hw, at_last, set_last, hwn, hc, hc2]
    have hw2 : IntKind.wrap .i64 ((n : Int) - 1 + 1) = (n : Int) := by rw [wrap_i64 (by omega) (by omega)]; omega
    have hpos : (0 : Int) < ((M ++ [(⟨last.Lo, (n : Int) - 1⟩ : Run)]).length : Int) := by simp <;> omega
    rw [if_pos (by rw [decide_eq_true_eq]; exact hpos), if_pos (by rw [inR_iff]; omega), hw2, if_pos (by simp), if_pos (by rw [inR_iff]; omega)]
  | false =>
    have hC : Cr s (n + 1) = Cr s n ++ [⟨(n : Int), (ext s 256 n : Int)⟩] := by rw [Cr_succ, hx, hy, Bool.not_false, Bool.and_true, if_pos rfl]
    have hoff := hi.off hy
    obtain ⟨g1, g2, _, _⟩ := ext_spec (s := s) 256 n (by omega) (by omega)
    have hc2 : cutR ((n : Int) + 1) ⟨(n : Int), (ext s 256 n : Int)⟩ = ⟨(n : Int), (n : Int)⟩ := by simp only [cutR, Run.mk.injEq, true_and]; omega
    rw [hC, List.map_append, ecast, map_cut (l := Cr s n) (n := n) (fun r hr => by have := hoff r hr; omega)]
    simp only [List.map_cons, List.map_nil, hc2]
    have hall : ∀ r ∈ (Cr s n).map (cutR (n : Int)), 0 ≤ r.Hi ∧ r.Hi + 1 < n := by
      intro r hr
      obtain ⟨q, hq, rfl⟩ := List.mem_map.1 hr
      have h1 := hoff q hq
      have h2 := hi.pos q hq
      simp only [cutR]
      omega
    have hMl : ((Cr s n).map (cutR (n : Int))).length < 256 := by simp; omega
    generalize (Cr s n).map (cutR (n : Int)) = M at hall hMl
    have hj : F.charset.Runs_j3 M (n : Int) false = some (.next (M ++ [⟨(n : Int), (n : Int)⟩])) := by
      unfold F.charset.Runs_j3 F.charset.Runs_j2
      rw [if_neg (by simp), hwn, if_pos (by rw [decide_eq_true_eq]; simp; omega), if_pos (by rw [decide_eq_true_eq]; simp; omega)]
    unfold F.charset.Runs_b1
    rcases List.eq_nil_or_concat M with rfl | ⟨M', last, rfl⟩
    · rw [if_neg (by simp)]
      exact hj
    · rw [List.concat_eq_append] at hall hMl hj ⊢
      have hw : IntKind.wrap .i64 (((M' ++ [last]).length : Int) - 1) = ((M' ++ [last]).length : Int) - 1 := wrap_i64 (by omega) (by omega)
      have hl := hall last (by simp)
      have hpos : (0 : Int) < ((M' ++ [last]).length : Int) := by simp <;> omega
      have hw2 : IntKind.wrap .i64 (last.Hi + 1) = last.Hi + 1 := wrap_i64 (by omega) (by omega)
      rw [hw, at_last, hwn, hw2, if_pos (by rw [decide_eq_true_eq]; exact hpos), if_pos (by rw [inR_iff]; omega)]
      have hne : (last.Hi + 1 == (n : Int)) = false := by simp; omega
      rw [hne]
      exact hj
theorem Runs_steps {s : S4} (hs : okS s) : ∀ n : Nat, n ≤ 256 → steps F.charset.Runs_b1 [] (upTo s n) = some ((Cr s n).map (cutR n))
  | 0, _ => rfl
  | n + 1, hn => by
    have ih := Runs_steps hs n (by omega)
    have hb := hasB_bit hs (i := n) (by omega)
    rw [upTo_step, hb, ← bt_nat (by omega)]
    cases hx : bt s (n : Int) with
    | true => exact steps_snoc ih (Runs_step (by omega) hx)
    | false =>
      have hC : Cr s (n + 1) = Cr s n := by rw [Cr_succ, hx, Bool.false_and, if_neg (by simp), List.append_nil]
      have hi := inv s (n + 1) hn
      have ecast : ((n + 1 : Nat) : Int) = (n : Int) + 1 := by omega
      rw [hC, ecast, map_cut (l := Cr s n) (n := n) (fun r hr => ?_)]
      · simpa using ih
      · have := hi.off (by rw [show ((n + 1 : Nat) : Int) - 1 = (n : Int) by omega]; exact hx) r (by rw [hC]; exact hr)
        omega
theorem Runs_eq {s : S4} (hs : okS s) : F.charset.Runs s = some (Cr s 256) := by
  unfold F.charset.Runs
  have h := Runs_steps hs 256 (by omega)
  have hc : (Cr s 256).map (cutR ((256 : Nat) : Int)) = Cr s 256 := by
    have hi := inv s 256 (by omega)
    conv => rhs; rw [← List.map_id (Cr s 256)]
    apply List.map_congr_left
    intro r hr
    have := hi.pos r hr
    cases r
    simp only [cutR, id, Run.mk.injEq, true_and] at this ⊢
    omega
  rw [hc] at h
  have h2 := runR_next h
  have h3 : runR F.charset.Runs_b1 [] (allB s) = some (.next (Cr s 256)) := h2
  rw [h3]; rfl
theorem wrap_succ {i : Nat} (hi : i < 1000000) : IntKind.wrap .i64 ((i : Int) + 1) = ((i + 1 : Nat) : Int) := by rw [wrap_i64 (by omega) (by omega)]; rfl
theorem at_nat {α : Type} [Inhabited α] {b : List α} {i : Nat} (hi : i < b.length) : at_ b (i : Int) = b[i] := by
  unfold at_
  rw [Int.toNat_natCast, List.getD_eq_getElem?_getD, List.getElem?_eq_getElem hi]; rfl
def sg (b : Nat) : List UInt8 := (F.charset.sign (b : Int)).getD []
theorem sign_all : ∀ b : _root_.Fin 256, F.charset.sign (b.val : Int) = some (sg b.val) ∧ F.ref01.Sign (b.val : Int) = some (sg b.val) ∧ (sg b.val).length ≤ 4 := by decide +kernel
theorem sign_ok {b : Nat} (hb : b < 256) : F.charset.sign (b : Int) = some (sg b) := (sign_all ⟨b, hb⟩).1
theorem Sign_ok {b : Nat} (hb : b < 256) : F.ref01.Sign (b : Int) = some (sg b) := (sign_all ⟨b, hb⟩).2.1
theorem sg_len {b : Nat} (hb : b < 256) : (sg b).length ≤ 4 := (sign_all ⟨b, hb⟩).2.2
def runT (r : Run) : List UInt8 := sg r.Lo.toNat ++ (if r.Lo + 1 < r.Hi then [45] else []) ++ (if r.Lo < r.Hi then sg r.Hi.toNat else [])
def bodyT (l : List Run) : List UInt8 := l.flatMap runT
def okR (r : Run) : Prop := 0 ≤ r.Lo ∧ r.Lo ≤ r.Hi ∧ r.Hi < 256
theorem runT_len {r : Run} (h : okR r) : (runT r).length ≤ 9 := by
  obtain ⟨h1, h2, h3⟩ := h
  have a := sg_len (b := r.Lo.toNat) (by omega)
  have b := sg_len (b := r.Hi.toNat) (by omega)
  unfold runT
  split <;> split <;> simp <;> omega
theorem bodyT_len : ∀ {l : List Run}, (∀ r ∈ l, okR r) → (bodyT l).length ≤ 9 * l.length
  | [], _ => by simp [bodyT]
  | r :: l, h => by
    have a := runT_len (h r List.mem_cons_self)
    have b := bodyT_len (fun x hx => h x (List.mem_cons_of_mem _ hx))
    simp only [bodyT, List.flatMap_cons, List.length_append, List.length_cons] at *
    omega
theorem Cr_okR {s : S4} : ∀ n, n ≤ 256 → ∀ r ∈ Cr s n, okR r
  | 0, _, r, h => by simp [Cr] at h
  | n + 1, hn, r, h => by
    rw [Cr_succ, List.mem_append] at h
    rcases h with h | h
    · exact Cr_okR n (by omega) r h
    · split at h
      · simp only [List.mem_cons, List.not_mem_nil, or_false] at h
        subst h
        obtain ⟨h1, h2, _⟩ := ext_spec (s := s) 256 n (by omega) (by omega)
        exact ⟨by simp, by simp; omega, by simp; omega⟩
      · simp at h
theorem at_run {l : List Run} {i : Nat} (hi : i < l.length) : at_ l (i : Int) = l[i] := at_nat hi
theorem Print_l1 {l : List Run} (hl : ∀ r ∈ l, okR r) (hlen : l.length ≤ 256) (d : Nat) : ∀ (j i : Nat) (out : List UInt8), i + d = l.length → d < j → out.length ≤ 1 + 9 * i → F.charset.Print_l1 l j out (i : Int) = some (out ++ bodyT (l.drop i)) := by
  induction d with
  | zero =>
    intro j i out hi hj ho
    cases j with
    | zero => omega
    | succ j =>
      simp only [F.charset.Print_l1]
      rw [if_neg (by rw [decide_eq_true_eq]; omega), List.drop_eq_nil_of_le (by omega)]
      simp [bodyT]
  | succ d ih =>
    intro j i out hi hj ho
    cases j with
    | zero => omega
    | succ j =>
      have hlt : i < l.length := by omega
      have hr := hl l[i] (List.getElem_mem hlt)
      have hrl := runT_len hr
      obtain ⟨h1, h2, h3⟩ := hr
      obtain ⟨lo, hlo⟩ : ∃ n : Nat, l[i].Lo = (n : Int) := ⟨l[i].Lo.toNat, by omega⟩
      obtain ⟨hh, hhi⟩ : ∃ n : Nat, l[i].Hi = (n : Int) := ⟨l[i].Hi.toNat, by omega⟩
      have a := sg_len (b := lo) (by omega)
      have b := sg_len (b := hh) (by omega)
      simp only [F.charset.Print_l1, at_run hlt, hlo, hhi, F.charset.Print_j3, F.charset.Print_j4, F.charset.Print_j2]
      rw [List.drop_eq_getElem_cons hlt]
      simp only [bodyT, List.flatMap_cons]
      have hrt : runT l[i] = sg lo ++ (if (lo : Int) + 1 < hh then [45] else []) ++ (if (lo : Int) < hh then sg hh else []) := by
        unfold runT; rw [hlo, hhi]; simp
      rw [hrt] at hrl ⊢
      rw [if_pos (by rw [decide_eq_true_eq]; omega), if_pos (by rw [inR_iff]; omega), wrap_u8 (by omega) (by omega), sign_ok (by omega), wrap_u8 (by omega) (by omega), sign_ok (by omega)]
      simp only [Option.bind_some]
      rw [if_pos (by rw [decide_eq_true_eq]; omega), wrap_i64 (by omega) (by omega), wrap_succ (by omega)]
      by_cases c1 : (lo : Int) + 1 < hh
      · have c2 : (lo : Int) < hh := by omega
        simp only [c1, c2, if_true, decide_true] at hrl ⊢
        simp only [List.length_append, List.length_cons, List.length_nil] at hrl
        rw [if_pos (by rw [decide_eq_true_eq]; simp; omega), if_pos (by rw [decide_eq_true_eq]; simp; omega), ih j (i + 1) _ (by omega) (by omega) (by simp; omega)]
        simp [bodyT]
      · by_cases c2 : (lo : Int) < hh
        · simp only [c1, c2, if_true, if_false, decide_true, decide_false, Bool.false_eq_true] at hrl ⊢
          simp only [List.length_append, List.length_nil] at hrl
          rw [if_pos (by rw [decide_eq_true_eq]; simp; omega), ih j (i + 1) _ (by omega) (by omega) (by simp; omega)]
          simp [bodyT]
        · simp only [c1, c2, if_false, decide_false, Bool.false_eq_true] at hrl ⊢
          rw [ih j (i + 1) _ (by omega) (by omega) (by simp; omega)]
          simp [bodyT]
theorem refPrint_l1 {l : List Run} (hl : ∀ r ∈ l, okR r) (hlen : l.length ≤ 256) (d : Nat) : ∀ (j i : Nat) (out : List UInt8), i + d = l.length → d < j → out.length ≤ 1 + 9 * i → F.ref01.Print_l1 l j out (i : Int) = some (out ++ bodyT (l.drop i)) := by
  induction d with
  | zero =>
    intro j i out hi hj ho
    cases j with
    | zero => omega
    | succ j =>
      simp only [F.ref01.Print_l1]
      rw [if_neg (by rw [decide_eq_true_eq]; omega), List.drop_eq_nil_of_le (by omega)]
      simp [bodyT]
  | succ d ih =>
    intro j i out hi hj ho
    cases j with
    | zero => omega
    | succ j =>
      have hlt : i < l.length := by omega
      have hr := hl l[i] (List.getElem_mem hlt)
      have hrl := runT_len hr
      obtain ⟨h1, h2, h3⟩ := hr
      obtain ⟨lo, hlo⟩ : ∃ n : Nat, l[i].Lo = (n : Int) := ⟨l[i].Lo.toNat, by omega⟩
      obtain ⟨hh, hhi⟩ : ∃ n : Nat, l[i].Hi = (n : Int) := ⟨l[i].Hi.toNat, by omega⟩
      have a := sg_len (b := lo) (by omega)
      have b := sg_len (b := hh) (by omega)
      simp only [F.ref01.Print_l1, at_run hlt, hlo, hhi, F.ref01.Print_j3, F.ref01.Print_j4, F.ref01.Print_j2]
      rw [List.drop_eq_getElem_cons hlt]
      simp only [bodyT, List.flatMap_cons]
      have hrt : runT l[i] = sg lo ++ (if (lo : Int) + 1 < hh then [45] else []) ++ (if (lo : Int) < hh then sg hh else []) := by
        unfold runT; rw [hlo, hhi]; simp
      rw [hrt] at hrl ⊢
      rw [if_pos (by rw [decide_eq_true_eq]; omega), if_pos (by rw [inR_iff]; omega), Sign_ok (by omega), Sign_ok (by omega)]
      simp only [Option.bind_some]
      rw [if_pos (by rw [decide_eq_true_eq]; omega), wrap_i64 (by omega) (by omega), wrap_succ (by omega)]
      by_cases c1 : (lo : Int) + 1 < hh
      · have c2 : (lo : Int) < hh := by omega
        have c3 : (2 : Int) ≤ hh - lo := by omega
        have c4 : ((hh : Int) != lo) = true := by simp; omega
        simp only [c1, c2, c3, c4, if_true, decide_true] at hrl ⊢
        simp only [List.length_append, List.length_cons, List.length_nil] at hrl
        rw [if_pos (by rw [decide_eq_true_eq]; simp; omega), if_pos (by rw [decide_eq_true_eq]; simp; omega), ih j (i + 1) _ (by omega) (by omega) (by simp; omega)]
        simp [bodyT]
      · have c3 : ¬ (2 : Int) ≤ hh - lo := by omega
        by_cases c2 : (lo : Int) < hh
        · have c4 : ((hh : Int) != lo) = true := by simp; omega
          simp only [c1, c2, c3, c4, if_true, if_false, decide_false, Bool.false_eq_true] at hrl ⊢
          simp only [List.length_append, List.length_nil] at hrl
          rw [if_pos (by rw [decide_eq_true_eq]; simp; omega), ih j (i + 1) _ (by omega) (by omega) (by simp; omega)]
          simp [bodyT]
        · have c4 : ((hh : Int) != lo) = false := by simp; omega
          simp only [c1, c2, c3, c4, if_false, decide_false, Bool.false_eq_true] at hrl ⊢
          rw [ih j (i + 1) _ (by omega) (by omega) (by simp; omega)]
          simp [bodyT]
def printT (s : S4) : List UInt8 := 91 :: bodyT (Cr s 256) ++ [93]
theorem printT_len (s : S4) : (printT s).length ≤ 2306 := by
  have h := bodyT_len (Cr_okR (s := s) 256 (Nat.le_refl _))
  have h2 := Cr_len s 256
  unfold printT
  simp
  omega
theorem Print_ok {s : S4} (hs : okS s) {k : Nat} (hk : 300 ≤ k) : F.charset.Print k s = some (printT s) := by
  have hl := Cr_len s 256
  have hb := bodyT_len (Cr_okR (s := s) 256 (Nat.le_refl _))
  have h := Print_l1 (Cr_okR (s := s) 256 (Nat.le_refl _)) hl (Cr s 256).length k 0 [91] (by omega) (by omega) (by simp)
  have h2 : F.charset.Print_l1 (Cr s 256) k [91] 0 = _ := h
  unfold F.charset.Print
  rw [Runs_eq hs, Option.bind_some, h2, Option.bind_some, if_pos (by rw [decide_eq_true_eq]; simp; omega)]
  simp [printT]
theorem refPrint_ok {s : S4} (hs : okS s) {k : Nat} (hk : 300 ≤ k) : F.ref01.Print k s = some (printT s) := by
  have hl := Cr_len s 256
  have hb := bodyT_len (Cr_okR (s := s) 256 (Nat.le_refl _))
  have h := refPrint_l1 (Cr_okR (s := s) 256 (Nat.le_refl _)) hl (Cr s 256).length k 0 [91] (by omega) (by omega) (by simp)
  have h2 : F.ref01.Print_l1 (Cr s 256) k [91] 0 = _ := h
  unfold F.ref01.Print
  rw [refRuns hs hk, Option.bind_some, h2, Option.bind_some, if_pos (by rw [decide_eq_true_eq]; simp; omega)]
  simp [printT]
end Go.Vc.Cp
