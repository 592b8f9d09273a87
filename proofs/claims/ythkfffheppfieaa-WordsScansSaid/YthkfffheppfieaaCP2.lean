/-
  A set's text read: signs.
-/
import Derived.Test.YthkfffheppfieaaCP1
set_option linter.unusedVariables false
set_option linter.unusedSimpArgs false
set_option maxHeartbeats 1000000
namespace Go.Vc.Cp
open Go Go.Vc
def hexv (c : Nat) : Nat := if 48 ≤ c ∧ c ≤ 57 then c - 48 else if 97 ≤ c ∧ c ≤ 102 then c - 97 + 10 else if 65 ≤ c ∧ c ≤ 70 then c - 65 + 10 else 16
theorem digit_all : ∀ c : _root_.Fin 256, F.charset.digit (c.val : Int) = some (if hexv c.val < 16 then (hexv c.val : Int) else -1) := by decide +kernel
theorem Digit_all : ∀ c : _root_.Fin 256, F.ref01.Digit 300 (c.val : Int) = some (hexv c.val : Int) := by decide +kernel
def spec9 (c : Nat) : Nat := if c = 10 then 110 else if c = 9 then 116 else if c = 13 then 114 else if c = 32 then 115 else if c = 91 ∨ c = 93 ∨ c = 92 ∨ c = 45 ∨ c = 94 then c else 0
theorem special_all : ∀ c : _root_.Fin 256, F.ref01.special (c.val : Int) = some (spec9 c.val : Int) := by decide +kernel
def escv (c : Nat) : Nat := if c = 110 then 10 else if c = 116 then 9 else if c = 114 then 13 else if c = 115 then 32 else if c = 91 ∨ c = 93 ∨ c = 92 ∨ c = 45 ∨ c = 94 then c else 256
def hexS : List UInt8 → Nat × Nat × Nat
  | a :: b :: _ => if hexv a.toNat < 16 ∧ hexv b.toNat < 16 then (16 * hexv a.toNat + hexv b.toNat, 4, 0) else (0, 0, 12)
  | _ => (0, 0, 12)
def escS : List UInt8 → Nat × Nat × Nat
  | [] => (0, 0, 12)
  | d :: r => if d.toNat = 120 then hexS r else if escv d.toNat < 256 then (escv d.toNat, 2, 0) else (0, 0, 12)
def oneS : List UInt8 → Nat × Nat × Nat
  | [] => (0, 0, 14)
  | c :: r => if c.toNat ≠ 92 then (if c.toNat ≤ 32 ∨ 127 ≤ c.toNat ∨ spec9 c.toNat ≠ 0 then (0, 0, 11) else (c.toNat, 1, 0)) else escS r
def i3 (x : Nat × Nat × Nat) : Int × Int × Int := ((x.1 : Int), (x.2.1 : Int), (x.2.2 : Int))
theorem u8_lt (c : UInt8) : c.toNat < 256 := c.toNat_lt
theorem hexv_le (c : Nat) : hexv c ≤ 16 := by unfold hexv; split <;> (try split) <;> (try split) <;> omega
theorem hexS_spec (r : List UInt8) : (hexS r).1 < 256 ∧ ((hexS r).2.2 = 0 → (hexS r).2.1 = 4 ∧ 2 ≤ r.length) := by
  match r with
  | [] => simp [hexS]
  | [a] => simp [hexS]
  | a :: b :: r =>
    simp only [hexS]
    split
    · simp; omega
    · simp
theorem escS_spec (r : List UInt8) : (escS r).1 < 256 ∧ ((escS r).2.2 = 0 → 2 ≤ (escS r).2.1 ∧ (escS r).2.1 ≤ r.length + 1) := by
  match r with
  | [] => simp [escS]
  | d :: r =>
    simp only [escS]
    split
    · have := hexS_spec r
      refine ⟨this.1, fun h => ?_⟩
      have := this.2 h
      simp
      omega
    · split
      · simp; omega
      · simp
theorem oneS_spec (r : List UInt8) : (oneS r).1 < 256 ∧ ((oneS r).2.2 = 0 → 1 ≤ (oneS r).2.1 ∧ (oneS r).2.1 ≤ r.length) := by
  match r with
  | [] => simp [oneS]
  | c :: r =>
    have := u8_lt c
    simp only [oneS]
    split
    · split <;> simp <;> omega
    · have := escS_spec r
      refine ⟨this.1, fun h => ?_⟩
      have := this.2 h
      simp
      omega
theorem sAt_drop {t : List UInt8} {i : Nat} (j : Nat) : sAt t ((i + j : Nat) : Int) = (((t.drop i).getD j 0).toNat : Int) := by
  unfold sAt
  rw [Int.toNat_natCast, List.getD_eq_getElem?_getD, List.getD_eq_getElem?_getD, List.getElem?_drop]
theorem digit_ok (c : UInt8) : F.charset.digit (c.toNat : Int) = some (if hexv c.toNat < 16 then (hexv c.toNat : Int) else -1) := digit_all ⟨c.toNat, u8_lt c⟩
theorem special_ok {c : Nat} (hc : c < 256) : F.ref01.special (c : Int) = some (spec9 c : Int) := special_all ⟨c, hc⟩
def seek (c : Nat) : Nat → Nat → Nat
  | 0, _ => 256
  | j + 1, n => if n < 256 then (if spec9 n = c ∧ spec9 n ≠ 0 then n else seek c j (n + 1)) else 256
theorem seek_all : ∀ c : _root_.Fin 256, seek c.val 300 0 = escv c.val := by decide +kernel
def wrapR (m : Nat) : LR Unit (Int × Int × Int) := if m < 256 then .ret ((m : Int), 2, 0) else .done ()
theorem one_l3_in {at_ : Int} {text : List UInt8} {c : Nat} (h1 : decide (IntKind.wrap .i64 (at_ + 1) < (text.length : Int)) = true) (h2 : inR (IntKind.wrap .i64 (at_ + 1)) text.length = true) (hc : sAt text (IntKind.wrap .i64 (at_ + 1)) = (c : Int)) :
    ∀ (j n : Nat), n ≤ 256 → 257 ≤ j + n → F.ref01.one_l3 at_ text j (n : Int) = some (wrapR (seek c j n)) := by
  intro j
  induction j with
  | zero =>
    intro n hn hn2
    omega
  | succ j ih =>
    intro n hn hn2
    simp only [F.ref01.one_l3, seek]
    by_cases hlt : n < 256
    · rw [if_pos (by rw [decide_eq_true_eq]; omega), h1, if_pos hlt]
      simp only [F.ref01.one_j4, h2, if_true, special_ok hlt, Option.bind_some, hc, F.ref01.one_j6, F.ref01.one_j5, wrap_succ (show n < 1000000 by omega)]
      by_cases e1 : spec9 n = c
      · rw [if_pos (by simp [e1])]
        by_cases e2 : spec9 n = 0
        · rw [if_neg (by simp [e2]), if_neg (by simp [e2]), ih (n + 1) (by omega) (by omega)]
        · rw [if_pos (by simp; omega), if_pos ⟨e1, e2⟩]
          simp [wrapR, hlt]
      · rw [if_neg (by simp; omega), ih (n + 1) (by omega) (by omega)]
        simp [e1]
    · rw [if_neg (by rw [decide_eq_true_eq]; omega), if_neg hlt]
      simp [F.ref01.one_j4, wrapR]
theorem seek_fuel {c : Nat} : ∀ (j n m : Nat), n ≤ 256 → 257 ≤ j + n → j ≤ m → seek c m n = seek c j n := by
  intro j
  induction j with
  | zero => intro n m h1 h2; omega
  | succ j ih =>
    intro n m h1 h2 h3
    cases m with
    | zero => omega
    | succ m =>
      simp only [seek]
      by_cases hlt : n < 256
      · rw [if_pos hlt, if_pos hlt, ih (n + 1) m (by omega) (by omega) (by omega)]
      · rw [if_neg hlt, if_neg hlt]
theorem one_j2_ok {at_ : Int} {text : List UInt8} {k : Nat} (hk : 300 ≤ k) : 
    (∀ c : UInt8, decide (IntKind.wrap .i64 (at_ + 1) < (text.length : Int)) = true → inR (IntKind.wrap .i64 (at_ + 1)) text.length = true → sAt text (IntKind.wrap .i64 (at_ + 1)) = (c.toNat : Int) →
      F.ref01.one_j2 k at_ text = some (if escv c.toNat < 256 then ((escv c.toNat : Int), 2, 0) else (0, 0, 12))) ∧
    (decide (IntKind.wrap .i64 (at_ + 1) < (text.length : Int)) = false → F.ref01.one_j2 k at_ text = some (0, 0, 12)) := by
  constructor
  · intro c h1 h2 hc
    unfold F.ref01.one_j2
    have h := one_l3_in h1 h2 hc k 0 (by omega) (by omega)
    have h' : F.ref01.one_l3 at_ text k 0 = _ := h
    have hs : seek c.toNat 300 0 = escv c.toNat := seek_all ⟨c.toNat, u8_lt c⟩
    rw [seek_fuel 300 0 k (by omega) (by omega) hk, hs] at h'
    rw [h', Option.bind_some]
    unfold wrapR
    split <;> rfl
  · intro h1
    unfold F.ref01.one_j2
    obtain ⟨k, rfl⟩ : ∃ k', k = k' + 1 := ⟨k - 1, by omega⟩
    simp [F.ref01.one_l3, h1, F.ref01.one_j4, LR.fin]
theorem Digit_l1_fuel {c : Int} : ∀ (j n m : Nat), n ≤ 16 → 17 ≤ j + n → j ≤ m → F.ref01.Digit_l1 c m (n : Int) = F.ref01.Digit_l1 c j (n : Int) := by
  intro j
  induction j with
  | zero => intro n m h1 h2; omega
  | succ j ih =>
    intro n m h1 h2 h3
    cases m with
    | zero => omega
    | succ m =>
      simp only [F.ref01.Digit_l1, F.ref01.Digit_j2, wrap_succ (show n < 1000000 by omega)]
      by_cases hlt : n < 16
      · rw [ih (n + 1) m (by omega) (by omega) (by omega)]
      · rw [if_neg (by rw [decide_eq_true_eq]; omega), if_neg (by rw [decide_eq_true_eq]; omega)]
theorem Digit_ok {k : Nat} (hk : 300 ≤ k) (c : UInt8) : F.ref01.Digit k (c.toNat : Int) = some (hexv c.toNat : Int) := by
  have h := Digit_all ⟨c.toNat, u8_lt c⟩
  have h2 := Digit_l1_fuel (c := (c.toNat : Int)) 300 0 k (by omega) (by omega) hk
  have h3 : F.ref01.Digit_l1 (c.toNat : Int) k 0 = F.ref01.Digit_l1 (c.toNat : Int) 300 0 := h2
  unfold F.ref01.Digit at h ⊢
  rw [h3]
  exact h
theorem drop_cons {t : List UInt8} {i : Nat} (hi : i < t.length) : ∃ c r, t.drop i = c :: r ∧ r.length + i + 1 = t.length ∧ sAt t (i : Int) = (c.toNat : Int) := by
  refine ⟨t[i], t.drop (i + 1), List.drop_eq_getElem_cons hi, by rw [List.length_drop]; omega, ?_⟩
  unfold sAt
  rw [Int.toNat_natCast, List.getD_eq_getElem?_getD, List.getElem?_eq_getElem hi]; rfl
theorem one_ok {k : Nat} (hk : 300 ≤ k) {t : List UInt8} (ht : t.length < 100000) {i : Nat} (hi : i ≤ t.length) : F.ref01.one k t (i : Int) = some (i3 (oneS (t.drop i))) := by
  unfold F.ref01.one
  by_cases h0 : i = t.length
  · rw [if_pos (by rw [decide_eq_true_eq]; omega), List.drop_eq_nil_of_le (by omega)]; rfl
  · obtain ⟨c, r, hd, hr, hc⟩ := drop_cons (t := t) (i := i) (by omega)
    rw [if_neg (by rw [decide_eq_true_eq]; omega), if_pos (by rw [inR_iff]; omega), hc, hd]
    have hcl := u8_lt c
    have w1 : IntKind.wrap .i64 ((i : Int) + 1) = ((i + 1 : Nat) : Int) := wrap_succ (by omega)
    have w2 : IntKind.wrap .i64 ((i : Int) + 2) = ((i + 2 : Nat) : Int) := by rw [wrap_i64 (by omega) (by omega)]; rfl
    have w3 : IntKind.wrap .i64 ((i : Int) + 3) = ((i + 3 : Nat) : Int) := by rw [wrap_i64 (by omega) (by omega)]; rfl
    by_cases h92 : c.toNat = 92
    · rw [if_neg (by simp [h92])]
      have ho : oneS (c :: r) = escS r := by
        simp only [oneS]
        rw [if_neg (by simp [h92])]
      have o2 := one_j2_ok (at_ := (i : Int)) (text := t) hk
      match r, hr with
      | [], hr =>
        simp only [List.length_nil] at hr
        rw [w3, if_neg (by rw [decide_eq_true_eq]; omega)]
        have hf : decide (IntKind.wrap .i64 ((i : Int) + 1) < (t.length : Int)) = false := by rw [w1, decide_eq_false_iff_not]; omega
        simp only [F.ref01.one_j1, Bool.false_eq_true, if_false]
        rw [o2.2 hf, ho]; rfl
      | d :: r, hr =>
        simp only [List.length_cons] at hr
        have hd1 : sAt t (IntKind.wrap .i64 ((i : Int) + 1)) = (d.toNat : Int) := by rw [w1, sAt_drop 1, hd]; rfl
        have hlt1 : decide (IntKind.wrap .i64 ((i : Int) + 1) < (t.length : Int)) = true := by rw [w1, decide_eq_true_eq]; omega
        have hin1 : inR (IntKind.wrap .i64 ((i : Int) + 1)) t.length = true := by rw [w1, inR_iff]; omega
        have o3 := o2.1 d hlt1 hin1 hd1
        rw [ho]
        simp only [escS]
        match r, hr with
        | a :: b :: r', hr =>
          simp only [List.length_cons] at hr
          rw [if_pos (by rw [w3, decide_eq_true_eq]; omega), if_pos hin1, hd1]
          by_cases hx : d.toNat = 120
          · have ha : sAt t (IntKind.wrap .i64 ((i : Int) + 2)) = (a.toNat : Int) := by rw [w2, sAt_drop 2, hd]; rfl
            have hb : sAt t (IntKind.wrap .i64 ((i : Int) + 3)) = (b.toNat : Int) := by rw [w3, sAt_drop 3, hd]; rfl
            have e120 : escv 120 = 256 := by decide
            rw [hx, e120] at o3
            have va := hexv_le a.toNat
            have vb := hexv_le b.toNat
            simp only [hx, F.ref01.one_j1, if_true, hexS]
            rw [if_pos (by decide), if_pos (by rw [w2, inR_iff]; omega), if_pos (by rw [w3, inR_iff]; omega), ha, hb, Digit_ok hk, Digit_ok hk]
            simp only [Option.bind_some, F.ref01.one_j7]
            by_cases h1 : hexv a.toNat < 16
            · by_cases h2 : hexv b.toNat < 16
              · rw [if_pos (by rw [decide_eq_true_eq]; omega), if_pos (by rw [decide_eq_true_eq]; omega), if_pos ⟨h1, h2⟩]
                rw [wrap_i64 (n := 16 * _) (by omega) (by omega), wrap_i64 (by omega) (by omega)]
                simp only [i3, Int.natCast_add, Int.natCast_mul]
                rfl
              · rw [if_pos (by rw [decide_eq_true_eq]; omega), if_neg (by rw [decide_eq_true_eq]; omega), if_neg (fun h => h2 h.2), o3]; rfl
            · rw [if_neg (by rw [decide_eq_true_eq]; omega), if_neg (by simp), if_neg (fun h => h1 h.1), o3]; rfl
          · have hx2 : ((d.toNat : Int) == 120) = false := by simp; omega
            simp only [hx2, F.ref01.one_j1, Bool.false_eq_true, if_false, hx]
            rw [o3]
            split <;> rfl
        | [], hr =>
          simp only [List.length_nil] at hr
          rw [if_neg (by rw [w3, decide_eq_true_eq]; omega)]
          simp only [F.ref01.one_j1, Bool.false_eq_true, if_false]
          rw [o3]
          by_cases hx : d.toNat = 120
          · rw [hx, if_pos rfl]; rfl
          · simp only [hx, if_false]; split <;> rfl
        | [a], hr =>
          simp only [List.length_cons, List.length_nil] at hr
          rw [if_neg (by rw [w3, decide_eq_true_eq]; omega)]
          simp only [F.ref01.one_j1, Bool.false_eq_true, if_false]
          rw [o3]
          by_cases hx : d.toNat = 120
          · rw [hx, if_pos rfl]; rfl
          · simp only [hx, if_false]; split <;> rfl
    · have ho : oneS (c :: r) = if c.toNat ≤ 32 ∨ 127 ≤ c.toNat ∨ spec9 c.toNat ≠ 0 then (0, 0, 11) else (c.toNat, 1, 0) := by
        simp only [oneS]
        rw [if_pos h92]
      rw [if_pos (by simp; omega), ho]
      by_cases c1 : c.toNat ≤ 32
      · rw [if_pos (by rw [decide_eq_true_eq]; omega), if_pos (.inl c1)]; rfl
      · rw [if_neg (by rw [decide_eq_true_eq]; omega)]
        by_cases c2 : 127 ≤ c.toNat
        · rw [if_pos (by rw [decide_eq_true_eq]; omega), if_pos (.inr (.inl c2))]; rfl
        · rw [if_neg (by rw [decide_eq_true_eq]; omega), wrap_i64 (by omega) (by omega), special_ok hcl, Option.bind_some]
          by_cases c3 : spec9 c.toNat = 0
          · rw [if_neg (by simp [c3]), if_neg (by simp [c3]; omega)]; rfl
          · rw [if_pos (by simp; omega), if_pos (.inr (.inr c3))]; rfl
theorem sub_rest {t : List UInt8} {i : Nat} (_ : i ≤ t.length) : sub t (i : Int) (t.length : Int) = t.drop i := by
  unfold sub
  rw [Int.toNat_natCast, Int.toNat_natCast]
  apply List.take_of_length_le
  simp
def charR (t : List UInt8) (i : Nat) (rd : Charset_reader) : Int × Fault × Charset_reader :=
  if (oneS (t.drop i)).2.2 = 0 then (((oneS (t.drop i)).1 : Int), ⟨0, 0⟩, ⟨t, ((i + (oneS (t.drop i)).2.1 : Nat) : Int)⟩) else (0, ⟨(i : Int), ((oneS (t.drop i)).2.2 : Int)⟩, rd)
theorem escaped_ok {t : List UInt8} (ht : t.length < 100000) {i : Nat} (hi : i < t.length) : ∃ rd, F.charset.reader_escaped ⟨t, (i : Int)⟩ = some
    (if (escS (t.drop (i + 1))).2.2 = 0 then (((escS (t.drop (i + 1))).1 : Int), ⟨0, 0⟩, ⟨t, ((i + (escS (t.drop (i + 1))).2.1 : Nat) : Int)⟩) else (0, ⟨(i : Int), ((escS (t.drop (i + 1))).2.2 : Int)⟩, rd)) := by
  have w1 : IntKind.wrap .i64 ((i : Int) + 1) = ((i + 1 : Nat) : Int) := wrap_succ (by omega)
  have w2 : IntKind.wrap .i64 ((i : Int) + 2) = ((i + 2 : Nat) : Int) := by rw [wrap_i64 (by omega) (by omega)]; rfl
  have w4 : IntKind.wrap .i64 (((i + 2 : Nat) : Int) + 2) = ((i + 4 : Nat) : Int) := by rw [wrap_i64 (by omega) (by omega)]; omega
  have hok : okSub ((i + 1 : Nat) : Int) (t.length : Int) t.length = true := by rw [okSub_iff]; omega
  unfold F.charset.reader_escaped
  simp only [w1, w2, hok, if_true, sub_rest (show i + 1 ≤ t.length by omega)]
  generalize hr : t.drop (i + 1) = r
  have hrl : r.length = t.length - (i + 1) := by rw [← hr, List.length_drop]
  match r, hrl, hr with
  | [], hrl, hr => exact ⟨⟨t, (i : Int)⟩, by simp [escS]⟩
  | d :: r, hrl, hr =>
    simp only [List.length_cons] at hrl
    have hs0 : sAt (d :: r) 0 = (d.toNat : Int) := rfl
    have hd := u8_lt d
    have hbad : F.charset.reader_escaped_j1 ⟨t, (i : Int)⟩ = some (0, ⟨(i : Int), 12⟩, ⟨t, ((i + 2 : Nat) : Int)⟩) := by
      unfold F.charset.reader_escaped_j1
      simp only [w2]
    have hin0 : inR 0 (d :: r).length = true := by rw [inR_iff]; simp
    have hne : ((d :: r) == ([] : List UInt8)) = false := by simp
    have good : ∀ m : Nat, m ≠ 120 → d.toNat = m → escv m < 256 → F.charset.reader_escaped_j1 ⟨t, (i : Int)⟩ = F.charset.reader_escaped_j1 ⟨t, (i : Int)⟩ → ∀ (v : Int) (rd : Charset_reader), v = (escv m : Int) → some (v, (⟨0, 0⟩ : Fault), (⟨t, ((i + 2 : Nat) : Int)⟩ : Charset_reader)) = some
        (if (escS (d :: r)).2.2 = 0 then (((escS (d :: r)).1 : Int), ⟨0, 0⟩, ⟨t, ((i + (escS (d :: r)).2.1 : Nat) : Int)⟩) else (0, ⟨(i : Int), ((escS (d :: r)).2.2 : Int)⟩, rd)) := by
      intro m hm hdm hlt _ v rd hv
      have : escS (d :: r) = (escv m, 2, 0) := by
        simp only [escS]
        rw [hdm, if_neg hm, if_pos hlt]
      rw [this, hv]
      rfl
    rw [if_neg (by rw [hne]; simp), if_pos hin0, hs0]
    by_cases c1 : d.toNat = 110
    · rw [if_pos (by simp [c1])]
      exact ⟨⟨t, 0⟩, good 110 (by decide) c1 (by decide) rfl _ _ (by decide)⟩
    rw [if_neg (by simp; omega)]
    by_cases c2 : d.toNat = 116
    · rw [if_pos (by simp [c2])]
      exact ⟨⟨t, 0⟩, good 116 (by decide) c2 (by decide) rfl _ _ (by decide)⟩
    rw [if_neg (by simp; omega)]
    by_cases c3 : d.toNat = 114
    · rw [if_pos (by simp [c3])]
      exact ⟨⟨t, 0⟩, good 114 (by decide) c3 (by decide) rfl _ _ (by decide)⟩
    rw [if_neg (by simp; omega)]
    by_cases c4 : d.toNat = 115
    · rw [if_pos (by simp [c4])]
      exact ⟨⟨t, 0⟩, good 115 (by decide) c4 (by decide) rfl _ _ (by decide)⟩
    rw [if_neg (by simp; omega)]
    have j3t : F.charset.reader_escaped_j3 ⟨t, (i : Int)⟩ true = some (IntKind.wrap .i64 (d.toNat : Int), (⟨0, 0⟩ : Fault), (⟨t, ((i + 2 : Nat) : Int)⟩ : Charset_reader)) := by
      unfold F.charset.reader_escaped_j3
      simp only [w1, w2, sub_rest (show i + 1 ≤ t.length by omega), hr, hs0, if_true]
    by_cases c5 : d.toNat = 91
    · rw [if_pos (by simp [c5]), show ((d.toNat : Int) == 91) = true by simp [c5], j3t, c5]
      exact ⟨⟨t, 0⟩, good 91 (by decide) c5 (by decide) rfl _ _ (by decide)⟩
    rw [if_neg (by simp; omega)]
    by_cases c6 : d.toNat = 93
    · rw [if_pos (by simp [c6]), show ((d.toNat : Int) == 93) = true by simp [c6], j3t, c6]
      exact ⟨⟨t, 0⟩, good 93 (by decide) c6 (by decide) rfl _ _ (by decide)⟩
    rw [if_neg (by simp; omega)]
    simp only [F.charset.reader_escaped_j6]
    by_cases c7 : d.toNat = 92
    · rw [if_pos (by simp [c7]), show ((d.toNat : Int) == 92) = true by simp [c7], j3t, c7]
      exact ⟨⟨t, 0⟩, good 92 (by decide) c7 (by decide) rfl _ _ (by decide)⟩
    rw [if_neg (by simp; omega)]
    by_cases c8 : d.toNat = 45
    · rw [if_pos (by simp [c8]), show ((d.toNat : Int) == 45) = true by simp [c8], j3t, c8]
      exact ⟨⟨t, 0⟩, good 45 (by decide) c8 (by decide) rfl _ _ (by decide)⟩
    rw [if_neg (by simp; omega)]
    by_cases c9 : d.toNat = 94
    · rw [show ((d.toNat : Int) == 94) = true by simp [c9], j3t, c9]
      exact ⟨⟨t, 0⟩, good 94 (by decide) c9 (by decide) rfl _ _ (by decide)⟩
    rw [show ((d.toNat : Int) == 94) = false by simp; omega]
    have he : escv d.toNat = 256 := by
      unfold escv
      rw [if_neg c1, if_neg c2, if_neg c3, if_neg c4, if_neg (by omega)]
    unfold F.charset.reader_escaped_j3 F.charset.reader_escaped_j4 F.charset.reader_escaped_j2
    simp only [w1, sub_rest (show i + 1 ≤ t.length by omega), hr, hs0, Bool.false_eq_true, if_false, hbad]
    refine ⟨⟨t, ((i + 2 : Nat) : Int)⟩, ?_⟩
    by_cases c10 : d.toNat = 120
    · rw [if_pos (by simp [c10])]
      have hes : escS (d :: r) = hexS r := by simp only [escS]; rw [if_pos c10]
      rw [hes]
      match r, hrl, hr with
      | a :: b :: r', hrl, hr =>
        simp only [List.length_cons] at hrl
        have hs1 : sAt (d :: a :: b :: r') 1 = (a.toNat : Int) := rfl
        have hs2 : sAt (d :: a :: b :: r') 2 = (b.toNat : Int) := rfl
        have va := hexv_le a.toNat
        have vb := hexv_le b.toNat
        have hi1 : inR 1 (d :: a :: b :: r').length = true := by rw [inR_iff]; simp; omega
        have hi2 : inR 2 (d :: a :: b :: r').length = true := by rw [inR_iff]; simp; omega
        rw [if_pos (by rw [decide_eq_true_eq]; simp; omega), if_pos hi1, hs1, hs2, digit_ok, digit_ok, if_pos hi2]
        unfold F.charset.reader_escaped_j5 F.charset.reader_escaped_j4 F.charset.reader_escaped_j2
        simp only [w1, w2, w4, sub_rest (show i + 1 ≤ t.length by omega), hr, hbad, hi1, hi2, hs1, hs2, digit_ok, if_true, Option.bind_some, hexS]
        by_cases h1 : hexv a.toNat < 16
        · by_cases h2 : hexv b.toNat < 16
          · simp only [h1, h2, if_true, and_self]
            rw [if_pos (by rw [decide_eq_true_eq]; omega), if_pos (by rw [decide_eq_true_eq]; omega)]
            rw [wrap_i64 (n := 16 * _) (by omega) (by omega), wrap_i64 (by omega) (by omega)]
            simp only [Int.natCast_add, Int.natCast_mul]
            rfl
          · simp only [h1, h2, if_true, if_false, and_false]
            simp
        · simp only [h1, if_false, false_and]
          simp
      | [], hrl, hr =>
        unfold F.charset.reader_escaped_j5 F.charset.reader_escaped_j4 F.charset.reader_escaped_j2
        simp only [hbad, hexS]
        rw [if_neg (by rw [decide_eq_true_eq]; simp)]
        simp
      | [a], hrl, hr =>
        unfold F.charset.reader_escaped_j5 F.charset.reader_escaped_j4 F.charset.reader_escaped_j2
        simp only [hbad, hexS]
        rw [if_neg (by rw [decide_eq_true_eq]; simp)]
        simp
    · rw [if_neg (by simp; omega)]
      have hes : escS (d :: r) = (0, 0, 12) := by
        simp only [escS]
        rw [if_neg c10, if_neg (by omega)]
      rw [hes]
      simp
theorem char_ok {t : List UInt8} (ht : t.length < 100000) {i : Nat} (hi : i ≤ t.length) : ∃ rd, F.charset.reader_char ⟨t, (i : Int)⟩ = some (charR t i rd) := by
  unfold F.charset.reader_char charR
  by_cases h0 : i = t.length
  · rw [if_pos (by rw [decide_eq_true_eq]; simp only; omega), List.drop_eq_nil_of_le (by omega)]
    refine ⟨⟨t, (i : Int)⟩, ?_⟩
    subst h0
    simp [oneS]
  · obtain ⟨c, r, hd, hr, hc⟩ := drop_cons (t := t) (i := i) (by omega)
    have hd1 : t.drop (i + 1) = r := by rw [← List.drop_drop, hd]; rfl
    have hcl := u8_lt c
    rw [if_neg (by rw [decide_eq_true_eq]; simp only; omega), if_pos (by rw [inR_iff]; simp only; omega)]
    simp only [hc, hd]
    by_cases h92 : c.toNat = 92
    · have ho : oneS (c :: r) = escS r := by simp only [oneS]; rw [if_neg (by simp [h92])]
      rw [if_pos (by simp [h92]), ho]
      obtain ⟨rd, hE⟩ := escaped_ok ht (i := i) (by omega)
      rw [hd1] at hE
      refine ⟨rd, ?_⟩
      rw [hE, Option.bind_some]
    · have hbad : (c.toNat ≤ 32 ∨ 127 ≤ c.toNat ∨ spec9 c.toNat ≠ 0) → oneS (c :: r) = (0, 0, 11) := by
        intro h
        simp only [oneS]
        rw [if_pos h92, if_pos h]
      rw [if_neg (by simp; omega)]
      refine ⟨⟨t, (i : Int)⟩, ?_⟩
      simp only [F.charset.reader_char_j1]
      have w1 : IntKind.wrap .i64 ((i : Int) + 1) = ((i + 1 : Nat) : Int) := wrap_succ (by omega)
      by_cases c1 : c.toNat ≤ 32
      · rw [if_pos (by rw [decide_eq_true_eq]; omega), hbad (.inl c1)]; simp
      rw [if_neg (by rw [decide_eq_true_eq]; omega)]
      by_cases c2 : 127 ≤ c.toNat
      · rw [if_pos (by rw [decide_eq_true_eq]; omega), hbad (.inr (.inl c2))]; simp
      rw [if_neg (by rw [decide_eq_true_eq]; omega)]
      by_cases c3 : c.toNat = 91
      · rw [if_pos (by simp [c3]), hbad (by rw [c3]; decide)]; simp
      rw [if_neg (by simp; omega)]
      by_cases c4 : c.toNat = 93
      · rw [if_pos (by simp [c4]), hbad (by rw [c4]; decide)]; simp
      rw [if_neg (by simp; omega)]
      by_cases c5 : c.toNat = 45
      · rw [if_pos (by simp [c5]), hbad (by rw [c5]; decide)]; simp
      rw [if_neg (by simp; omega)]
      by_cases c6 : c.toNat = 94
      · rw [show ((c.toNat : Int) == 94) = true by simp [c6], hbad (by rw [c6]; decide)]; simp
      rw [show ((c.toNat : Int) == 94) = false by simp; omega]
      have hs : spec9 c.toNat = 0 := by
        unfold spec9
        rw [if_neg (by omega), if_neg (by omega), if_neg (by omega), if_neg (by omega), if_neg (by omega)]
      have ho : oneS (c :: r) = (c.toNat, 1, 0) := by
        simp only [oneS]
        rw [if_pos h92, if_neg (by rw [hs]; omega)]
      rw [ho, w1, wrap_i64 (by omega) (by omega)]
      simp [hc]
end Go.Vc.Cp
