import Derived.Test.YtdbnoblklhgdoaaGreatDoorWA
import Derived.Test.YtdbnoblklhgdoaaGreatDoorCQ2
set_option linter.unusedVariables false
set_option linter.unusedSimpArgs false
namespace Go.Vc
open Go
def us (s : List UInt8) (i : Nat) : Nat := 1 + (s.take i).count 10
def colN (s : List UInt8) : Nat -> Nat
 | 0 => 1
 | i + 1 => if s.getD i 0 = 10 then 1 else colN s i + 1
theorem colN_le (s : List UInt8) : ∀ i, 1 <= colN s i /\ colN s i <= i + 1
 | 0 => by simp [colN]
 | i + 1 => by
  have := colN_le s i
  unfold colN
  split <;> omega
theorem lnN_le (s : List UInt8) (i : Nat) : us s i <= i + 1 := by
 unfold us
 have := List.count_le_length (a := (10 : UInt8)) (l := s.take i)
 rw [List.length_take] at this
 omega
theorem lnN_succ {s : List UInt8} {i : Nat} (h : i < s.length) : us s (i + 1) = if s[i] = 10 then us s i + 1 else us s i := by
 unfold us
 rw [List.take_succ_eq_append_getElem h, List.count_append, List.count_singleton]
 by_cases hc : s[i] = 10
 ·simp [hc]; omega
 ·simp [hc]
theorem app_ok {a b : List Int} (h : a.length + b.length < 1000000) : decide ((a.length + b.length) * 1 <= 140737488355328) = true /\ decide (a.length + b.length <= 9223372036854775807) = true := ⟨decide_eq_true (by omega), decide_eq_true (by omega)⟩
def hv (n : Nat) : Option Nat := if 48 <= n /\ n <= 57 then some (n - 48) else if 97 <= n /\ n <= 102 then some (n - 87) else if 65 <= n /\ n <= 70 then some (n - 55) else none
theorem value_all : ∀ n : _root_.Fin 256, qw.value (n.val : Int) = some (match hv n.val with | none => -1 | some a => (a : Int)) := by decide +kernel
theorem value_ok (c : UInt8) : qw.value (c.toNat : Int) = some (match hv c.toNat with | none => -1 | some a => (a : Int)) := value_all ⟨c.toNat, c.toNat_lt⟩
theorem hv_lt {n a : Nat} (h : hv n = some a) : a < 16 := by
 unfold hv at h
 split at h
 ·cases h; omega
 split at h
 ·cases h; omega
 split at h
 ·cases h; omega
 ·cases h
def sign (v : Nat) : Option Nat := if v = 34 \/ v = 92 then some v else if v = 110 then some 10 else if v = 116 then some 9 else if v = 114 then some 13 else none
def esc : List UInt8 -> Option (Nat × Nat)
 | _ :: v :: rest => match sign v.toNat with
  | some b => some (b, 2)
  | none => if v.toNat = 120 then (match rest with
    | p :: q :: _ => (match hv p.toNat, hv q.toNat with
     | some a, some b => some (16 * a + b, 4)
     | _, _ => none)
    | _ => none) else none
 | _ => none
def escV : Option (Nat × Nat) -> Int × Int
 | none => (0, 0)
 | some (b, n) => ((b : Int), (n : Int))
theorem escape_ok (r : List UInt8) : qw.escape r = some (escV (esc r)) := by
 unfold qw.escape
 match r with
 | [] => rfl
 | [c] => rfl
 | c :: v :: rest =>
  have h1 : 1 < (c :: v :: rest).length := by simp
  have hin : xf 1 (c :: v :: rest).length = true := yQ (i := 1) h1
  have hs : yk (c :: v :: rest) 1 = ((v.toNat : Nat) : Int) := sAt_get (i := 1) h1
  have d0 : decide (((c :: v :: rest).length : Int) < 2) = false := decide_eq_false (by simp; omega)
  simp only [d0, hin, hs, Bool.false_eq_true, if_false, if_true, qw.escape_j1, qw.escape_j4, qw.escape_j3, qw.escape_j2]
  unfold esc
  simp only
  generalize hv' : v.toNat = n
  unfold sign
  by_cases c34 : n = 34
  ·subst c34; rfl
  by_cases c92 : n = 92
  ·subst c92; rfl
  have e34 : ((n : Int) == 34) = false := by rw [beq_eq_false_iff_ne]; omega
  have e92 : ((n : Int) == 92) = false := by rw [beq_eq_false_iff_ne]; omega
  by_cases c110 : n = 110
  ·subst c110; rfl
  by_cases c116 : n = 116
  ·subst c116; rfl
  by_cases c114 : n = 114
  ·subst c114; rfl
  have e110 : ((n : Int) == 110) = false := by rw [beq_eq_false_iff_ne]; omega
  have e116 : ((n : Int) == 116) = false := by rw [beq_eq_false_iff_ne]; omega
  have e114 : ((n : Int) == 114) = false := by rw [beq_eq_false_iff_ne]; omega
  have n0 : ¬ (n = 34 \/ n = 92) := fun h => h.elim c34 c92
  simp only [e34, e92, e110, e116, e114, Bool.false_eq_true, if_false, if_neg n0, if_neg c110, if_neg c116, if_neg c114]
  by_cases c120 : n = 120
  ·have e120 : ((n : Int) == 120) = true := by rw [beq_iff_eq]; omega
   simp only [e120, if_true, if_pos c120]
   match rest with
   | [] => rfl
   | [p] => rfl
   | p :: q :: rest2 =>
    have h2 : 2 < (c :: v :: p :: q :: rest2).length := by simp
    have h3 : 3 < (c :: v :: p :: q :: rest2).length := by simp
    have i2 : xf 2 (c :: v :: p :: q :: rest2).length = true := yQ (i := 2) h2
    have i3 : xf 3 (c :: v :: p :: q :: rest2).length = true := yQ (i := 3) h3
    have s2 : yk (c :: v :: p :: q :: rest2) 2 = ((p.toNat : Nat) : Int) := sAt_get (i := 2) h2
    have s3 : yk (c :: v :: p :: q :: rest2) 3 = ((q.toNat : Nat) : Int) := sAt_get (i := 3) h3
    have d4 : decide (4 <= ((c :: v :: p :: q :: rest2).length : Int)) = true := decide_eq_true (by simp; omega)
    simp only [d4, i2, i3, s2, s3, if_true, value_ok, Option.bind_some]
    cases hp : hv p.toNat with
    | none => simp [escV]
    | some a =>
     have ha := hv_lt hp
     cases hq : hv q.toNat with
     | none => simp [escV]
     | some b =>
      have hb := hv_lt hq
      have g1 : decide (0 <= (a : Int)) = true := decide_eq_true (by omega)
      have g2 : decide (0 <= (b : Int)) = true := decide_eq_true (by omega)
      simp only [g1, g2, if_true, escV]
      rw [zO (n := 16 * (a : Int)) (by omega) (by omega), zO (by omega) (by omega), show (16 * (a : Int) + (b : Int)) = ((16 * a + b : Nat) : Int) by omega]
      have : IntKind.wrap .u8 ((16 * a + b : Nat) : Int) = ((16 * a + b : Nat) : Int) := by
       simp only [IntKind.wrap, IntKind.bits, IntKind.signed]
       simp
       omega
      rw [this]
      rfl
  ·have e120 : ((n : Int) == 120) = false := by rw [beq_eq_false_iff_ne]; omega
   simp only [e120, Bool.false_eq_true, if_false, if_neg c120]
   rfl
def gP : Nat -> List UInt8 -> List Int -> Except (Option Nat × Int) (List Int × List UInt8)
 | 0, _, _ => .error (none, 13)
 | _ + 1, [], _ => .error (none, 13)
 | j + 1, c :: r, acc =>
  if c.toNat = 34 then .ok (acc, r)
  else if c.toNat = 92 then (match esc (c :: r) with
   | none => .error (some (r.length + 1), 12)
   | some (b, n) => gP j ((c :: r).drop n) (acc ++ [(b : Int)]))
  else if c.toNat < 32 \/ 126 < c.toNat then .error (some (r.length + 1), 11)
  else gP j r (acc ++ [(c.toNat : Int)])
def D (s : List UInt8) (i : Nat) (r : List UInt8) : Prop := s.drop i = r /\ i + r.length = s.length
theorem qd {s r : List UInt8} {c : UInt8} {i : Nat} (h : D s i (c :: r)) : i < s.length /\ yk s (i : Int) = (c.toNat : Int) /\ xf (i : Int) s.length = true /\ D s (i + 1) r := by
 obtain ⟨h1, h2⟩ := h
 simp only [List.length_cons] at h2
 have hi : i < s.length := by omega
 refine ⟨hi, ?_, yQ hi, ?_, by omega⟩
 ·have : s[i] = c := by
   rw [List.drop_eq_getElem_cons hi] at h1
   exact (List.cons.inj h1).1
  simp [yk, hi, this]
 ·rw [List.drop_eq_getElem_cons hi] at h1
  exact (List.cons.inj h1).2
theorem D_drop {s r : List UInt8} {i n : Nat} (h : D s i r) (hn : n <= r.length) : D s (i + n) (r.drop n) := by
 obtain ⟨h1, h2⟩ := h
 refine ⟨by rw [<- List.drop_drop, h1], by rw [List.length_drop]; omega⟩
theorem D_nil {s : List UInt8} {i : Nat} (h : D s i []) : i = s.length := by have := h.2; simpa using this
theorem D_sub {s r : List UInt8} {i : Nat} (h : D s i r) : sub s (i : Int) (s.length : Int) = r := by
 obtain ⟨h1, h2⟩ := h
 simp only [sub, Int.toNat_natCast, h1]
 rw [List.take_of_length_le (by omega)]
theorem esc_len {r : List UInt8} {b n : Nat} (h : esc r = some (b, n)) : 2 <= n /\ n <= r.length /\ b < 256 := by
 match r, h with
 | c :: v :: rest, h =>
  unfold esc at h
  have hvl := v.toNat_lt
  cases hs : sign v.toNat with
  | some b0 =>
   simp only [hs] at h
   cases h
   refine ⟨by omega, by simp, ?_⟩
   unfold sign at hs
   repeat' split at hs
   all_goals first | (cases hs; omega) | cases hs
  | none =>
   simp only [hs] at h
   split at h
   ·split at h
    ·split at h
     ·rename_i p q _ a b0 ha hb
      cases h
      have := hv_lt ha
      have := hv_lt hb
      refine ⟨by omega, by simp, by omega⟩
     ·cases h
    ·cases h
   ·cases h
def qn (s : List UInt8) (at' : Int) : Except (Option Nat × Int) (List Int × List UInt8) -> LR Unit (List Int × Int × Fault)
 | .error (none, _) => .done ()
 | .error (some m, c) => .ret ([], 0, ⟨((s.length - m : Nat) : Int), c⟩)
 | .ok (o, r) => .ret (o, ((s.length - r.length : Nat) : Int), ⟨0, 0⟩)
theorem jU {s : List UInt8} (hb : s.length < 100000) : ∀ (j i : Nat) (r : List UInt8) (acc : List Int), D s i r -> r.length < j -> acc.length + r.length < 400000 -> qw.quoted_l1 s j acc i = some (qn s 0 (gP j r acc))
 | 0, _, _, _, _, h, _ => by omega
 | j + 1, i, r, acc, hD, h1, h2 => by
  simp only [qw.quoted_l1]
  cases r with
  | nil =>
   have := D_nil hD
   subst this
   rw [if_neg (by simp)]
   rfl
  | cons c r =>
   obtain ⟨d1, d2, d3, d4⟩ := qd hD
   have d5 := hD.2
   simp only [List.length_cons] at h1 h2 d5
   have hsub : s.length - (r.length + 1) = i := by omega
   have dlt : decide ((i : Int) < (s.length : Int)) = true := decide_eq_true (by omega)
   simp only [dlt, d3, d2, if_true]
   unfold gP
   by_cases c34 : c.toNat = 34
   ·have e34 : ((c.toNat : Int) == 34) = true := by rw [beq_iff_eq]; omega
    simp only [e34, if_true, if_pos c34]
    rw [yg (by omega), show i + 1 = s.length - r.length by omega]
    rfl
   have e34 : ((c.toNat : Int) == 34) = false := by rw [beq_eq_false_iff_ne]; omega
   by_cases c92 : c.toNat = 92
   ·have e92 : ((c.toNat : Int) == 92) = true := by rw [beq_iff_eq]; omega
    have hcut : vp (i : Int) (s.length : Int) s.length = true := by simp [vp]; omega
    simp only [e34, e92, if_true, Bool.false_eq_true, if_false, if_neg c34, if_pos c92, hcut, D_sub hD, escape_ok, Option.bind_some]
    cases he : esc (c :: r) with
    | none =>
     have z : ((escV none).2 == 0) = true := rfl
     simp only [z, if_true, qn, hsub]
    | some p =>
     obtain ⟨b, n⟩ := p
     obtain ⟨l1, l2, l3⟩ := esc_len he
     simp only [List.length_cons] at l2
     have z : ((escV (some (b, n))).2 == 0) = false := by
      show ((n : Int) == 0) = false
      rw [beq_eq_false_iff_ne]; omega
     have a1 := app_ok (a := acc) (b := [(b : Int)]) (by simp; omega)
     have hw : IntKind.wrap .i64 ((i : Int) + (n : Int)) = ((i + n : Nat) : Int) := by rw [zO (by omega) (by omega)]; omega
     have ih := jU hb j (i + n) ((c :: r).drop n) (acc ++ [(b : Int)]) (D_drop hD (by simp; omega)) (by rw [List.length_drop, List.length_cons]; omega) (by rw [List.length_append, List.length_drop, List.length_cons]; simp; omega)
     simp only [z, Bool.false_eq_true, if_false]
     simp only [escV, a1.1, a1.2, if_true, qw.quoted_j5, qw.quoted_j4, qw.quoted_j3, qw.quoted_j2, hw]
     exact ih
   have e92 : ((c.toNat : Int) == 92) = false := by rw [beq_eq_false_iff_ne]; omega
   simp only [e34, e92, Bool.false_eq_true, if_false, if_neg c34, if_neg c92]
   by_cases hr : c.toNat < 32 \/ 126 < c.toNat
   ·rw [if_pos hr]
    have hj : qw.quoted_j6 i acc s (qw.quoted_l1 s j) true = some (.ret ([], 0, ⟨(i : Int), 11⟩)) := rfl
    by_cases hl : c.toNat < 32
    ·have dl : decide ((c.toNat : Int) < 32) = true := decide_eq_true (by omega)
     simp only [dl, if_true, hj, qn, hsub]
    ·have dl : decide ((c.toNat : Int) < 32) = false := decide_eq_false (by omega)
     have dh : decide (126 < (c.toNat : Int)) = true := decide_eq_true (by omega)
     simp only [dl, dh, Bool.false_eq_true, if_false, hj, qn, hsub]
   ·rw [if_neg hr]
    have dl : decide ((c.toNat : Int) < 32) = false := decide_eq_false (by omega)
    have dh : decide (126 < (c.toNat : Int)) = false := decide_eq_false (by omega)
    have a1 := app_ok (a := acc) (b := [(c.toNat : Int)]) (by simp; omega)
    have ih := jU hb j (i + 1) r (acc ++ [(c.toNat : Int)]) d4 (by omega) (by rw [List.length_append]; simp; omega)
    simp only [dl, dh, Bool.false_eq_true, if_false, qw.quoted_j6, d2, a1.1, a1.2, if_true, qw.quoted_j5, qw.quoted_j4, qw.quoted_j3, qw.quoted_j2]
    rw [yg (by omega)]
    exact ih
end Go.Vc
namespace Go.Vc.Cs
open Go Go.Vc
theorem xR {i : Nat} (hi : i < 1000000) : IntKind.wrap .i64 ((i : Int) + 1) = ((i + 1 : Nat) : Int) := by rw [zO (by omega) (by omega)]; rfl
def uQ (c : Nat) : Nat := if 48 <= c /\ c <= 57 then c - 48 else if 97 <= c /\ c <= 102 then c - 97 + 10 else if 65 <= c /\ c <= 70 then c - 65 + 10 else 16
theorem digit_all : ∀ c : _root_.Fin 256, qc.digit (c.val : Int) = some (if uQ c.val < 16 then (uQ c.val : Int) else -1) := by decide +kernel
def spec9 (c : Nat) : Nat := if c = 10 then 110 else if c = 9 then 116 else if c = 13 then 114 else if c = 32 then 115 else if c = 91 \/ c = 93 \/ c = 92 \/ c = 45 \/ c = 94 then c else 0
def escv (c : Nat) : Nat := if c = 110 then 10 else if c = 116 then 9 else if c = 114 then 13 else if c = 115 then 32 else if c = 91 \/ c = 93 \/ c = 92 \/ c = 45 \/ c = 94 then c else 256
def ug : List UInt8 -> Nat × Nat × Nat
 | a :: b :: _ => if uQ a.toNat < 16 /\ uQ b.toNat < 16 then (16 * uQ a.toNat + uQ b.toNat, 4, 0) else (0, 0, 12)
 | _ => (0, 0, 12)
def kp : List UInt8 -> Nat × Nat × Nat
 | [] => (0, 0, 12)
 | d :: r => if d.toNat = 120 then ug r else if escv d.toNat < 256 then (escv d.toNat, 2, 0) else (0, 0, 12)
def kG : List UInt8 -> Nat × Nat × Nat
 | [] => (0, 0, 14)
 | c :: r => if c.toNat ≠ 92 then (if c.toNat <= 32 \/ 127 <= c.toNat \/ spec9 c.toNat ≠ 0 then (0, 0, 11) else (c.toNat, 1, 0)) else kp r
def i3 (x : Nat × Nat × Nat) : Int × Int × Int := ((x.1 : Int), (x.2.1 : Int), (x.2.2 : Int))
theorem u8_lt (c : UInt8) : c.toNat < 256 := c.toNat_lt
theorem hexv_le (c : Nat) : uQ c <= 16 := by unfold uQ; split <;> (try split) <;> (try split) <;> omega
theorem hexS_spec (r : List UInt8) : (ug r).1 < 256 /\ ((ug r).2.2 = 0 -> (ug r).2.1 = 4 /\ 2 <= r.length) := by
 match r with
 | [] => simp [ug]
 | [a] => simp [ug]
 | a :: b :: r =>
  simp only [ug]
  split
  ·simp; omega
  ·simp
theorem escS_spec (r : List UInt8) : (kp r).1 < 256 /\ ((kp r).2.2 = 0 -> 2 <= (kp r).2.1 /\ (kp r).2.1 <= r.length + 1) := by
 match r with
 | [] => simp [kp]
 | d :: r =>
  simp only [kp]
  split
  ·have := hexS_spec r
   refine ⟨this.1, fun h => ?_⟩
   have := this.2 h
   simp
   omega
  ·split
   ·simp; omega
   ·simp
theorem oneS_spec (r : List UInt8) : (kG r).1 < 256 /\ ((kG r).2.2 = 0 -> 1 <= (kG r).2.1 /\ (kG r).2.1 <= r.length) := by
 match r with
 | [] => simp [kG]
 | c :: r =>
  have := u8_lt c
  simp only [kG]
  split
  ·split <;> simp <;> omega
  ·have := escS_spec r
   refine ⟨this.1, fun h => ?_⟩
   have := this.2 h
   simp
   omega
theorem k8 (c : UInt8) : qc.digit (c.toNat : Int) = some (if uQ c.toNat < 16 then (uQ c.toNat : Int) else -1) := digit_all ⟨c.toNat, u8_lt c⟩
theorem gb {t : List UInt8} {i : Nat} (hi : i < t.length) : ∃ c r, t.drop i = c :: r /\ r.length + i + 1 = t.length /\ yk t (i : Int) = (c.toNat : Int) := by
 refine ⟨t[i], t.drop (i + 1), List.drop_eq_getElem_cons hi, by rw [List.length_drop]; omega, ?_⟩
 unfold yk
 rw [Int.toNat_natCast, List.getD_eq_getElem?_getD, List.getElem?_eq_getElem hi]; rfl
theorem hO {t : List UInt8} {i : Nat} (_ : i <= t.length) : sub t (i : Int) (t.length : Int) = t.drop i := by
 unfold sub
 rw [Int.toNat_natCast, Int.toNat_natCast]
 apply List.take_of_length_le
 simp
def charR (t : List UInt8) (i : Nat) (rd : zl) : Int × Fault × zl :=
 if (kG (t.drop i)).2.2 = 0 then (((kG (t.drop i)).1 : Int), ⟨0, 0⟩, ⟨t, ((i + (kG (t.drop i)).2.1 : Nat) : Int)⟩) else (0, ⟨(i : Int), ((kG (t.drop i)).2.2 : Int)⟩, rd)
theorem escaped_ok {t : List UInt8} (ht : t.length < 100000) {i : Nat} (hi : i < t.length) : ∃ rd, qc.reader_escaped ⟨t, (i : Int)⟩ = some
  (if (kp (t.drop (i + 1))).2.2 = 0 then (((kp (t.drop (i + 1))).1 : Int), ⟨0, 0⟩, ⟨t, ((i + (kp (t.drop (i + 1))).2.1 : Nat) : Int)⟩) else (0, ⟨(i : Int), ((kp (t.drop (i + 1))).2.2 : Int)⟩, rd)) := by
 have w1 : IntKind.wrap .i64 ((i : Int) + 1) = ((i + 1 : Nat) : Int) := xR (by omega)
 have w2 : IntKind.wrap .i64 ((i : Int) + 2) = ((i + 2 : Nat) : Int) := by rw [zO (by omega) (by omega)]; rfl
 have w4 : IntKind.wrap .i64 (((i + 2 : Nat) : Int) + 2) = ((i + 4 : Nat) : Int) := by rw [zO (by omega) (by omega)]; omega
 have hok : vp ((i + 1 : Nat) : Int) (t.length : Int) t.length = true := by rw [qS]; omega
 unfold qc.reader_escaped
 simp only [w1, w2, hok, if_true, hO (show i + 1 <= t.length by omega)]
 generalize hr : t.drop (i + 1) = r
 have hrl : r.length = t.length - (i + 1) := by rw [<- hr, List.length_drop]
 match r, hrl, hr with
 | [], hrl, hr => exact ⟨⟨t, (i : Int)⟩, by simp [kp]⟩
 | d :: r, hrl, hr =>
  simp only [List.length_cons] at hrl
  have hs0 : yk (d :: r) 0 = (d.toNat : Int) := rfl
  have hd := u8_lt d
  have hbad : qc.reader_escaped_j1 ⟨t, (i : Int)⟩ = some (0, ⟨(i : Int), 12⟩, ⟨t, ((i + 2 : Nat) : Int)⟩) := by
   unfold qc.reader_escaped_j1
   simp only [w2]
  have hin0 : xf 0 (d :: r).length = true := by rw [yy]; simp
  have hne : ((d :: r) == ([] : List UInt8)) = false := by simp
  have good : ∀ m : Nat, m ≠ 120 -> d.toNat = m -> escv m < 256 -> qc.reader_escaped_j1 ⟨t, (i : Int)⟩ = qc.reader_escaped_j1 ⟨t, (i : Int)⟩ -> ∀ (v : Int) (rd : zl), v = (escv m : Int) -> some (v, (⟨0, 0⟩ : Fault), (⟨t, ((i + 2 : Nat) : Int)⟩ : zl)) = some
    (if (kp (d :: r)).2.2 = 0 then (((kp (d :: r)).1 : Int), ⟨0, 0⟩, ⟨t, ((i + (kp (d :: r)).2.1 : Nat) : Int)⟩) else (0, ⟨(i : Int), ((kp (d :: r)).2.2 : Int)⟩, rd)) := by
   intro m hm hdm hlt _ v rd hv
   have : kp (d :: r) = (escv m, 2, 0) := by
    simp only [kp]
    rw [hdm, if_neg hm, if_pos hlt]
   rw [this, hv]
   rfl
  rw [if_neg (by rw [hne]; simp), if_pos hin0, hs0]
  by_cases c1 : d.toNat = 110
  ·rw [if_pos (by simp [c1])]
   exact ⟨⟨t, 0⟩, good 110 (by decide) c1 (by decide) rfl _ _ (by decide)⟩
  rw [if_neg (by simp; omega)]
  by_cases c2 : d.toNat = 116
  ·rw [if_pos (by simp [c2])]
   exact ⟨⟨t, 0⟩, good 116 (by decide) c2 (by decide) rfl _ _ (by decide)⟩
  rw [if_neg (by simp; omega)]
  by_cases c3 : d.toNat = 114
  ·rw [if_pos (by simp [c3])]
   exact ⟨⟨t, 0⟩, good 114 (by decide) c3 (by decide) rfl _ _ (by decide)⟩
  rw [if_neg (by simp; omega)]
  by_cases c4 : d.toNat = 115
  ·rw [if_pos (by simp [c4])]
   exact ⟨⟨t, 0⟩, good 115 (by decide) c4 (by decide) rfl _ _ (by decide)⟩
  rw [if_neg (by simp; omega)]
  have j3t : qc.reader_escaped_j3 ⟨t, (i : Int)⟩ true = some (IntKind.wrap .i64 (d.toNat : Int), (⟨0, 0⟩ : Fault), (⟨t, ((i + 2 : Nat) : Int)⟩ : zl)) := by
   unfold qc.reader_escaped_j3
   simp only [w1, w2, hO (show i + 1 <= t.length by omega), hr, hs0, if_true]
  by_cases c5 : d.toNat = 91
  ·rw [if_pos (by simp [c5]), show ((d.toNat : Int) == 91) = true by simp [c5], j3t, c5]
   exact ⟨⟨t, 0⟩, good 91 (by decide) c5 (by decide) rfl _ _ (by decide)⟩
  rw [if_neg (by simp; omega)]
  by_cases c6 : d.toNat = 93
  ·rw [if_pos (by simp [c6]), show ((d.toNat : Int) == 93) = true by simp [c6], j3t, c6]
   exact ⟨⟨t, 0⟩, good 93 (by decide) c6 (by decide) rfl _ _ (by decide)⟩
  rw [if_neg (by simp; omega)]
  simp only [qc.reader_escaped_j6]
  by_cases c7 : d.toNat = 92
  ·rw [if_pos (by simp [c7]), show ((d.toNat : Int) == 92) = true by simp [c7], j3t, c7]
   exact ⟨⟨t, 0⟩, good 92 (by decide) c7 (by decide) rfl _ _ (by decide)⟩
  rw [if_neg (by simp; omega)]
  by_cases c8 : d.toNat = 45
  ·rw [if_pos (by simp [c8]), show ((d.toNat : Int) == 45) = true by simp [c8], j3t, c8]
   exact ⟨⟨t, 0⟩, good 45 (by decide) c8 (by decide) rfl _ _ (by decide)⟩
  rw [if_neg (by simp; omega)]
  by_cases c9 : d.toNat = 94
  ·rw [show ((d.toNat : Int) == 94) = true by simp [c9], j3t, c9]
   exact ⟨⟨t, 0⟩, good 94 (by decide) c9 (by decide) rfl _ _ (by decide)⟩
  rw [show ((d.toNat : Int) == 94) = false by simp; omega]
  have he : escv d.toNat = 256 := by
   unfold escv
   rw [if_neg c1, if_neg c2, if_neg c3, if_neg c4, if_neg (by omega)]
  unfold qc.reader_escaped_j3 qc.reader_escaped_j4 qc.reader_escaped_j2
  simp only [w1, hO (show i + 1 <= t.length by omega), hr, hs0, Bool.false_eq_true, if_false, hbad]
  refine ⟨⟨t, ((i + 2 : Nat) : Int)⟩, ?_⟩
  by_cases c10 : d.toNat = 120
  ·rw [if_pos (by simp [c10])]
   have hes : kp (d :: r) = ug r := by simp only [kp]; rw [if_pos c10]
   rw [hes]
   match r, hrl, hr with
   | a :: b :: r', hrl, hr =>
    simp only [List.length_cons] at hrl
    have hs1 : yk (d :: a :: b :: r') 1 = (a.toNat : Int) := rfl
    have hs2 : yk (d :: a :: b :: r') 2 = (b.toNat : Int) := rfl
    have va := hexv_le a.toNat
    have vb := hexv_le b.toNat
    have hi1 : xf 1 (d :: a :: b :: r').length = true := by rw [yy]; simp; omega
    have hi2 : xf 2 (d :: a :: b :: r').length = true := by rw [yy]; simp; omega
    rw [if_pos (by rw [decide_eq_true_eq]; simp; omega), if_pos hi1, hs1, hs2, k8, k8, if_pos hi2]
    unfold qc.reader_escaped_j5 qc.reader_escaped_j4 qc.reader_escaped_j2
    simp only [w1, w2, w4, hO (show i + 1 <= t.length by omega), hr, hbad, hi1, hi2, hs1, hs2, k8, if_true, Option.bind_some, ug]
    by_cases h1 : uQ a.toNat < 16
    ·by_cases h2 : uQ b.toNat < 16
     ·simp only [h1, h2, if_true, and_self]
      rw [if_pos (by rw [decide_eq_true_eq]; omega), if_pos (by rw [decide_eq_true_eq]; omega)]
      rw [zO (n := 16 * _) (by omega) (by omega), zO (by omega) (by omega)]
      simp only [Int.natCast_add, Int.natCast_mul]
      rfl
     ·simp only [h1, h2, if_true, if_false, and_false]
      simp
    ·simp only [h1, if_false, false_and]
     simp
   | [], hrl, hr =>
    unfold qc.reader_escaped_j5 qc.reader_escaped_j4 qc.reader_escaped_j2
    simp only [hbad, ug]
    rw [if_neg (by rw [decide_eq_true_eq]; simp)]
    simp
   | [a], hrl, hr =>
    unfold qc.reader_escaped_j5 qc.reader_escaped_j4 qc.reader_escaped_j2
    simp only [hbad, ug]
    rw [if_neg (by rw [decide_eq_true_eq]; simp)]
    simp
  ·rw [if_neg (by simp; omega)]
   have hes : kp (d :: r) = (0, 0, 12) := by
    simp only [kp]
    rw [if_neg c10, if_neg (by omega)]
   rw [hes]
   simp
theorem char_ok {t : List UInt8} (ht : t.length < 100000) {i : Nat} (hi : i <= t.length) : ∃ rd, qc.reader_char ⟨t, (i : Int)⟩ = some (charR t i rd) := by
 unfold qc.reader_char charR
 by_cases h0 : i = t.length
 ·rw [if_pos (by rw [decide_eq_true_eq]; simp only; omega), List.drop_eq_nil_of_le (by omega)]
  refine ⟨⟨t, (i : Int)⟩, ?_⟩
  subst h0
  simp [kG]
 ·obtain ⟨c, r, hd, hr, hc⟩ := gb (t := t) (i := i) (by omega)
  have hd1 : t.drop (i + 1) = r := by rw [<- List.drop_drop, hd]; rfl
  have hcl := u8_lt c
  rw [if_neg (by rw [decide_eq_true_eq]; simp only; omega), if_pos (by rw [yy]; simp only; omega)]
  simp only [hc, hd]
  by_cases h92 : c.toNat = 92
  ·have ho : kG (c :: r) = kp r := by simp only [kG]; rw [if_neg (by simp [h92])]
   rw [if_pos (by simp [h92]), ho]
   obtain ⟨rd, hE⟩ := escaped_ok ht (i := i) (by omega)
   rw [hd1] at hE
   refine ⟨rd, ?_⟩
   rw [hE, Option.bind_some]
  ·have hbad : (c.toNat <= 32 \/ 127 <= c.toNat \/ spec9 c.toNat ≠ 0) -> kG (c :: r) = (0, 0, 11) := by
    intro h
    simp only [kG]
    rw [if_pos h92, if_pos h]
   rw [if_neg (by simp; omega)]
   refine ⟨⟨t, (i : Int)⟩, ?_⟩
   simp only [qc.reader_char_j1]
   have w1 : IntKind.wrap .i64 ((i : Int) + 1) = ((i + 1 : Nat) : Int) := xR (by omega)
   by_cases c1 : c.toNat <= 32
   ·rw [if_pos (by rw [decide_eq_true_eq]; omega), hbad (.inl c1)]; simp
   rw [if_neg (by rw [decide_eq_true_eq]; omega)]
   by_cases c2 : 127 <= c.toNat
   ·rw [if_pos (by rw [decide_eq_true_eq]; omega), hbad (.inr (.inl c2))]; simp
   rw [if_neg (by rw [decide_eq_true_eq]; omega)]
   by_cases c3 : c.toNat = 91
   ·rw [if_pos (by simp [c3]), hbad (by rw [c3]; decide)]; simp
   rw [if_neg (by simp; omega)]
   by_cases c4 : c.toNat = 93
   ·rw [if_pos (by simp [c4]), hbad (by rw [c4]; decide)]; simp
   rw [if_neg (by simp; omega)]
   by_cases c5 : c.toNat = 45
   ·rw [if_pos (by simp [c5]), hbad (by rw [c5]; decide)]; simp
   rw [if_neg (by simp; omega)]
   by_cases c6 : c.toNat = 94
   ·rw [show ((c.toNat : Int) == 94) = true by simp [c6], hbad (by rw [c6]; decide)]; simp
   rw [show ((c.toNat : Int) == 94) = false by simp; omega]
   have hs : spec9 c.toNat = 0 := by
    unfold spec9
    rw [if_neg (by omega), if_neg (by omega), if_neg (by omega), if_neg (by omega), if_neg (by omega)]
   have ho : kG (c :: r) = (c.toNat, 1, 0) := by
    simp only [kG]
    rw [if_pos h92, if_neg (by rw [hs]; omega)]
   rw [ho, w1, zO (by omega) (by omega)]
   simp [hc]
def NF (t : List UInt8) (i n : Nat) : Prop := ∀ x, i <= x -> x < n -> t[x]? ≠ some 10
theorem NF_app {t : List UInt8} {i n m : Nat} (h1 : NF t i n) (h2 : NF t n m) : NF t i m := fun x a b => by
 by_cases h : x < n
 ·exact h1 x a h
 ·exact h2 x (by omega) b
theorem NF_one {t : List UInt8} {i : Nat} {c : UInt8} (h : t[i]? = some c) (hc : c ≠ 10) : NF t i (i + 1) := fun x a b e => by
 obtain rfl : x = i := by omega
 rw [h] at e
 exact hc (Option.some.inj e)
theorem ne10 {c : UInt8} (h : c.toNat ≠ 10) : c ≠ 10 := fun e => h (by rw [e]; rfl)
theorem hexv_ne {c : UInt8} (h : uQ c.toNat < 16) : c ≠ 10 := by
 apply ne10
 intro e
 rw [e] at h
 revert h
 decide
theorem escv_ne {c : UInt8} (h : escv c.toNat < 256) : c ≠ 10 := by
 apply ne10
 intro e
 rw [e] at h
 revert h
 decide
theorem oneS_nf (r : List UInt8) (h : (kG r).2.2 = 0) : ∀ x, x < (kG r).2.1 -> r[x]? ≠ some 10 := by
 match r with
 | [] => intro x hx; simp
 | c :: r =>
  simp only [kG] at h ⊢
  split at h
  ·rename_i h92
   rw [if_pos h92]
   split at h
   ·simp at h
   ·rename_i h1
    rw [if_neg h1]
    intro x hx
    simp only at hx
    obtain rfl : x = 0 := by omega
    simp only [List.getElem?_cons_zero]
    intro e
    exact ne10 (c := c) (by omega) (Option.some.inj e)
  ·rename_i h92
   rw [if_neg h92]
   have hc : c ≠ 10 := ne10 (by omega)
   match r, h with
   | d :: r, h =>
    simp only [kp] at h ⊢
    split at h
    ·rename_i h120
     rw [if_pos h120]
     have hd : d ≠ 10 := ne10 (by omega)
     match r, h with
     | a :: b :: r, h =>
      simp only [ug] at h ⊢
      split at h
      ·rename_i hh
       rw [if_pos hh]
       have ha := hexv_ne hh.1
       have hb := hexv_ne hh.2
       intro x hx
       simp only at hx
       have : x = 0 \/ x = 1 \/ x = 2 \/ x = 3 := by omega
       rcases this with rfl | rfl | rfl | rfl <;> simp_all
      ·simp at h
     | [a], h => simp [ug] at h
     | [], h => simp [ug] at h
    ·rename_i h120
     rw [if_neg h120]
     split at h
     ·rename_i he
      rw [if_pos he]
      have hd := escv_ne he
      intro x hx
      simp only at hx
      have : x = 0 \/ x = 1 := by omega
      rcases this with rfl | rfl <;> simp_all
     ·simp at h
   | [], h => simp [kp] at h
theorem oneS_NF {t : List UInt8} {i : Nat} (h : (kG (t.drop i)).2.2 = 0) : NF t i (i + (kG (t.drop i)).2.1) := fun x a b => by
 have := oneS_nf _ h (x - i) (by omega)
 rw [List.getElem?_drop, show i + (x - i) = x by omega] at this
 exact this
theorem gy {h : Nat} (hh : h < 256) : ∀ (j i : Nat) (s : S4), h + 1 - i < j -> ∃ z, qc.Range_l1 (h : Int) j (i : Int) s = some z
 | 0, _, _, hj => by omega
 | j + 1, i, s, hj => by
  simp only [qc.Range_l1]
  by_cases hi : i <= h
  ·have e2 : (i : Int).tdiv 64 = ((i / 64 : Nat) : Int) := by rw [Int.tdiv_eq_ediv_of_nonneg (by omega)]; omega
   have e3 : jL (i : Int) 64 = ((i % 64 : Nat) : Int) := by show (i : Int).tmod 64 = _; rw [Int.tmod_eq_emod_of_nonneg (by omega)]; omega
   have e1 : vh .i64 (i : Int) 64 = ((i / 64 : Nat) : Int) := by unfold vh; rw [e2, zO (by omega) (by omega)]
   rw [if_pos (by rw [decide_eq_true_eq]; omega), e1, e3, if_pos (by rw [yy]; omega), if_neg (by rw [decide_eq_true_eq]; omega), xR (by omega)]
   exact gy hh j (i + 1) _ (by omega)
  ·rw [if_neg (by rw [decide_eq_true_eq]; omega)]
   exact ⟨_, rfl⟩
theorem Range_some {lo hi k : Nat} (h1 : lo < 256) (h2 : hi < 256) (hk : 300 <= k) : ∃ s c, qc.Range k (lo : Int) (hi : Int) = some (s, c) := by
 unfold qc.Range
 rw [if_neg (by rw [decide_eq_true_eq]; omega), if_neg (by rw [decide_eq_true_eq]; omega)]
 split
 ·exact ⟨_, _, rfl⟩
 ·obtain ⟨z, hz⟩ := gy h2 k lo (S4.mk 0 0 0 0) (by omega)
  rw [hz]
  exact ⟨_, _, rfl⟩
theorem Union_some (a b : S4) {k : Nat} (hk : 5 <= k) : ∃ s, qc.Union k a b = some s := by
 obtain ⟨k, rfl⟩ : ∃ k', k = k' + 5 := ⟨k - 5, by omega⟩
 have e : qc.Union (k + 5) a b = some (S4.mk (gor .u64 a.w0 b.w0) (gor .u64 a.w1 b.w1) (gor .u64 a.w2 b.w2) (gor .u64 a.w3 b.w3)) := rfl
 exact ⟨_, e⟩
theorem Not_some (a : S4) {k : Nat} (hk : 5 <= k) : ∃ s, qc.Not k a = some s := by
 obtain ⟨k, rfl⟩ : ∃ k', k = k' + 5 := ⟨k - 5, by omega⟩
 have e : qc.Not (k + 5) a = some (S4.mk (gu .u64 a.w0) (gu .u64 a.w1) (gu .u64 a.w2) (gu .u64 a.w3)) := rfl
 exact ⟨_, e⟩
def FaultIn (t : List UInt8) (f : Fault) : Prop := f.Code ≠ 0 /\ 0 <= f.At /\ f.At <= (t.length : Int)
theorem item_some {t : List UInt8} (ht : t.length < 90000) {k : Nat} (hk : 300 <= k) {i : Nat} (hi : i <= t.length) : ∃ S f rd, qc.reader_item k ⟨t, (i : Int)⟩ = some (S, f, rd) /\ (FaultIn t f \/ (f.Code = 0 /\ ∃ n : Nat, rd = ⟨t, (n : Int)⟩ /\ i < n /\ n <= t.length /\ NF t i n)) := by
 obtain ⟨rd, hc⟩ := char_ok (t := t) (by omega) hi
 unfold qc.reader_item
 rw [hc, Option.bind_some]
 have h1 := oneS_spec (t.drop i)
 have h2 := oneS_NF (t := t) (i := i)
 unfold charR
 generalize hog : kG (t.drop i) = o at *
 by_cases he : o.2.2 = 0
 ·have h1' := h1.2 he
  have h2' := h2 he
  rw [List.length_drop] at h1'
  rw [if_pos he]
  simp only
  rw [if_neg (show ¬ ((0 : Int) != 0) = true by decide)]
  have j2 : ∀ (hi' : Nat) (a c : Int) (nx : Nat) (g : Int × Fault × zl), g.1 = (o.1 : Int) -> hi' < 256 -> i < nx -> nx <= t.length -> NF t i nx -> ∃ S f rd, qc.reader_item_j2 k g ⟨t, (i : Int)⟩ (hi' : Int) t (nx : Int) a c = some (S, f, rd) /\ (FaultIn t f \/ (f.Code = 0 /\ ∃ n : Nat, rd = ⟨t, (n : Int)⟩ /\ i < n /\ n <= t.length /\ NF t i n)) := by
   intro hi' a c nx g hg hlt n1 n2 n3
   unfold qc.reader_item_j2
   obtain ⟨s, e, hr⟩ := Range_some (k := k) h1.1 hlt hk
   rw [hg, hr, Option.bind_some]
   by_cases hb : e = 0
   ·subst hb
    rw [if_neg (by simp)]
    exact ⟨_, _, _, rfl, .inr ⟨rfl, nx, rfl, n1, n2, n3⟩⟩
   ·rw [if_pos (by simpa using hb)]
    exact ⟨_, _, _, rfl, .inl ⟨hb, by simp only; omega, by simp only; omega⟩⟩
  by_cases hn : i + o.2.1 < t.length
  ·obtain ⟨c, r, hd, hr, hc'⟩ := gb hn
   rw [if_pos (by rw [decide_eq_true_eq]; omega), if_pos (by rw [yy]; omega)]
   unfold qc.reader_item_j1
   by_cases h45 : (yk t ((i + o.2.1 : Nat) : Int) == 45) = true
   ·rw [if_pos h45]
    simp only
    rw [xR (by omega)]
    obtain ⟨rd2, hc2⟩ := char_ok (t := t) (by omega) (i := i + o.2.1 + 1) (by omega)
    rw [hc2, Option.bind_some]
    have g1 := oneS_spec (t.drop (i + o.2.1 + 1))
    have g2 := oneS_NF (t := t) (i := i + o.2.1 + 1)
    unfold charR
    generalize hpg : kG (t.drop (i + o.2.1 + 1)) = p at *
    have hnf1 : NF t (i + o.2.1) (i + o.2.1 + 1) := by
     refine NF_one (c := c) ?_ (ne10 ?_)
     ·have := List.getElem?_drop (xs := t) (i := i + o.2.1) (j := 0)
      rw [hd] at this
      simpa using this.symm
     ·rw [hc'] at h45
      have : (c.toNat : Int) = 45 := by simpa using h45
      omega
    by_cases he2 : p.2.2 = 0
    ·have g1' := g1.2 he2
     rw [List.length_drop] at g1'
     rw [if_pos he2]
     simp only
     rw [if_neg (show ¬ ((0 : Int) != 0) = true by decide)]
     exact j2 p.1 _ _ _ _ rfl g1.1 (by omega) (by omega) (NF_app h2' (NF_app hnf1 (g2 he2)))
    ·rw [if_neg he2]
     simp only
     rw [if_pos (by simp; omega)]
     exact ⟨_, _, _, rfl, .inl ⟨by simp only; omega, by simp only; omega, by simp only; omega⟩⟩
   ·rw [if_neg h45]
    exact j2 o.1 _ _ _ _ rfl h1.1 (by omega) (by omega) h2'
  ·rw [if_neg (by rw [decide_eq_true_eq]; omega)]
   unfold qc.reader_item_j1
   rw [if_neg (by decide)]
   exact j2 o.1 _ _ _ _ rfl h1.1 (by omega) (by omega) h2'
 ·rw [if_neg he]
  simp only
  rw [if_pos (by simp; omega)]
  exact ⟨_, _, _, rfl, .inl ⟨by simp only; omega, by simp only; omega, by simp only; omega⟩⟩
theorem gz {t : List UInt8} (ht : t.length < 90000) {k : Nat} (hk : 300 <= k) : ∀ (j i : Nat) (s : S4), i <= t.length -> t.length - i < j -> (∃ S f, qc.Parse_l4 k t j s t (i : Int) = some (.ret (S, f)) /\ FaultIn t f) \/ ∃ (S : S4) (m : Nat), qc.Parse_l4 k t j s t (i : Int) = some (.done (S, t, (m : Int))) /\ m < t.length /\ NF t i (m + 1)
 | 0, _, _, _, h => by omega
 | j + 1, i, s, hi, hj => by
  have step : (∃ S f, qc.Parse_j5 k t (i : Int) s (qc.Parse_l4 k t j) true = some (.ret (S, f)) /\ FaultIn t f) \/ ∃ (S : S4) (m : Nat), qc.Parse_j5 k t (i : Int) s (qc.Parse_l4 k t j) true = some (.done (S, t, (m : Int))) /\ m < t.length /\ NF t i (m + 1) := by
   obtain ⟨S, f, rd, hit, hor⟩ := item_some ht hk hi
   unfold qc.Parse_j5
   rw [if_pos rfl, hit, Option.bind_some]
   simp only
   rcases hor with hf | ⟨hf, n, rfl, n1, n2, n3⟩
   ·rw [if_pos (by simpa using hf.1)]
    exact .inl ⟨_, _, rfl, hf⟩
   ·rw [if_neg (by simpa using hf)]
    obtain ⟨u, hu⟩ := Union_some s S (k := k) (by omega)
    rw [hu, Option.bind_some]
    rcases gz ht hk j n u n2 (by omega) with ⟨S', f', h1, h2⟩ | ⟨S', m, h1, h2, h3⟩
    ·exact .inl ⟨_, _, h1, h2⟩
    ·exact .inr ⟨_, _, h1, h2, NF_app n3 h3⟩
  simp only [qc.Parse_l4]
  by_cases h0 : i = t.length
  ·rw [if_pos (by rw [decide_eq_true_eq]; omega)]
   exact step
  ·obtain ⟨c, r, hd, hr, hc⟩ := gb (t := t) (i := i) (by omega)
   rw [if_neg (by rw [decide_eq_true_eq]; omega), if_pos (by rw [yy]; omega), hc]
   by_cases h93 : (c.toNat : Int) = 93
   ·rw [h93]
    refine .inr ⟨s, i, rfl, by omega, NF_one (c := c) ?_ (ne10 (by omega))⟩
    have := List.getElem?_drop (xs := t) (i := i) (j := 0)
    rw [hd] at this
    simpa using this.symm
   ·rw [show ((c.toNat : Int) != 93) = true by simpa using h93]
    exact step
theorem Parse_some {t : List UInt8} (ht : t.length <= 65536) {k : Nat} (hk : 90000 <= k) : ∃ S f, qc.Parse k t = some (S, f) /\ (FaultIn t f \/ (f.Code = 0 /\ NF t 0 t.length)) := by
 unfold qc.Parse
 rw [if_neg (by rw [decide_eq_true_eq]; omega)]
 match t with
 | [] => exact ⟨_, _, rfl, .inl ⟨by decide, by decide, by decide⟩⟩
 | c :: r =>
  have hin : xf 0 (c :: r).length = true := by rw [yy]; simp
  have hs : yk (c :: r) 0 = (c.toNat : Int) := rfl
  have hne : ((c :: r) == ([] : List UInt8)) = false := rfl
  simp only [hne, hin, hs, Bool.false_eq_true, if_false, if_true]
  unfold qc.Parse_j1
  by_cases h91 : (c.toNat : Int) = 91
  ·rw [show ((c.toNat : Int) != 91) = false by simpa using h91]
   simp only [Bool.false_eq_true, if_false]
   have hnf0 : NF (c :: r) 0 1 := NF_one (c := c) rfl (ne10 (by omega))
   have j3 : ∀ (b : Bool) (n : Nat), n <= (c :: r).length -> NF (c :: r) 0 n -> ∃ S f, qc.Parse_j3 k (c :: r) b (n : Int) = some (S, f) /\ (FaultIn (c :: r) f \/ (f.Code = 0 /\ NF (c :: r) 0 (c :: r).length)) := by
    intro b n hn hnf
    unfold qc.Parse_j3
    rcases gz (t := c :: r) (by omega) (k := k) (by omega) k n (S4.mk 0 0 0 0) hn (by omega) with ⟨S, f, h1, h2⟩ | ⟨S, m, h1, h2, h3⟩
    ·rw [h1]
     exact ⟨_, _, rfl, .inl h2⟩
    ·rw [h1]
     simp only [Option.bind_some, LR.fin, xR (show m < 1000000 by omega)]
     by_cases h4 : m + 1 < (c :: r).length
     ·rw [if_pos (by rw [decide_eq_true_eq]; omega)]
      exact ⟨_, _, rfl, .inl ⟨by simp, by simp only; omega, by simp only; omega⟩⟩
     ·rw [if_neg (by rw [decide_eq_true_eq]; omega)]
      have hall : NF (c :: r) 0 (c :: r).length := by
       have := NF_app hnf h3
       rwa [show m + 1 = (c :: r).length by omega] at this
      cases b with
      | true =>
       obtain ⟨u, hu⟩ := Not_some S (k := k) (by omega)
       simp only [if_true]
       rw [hu]
       exact ⟨_, _, rfl, .inr ⟨rfl, hall⟩⟩
      | false => exact ⟨_, _, rfl, .inr ⟨rfl, hall⟩⟩
   by_cases h4 : 1 < (c :: r).length
   ·obtain ⟨d, r2, hd, hr, hc⟩ := gb (t := c :: r) (i := 1) h4
    have hc' : yk (c :: r) 1 = (d.toNat : Int) := hc
    rw [if_pos (by rw [decide_eq_true_eq]; omega), if_pos (by rw [yy]; omega), hc']
    unfold qc.Parse_j2
    by_cases h5 : (d.toNat : Int) = 94
    ·rw [show ((d.toNat : Int) == 94) = true by simpa using h5, if_pos rfl]
     refine j3 true 2 (by omega) (NF_app hnf0 (NF_one (c := d) ?_ (ne10 (by omega))))
     have := List.getElem?_drop (xs := c :: r) (i := 1) (j := 0)
     rw [hd] at this
     simpa using this.symm
    ·rw [show ((d.toNat : Int) == 94) = false by simpa using h5, if_neg (by simp)]
     exact j3 false 1 (by omega) hnf0
   ·rw [if_neg (by rw [decide_eq_true_eq]; omega)]
    unfold qc.Parse_j2
    rw [if_neg (by simp)]
    exact j3 false 1 (by simp) hnf0
  ·rw [show ((c.toNat : Int) != 91) = true by simpa using h91]
   exact ⟨_, _, rfl, .inl ⟨by decide, by decide, by simp only; omega⟩⟩
end Go.Vc.Cs
namespace Go.Vc
open Go
def jb (s : List UInt8) (i : Nat) : Int := (i : Int) + 1 - (colN s i : Int)
theorem getD_get {t : List UInt8} {i : Nat} {c : UInt8} (h : t[i]? = some c) : t.getD i 0 = c := by simp [h]
theorem ln_one {t : List UInt8} {i : Nat} {c : UInt8} (h : t[i]? = some c) (hc : c ≠ 10) : us t (i + 1) = us t i /\ jb t (i + 1) = jb t i := by
 obtain ⟨hi, he⟩ := List.getElem?_eq_some_iff.1 h
 refine ⟨?_, ?_⟩
 ·rw [lnN_succ hi, he, if_neg hc]
 ·unfold jb
  rw [colN, getD_get h, if_neg hc]
  omega
theorem ln_end {t : List UInt8} {i : Nat} (h : t[i]? = some 10) : us t (i + 1) = us t i + 1 /\ jb t (i + 1) = (i : Int) + 1 := by
 obtain ⟨hi, he⟩ := List.getElem?_eq_some_iff.1 h
 refine ⟨?_, ?_⟩
 ·rw [lnN_succ hi, he, if_pos rfl]
 ·unfold jb
  rw [colN, getD_get h, if_pos rfl]
  omega
theorem ln_NF {t : List UInt8} {i : Nat} : ∀ n, i + n <= t.length -> Cs.NF t i (i + n) -> us t (i + n) = us t i /\ jb t (i + n) = jb t i
 | 0, _, _ => ⟨rfl, rfl⟩
 | n + 1, h, hn => by
  have hlt : i + n < t.length := by omega
  have h1 : t[i + n]? = some t[i + n] := List.getElem?_eq_getElem hlt
  have h2 : t[i + n] ≠ 10 := fun e => hn (i + n) (by omega) (by omega) (by rw [h1, e])
  obtain ⟨a, b⟩ := ln_one h1 h2
  obtain ⟨c, d⟩ := ln_NF n (by omega) (fun x p q => hn x p (by omega))
  exact ⟨a.trans c, b.trans d⟩
theorem D_get {s r : List UInt8} {c : UInt8} {i : Nat} (h : D s i (c :: r)) : s[i]? = some c := by
 have := List.getElem?_drop (xs := s) (i := i) (j := 0)
 rw [h.1] at this
 simpa using this.symm
theorem D_subn {s r : List UInt8} {i n : Nat} (h : D s i r) (hn : n <= r.length) : vp (i : Int) ((i + n : Nat) : Int) s.length = true /\ sub s (i : Int) ((i + n : Nat) : Int) = r.take n := by
 obtain ⟨h1, h2⟩ := h
 refine ⟨by rw [qS]; omega, ?_⟩
 unfold sub
 rw [Int.toNat_natCast, Int.toNat_natCast, h1, show i + n - i = n by omega]
theorem D_NF {s r : List UInt8} {i n : Nat} (h : D s i r) (hn : n <= r.length) (h10 : (10 : UInt8) ∉ r.take n) : Cs.NF s i (i + n) := by
 intro x a b e
 apply h10
 have := List.getElem?_drop (xs := s) (i := i) (j := x - i)
 rw [h.1, show i + (x - i) = x by omega, e] at this
 refine List.mem_iff_getElem?.2 ⟨x - i, ?_⟩
 rw [List.getElem?_take, if_pos (by omega), this]
def vm (n : Nat) : Prop := n = 10 \/ n = 32 \/ n = 9 \/ n = 13
instance (n : Nat) : Decidable (vm n) := by unfold vm; infer_instance
def vx : Bool -> List UInt8 -> List UInt8
 | _, [] => []
 | false, c :: r => if vm c.toNat then vx false r else if c.toNat = 35 then vx true r else c :: r
 | true, c :: r => if c.toNat = 10 then vx false r else vx true r
def rem : List UInt8 -> List UInt8
 | [] => []
 | c :: r => if c.toNat = 10 then c :: r else rem r
theorem skL_rem : ∀ r : List UInt8, vx true r = vx false (rem r)
 | [] => rfl
 | c :: r => by
  rw [vx, rem]
  by_cases h : c.toNat = 10
  ·rw [if_pos h, if_pos h, vx, if_pos (.inl h)]
  ·rw [if_neg h, if_neg h]; exact skL_rem r
theorem rem_le : ∀ r : List UInt8, (rem r).length <= r.length
 | [] => Nat.le_refl _
 | c :: r => by
  unfold rem
  split
  ·exact Nat.le_refl _
  ·have := rem_le r; simp; omega
theorem rem_D {s : List UInt8} : ∀ (r : List UInt8) (i : Nat), D s i r -> D s (s.length - (rem r).length) (rem r) /\ us s (s.length - (rem r).length) = us s i /\ jb s (s.length - (rem r).length) = jb s i
 | [], i, h => by
  have := D_nil h
  subst this
  exact ⟨⟨by simp [rem], by simp [rem]⟩, rfl, rfl⟩
 | c :: r, i, h => by
  obtain ⟨d1, d2, d3, d4⟩ := qd h
  have d5 := h.2
  unfold rem
  split
  ·rw [show s.length - (c :: r).length = i by omega]
   exact ⟨h, rfl, rfl⟩
  ·rename_i hc
   obtain ⟨a, b, e⟩ := rem_D r (i + 1) d4
   obtain ⟨x, y⟩ := ln_one (D_get h) (Cs.ne10 hc)
   exact ⟨a, b.trans x, e.trans y⟩
theorem skip_l6_ok {s : zm} (hb : s.text.length < 100000) : ∀ (j i : Nat) (r : List UInt8), D s.text i r -> r.length < j -> qw.scanner_skip_l6 s j i = some ((s.text.length - (rem r).length : Nat) : Int)
 | 0, _, _, _, h => by omega
 | j + 1, i, r, hD, hj => by
  simp only [qw.scanner_skip_l6]
  cases r with
  | nil =>
   have := D_nil hD
   rw [if_neg (by rw [decide_eq_true_eq]; omega)]
   unfold qw.scanner_skip_j7
   rw [if_neg (by simp), this]
   rfl
  | cons c r =>
   obtain ⟨d1, d2, d3, d4⟩ := qd hD
   have d5 := hD.2
   simp only [List.length_cons] at hj d5
   rw [if_pos (by rw [decide_eq_true_eq]; omega), if_pos d3, d2]
   unfold qw.scanner_skip_j7 rem
   by_cases hc : c.toNat = 10
   ·rw [if_neg (by simp; omega), if_pos hc, show s.text.length - (c :: r).length = i by simp only [List.length_cons]; omega]
   ·rw [if_pos (by simp; omega), if_neg hc, yg (by omega)]
    exact skip_l6_ok hb j (i + 1) r d4 (by omega)
def je (s : List UInt8) (i : Nat) (out : List zg) : zm := ⟨s, (i : Int), (us s i : Int), jb s i, out⟩
def skO (s : List UInt8) (out : List zg) : List UInt8 -> LR (Int × Int × Int) zm
 | [] => .done ((s.length : Int), (us s s.length : Int), jb s s.length)
 | c :: r => .ret (je s (s.length - (c :: r).length) out)
theorem gF {K : Nat} (hK : 400000 <= K) {s : List UInt8} {out : List zg} {l t : Int} {i0 : Int} (hb : s.length < 100000) : ∀ (j i : Nat) (r : List UInt8), D s i r -> r.length < j -> qw.scanner_skip_l1 K ⟨s, i0, l, t, out⟩ j i (us s i) (jb s i) = some (skO s out (vx false r))
 | 0, _, _, _, h => by omega
 | j + 1, i, r, hD, hj => by
  simp only [qw.scanner_skip_l1]
  cases r with
  | nil =>
   have := D_nil hD
   subst this
   rw [if_neg (by rw [decide_eq_true_eq]; omega)]
   rfl
  | cons c r =>
   obtain ⟨d1, d2, d3, d4⟩ := qd hD
   have d5 := hD.2
   simp only [List.length_cons] at hj d5
   have hl := lnN_le s i
   have e1 : IntKind.wrap .i64 ((i : Int) + 1) = ((i + 1 : Nat) : Int) := yg (by omega)
   have e2 : IntKind.wrap .i64 ((us s i : Int) + 1) = ((us s i + 1 : Nat) : Int) := yg (by omega)
   rw [if_pos (by rw [decide_eq_true_eq]; omega), if_pos d3, d2]
   simp only [qw.scanner_skip_j8, qw.scanner_skip_j5, qw.scanner_skip_j4, qw.scanner_skip_j3, qw.scanner_skip_j2, e1, e2, d2]
   have ih := gF hK (out := out) (l := l) (t := t) (i0 := i0) hb j (i + 1) r d4 (by omega)
   unfold vx
   by_cases c10 : c.toNat = 10
   ·have hc : c = 10 := UInt8.toNat_inj.1 c10
    have hg := D_get hD
    rw [hc] at hg
    obtain ⟨x, y⟩ := ln_end hg
    rw [x, y] at ih
    rw [if_pos (by simp; omega), if_pos (.inl c10)]
    exact ih
   rw [if_neg (by simp; omega)]
   obtain ⟨x, y⟩ := ln_one (D_get hD) (Cs.ne10 c10)
   rw [x, y] at ih
   have d32 : ((c.toNat : Int) == 32) = decide (c.toNat = 32) := by rw [Bool.eq_iff_iff]; simp; omega
   have d9 : ((c.toNat : Int) == 9) = decide (c.toNat = 9) := by rw [Bool.eq_iff_iff]; simp; omega
   have d13 : ((c.toNat : Int) == 13) = decide (c.toNat = 13) := by rw [Bool.eq_iff_iff]; simp; omega
   have d35 : ((c.toNat : Int) == 35) = decide (c.toNat = 35) := by rw [Bool.eq_iff_iff]; simp; omega
   simp only [d32, d9, d13, d35, decide_eq_true_eq]
   by_cases c32 : c.toNat = 32
   ·rw [if_pos c32, if_pos c32, if_pos (.inr (.inl c32))]; exact ih
   rw [if_neg c32]
   by_cases c9 : c.toNat = 9
   ·rw [if_pos c9, if_pos c9, if_pos (.inr (.inr (.inl c9)))]; exact ih
   rw [if_neg c9]
   by_cases c13 : c.toNat = 13
   ·rw [if_pos c13, if_pos (.inr (.inr (.inr c13)))]; exact ih
   have hnb : ¬ vm c.toNat := by unfold vm; omega
   rw [if_neg c13, if_neg hnb]
   by_cases c35 : c.toNat = 35
   ·rw [if_pos c35, if_pos c35, skip_l6_ok (s := ⟨s, i0, l, t, out⟩) (by simp only; omega) K i (c :: r) hD (by simp only [List.length_cons]; omega), Option.bind_some]
    have hrem : rem (c :: r) = rem r := by rw [rem, if_neg c10]
    obtain ⟨a, b, e⟩ := rem_D (s := s) (c :: r) i hD
    rw [skL_rem, hrem]
    rw [hrem] at a b e
    have hle := rem_le r
    have := gF hK (out := out) (l := l) (t := t) (i0 := i0) hb j _ _ a (by omega)
    rw [b, e] at this
    exact this
   ·rw [if_neg c35, if_neg c35]
    show _ = some (LR.ret (je s (s.length - (c :: r).length) out))
    rw [show s.length - (c :: r).length = i by simp only [List.length_cons]; omega]
    rfl
theorem qR : ∀ (r : List UInt8) (b : Bool), ∃ w, r = w ++ vx b r
 | [], _ => ⟨[], by simp [vx]⟩
 | c :: r, false => by
  unfold vx
  split
  ·obtain ⟨w, h⟩ := qR r false; exact ⟨c :: w, by rw [List.cons_append, <- h]⟩
  split
  ·obtain ⟨w, h⟩ := qR r true; exact ⟨c :: w, by rw [List.cons_append, <- h]⟩
  ·exact ⟨[], rfl⟩
 | c :: r, true => by
  unfold vx
  split
  ·obtain ⟨w, h⟩ := qR r false; exact ⟨c :: w, by rw [List.cons_append, <- h]⟩
  ·obtain ⟨w, h⟩ := qR r true; exact ⟨c :: w, by rw [List.cons_append, <- h]⟩
theorem skL_D {s r : List UInt8} {i : Nat} (h : D s i r) (b : Bool) : D s (s.length - (vx b r).length) (vx b r) := by
 obtain ⟨w, hw⟩ := qR r b
 have := D_drop (n := w.length) h (by rw [hw]; simp)
 have h2 := congrArg List.length hw
 rw [List.length_append] at h2
 have e : r.drop w.length = vx b r := by
  have := congrArg (List.drop w.length) hw
  rwa [List.drop_left] at this
 rw [e] at this
 have h3 := this.2
 rwa [show s.length - (vx b r).length = i + w.length by omega]
theorem skip_ok {K : Nat} (hK : 400000 <= K) {s r : List UInt8} {out : List zg} {i : Nat} (hb : s.length < 100000) (hD : D s i r) : qw.scanner_skip K (je s i out) = some (je s (s.length - (vx false r).length) out) := by
 unfold qw.scanner_skip
 have h2 := hD.2
 have := gF hK (out := out) (l := (us s i : Int)) (t := jb s i) (i0 := (i : Int)) hb K i r hD (by omega)
 show ((qw.scanner_skip_l1 K ⟨s, i, us s i, jb s i, out⟩ K i (us s i) (jb s i)).bind _) = _
 rw [this, Option.bind_some]
 cases hs : vx false r with
 | nil => rfl
 | cons c t => rfl
structure Tk where
 kind : Int
 bytes : List Int
 set : S4
 num : Int
def vD : Nat -> Int -> List UInt8 -> Option (Nat × Int)
 | c, n, [] => some (c, n)
 | c, n, d :: r => if vE d.toNat = 3 then (if c = 6 then none else vD (c + 1) (IntKind.wrap .i64 ((IntKind.wrap .i64 (10 * n)) + (IntKind.wrap .i64 (IntKind.wrap .u8 ((d.toNat : Int) - 48))))) r) else some (c, n)
def brk : List UInt8 -> Option Nat
 | [] => none
 | c :: r => if c.toNat = 92 then (match r with
   | [] => none
   | _ :: r' => (brk r').map (· + 2))
  else if c.toNat = 93 then some 1 else (brk r).map (· + 1)
def psP (t : List UInt8) : S4 × Fault := (qc.Parse 400000 t).getD (S4.mk 0 0 0 0, ⟨0, 0⟩)
theorem parseL_fuel {t : List UInt8} : ∀ (d j j' i : Nat) (s : S4), t.length <= i + d -> i <= t.length -> d < j -> d < j' -> Cp.parseL t j i s = Cp.parseL t j' i s := by
 intro d
 induction d using Nat.strongRecOn with
 | _ d ih =>
  intro j j' i s hd hi hj hj'
  obtain ⟨j, rfl⟩ : ∃ q, j = q + 1 := ⟨j - 1, by omega⟩
  obtain ⟨j', rfl⟩ : ∃ q, j' = q + 1 := ⟨j' - 1, by omega⟩
  simp only [Cp.parseL]
  split
  ·rfl
  ·cases h : Cp.itemS t i with
   | err a c => rfl
   | ok lo hi' nx =>
    have hsp := Cp.itemS_spec h hi
    simp only
    exact ih (t.length - nx) (by omega) j j' nx _ (by omega) (by omega) (by omega) (by omega)
theorem csParse_fuel {t : List UInt8} (h : t.length <= 65536) {K : Nat} (hK : 400000 <= K) : qc.Parse K t = qc.Parse 400000 t := by
 rw [Cp.yParse_ok (by omega) (by omega), Cp.yParse_ok (by omega) (by omega)]
 unfold Cp.parseT
 by_cases h1 : t[0]? = some 91
 ·have hl : 1 <= t.length := by
   rcases Nat.eq_zero_or_pos t.length with h0 | h0
   ·rw [List.length_eq_zero_iff.1 h0] at h1; cases h1
   ·exact h0
  have h2 : (if t[1]? = some 94 then 2 else 1) <= t.length := by
   split
   ·rename_i h3
    have := (List.getElem?_eq_some_iff.1 h3).1
    omega
   ·exact hl
  rw [parseL_fuel t.length K 400000 _ _ (by omega) h2 (by omega) (by omega)]
 ·rw [if_pos h1, if_pos h1]
theorem psP_ok {K : Nat} (hK : 400000 <= K) {t : List UInt8} (h : t.length <= 65536) : qc.Parse K t = some (psP t) /\ (Cs.FaultIn t (psP t).2 \/ ((psP t).2.Code = 0 /\ Cs.NF t 0 t.length)) := by
 obtain ⟨S, f, h1, h2⟩ := Cs.Parse_some h (k := 400000) (by omega)
 have e : psP t = (S, f) := by unfold psP; rw [h1]; rfl
 rw [e, csParse_fuel h hK]
 exact ⟨h1, h2⟩
def uO (c : UInt8) : Bool := decide (0 <= Lib.indexByte ([61, 124, 46, 59, 62, 63, 42, 43, 123, 125, 40, 41, 95, 47, 44, 45] : List UInt8) c)
def noS : S4 := S4.mk 0 0 0 0
def kD : List UInt8 -> Except (Int × Int) (Tk × Nat)
 | [] => .error (0, 11)
 | c :: r =>
  if vE c.toNat = 1 \/ vE c.toNat = 2 then (if 32 < pl (c :: r) then .error (0, 20) else .ok (⟨(vE c.toNat : Int), [], noS, 0⟩, pl (c :: r)))
  else if vE c.toNat = 3 then (match vD 0 0 (c :: r) with
   | none => .error (0, 21)
   | some (m, n) => if c.toNat = 48 /\ 1 < m then .error (0, 21) else .ok (⟨3, [], noS, n⟩, m))
  else if c.toNat = 34 then (match gP 400000 r [] with
   | .error (none, _) => .error (0, 13)
   | .error (some m, e) => .error (((r.length + 1 - m : Nat) : Int), e)
   | .ok (out, r') => .ok (⟨4, out, noS, 0⟩, r.length + 1 - r'.length))
  else if c.toNat = 91 then (match brk r with
   | none => .error (0, 13)
   | some m => if (psP ((c :: r).take (m + 1))).2.Code ≠ 0 then .error ((psP ((c :: r).take (m + 1))).2.At, (psP ((c :: r).take (m + 1))).2.Code) else .ok (⟨5, [], (psP ((c :: r).take (m + 1))).1, 0⟩, m + 1))
  else if uO c then .ok (⟨6, [], noS, 0⟩, 1)
  else .error (0, 11)
end Go.Vc
