import Derived.Test.YtdbnoblklhgdoaaGreatDoorRP
import Derived.Test.YtdbnoblklhgdoaaGreatDoorVcN
set_option linter.unusedVariables false
set_option linter.unusedSimpArgs false
set_option linter.unusedSectionVars false
namespace Go.Vc
open Go
inductive E7 : List zg -> Prop
 | one (w : zg) (h : w.Kind = 7) : E7 [w]
 | cons (w : zg) (r : List zg) (h : w.Kind ≠ 7) (hr : E7 r) : E7 (w :: r)
theorem E7_tail {w : zg} {r : List zg} (h : E7 (w :: r)) (hk : w.Kind ≠ 7) : E7 r := by
 cases h with
 | one _ h => exact absurd h hk
 | cons _ _ _ hr => exact hr
structure Sf (l ws : List zg) : Prop where
 drop : l.drop (l.length - ws.length) = ws
 e7 : E7 ws
 len : l.length < 1000000
def ix (l ws : List zg) : Int := ((l.length - ws.length : Nat) : Int)
def xF (l : List zg) (d : zY) (s y : Bool) (n : Int) (ws : List zg) : za := ⟨l, ix l ws, d, s, y, n⟩
theorem k9 {l ws : List zg} (h : Sf l ws) : ws.length <= l.length := by
 have := congrArg List.length h.drop
 rw [List.length_drop] at this
 omega
theorem wz {l r : List zg} {w : zg} (h : Sf l (w :: r)) : xf (ix l (w :: r)) l.length = true /\ at_ l (ix l (w :: r)) = w /\ IntKind.wrap .i64 (ix l (w :: r) + 1) = ix l r := by
 have hl := k9 h
 simp only [List.length_cons] at hl
 have hlt : l.length - (w :: r).length < l.length := by simp only [List.length_cons]; omega
 have hg : l[l.length - (w :: r).length] = w := by
  have := h.drop
  rw [List.drop_eq_getElem_cons hlt] at this
  exact (List.cons.inj this).1
 refine ⟨yQ hlt, by unfold ix; rw [yG hlt, hg], ?_⟩
 have := h.len
 unfold ix
 rw [yg (by omega)]
 congr 1
 simp only [List.length_cons]
 omega
theorem qc {l r : List zg} {w : zg} (h : Sf l (w :: r)) (hk : w.Kind ≠ 7) : Sf l r := by
 have hl := k9 h
 simp only [List.length_cons] at hl
 refine ⟨?_, E7_tail h.e7 hk, h.len⟩
 have hlt : l.length - (w :: r).length < l.length := by simp only [List.length_cons]; omega
 have := h.drop
 rw [List.drop_eq_getElem_cons hlt] at this
 have h2 := (List.cons.inj this).2
 rw [<- h2]
 congr 1
 simp only [List.length_drop, List.length_cons]
 omega
abbrev Ps (α : Type) := Except Fault (α × List zg)
def y9 {α β : Type} (x : Except Fault α) (f : α -> β) : Pn β Fault := match x with
 | .ok a => .ok (f a)
 | .error e => .pan e
theorem yb (d : zY) : zY.mk d.Start d.Layout d.Prods d.Chains d.Follows d.Rejects d.Boxes = d := rfl
section
variable (l : List zg) (d : zY) (s y : Bool) (n : Int) (ws : List zg)
theorem yC : (xF l d s y n ws).l_ = l := rfl
theorem yD : (xF l d s y n ws).at_ = ix l ws := rfl
theorem yn : (xF l d s y n ws).d = d := rfl
theorem yL : (xF l d s y n ws).start = s := rfl
theorem yK : (xF l d s y n ws).layout = y := rfl
theorem yI : (xF l d s y n ws).items = n := rfl
theorem yY : za.mk l (ix l ws) d s y n = xF l d s y n ws := rfl
end
def xt (ws : List zg) (t : List UInt8) : Bool := match ws with
 | w :: _ => (w.Kind == 6 || w.Kind == 2) && w.Text == t
 | [] => false
def j8 (ws : List zg) : Int := match ws with
 | w :: _ => w.At
 | [] => 0
def zJ (ws : List zg) (t : List UInt8) : Except Fault (List zg) := if xt ws t then .ok ws.tail else .error ⟨j8 ws, 30⟩
def yN (ws : List zg) (k : Int) : Ps zg := match ws with
 | w :: r => if w.Kind = k then (if k = 4 /\ 32 < w.Bytes.length then .error ⟨w.At, 2⟩ else .ok (w, r)) else .error ⟨w.At, 30⟩
 | [] => .error ⟨0, 1⟩
def yR (ws : List zg) : Ps (List UInt8) := match yN ws 1 with
 | .ok (w, r) => .ok (w.Text, r)
 | .error e => .error e
theorem isP_ne {w : zg} {r : List zg} {t : List UInt8} (h : xt (w :: r) t = true) : w.Kind ≠ 7 := by
 simp only [xt, Bool.and_eq_true, Bool.or_eq_true, beq_iff_eq] at h
 omega
theorem jv {ws : List zg} (h : E7 ws) : ∃ w r, ws = w :: r := by
 cases h with
 | one w _ => exact ⟨w, [], rfl⟩
 | cons w r _ _ => exact ⟨w, r, rfl⟩
section
variable {l : List zg} {d : zY} {s y : Bool} {n : Int} {ws : List zg}
theorem is_ok (h : Sf l ws) (t : List UInt8) : qd.reader_is (xF l d s y n ws) t = some (xt ws t) := by
 obtain ⟨w, r, rfl⟩ := jv h.e7
 obtain ⟨h1, h2, _⟩ := wz h
 unfold qd.reader_is xt xF
 simp only [h1, h2, if_true]
 by_cases h6 : w.Kind = 6
 ·simp [h6]
 ·by_cases h2' : w.Kind = 2
  ·simp [h2']
  ·simp [h6, h2']
theorem xV (h : Sf l ws) (t : List UInt8) : qd.reader_take (xF l d s y n ws) t = some (xt ws t, xF l d s y n (if xt ws t then ws.tail else ws)) /\ Sf l (if xt ws t then ws.tail else ws) := by
 obtain ⟨w, r, rfl⟩ := jv h.e7
 obtain ⟨h1, h2, h3⟩ := wz h
 unfold qd.reader_take
 rw [is_ok h]
 cases hi : xt (w :: r) t with
 | false => exact ⟨rfl, h⟩
 | true =>
  simp only [Option.bind_some, Bool.not_true, Bool.false_eq_true, if_false, if_true, List.tail_cons]
  refine ⟨?_, qc h (isP_ne hi)⟩
  unfold xF
  simp only [h3]
theorem xp (h : Sf l ws) (t : List UInt8) : qd.reader_want (xF l d s y n ws) t = some (y9 (zJ ws t) (xF l d s y n)) /\ ∀ r, zJ ws t = .ok r -> Sf l r := by
 obtain ⟨hT, hS⟩ := xV (d := d) (s := s) (y := y) (n := n) h t
 unfold qd.reader_want zJ
 rw [hT]
 obtain ⟨w, r, rfl⟩ := jv h.e7
 obtain ⟨h1, h2, h3⟩ := wz h
 cases hi : xt (w :: r) t with
 | false =>
  refine ⟨?_, fun r h => by simp at h⟩
  simp only [Option.bind_some, Bool.not_false, Bool.false_eq_true, if_false, if_true]
  unfold xF
  simp only [h1, h2, if_true, qd.fail, Option.bind_some, Pn.go, y9, j8]
 | true =>
  rw [hi] at hS
  refine ⟨?_, fun r h => by simp only [if_true, Except.ok.injEq] at h; subst h; exact hS⟩
  simp only [Option.bind_some, Bool.not_true, Bool.false_eq_true, if_false, if_true, y9]
  rfl
theorem gJ {w x : zg} {r r' : List zg} {k : Int} (h : yN (w :: r) k = .ok (x, r')) : x = w /\ r' = r /\ w.Kind = k /\ (k = 4 -> w.Bytes.length <= 32) := by
 simp only [yN] at h
 split at h
 ·rename_i hw
  split at h
  ·cases h
  ·rename_i hb
   simp only [Except.ok.injEq, _root_.Prod.mk.injEq] at h
   exact ⟨h.1.symm, h.2.symm, hw, fun h4 => by
    have : ¬ 32 < w.Bytes.length := fun hl => hb ⟨h4, hl⟩
    omega⟩
 ·cases h
theorem j6 (h : Sf l ws) (k : Int) (hk : k ≠ 7) : qd.reader_kind (xF l d s y n ws) k = some (y9 (yN ws k) fun x => (x.1, xF l d s y n x.2)) /\ ∀ w r, yN ws k = .ok (w, r) -> Sf l r := by
 obtain ⟨w, r, rfl⟩ := jv h.e7
 obtain ⟨h1, h2, h3⟩ := wz h
 refine ⟨?_, fun x r' hr => ?_⟩
 ·unfold qd.reader_kind qd.reader_kind_j1 qd.reader_kind_j2 qd.reader_kind_j3
  simp only [yN]
  unfold xF
  simp only [h1, h2, h3, if_true, qd.fail, Option.bind_some, Pn.go]
  by_cases hw : w.Kind = k
  ·have e : (w.Kind != k) = false := by simp [hw]
   simp only [e, Bool.false_eq_true, if_false, if_pos hw]
   by_cases h4 : k = 4
   ·have e4 : (k == 4) = true := by simp [h4]
    simp only [e4, if_true]
    by_cases hb : 32 < w.Bytes.length
    ·rw [decide_eq_true (show (32 : Int) < (w.Bytes.length : Int) by omega), if_pos rfl, if_pos (show k = 4 /\ 32 < w.Bytes.length from ⟨h4, hb⟩)]
     rfl
    ·rw [decide_eq_false (show ¬ (32 : Int) < (w.Bytes.length : Int) by omega), if_neg (by simp), if_neg (fun h => hb h.2)]
     rfl
   ·have e4 : (k == 4) = false := by simp [h4]
    rw [if_neg (by rw [e4]; simp), if_neg (fun h => h4 h.1)]
    rfl
  ·have e : (w.Kind != k) = true := by simp [hw]
   simp only [e, if_true, if_neg hw]
   rfl
 ·obtain ⟨_, rfl, hw, _⟩ := gJ hr
  exact qc h (by omega)
theorem xN (h : Sf l ws) : qd.reader_name (xF l d s y n ws) = some (y9 (yR ws) fun x => (x.1, xF l d s y n x.2)) /\ ∀ w r, yR ws = .ok (w, r) -> Sf l r := by
 obtain ⟨h1, h2⟩ := j6 (d := d) (s := s) (y := y) (n := n) h 1 (by decide)
 unfold qd.reader_name yR
 rw [h1]
 cases hk : yN ws 1 with
 | error e => exact ⟨rfl, fun _ _ h => by cases h⟩
 | ok x =>
  obtain ⟨w, r⟩ := x
  exact ⟨rfl, fun _ _ h => by cases h; exact h2 w r hk⟩
end
def xA : S4 := ⟨0, 0, 0, 0⟩
def jM (k : Int) (set : S4) (nm : List UInt8) (ws : List zg) : xg × List zg :=
 if xt ws [63] then (⟨4, [], set, nm, []⟩, ws.tail) else if xt ws [42] then (⟨5, [], set, nm, []⟩, ws.tail) else if xt ws [43] then (⟨6, [], set, nm, []⟩, ws.tail) else (⟨k, [], set, nm, []⟩, ws)
def qz (ws : List zg) : Ps xg := match ws with
 | w :: r => if w.Kind = 5 then .ok (jM 2 w.Set [] r) else match yR (w :: r) with
  | .ok (nm, r') => .ok (jM 3 xA nm r')
  | .error e => .error e
 | [] => .error ⟨0, 1⟩
def gM (ws : List zg) : Ps xg := match yR ws with
 | .error e => .error e
 | .ok (nm, r) => match yN r 4 with
  | .error e => .error e
  | .ok (w, r2) => if w.Bytes.length = 0 then .error ⟨w.At, 30⟩ else match zJ r2 [125] with
   | .error e => .error e
   | .ok r3 => if xt r3 [42] then .ok (⟨5, [], xA, nm, vj w.Bytes⟩, r3.tail) else match zJ r3 [43] with
    | .error e => .error e
    | .ok r4 => .ok (⟨6, [], xA, nm, vj w.Bytes⟩, r4)
def vo (ws : List zg) : Ps xg := match ws with
 | w :: r => if w.Kind = 4 then (match yN (w :: r) 4 with
   | .error e => .error e
   | .ok (x, r') => .ok (⟨1, vj x.Bytes, xA, [], []⟩, r'))
  else if xt (w :: r) [123] then gM r else qz (w :: r)
 | [] => .error ⟨0, 1⟩
section
variable {l : List zg} {d : zY} {s y : Bool} {n : Int} {ws : List zg}
theorem part_j1_ok (h : Sf l ws) (k : Int) (set : S4) (nm : List UInt8) (q : za) (hq : q.d = d) : qd.reader_part_j1 q k set nm l (ix l ws) d.Start d.Layout s y n = some (.ok ((jM k set nm ws).1, xF l d s y n (jM k set nm ws).2)) /\ Sf l (jM k set nm ws).2 := by
 subst hq
 obtain ⟨t1, f1⟩ := xV (d := q.d) (s := s) (y := y) (n := n) h [63]
 obtain ⟨t2, f2⟩ := xV (d := q.d) (s := s) (y := y) (n := n) h [42]
 obtain ⟨t3, f3⟩ := xV (d := q.d) (s := s) (y := y) (n := n) h [43]
 unfold qd.reader_part_j1 qd.reader_part_j3 qd.reader_part_j2 jM
 have e : (⟨l, ix l ws, ⟨q.d.Start, q.d.Layout, q.d.Prods, q.d.Chains, q.d.Follows, q.d.Rejects, q.d.Boxes⟩, s, y, n⟩ : za) = xF l q.d s y n ws := rfl
 rw [e, t1]
 cases h1 : xt ws [63] with
 | true => rw [h1] at f1; exact ⟨rfl, f1⟩
 | false =>
  simp only [Option.bind_some, Bool.false_eq_true, if_false]
  simp only [yC, yD, yn, yL, yK, yI, yb, yY, t2]
  cases h2 : xt ws [42] with
  | true => rw [h2] at f2; exact ⟨rfl, f2⟩
  | false =>
   simp only [Option.bind_some, Bool.false_eq_true, if_false]
   simp only [yC, yD, yn, yL, yK, yI, yb, yY, t3]
   cases h3 : xt ws [43] with
   | true => rw [h3] at f3; exact ⟨rfl, f3⟩
   | false => exact ⟨rfl, h⟩
theorem part_ok (h : Sf l ws) : qd.reader_part (xF l d s y n ws) = some (y9 (qz ws) fun x => (x.1, xF l d s y n x.2)) /\ ∀ w r, qz ws = .ok (w, r) -> Sf l r := by
 obtain ⟨w, r, rfl⟩ := jv h.e7
 obtain ⟨h1, h2, h3⟩ := wz h
 unfold qd.reader_part
 simp only [qz]
 by_cases h5 : w.Kind = 5
 ·have hS := qc h (by omega)
  obtain ⟨g1, g2⟩ := part_j1_ok (s := s) (y := y) (n := n) hS 2 w.Set [] (xF l d s y n (w :: r)) rfl
  rw [if_pos h5]
  refine ⟨?_, fun a b e => by rw [show b = (jM 2 w.Set [] r).2 by rw [Except.ok.inj e]]; exact g2⟩
  rw [show (xF l d s y n (w :: r)).at_ = ix l (w :: r) from rfl, show (xF l d s y n (w :: r)).l_ = l from rfl, h1, h2, h3, h5]
  exact g1
 ·rw [if_neg h5]
  obtain ⟨n1, n2⟩ := xN (d := d) (s := s) (y := y) (n := n) h
  have e5 : (w.Kind == 5) = false := by simp [h5]
  rw [show (xF l d s y n (w :: r)).at_ = ix l (w :: r) from rfl, show (xF l d s y n (w :: r)).l_ = l from rfl, h1, h2, e5, n1]
  cases hn : yR (w :: r) with
  | error e => exact ⟨rfl, fun _ _ h => by cases h⟩
  | ok x =>
   obtain ⟨nm, r'⟩ := x
   obtain ⟨g1, g2⟩ := part_j1_ok (s := s) (y := y) (n := n) (n2 nm r' hn) 3 xA nm (xF l d s y n (w :: r)) rfl
   exact ⟨g1, fun a b e => by rw [show b = (jM 3 xA nm r').2 by rw [Except.ok.inj e]]; exact g2⟩
theorem sym_j1_ok (h : Sf l ws) (x2 : List UInt8 × za) (w : zg) (q : za) (hq : q.d = d) : qd.reader_sym_j1 (w, xF l d s y n ws) q x2 = some (y9 (match zJ ws [125] with
   | .error e => .error e
   | .ok r3 => if xt r3 [42] then .ok (⟨5, [], xA, x2.1, vj w.Bytes⟩, r3.tail) else match zJ r3 [43] with
    | .error e => .error e
    | .ok r4 => .ok (⟨6, [], xA, x2.1, vj w.Bytes⟩, r4)) fun x => (x.1, xF l d s y n x.2)) /\ ∀ r3, zJ ws [125] = .ok r3 -> Sf l r3 /\ (xt r3 [42] = true -> Sf l r3.tail) /\ ∀ r4, zJ r3 [43] = .ok r4 -> Sf l r4 := by
 subst hq
 obtain ⟨a1, a2⟩ := xp (d := q.d) (s := s) (y := y) (n := n) h [125]
 refine ⟨?_, fun r3 h3 => ⟨a2 r3 h3, fun hi => by have := (xV (d := q.d) (s := s) (y := y) (n := n) (a2 r3 h3) [42]).2; rw [hi] at this; exact this, fun r4 h4 => (xp (d := q.d) (s := s) (y := y) (n := n) (a2 r3 h3) [43]).2 r4 h4⟩⟩
 unfold qd.reader_sym_j1
 simp only [yC, yD, yn, yL, yK, yI, yb, yY, a1]
 cases hw : zJ ws [125] with
 | error e => rfl
 | ok r3 =>
  have hS3 := a2 r3 hw
  simp only [y9, Option.bind_some, Pn.go]
  obtain ⟨t1, t2⟩ := xV (d := q.d) (s := s) (y := y) (n := n) hS3 [42]
  simp only [yC, yD, yn, yL, yK, yI, yb, yY, t1]
  cases hi : xt r3 [42] with
  | true => rfl
  | false =>
   simp only [Option.bind_some, Bool.false_eq_true, if_false]
   obtain ⟨b1, b2⟩ := xp (d := q.d) (s := s) (y := y) (n := n) hS3 [43]
   simp only [yC, yD, yn, yL, yK, yI, yb, yY, b1]
   cases hw4 : zJ r3 [43] with
   | error e => rfl
   | ok r4 => rfl
theorem sym_ok (h : Sf l ws) : qd.reader_sym (xF l d s y n ws) = some (y9 (vo ws) fun x => (x.1, xF l d s y n x.2)) /\ ∀ w r, vo ws = .ok (w, r) -> Sf l r := by
 obtain ⟨w, r, rfl⟩ := jv h.e7
 obtain ⟨h1, h2, h3⟩ := wz h
 unfold qd.reader_sym
 simp only [vo]
 rw [show (xF l d s y n (w :: r)).at_ = ix l (w :: r) from rfl, show (xF l d s y n (w :: r)).l_ = l from rfl, h1, h2, if_pos rfl]
 by_cases h4 : w.Kind = 4
 ·have e4 : (w.Kind == 4) = true := by simp [h4]
  rw [e4, if_pos rfl, if_pos h4]
  obtain ⟨k1, k2⟩ := j6 (d := d) (s := s) (y := y) (n := n) h 4 (by decide)
  rw [k1]
  cases hk : yN (w :: r) 4 with
  | error e => exact ⟨rfl, fun _ _ h => by cases h⟩
  | ok x =>
   obtain ⟨x, r'⟩ := x
   exact ⟨rfl, fun _ _ h => by cases h; exact k2 x r' hk⟩
 ·have e4 : (w.Kind == 4) = false := by simp [h4]
  rw [e4, if_neg (by simp), if_neg h4]
  obtain ⟨t1, t2⟩ := xV (d := d) (s := s) (y := y) (n := n) h [123]
  rw [t1]
  cases hi : xt (w :: r) [123] with
  | false =>
   rw [hi] at t2
   obtain ⟨p1, p2⟩ := part_ok (d := d) (s := s) (y := y) (n := n) h
   simp only [Option.bind_some, Bool.not_false, if_true, Bool.false_eq_true, if_false]
   simp only [yC, yD, yn, yL, yK, yI, yb, yY, p1]
   cases hp : qz (w :: r) with
   | error e => exact ⟨rfl, fun _ _ h => by cases h⟩
   | ok x =>
    obtain ⟨x, r'⟩ := x
    exact ⟨rfl, fun _ _ h => by cases h; exact p2 x r' hp⟩
  | true =>
   rw [hi] at t2
   simp only [if_true, List.tail_cons] at t2
   simp only [Option.bind_some, Bool.not_true, Bool.false_eq_true, if_false, if_true, List.tail_cons]
   unfold gM
   obtain ⟨n1, n2⟩ := xN (d := d) (s := s) (y := y) (n := n) t2
   simp only [yC, yD, yn, yL, yK, yI, yb, yY, n1]
   cases hn : yR r with
   | error e => exact ⟨rfl, fun _ _ h => by cases h⟩
   | ok x =>
    obtain ⟨nm, r1⟩ := x
    simp only [y9, Option.bind_some, Pn.go]
    obtain ⟨k1, k2⟩ := j6 (d := d) (s := s) (y := y) (n := n) (n2 nm r1 hn) 4 (by decide)
    simp only [yC, yD, yn, yL, yK, yI, yb, yY, k1]
    cases hk : yN r1 4 with
    | error e => exact ⟨rfl, fun _ _ h => by cases h⟩
    | ok x =>
     obtain ⟨x, r2⟩ := x
     simp only [y9, Option.bind_some, Pn.go, qd.fail]
     obtain ⟨s1, s2⟩ := sym_j1_ok (d := d) (s := s) (y := y) (n := n) (k2 x r2 hk) (nm, xF l d s y n r1) x (xF l d s y n (w :: r)) rfl
     by_cases hz : x.Bytes.length = 0
     ·have ez : ((x.Bytes.length : Int) == 0) = true := by simp [hz]
      rw [ez, if_pos rfl, if_pos hz]
      exact ⟨rfl, fun _ _ h => by cases h⟩
     ·have ez : ((x.Bytes.length : Int) == 0) = false := by rw [beq_eq_false_iff_ne]; omega
      rw [ez, if_neg (by simp), if_neg hz, s1]
      cases hw : zJ r2 [125] with
      | error e => exact ⟨rfl, fun _ _ h => by cases h⟩
      | ok r3 =>
       obtain ⟨q1, q2, q3⟩ := s2 r3 hw
       simp only
       cases hi3 : xt r3 [42] with
       | true => exact ⟨rfl, fun _ _ h => by cases h; exact q2 hi3⟩
       | false =>
        simp only [Bool.false_eq_true, if_false]
        cases hw4 : zJ r3 [43] with
        | error e => exact ⟨rfl, fun _ _ h => by cases h⟩
        | ok r4 => exact ⟨rfl, fun _ _ h => by cases h; exact q3 r4 hw4⟩
end
def uX (ws : List zg) : Bool := match ws with
 | w :: _ => w.Kind == 4 || w.Kind == 1 || w.Kind == 5 || xt ws [123]
 | [] => false
def kA : Nat -> List xg -> List zg -> Ps (List xg)
 | 0, _, _ => .error ⟨0, 1⟩
 | j + 1, out, ws => if uX ws then (if out.length = 12 then .error ⟨j8 ws, 2⟩ else match vo ws with
   | .error e => .error e
   | .ok (x, r) => kA j (out ++ [x]) r) else .ok (out, ws)
def kz (ws : List zg) : Ps (List xg) := match vo ws with
 | .error e => .error e
 | .ok (x, r) => kA 20 [x] r
section
variable {l : List zg} {d : zY} {s y : Bool} {n : Int} {ws : List zg}
theorem syms_l1_ok (q : za) : ∀ (j j' : Nat) (out : List xg) (ws : List zg), Sf l ws -> 1 <= out.length -> out.length <= 12 -> 14 <= j + out.length -> 14 <= j' + out.length ->
  qd.reader_syms_l1 q j out l (ix l ws) q.d.Start q.d.Layout s y n = some (.ret (y9 (kA j' out ws) fun x => (x.1, xF l q.d s y n x.2))) /\ ∀ a r, kA j' out ws = .ok (a, r) -> Sf l r := by
 intro j
 induction j with
 | zero => intro _ _ _ _ _ h h2; omega
 | succ j ih =>
  intro j' out ws h ho1 ho hj hj'
  obtain ⟨j', rfl⟩ : ∃ q, j' = q + 1 := ⟨j' - 1, by omega⟩
  obtain ⟨w, r, rfl⟩ := jv h.e7
  obtain ⟨h1, h2, h3⟩ := wz h
  obtain ⟨p1, p2⟩ := sym_ok (d := q.d) (s := s) (y := y) (n := n) h
  have hi := is_ok (d := q.d) (s := s) (y := y) (n := n) h [123]
  have go : uX (w :: r) = true -> qd.reader_syms_j3 out l (ix l (w :: r)) q.d.Start q.d.Layout q s y n (qd.reader_syms_l1 q j) false = some (.ret (y9 (kA (j' + 1) out (w :: r)) fun x => (x.1, xF l q.d s y n x.2))) /\ ∀ a b, kA (j' + 1) out (w :: r) = .ok (a, b) -> Sf l b := by
   intro hb
   simp only [kA, hb, if_true]
   unfold qd.reader_syms_j3 qd.reader_syms_j4 qd.reader_syms_j2
   simp only [yC, yD, yn, yL, yK, yI, yb, yY, p1, h2, qd.fail, Option.bind_some, Pn.go, Bool.false_eq_true, if_false]
   by_cases h12 : out.length = 12
   ·have e : ((out.length : Int) == 12) = true := by simp [h12]
    rw [e, if_pos rfl, if_pos h12]
    exact ⟨rfl, fun _ _ h => by cases h⟩
   ·have e : ((out.length : Int) == 12) = false := by rw [beq_eq_false_iff_ne]; omega
    rw [e, if_neg (by simp), if_neg h12]
    cases hs : vo (w :: r) with
    | error e => exact ⟨rfl, fun _ _ h => by cases h⟩
    | ok x =>
     obtain ⟨x, r'⟩ := x
     simp only [y9]
     rw [if_pos (decide_eq_true (by simp; omega)), if_pos (decide_eq_true (by simp; omega))]
     exact ih j' (out ++ [x]) r' (p2 x r' hs) (by simp) (by simp; omega) (by simp; omega) (by simp; omega)
  simp only [qd.reader_syms_l1]
  rw [h1, if_pos rfl, h2]
  simp only [yC, yD, yn, yL, yK, yI, yb, yY, hi, Option.bind_some]
  by_cases k4 : w.Kind = 4
  ·rw [if_neg (by simp [k4])]; exact go (by simp [uX, k4])
  rw [if_pos (by simp [k4])]
  by_cases k1 : w.Kind = 1
  ·rw [if_neg (by simp [k1])]; exact go (by simp [uX, k1])
  rw [if_pos (by simp [k1])]
  by_cases k5 : w.Kind = 5
  ·rw [if_neg (by simp [k5])]; exact go (by simp [uX, k5])
  rw [if_pos (by simp [k5])]
  cases hb : xt (w :: r) [123] with
  | true => exact go (by simp [uX, hb])
  | false =>
   have hbeg : uX (w :: r) = false := by simp [uX, hb, k4, k1, k5]
   simp only [kA, hbeg, Bool.false_eq_true, if_false]
   refine ⟨rfl, fun a b e => ?_⟩
   simp only [Except.ok.injEq, _root_.Prod.mk.injEq] at e
   rw [<- e.2]; exact h
theorem syms_ok' {k : Nat} (hk : 20 <= k) (h : Sf l ws) : qd.reader_syms k (xF l d s y n ws) = some (y9 (kz ws) fun x => (x.1, xF l d s y n x.2)) /\ ∀ a r, kz ws = .ok (a, r) -> Sf l r := by
 obtain ⟨p1, p2⟩ := sym_ok (d := d) (s := s) (y := y) (n := n) h
 unfold qd.reader_syms kz
 rw [p1]
 cases hs : vo ws with
 | error e => exact ⟨rfl, fun _ _ h => by cases h⟩
 | ok x =>
  obtain ⟨x, r⟩ := x
  have hS := p2 x r hs
  obtain ⟨g1, g2⟩ := syms_l1_ok (s := s) (y := y) (n := n) (xF l d s y n ws) k 20 [x] r hS (by simp) (by simp) (by simp; omega) (by simp)
  simp only [yn] at g1
  simp only [y9, Option.bind_some, Pn.go, yC, yD, yn, yL, yK, yI, g1]
  exact ⟨rfl, g2⟩
end
def headW (ws : List zg) : Ps (List UInt8 × List UInt8) := match yR ws with
 | .error e => .error e
 | .ok (a, r) => if xt r [46] then (match yR r.tail with
   | .error e => .error e
   | .ok (c, r2) => match zJ r2 [61] with
    | .error e => .error e
    | .ok r3 => .ok ((a, c), r3))
  else match zJ r [61] with
   | .error e => .error e
   | .ok r3 => .ok ((a, []), r3)
def gr : Nat -> List UInt8 -> List UInt8 -> List Prod -> List zg -> Ps (List Prod)
 | 0, _, _, _, _ => .error ⟨0, 1⟩
 | j + 1, a, c, ps, ws => match kz ws with
  | .error e => .error e
  | .ok (x, r) => if xt r [124] then (if ps.length + 1 = 200 then .error ⟨j8 r, 2⟩ else gr j a c (ps ++ [⟨true, a, c, false, x⟩]) r.tail) else .ok (ps ++ [⟨true, a, c, false, x⟩], r)
def ql (w0 : zg) (ps : List Prod) (ws : List zg) : Ps (List Prod) := if ps.length = 200 then .error ⟨w0.At, 2⟩ else match headW ws with
 | .error e => .error e
 | .ok (x, r) => match gr 300 x.1 x.2 ps r with
  | .error e => .error e
  | .ok (ps', r2) => match zJ r2 [59] with
   | .error e => .error e
   | .ok r3 => .ok (ps', r3)
def cfW (w0 : zg) (ps : List Prod) (ws : List zg) : Ps (List Prod) := if ps.length = 200 then .error ⟨w0.At, 2⟩ else match headW ws with
 | .error e => .error e
 | .ok (x, r) => match kz r with
  | .error e => .error e
  | .ok (l, r2) => if x.2 = [] then (match zJ r2 [98, 114, 97, 99, 107, 101, 116] with
    | .error e => .error e
    | .ok r3 => match zJ r3 [59] with
     | .error e => .error e
     | .ok r4 => .ok (ps ++ [⟨false, x.1, x.2, true, l⟩], r4))
   else match zJ r2 [59] with
    | .error e => .error e
    | .ok r4 => .ok (ps ++ [⟨false, x.1, x.2, false, l⟩], r4)
def dP (d : zY) (ps : List Prod) : zY := ⟨d.Start, d.Layout, ps, d.Chains, d.Follows, d.Rejects, d.Boxes⟩
section
variable {l : List zg} {d : zY} {s y : Bool} {n : Int} {ws : List zg}
theorem room_ok (w : zg) : qd.reader_room (xF l d s y n ws) w = some (if d.Prods.length = 200 then .pan ⟨w.At, 2⟩ else .ok ()) := by
 unfold qd.reader_room
 rw [yn]
 by_cases h : d.Prods.length = 200
 ·have e : ((d.Prods.length : Int) == 200) = true := by simp [h]
  rw [e, if_pos h]; rfl
 ·have e : ((d.Prods.length : Int) == 200) = false := by rw [beq_eq_false_iff_ne]; omega
  rw [e, if_neg h]; rfl
theorem lex_l2_ok {k : Nat} (hk : 20 <= k) (q : za) (x1 : List UInt8 × za) (c : List UInt8) : ∀ (j j' : Nat) (ps : List Prod) (ws : List zg) (sy : List xg), Sf l ws -> ps.length < 200 -> 201 <= j + ps.length -> 201 <= j' + ps.length ->
  ∃ z, qd.reader_lex_l2 k q x1 c j l (ix l ws) q.d.Start q.d.Layout ps s y n sy = some z /\ match gr j' x1.1 c ps ws with
   | .ok (ps', r) => (∃ sy', z = .done (l, ix l r, q.d.Start, q.d.Layout, ps', s, y, n, sy')) /\ Sf l r /\ ps'.length <= 200
   | .error e => z = .ret (.pan e) := by
 intro j
 induction j with
 | zero => intro _ _ _ _ _ h h2; omega
 | succ j ih =>
  intro j' ps ws sy h hp hj hj'
  obtain ⟨j', rfl⟩ : ∃ q, j' = q + 1 := ⟨j' - 1, by omega⟩
  obtain ⟨p1, p2⟩ := syms_ok' (d := dP q.d ps) (s := s) (y := y) (n := n) hk h
  simp only [qd.reader_lex_l2, gr]
  rw [show (⟨l, ix l ws, ⟨q.d.Start, q.d.Layout, ps, q.d.Chains, q.d.Follows, q.d.Rejects, q.d.Boxes⟩, s, y, n⟩ : za) = xF l (dP q.d ps) s y n ws from rfl, p1]
  cases hs : kz ws with
  | error e => exact ⟨_, rfl, rfl⟩
  | ok x =>
   obtain ⟨x, r⟩ := x
   have hS := p2 x r hs
   simp only [y9, Option.bind_some, Pn.go]
   rw [if_pos (decide_eq_true (by simp; omega)), if_pos (decide_eq_true (by simp; omega))]
   unfold qd.reader_lex_j4 qd.reader_lex_j3
   simp only [yC, yD, yn, yL, yK, yI]
   have hi := is_ok (d := dP q.d (ps ++ [⟨true, x1.1, c, false, x⟩])) (s := s) (y := y) (n := n) hS [124]
   rw [show (⟨l, ix l r, ⟨(dP q.d ps).Start, (dP q.d ps).Layout, ps ++ [⟨true, x1.1, c, false, x⟩], q.d.Chains, q.d.Follows, q.d.Rejects, q.d.Boxes⟩, s, y, n⟩ : za) = xF l (dP q.d (ps ++ [⟨true, x1.1, c, false, x⟩])) s y n r from rfl, hi]
   cases hb : xt r [124] with
   | false => exact ⟨_, rfl, ⟨_, rfl⟩, hS, by simp; omega⟩
   | true =>
    obtain ⟨w, r', rfl⟩ := jv hS.e7
    obtain ⟨h1, h2, h3⟩ := wz hS
    simp only [Option.bind_some, Bool.not_true, Bool.false_eq_true, if_false, if_true, List.tail_cons]
    have el : (dP q.d (ps ++ [⟨true, x1.1, c, false, x⟩])).Prods.length = ps.length + 1 := by simp [dP]
    simp only [h1, if_true, room_ok, el, h2, h3]
    by_cases hl : ps.length + 1 = 200
    ·rw [if_pos hl, if_pos hl]
     exact ⟨_, rfl, rfl⟩
    ·rw [if_neg hl, if_neg hl]
     simp only [Option.bind_some, Pn.go]
     exact ih j' _ r' _ (qc hS (isP_ne hb)) (by simp; omega) (by simp; omega) (by simp; omega)
theorem lex_ok {k : Nat} (hk : 300 <= k) (h : Sf l ws) (w0 : zg) (hd : d.Prods.length <= 200) : qd.reader_lex k (xF l d s y n ws) w0 = some (y9 (ql w0 d.Prods ws) fun x => xF l (dP d x.1) s y n x.2) /\ ∀ a r, ql w0 d.Prods ws = .ok (a, r) -> Sf l r /\ a.length <= 200 := by
 unfold qd.reader_lex ql
 rw [room_ok]
 by_cases hr : d.Prods.length = 200
 ·rw [if_pos hr, if_pos hr]
  exact ⟨rfl, fun _ _ h => by cases h⟩
 rw [if_neg hr, if_neg hr]
 simp only [Option.bind_some, Pn.go]
 have j1 : ∀ (x1 : List UInt8 × za) (c : List UInt8) (ws : List zg), Sf l ws -> qd.reader_lex_j1 k (xF l d s y n ws) x1 l (ix l ws) d.Start d.Layout s y n c = qd.reader_lex_j1 k (xF l d s y n ws) x1 l (ix l ws) d.Start d.Layout s y n c := fun _ _ _ _ => rfl
 have j1ok : ∀ (x1 : List UInt8 × za) (c : List UInt8) (ws ws0 : List zg), Sf l ws -> qd.reader_lex_j1 k (xF l d s y n ws0) x1 l (ix l ws) d.Start d.Layout s y n c = some (y9 (match zJ ws [61] with
   | .error e => .error e
   | .ok r => match gr 300 x1.1 c d.Prods r with
    | .error e => .error e
    | .ok (ps', r2) => match zJ r2 [59] with
     | .error e => .error e
     | .ok r3 => .ok (ps', r3)) fun x => xF l (dP d x.1) s y n x.2) /\ ∀ r, zJ ws [61] = .ok r -> ∀ ps' r2, gr 300 x1.1 c d.Prods r = .ok (ps', r2) -> ∀ r3, zJ r2 [59] = .ok r3 -> Sf l r3 /\ ps'.length <= 200 := by
  intro x1 c ws ws0 h
  obtain ⟨a1, a2⟩ := xp (d := d) (s := s) (y := y) (n := n) h [61]
  refine ⟨?_, fun r hr ps' r2 hl r3 h3 => ?_⟩
  ·unfold qd.reader_lex_j1
   simp only [yC, yD, yn, yL, yK, yI, yb, yY, a1]
   cases hw : zJ ws [61] with
   | error e => rfl
   | ok r =>
    obtain ⟨z, z1, z2⟩ := lex_l2_ok (s := s) (y := y) (n := n) (show 20 <= k by omega) (xF l d s y n ws0) x1 c k 300 d.Prods r [] (a2 r hw) (by omega) (by omega) (by omega)
    simp only [yn] at z1
    simp only [y9, Option.bind_some, Pn.go, yC, yD, yn, yL, yK, yI, z1]
    cases hl : gr 300 x1.1 c d.Prods r with
    | error e =>
     rw [hl] at z2
     subst z2
     rfl
    | ok x =>
     obtain ⟨ps', r2⟩ := x
     rw [hl] at z2
     obtain ⟨⟨sy', rfl⟩, hS2, _⟩ := z2
     obtain ⟨b1, b2⟩ := xp (d := dP d ps') (s := s) (y := y) (n := n) hS2 [59]
     simp only [LR.fin, yn]
     rw [show (⟨l, ix l r2, ⟨d.Start, d.Layout, ps', d.Chains, d.Follows, d.Rejects, d.Boxes⟩, s, y, n⟩ : za) = xF l (dP d ps') s y n r2 from rfl, b1]
     cases hw2 : zJ r2 [59] with
     | error e => rfl
     | ok r3 => rfl
  ·obtain ⟨z, z1, z2⟩ := lex_l2_ok (s := s) (y := y) (n := n) (show 20 <= k by omega) (xF l d s y n ws0) x1 c k 300 d.Prods r [] (a2 r hr) (by omega) (by omega) (by omega)
   rw [hl] at z2
   exact ⟨(xp (d := d) (s := s) (y := y) (n := n) z2.2.1 [59]).2 r3 h3, z2.2.2⟩
 obtain ⟨n1, n2⟩ := xN (d := d) (s := s) (y := y) (n := n) h
 unfold headW
 rw [n1]
 cases hn : yR ws with
 | error e => exact ⟨rfl, fun _ _ h => by cases h⟩
 | ok x =>
  obtain ⟨a, r⟩ := x
  have hS := n2 a r hn
  obtain ⟨t1, t2⟩ := xV (d := d) (s := s) (y := y) (n := n) hS [46]
  simp only [y9, Option.bind_some, Pn.go, yC, yD, yn, yL, yK, yI, yb, yY, t1]
  cases hi : xt r [46] with
  | true =>
   rw [hi] at t2
   simp only [if_true] at t2 ⊢
   obtain ⟨m1, m2⟩ := xN (d := d) (s := s) (y := y) (n := n) t2
   rw [m1]
   cases hn2 : yR r.tail with
   | error e => exact ⟨rfl, fun _ _ h => by cases h⟩
   | ok x =>
    obtain ⟨c, r2⟩ := x
    obtain ⟨g1, g2⟩ := j1ok (a, xF l d s y n r) c r2 ws (m2 c r2 hn2)
    simp only [y9, Option.bind_some, Pn.go, yC, yD, yn, yL, yK, yI]
    rw [g1]
    cases hw : zJ r2 [61] with
    | error e => exact ⟨rfl, fun _ _ h => by cases h⟩
    | ok r3 =>
     refine ⟨rfl, fun ps' q hq => ?_⟩
     simp only at hq
     cases hl : gr 300 a c d.Prods r3 with
     | error e => rw [hl] at hq; cases hq
     | ok x =>
      rw [hl] at hq
      simp only at hq
      cases hw2 : zJ x.2 [59] with
      | error e => rw [hw2] at hq; cases hq
      | ok r4 => rw [hw2] at hq; cases hq; exact g2 r3 hw _ _ hl _ hw2
  | false =>
   rw [hi] at t2
   simp only [Bool.false_eq_true, if_false] at t2 ⊢
   obtain ⟨g1, g2⟩ := j1ok (a, xF l d s y n r) [] r ws hS
   rw [g1]
   cases hw : zJ r [61] with
   | error e => exact ⟨rfl, fun _ _ h => by cases h⟩
   | ok r3 =>
    refine ⟨rfl, fun ps' q hq => ?_⟩
    simp only at hq
    cases hl : gr 300 a [] d.Prods r3 with
    | error e => rw [hl] at hq; cases hq
    | ok x =>
     rw [hl] at hq
     simp only at hq
     cases hw2 : zJ x.2 [59] with
     | error e => rw [hw2] at hq; cases hq
     | ok r4 => rw [hw2] at hq; cases hq; exact g2 r3 hw _ _ hl _ hw2
end
def kY (ws : List zg) : Int × List zg := if xt ws [108, 101, 102, 116] then (1, ws.tail) else if xt ws [114, 105, 103, 104, 116] then (2, ws.tail) else if xt ws [110, 111, 110] then (3, ws.tail) else (0, ws)
def xQ : Nat -> List (List UInt8) -> List zg -> Ps (List (List UInt8))
 | 0, _, _ => .error ⟨0, 1⟩
 | j + 1, out, ws => match ws with
  | w :: r => if w.Kind = 1 then (if out.length = 16 then .error ⟨w.At, 2⟩ else match yR (w :: r) with
    | .error e => .error e
    | .ok (x, r') => xQ j (out ++ [x]) r') else .ok (out, w :: r)
  | [] => .ok (out, [])
def vg (ws : List zg) : Ps zw := match yR (kY ws).2 with
 | .error e => .error e
 | .ok (x, r2) => match xQ 30 [x] r2 with
  | .error e => .error e
  | .ok (c, r3) => .ok (⟨(kY ws).1, c⟩, r3)
def jI : Nat -> List zw -> List zg -> Ps (List zw)
 | 0, _, _ => .error ⟨0, 1⟩
 | j + 1, out, ws => if xt ws [62] then (if out.length = 16 then .error ⟨j8 ws.tail, 2⟩ else match vg ws.tail with
   | .error e => .error e
   | .ok (g, r) => jI j (out ++ [g]) r) else .ok (out, ws)
def kV (ws : List zg) : Ps (List zw) := match vg ws with
 | .error e => .error e
 | .ok (g, r) => match jI 30 [g] r with
  | .error e => .error e
  | .ok (c, r2) => match zJ r2 [59] with
   | .error e => .error e
   | .ok r3 => .ok (c, r3)
def dC (d : zY) (c : List (List zw)) : zY := ⟨d.Start, d.Layout, d.Prods, c, d.Follows, d.Rejects, d.Boxes⟩
section
variable {l : List zg} {d : zY} {s y : Bool} {n : Int} {ws : List zg}
theorem cf_ok {k : Nat} (hk : 300 <= k) (h : Sf l ws) (w0 : zg) (hd : d.Prods.length <= 200) : qd.reader_cf k (xF l d s y n ws) w0 = some (y9 (cfW w0 d.Prods ws) fun x => xF l (dP d x.1) s y n x.2) /\ ∀ a r, cfW w0 d.Prods ws = .ok (a, r) -> Sf l r /\ a.length <= 200 := by
 unfold qd.reader_cf cfW
 rw [room_ok]
 by_cases hr : d.Prods.length = 200
 ·rw [if_pos hr, if_pos hr]
  exact ⟨rfl, fun _ _ h => by cases h⟩
 rw [if_neg hr, if_neg hr]
 simp only [Option.bind_some, Pn.go]
 have j2ok : ∀ (x1 : List UInt8 × za) (c : List UInt8) (x3 : List xg × za) (b : Bool) (ws ws0 : List zg), Sf l ws -> qd.reader_cf_j2 (xF l d s y n ws0) x1 c x3 l (ix l ws) d.Start d.Layout s y n b = some (y9 (match zJ ws [59] with
   | .error e => .error e
   | .ok r4 => .ok (d.Prods ++ [⟨false, x1.1, c, b, x3.1⟩], r4)) fun x => xF l (dP d x.1) s y n x.2) := by
  intro x1 c x3 b ws ws0 h
  obtain ⟨a1, a2⟩ := xp (d := d) (s := s) (y := y) (n := n) h [59]
  unfold qd.reader_cf_j2
  erw [a1]
  cases hw : zJ ws [59] with
  | error e => rfl
  | ok r =>
   simp only [y9, Option.bind_some, Pn.go]
   rw [if_pos (decide_eq_true (by simp [yn]; omega)), if_pos (decide_eq_true (by simp [yn]; omega))]
   rfl
 have j1ok : ∀ (x1 : List UInt8 × za) (c : List UInt8) (ws ws0 : List zg), Sf l ws -> qd.reader_cf_j1 k (xF l d s y n ws0) x1 l (ix l ws) d.Start d.Layout s y n c = some (y9 (match zJ ws [61] with
   | .error e => .error e
   | .ok r => match kz r with
    | .error e => .error e
    | .ok (sy, r2) => if c = [] then (match zJ r2 [98, 114, 97, 99, 107, 101, 116] with
      | .error e => .error e
      | .ok r3 => match zJ r3 [59] with
       | .error e => .error e
       | .ok r4 => .ok (d.Prods ++ [⟨false, x1.1, c, true, sy⟩], r4))
     else match zJ r2 [59] with
      | .error e => .error e
      | .ok r4 => .ok (d.Prods ++ [⟨false, x1.1, c, false, sy⟩], r4)) fun x => xF l (dP d x.1) s y n x.2) /\ ∀ r, zJ ws [61] = .ok r -> Sf l r := by
  intro x1 c ws ws0 h
  obtain ⟨a1, a2⟩ := xp (d := d) (s := s) (y := y) (n := n) h [61]
  refine ⟨?_, a2⟩
  unfold qd.reader_cf_j1
  simp only [yC, yD, yn, yL, yK, yI, yb, yY, a1]
  cases hw : zJ ws [61] with
  | error e => rfl
  | ok r =>
   obtain ⟨p1, p2⟩ := syms_ok' (d := d) (s := s) (y := y) (n := n) (show 20 <= k by omega) (a2 r hw)
   simp only [y9, Option.bind_some, Pn.go, yC, yD, yn, yL, yK, yI, yb, yY, p1]
   cases hs : kz r with
   | error e => rfl
   | ok x =>
    obtain ⟨sy, r2⟩ := x
    have hS := p2 sy r2 hs
    simp only [y9, Option.bind_some, Pn.go, yC, yD, yn, yL, yK, yI, yb, yY]
    by_cases hc : c = []
    ·have ec : (c == []) = true := by simp [hc]
     rw [if_pos ec, if_pos hc]
     obtain ⟨b1, b2⟩ := xp (d := d) (s := s) (y := y) (n := n) hS [98, 114, 97, 99, 107, 101, 116]
     rw [b1]
     cases hw2 : zJ r2 [98, 114, 97, 99, 107, 101, 116] with
     | error e => rfl
     | ok r3 =>
      simp only [y9, Option.bind_some, Pn.go, yC, yD, yn, yL, yK, yI]
      exact j2ok x1 c (sy, xF l d s y n r2) true r3 ws0 (b2 r3 hw2)
    ·have ec : ¬ (c == []) = true := by simp [hc]
     rw [if_neg ec, if_neg hc]
     exact j2ok x1 c (sy, xF l d s y n r2) false r2 ws0 hS
 have fin : ∀ (a c : List UInt8) (r : List zg), Sf l r -> ∀ ps' q, (match kz r with
   | .error e => .error e
   | .ok (sy, r2) => if c = [] then (match zJ r2 [98, 114, 97, 99, 107, 101, 116] with
      | .error e => .error e
      | .ok r3 => match zJ r3 [59] with
       | .error e => .error e
       | .ok r4 => .ok (d.Prods ++ [⟨false, a, c, true, sy⟩], r4))
     else match zJ r2 [59] with
      | .error e => .error e
      | .ok r4 => .ok (d.Prods ++ [⟨false, a, c, false, sy⟩], r4) : Ps (List Prod)) = .ok (ps', q) -> Sf l q /\ ps'.length <= 200 := by
  intro a c r hr ps' q hq
  obtain ⟨p1, p2⟩ := syms_ok' (d := d) (s := s) (y := y) (n := n) (show 20 <= k by omega) hr
  cases hs : kz r with
  | error e => rw [hs] at hq; cases hq
  | ok x =>
   obtain ⟨sy, r2⟩ := x
   have hS := p2 sy r2 hs
   rw [hs] at hq
   simp only at hq
   split at hq
   ·cases hw2 : zJ r2 [98, 114, 97, 99, 107, 101, 116] with
    | error e => rw [hw2] at hq; cases hq
    | ok r3 =>
     rw [hw2] at hq
     simp only at hq
     have hS3 := (xp (d := d) (s := s) (y := y) (n := n) hS [98, 114, 97, 99, 107, 101, 116]).2 r3 hw2
     cases hw3 : zJ r3 [59] with
     | error e => rw [hw3] at hq; cases hq
     | ok r4 => rw [hw3] at hq; cases hq; exact ⟨(xp (d := d) (s := s) (y := y) (n := n) hS3 [59]).2 _ hw3, by simp; omega⟩
   ·cases hw3 : zJ r2 [59] with
    | error e => rw [hw3] at hq; cases hq
    | ok r4 => rw [hw3] at hq; cases hq; exact ⟨(xp (d := d) (s := s) (y := y) (n := n) hS [59]).2 _ hw3, by simp; omega⟩
 obtain ⟨n1, n2⟩ := xN (d := d) (s := s) (y := y) (n := n) h
 unfold headW
 rw [n1]
 cases hn : yR ws with
 | error e => exact ⟨rfl, fun _ _ h => by cases h⟩
 | ok x =>
  obtain ⟨a, r⟩ := x
  have hS := n2 a r hn
  obtain ⟨t1, t2⟩ := xV (d := d) (s := s) (y := y) (n := n) hS [46]
  simp only [y9, Option.bind_some, Pn.go, yC, yD, yn, yL, yK, yI, yb, yY, t1]
  cases hi : xt r [46] with
  | true =>
   rw [hi] at t2
   simp only [if_true] at t2 ⊢
   obtain ⟨m1, m2⟩ := xN (d := d) (s := s) (y := y) (n := n) t2
   rw [m1]
   cases hn2 : yR r.tail with
   | error e => exact ⟨rfl, fun _ _ h => by cases h⟩
   | ok x =>
    obtain ⟨c, r2⟩ := x
    obtain ⟨g1, g2⟩ := j1ok (a, xF l d s y n r) c r2 ws (m2 c r2 hn2)
    simp only [y9, Option.bind_some, Pn.go, yC, yD, yn, yL, yK, yI]
    rw [g1]
    cases hw : zJ r2 [61] with
    | error e => exact ⟨rfl, fun _ _ h => by cases h⟩
    | ok r3 => exact ⟨rfl, fun ps' q hq => fin a c r3 (g2 r3 hw) ps' q hq⟩
  | false =>
   rw [hi] at t2
   simp only [Bool.false_eq_true, if_false] at t2 ⊢
   obtain ⟨g1, g2⟩ := j1ok (a, xF l d s y n r) [] r ws hS
   rw [g1]
   cases hw : zJ r [61] with
   | error e => exact ⟨rfl, fun _ _ h => by cases h⟩
   | ok r3 => exact ⟨rfl, fun ps' q hq => fin a [] r3 (g2 r3 hw) ps' q hq⟩
theorem group_l1_ok (q : za) {j : Nat} (hj : 5 <= j) (h : Sf l ws) : qd.reader_group_l1 q j 0 l (ix l ws) q.d.Start q.d.Layout s y n = some (l, ix l (kY ws).2, q.d.Start, q.d.Layout, s, y, n, (kY ws).1) /\ Sf l (kY ws).2 := by
 obtain ⟨j, rfl⟩ : ∃ p, j = p + 4 := ⟨j - 4, by omega⟩
 obtain ⟨t1, f1⟩ := xV (d := q.d) (s := s) (y := y) (n := n) h [108, 101, 102, 116]
 obtain ⟨t2, f2⟩ := xV (d := q.d) (s := s) (y := y) (n := n) h [114, 105, 103, 104, 116]
 obtain ⟨t3, f3⟩ := xV (d := q.d) (s := s) (y := y) (n := n) h [110, 111, 110]
 have step : ∀ (p : Nat) (i : Nat) (w : List UInt8), i < 3 -> at_ ([([108, 101, 102, 116] : List UInt8), ([114, 105, 103, 104, 116] : List UInt8), ([110, 111, 110] : List UInt8)] : List (List UInt8)) (i : Int) = w -> qd.reader_group_l1 q (p + 1) (i : Int) l (ix l ws) q.d.Start q.d.Layout s y n = (qd.reader_take (xF l q.d s y n ws) w).bind fun v => if v.1 then some (v.2.l_, v.2.at_, v.2.d.Start, v.2.d.Layout, v.2.start, v.2.layout, v.2.items, ((i + 1 : Nat) : Int)) else qd.reader_group_l1 q p ((i + 1 : Nat) : Int) v.2.l_ v.2.at_ v.2.d.Start v.2.d.Layout v.2.start v.2.layout v.2.items := by
  intro p i w hi hw
  simp only [qd.reader_group_l1]
  rw [if_pos (decide_eq_true (by simp; omega)), if_pos (by simp only [xf, Bool.and_eq_true, decide_eq_true_eq]; exact ⟨by omega, by simp; omega⟩), hw, yg (by omega)]
  rfl
 have e0 := step (j + 3) 0 [108, 101, 102, 116] (by omega) rfl
 rw [wM] at e0
 rw [e0, t1]
 unfold kY
 cases h1 : xt ws [108, 101, 102, 116] with
 | true => rw [h1] at f1; exact ⟨rfl, f1⟩
 | false =>
  simp only [Option.bind_some, Bool.false_eq_true, if_false, yC, yD, yn, yL, yK, yI]
  rw [step (j + 2) 1 [114, 105, 103, 104, 116] (by omega) rfl, t2]
  cases h2 : xt ws [114, 105, 103, 104, 116] with
  | true => rw [h2] at f2; exact ⟨rfl, f2⟩
  | false =>
   simp only [Option.bind_some, Bool.false_eq_true, if_false, yC, yD, yn, yL, yK, yI]
   rw [step (j + 1) 2 [110, 111, 110] (by omega) rfl, t3]
   cases h3 : xt ws [110, 111, 110] with
   | true => rw [h3] at f3; exact ⟨rfl, f3⟩
   | false => exact ⟨rfl, h⟩
theorem group_l3_ok (q : za) : ∀ (j j' : Nat) (out : List (List UInt8)) (ws : List zg), Sf l ws -> out.length <= 16 -> 18 <= j + out.length -> 18 <= j' + out.length ->
  ∃ z, qd.reader_group_l3 q j l (ix l ws) q.d.Start q.d.Layout s y n out = some z /\ match xQ j' out ws with
   | .ok (c, r) => z = .done (l, ix l r, q.d.Start, q.d.Layout, s, y, n, c) /\ Sf l r
   | .error e => z = .ret (.pan e) := by
 intro j
 induction j with
 | zero => intro _ _ _ _ h h2; omega
 | succ j ih =>
  intro j' out ws h ho hj hj'
  obtain ⟨j', rfl⟩ : ∃ q, j' = q + 1 := ⟨j' - 1, by omega⟩
  obtain ⟨w, r, rfl⟩ := jv h.e7
  obtain ⟨h1, h2, h3⟩ := wz h
  obtain ⟨n1, n2⟩ := xN (d := q.d) (s := s) (y := y) (n := n) h
  simp only [qd.reader_group_l3, xQ]
  rw [if_pos h1, h2]
  by_cases k1 : w.Kind = 1
  ·have e1 : (w.Kind == 1) = true := by simp [k1]
   rw [if_pos e1, if_pos k1]
   by_cases h16 : out.length = 16
   ·have e : ((out.length : Int) == 16) = true := by simp [h16]
    rw [if_pos e, if_pos h16]
    exact ⟨_, rfl, rfl⟩
   ·have e : ¬ ((out.length : Int) == 16) = true := by rw [beq_iff_eq]; omega
    rw [if_neg e, if_neg h16]
    unfold qd.reader_group_j5 qd.reader_group_j6 qd.reader_group_j4
    simp only [yb, yY, n1]
    cases hn : yR (w :: r) with
    | error e => exact ⟨_, rfl, rfl⟩
    | ok x =>
     obtain ⟨x, r'⟩ := x
     simp only [y9, Option.bind_some, Pn.go, yC, yD, yn, yL, yK, yI]
     rw [if_pos (decide_eq_true (by simp; omega)), if_pos (decide_eq_true (by simp; omega))]
     exact ih j' (out ++ [x]) r' (n2 x r' hn) (by simp; omega) (by simp; omega) (by simp; omega)
  ·have e1 : ¬ (w.Kind == 1) = true := by simp [k1]
   rw [if_neg e1, if_neg k1]
   exact ⟨_, rfl, rfl, h⟩
theorem group_ok {k : Nat} (hk : 300 <= k) (h : Sf l ws) : qd.reader_group k (xF l d s y n ws) = some (y9 (vg ws) fun x => (x.1, xF l d s y n x.2)) /\ ∀ a r, vg ws = .ok (a, r) -> Sf l r := by
 obtain ⟨a1, a2⟩ := group_l1_ok (s := s) (y := y) (n := n) (xF l d s y n ws) (show 5 <= k by omega) h
 obtain ⟨n1, n2⟩ := xN (d := d) (s := s) (y := y) (n := n) a2
 unfold qd.reader_group vg
 simp only [yn] at a1
 simp only [yC, yD, yn, yL, yK, yI, a1, Option.bind_some, yb, yY, n1]
 cases hn : yR (kY ws).2 with
 | error e => exact ⟨rfl, fun _ _ h => by cases h⟩
 | ok x =>
  obtain ⟨x, r2⟩ := x
  obtain ⟨z, z1, z2⟩ := group_l3_ok (s := s) (y := y) (n := n) (xF l d s y n ws) k 30 [x] r2 (n2 x r2 hn) (by simp) (by simp; omega) (by simp)
  simp only [yn] at z1
  simp only [y9, Option.bind_some, Pn.go, yC, yD, yn, yL, yK, yI]
  rw [if_pos (decide_eq_true (by simp)), if_pos (decide_eq_true (by simp))]
  unfold qd.reader_group_j2
  simp only [yn, List.nil_append, z1, Option.bind_some]
  cases hl : xQ 30 [x] r2 with
  | error e =>
   rw [hl] at z2
   subst z2
   exact ⟨rfl, fun _ _ h => by cases h⟩
  | ok v =>
   obtain ⟨c, r3⟩ := v
   rw [hl] at z2
   obtain ⟨rfl, hS⟩ := z2
   exact ⟨rfl, fun _ _ h => by cases h; exact hS⟩
theorem prio_l1_ok {k : Nat} (hk : 300 <= k) (q : za) : ∀ (j j' : Nat) (out : List zw) (ws : List zg), Sf l ws -> out.length <= 16 -> 18 <= j + out.length -> 18 <= j' + out.length ->
  ∃ z, qd.reader_prio_l1 k q j out l (ix l ws) q.d.Start q.d.Layout s y n = some z /\ match jI j' out ws with
   | .ok (c, r) => z = .done (c, l, ix l r, q.d.Start, q.d.Layout, s, y, n) /\ Sf l r
   | .error e => z = .ret (.pan e) := by
 intro j
 induction j with
 | zero => intro _ _ _ _ h h2; omega
 | succ j ih =>
  intro j' out ws h ho hj hj'
  obtain ⟨j', rfl⟩ : ∃ q, j' = q + 1 := ⟨j' - 1, by omega⟩
  obtain ⟨t1, t2⟩ := xV (d := q.d) (s := s) (y := y) (n := n) h [62]
  simp only [qd.reader_prio_l1, jI, yb, yY, t1, Option.bind_some]
  cases hi : xt ws [62] with
  | false =>
   rw [hi] at t2
   exact ⟨_, rfl, rfl, t2⟩
  | true =>
   rw [hi] at t2
   simp only [if_true] at t2 ⊢
   obtain ⟨w, r, hwr⟩ := jv t2.e7
   obtain ⟨h1, h2, h3⟩ := wz (hwr ▸ t2)
   rw [<- hwr] at h1 h2
   by_cases h16 : out.length = 16
   ·have e : ((out.length : Int) == 16) = true := by simp [h16]
    rw [if_pos e, if_pos h16]
    simp only [yC, yD, h1, if_true, h2, qd.fail, Option.bind_some, Pn.go]
    refine ⟨_, rfl, ?_⟩
    rw [hwr]
    rfl
   ·have e : ¬ ((out.length : Int) == 16) = true := by rw [beq_iff_eq]; omega
    rw [if_neg e, if_neg h16]
    obtain ⟨g1, g2⟩ := group_ok (d := q.d) (s := s) (y := y) (n := n) hk t2
    unfold qd.reader_prio_j3 qd.reader_prio_j2
    simp only [yC, yD, yn, yL, yK, yI, yb, yY, g1]
    cases hg : vg ws.tail with
    | error e => exact ⟨_, rfl, rfl⟩
    | ok x =>
     obtain ⟨g, r'⟩ := x
     simp only [y9, Option.bind_some, Pn.go, yC, yD, yn, yL, yK, yI]
     rw [if_pos (decide_eq_true (by simp; omega)), if_pos (decide_eq_true (by simp; omega))]
     exact ih j' (out ++ [g]) r' (g2 g r' hg) (by simp; omega) (by simp; omega) (by simp; omega)
theorem prio_ok {k : Nat} (hk : 300 <= k) (h : Sf l ws) (w0 : zg) (hd : d.Chains.length <= 1000000) : qd.reader_prio k (xF l d s y n ws) w0 = some (y9 (kV ws) fun x => xF l (dC d (d.Chains ++ [x.1])) s y n x.2) /\ ∀ a r, kV ws = .ok (a, r) -> Sf l r := by
 obtain ⟨g1, g2⟩ := group_ok (d := d) (s := s) (y := y) (n := n) hk h
 unfold qd.reader_prio kV
 rw [g1]
 cases hg : vg ws with
 | error e => exact ⟨rfl, fun _ _ h => by cases h⟩
 | ok x =>
  obtain ⟨g, r⟩ := x
  obtain ⟨z, z1, z2⟩ := prio_l1_ok (s := s) (y := y) (n := n) hk (xF l d s y n ws) k 30 [g] r (g2 g r hg) (by simp) (by simp; omega) (by simp)
  simp only [y9, Option.bind_some, Pn.go]
  erw [z1]
  simp only [Option.bind_some]
  cases hl : jI 30 [g] r with
  | error e =>
   rw [hl] at z2
   subst z2
   exact ⟨rfl, fun _ _ h => by cases h⟩
  | ok v =>
   obtain ⟨c, r2⟩ := v
   rw [hl] at z2
   obtain ⟨rfl, hS⟩ := z2
   obtain ⟨b1, b2⟩ := xp (d := d) (s := s) (y := y) (n := n) hS [59]
   simp only [LR.fin]
   erw [b1]
   cases hw : zJ r2 [59] with
   | error e => exact ⟨rfl, fun _ _ h => by cases h⟩
   | ok r3 =>
    simp only [y9, Option.bind_some, Pn.go]
    rw [if_pos (decide_eq_true (by simp [yn]; omega)), if_pos (decide_eq_true (by simp [yn]; omega))]
    exact ⟨rfl, fun _ _ h => by cases h; exact b2 r3 hw⟩
end
def kh (ws : List zg) : Bool := match ws with
 | w :: _ => w.Kind == 4 || w.Kind == 3 || xt ws [95] || xt ws [47] || xt ws [110, 101, 115, 116] || xt ws [103, 114, 111, 117, 112]
 | [] => false
abbrev Pi := Ps (List Item × Nat)
def yO (g : Nat -> List zg -> Pi) (n : Nat) (ws : List zg) : Pi := match zJ ws [40] with
 | .error e => .error e
 | .ok r => match g n r with
  | .error e => .error e
  | .ok ((x, m), r2) => match zJ r2 [41] with
   | .error e => .error e
   | .ok r3 => .ok ((x, m), r3)
def vG (g : Nat -> List zg -> Pi) (n : Nat) (ws : List zg) : Ps (Item × Nat) := match ws with
 | [] => .error ⟨0, 1⟩
 | w :: r => if w.Kind = 4 then (match yN (w :: r) 4 with
   | .error e => .error e
   | .ok (x, r') => .ok ((⟨1, vj x.Bytes, 0, []⟩, n), r'))
  else if w.Kind = 3 then .ok ((⟨2, [], w.N_, []⟩, n), r)
  else if xt (w :: r) [95] then .ok ((⟨3, [], 0, []⟩, n), r)
  else if xt (w :: r) [47] then .ok ((⟨4, [], 0, []⟩, n), r)
  else if xt (w :: r) [110, 101, 115, 116] then (match yN r 3 with
   | .error e => .error e
   | .ok (x, r2) => match yO g n r2 with
    | .error e => .error e
    | .ok ((i, m), r3) => .ok ((⟨5, [], x.N_, i⟩, m), r3))
  else match yO g n r with
   | .error e => .error e
   | .ok ((i, m), r3) => .ok ((⟨6, [], 0, i⟩, m), r3)
def xi : Nat -> Nat -> List zg -> Pi
 | 0, _, _ => .error ⟨0, 1⟩
 | f + 1, n, ws => if kh ws then (if n = 64 then .error ⟨j8 ws, 2⟩ else match vG (xi f) (n + 1) ws with
   | .error e => .error e
   | .ok ((x, m), r) => match xi f m r with
    | .error e => .error e
    | .ok ((c, m'), r') => .ok ((x :: c, m'), r')) else .ok (([], n), ws)
section
variable {l : List zg} {d : zY} {s y : Bool} {ws : List zg}
def Lok (l : List zg) (d : zY) (s y : Bool) (G : za -> Option (Pn (List Item × za) Fault)) (g : Nat -> List zg -> Pi) (n : Nat) : Prop :=
 ∀ n' ws, n <= n' -> n' <= 64 -> Sf l ws -> G (xF l d s y (n' : Int) ws) = some (y9 (g n' ws) fun x => (x.1.1, xF l d s y (x.1.2 : Int) x.2)) /\ ∀ x m r, g n' ws = .ok ((x, m), r) -> Sf l r /\ n' <= m /\ m <= 64
theorem within_ok {k n : Nat} {G g} (h : Lok l d s y G g n) : Lok l d s y (qd.reader_within_B k G) (yO g) n := by
 intro n' ws hn h6 hs
 obtain ⟨a1, a2⟩ := xp (d := d) (s := s) (y := y) (n := (n' : Int)) hs [40]
 unfold qd.reader_within_B yO
 rw [a1]
 cases hw : zJ ws [40] with
 | error e => exact ⟨rfl, fun _ _ _ h => by cases h⟩
 | ok r =>
  obtain ⟨b1, b2⟩ := h n' r hn h6 (a2 r hw)
  simp only [y9, Option.bind_some, Pn.go, yC, yD, yn, yL, yK, yI, yb, yY, b1]
  cases hg : g n' r with
  | error e => exact ⟨rfl, fun _ _ _ h => by cases h⟩
  | ok v =>
   obtain ⟨⟨x, m⟩, r2⟩ := v
   obtain ⟨g1, g2, g3⟩ := b2 x m r2 hg
   obtain ⟨c1, c2⟩ := xp (d := d) (s := s) (y := y) (n := (m : Int)) g1 [41]
   simp only [y9, Option.bind_some, Pn.go, yC, yD, yn, yL, yK, yI, yb, yY, c1]
   cases hw2 : zJ r2 [41] with
   | error e => exact ⟨rfl, fun _ _ _ h => by cases h⟩
   | ok r3 => exact ⟨rfl, fun _ _ _ h => by cases h; exact ⟨c2 r3 hw2, g2, g3⟩⟩
theorem item_j2_ok {n : Nat} {G g} (h : Lok l d s y G (yO g) (n + 1)) (hn : n < 64) (hs : Sf l ws) (hb : kh ws = true) : qd.reader_item_j2 (xF l d s y (n : Int) ws) G = some (y9 (vG g (n + 1) ws) fun x => (x.1.1, true, xF l d s y (x.1.2 : Int) x.2)) /\ ∀ x m r, vG g (n + 1) ws = .ok ((x, m), r) -> Sf l r /\ n + 1 <= m /\ m <= 64 := by
 obtain ⟨w, r, rfl⟩ := jv hs.e7
 obtain ⟨h1, h2, h3⟩ := wz hs
 have hi : IntKind.wrap .i64 ((n : Int) + 1) = ((n + 1 : Nat) : Int) := yg (by omega)
 unfold qd.reader_item_j2 vG
 simp only [yC, yD, yn, yL, yK, yI, yb, yY, h2, hi]
 by_cases k4 : w.Kind = 4
 ·obtain ⟨a1, a2⟩ := j6 (d := d) (s := s) (y := y) (n := ((n + 1 : Nat) : Int)) hs 4 (by decide)
  simp only [k4, beq_self_eq_true, if_true, a1]
  cases hk : yN (w :: r) 4 with
  | error e => exact ⟨rfl, fun _ _ _ h => by cases h⟩
  | ok v =>
   obtain ⟨x, r'⟩ := v
   exact ⟨rfl, fun _ _ _ h => by cases h; exact ⟨a2 x r' hk, by omega, by omega⟩⟩
 have e4 : ¬ (w.Kind == 4) = true := by simp [k4]
 rw [if_neg e4, if_neg k4]
 by_cases k3 : w.Kind = 3
 ·obtain ⟨a1, a2⟩ := j6 (d := d) (s := s) (y := y) (n := ((n + 1 : Nat) : Int)) hs 3 (by decide)
  have hk : yN (w :: r) 3 = .ok (w, r) := by simp [yN, k3]
  rw [hk] at a1
  simp only [k3, beq_self_eq_true, if_true, a1]
  exact ⟨rfl, fun _ _ _ h => by cases h; exact ⟨a2 w r hk, by omega, by omega⟩⟩
 have e3 : ¬ (w.Kind == 3) = true := by simp [k3]
 rw [if_neg e3, if_neg k3]
 obtain ⟨t1, t2⟩ := xV (d := d) (s := s) (y := y) (n := ((n + 1 : Nat) : Int)) hs [95]
 rw [t1]
 cases i1 : xt (w :: r) [95] with
 | true => rw [i1] at t2; exact ⟨rfl, fun _ _ _ h => by cases h; exact ⟨t2, by omega, by omega⟩⟩
 | false =>
 obtain ⟨t3, t4⟩ := xV (d := d) (s := s) (y := y) (n := ((n + 1 : Nat) : Int)) hs [47]
 simp only [Option.bind_some, Bool.false_eq_true, if_false, yC, yD, yn, yL, yK, yI, yb, yY, t3]
 cases i2 : xt (w :: r) [47] with
 | true => rw [i2] at t4; exact ⟨rfl, fun _ _ _ h => by cases h; exact ⟨t4, by omega, by omega⟩⟩
 | false =>
 obtain ⟨t5, t6⟩ := xV (d := d) (s := s) (y := y) (n := ((n + 1 : Nat) : Int)) hs [110, 101, 115, 116]
 simp only [Option.bind_some, Bool.false_eq_true, if_false, yC, yD, yn, yL, yK, yI, yb, yY, t5]
 cases i3 : xt (w :: r) [110, 101, 115, 116] with
 | true =>
  rw [i3] at t6
  simp only [if_true, List.tail_cons] at t6 ⊢
  obtain ⟨a1, a2⟩ := j6 (d := d) (s := s) (y := y) (n := ((n + 1 : Nat) : Int)) t6 3 (by decide)
  rw [a1]
  cases hk : yN r 3 with
  | error e => exact ⟨rfl, fun _ _ _ h => by cases h⟩
  | ok v =>
   obtain ⟨x, r2⟩ := v
   obtain ⟨b1, b2⟩ := h (n + 1) r2 (by omega) (by omega) (a2 x r2 hk)
   simp only [y9, Option.bind_some, Pn.go, yC, yD, yn, yL, yK, yI, yb, yY, b1]
   cases hg : yO g (n + 1) r2 with
   | error e => exact ⟨rfl, fun _ _ _ h => by cases h⟩
   | ok v =>
    obtain ⟨⟨i, m⟩, r3⟩ := v
    exact ⟨rfl, fun _ _ _ h => by cases h; exact b2 i m r3 hg⟩
 | false =>
 simp only [Bool.false_eq_true, if_false, h3]
 have k7 : w.Kind ≠ 7 := by
  intro k7
  simp only [kh, i1, i2, i3, Bool.or_false, Bool.or_eq_true, beq_iff_eq] at hb
  rcases hb with (hb | hb) | hb
  ·exact k4 hb
  ·exact k3 hb
  ·exact isP_ne hb k7
 obtain ⟨b1, b2⟩ := h (n + 1) r (by omega) (by omega) (qc hs k7)
 simp only [yY, b1]
 cases hg : yO g (n + 1) r with
 | error e => exact ⟨rfl, fun _ _ _ h => by cases h⟩
 | ok v =>
  obtain ⟨⟨i, m⟩, r3⟩ := v
  exact ⟨rfl, fun _ _ _ h => by cases h; exact b2 i m r3 hg⟩
theorem item_ok {k n : Nat} {G g} (h : Lok l d s y G (yO g) (n + 1)) (hn : n <= 64) (hs : Sf l ws) : qd.reader_item_B k G (xF l d s y (n : Int) ws) = some (if kh ws then (if n = 64 then .pan ⟨j8 ws, 2⟩ else y9 (vG g (n + 1) ws) fun x => (x.1.1, true, xF l d s y (x.1.2 : Int) x.2)) else .ok (⟨0, [], 0, []⟩, false, xF l d s y (n : Int) ws)) := by
 obtain ⟨w, r, rfl⟩ := jv hs.e7
 obtain ⟨h1, h2, h3⟩ := wz hs
 have i1 := is_ok (d := d) (s := s) (y := y) (n := (n : Int)) hs [95]
 have i2 := is_ok (d := d) (s := s) (y := y) (n := (n : Int)) hs [47]
 have i3 := is_ok (d := d) (s := s) (y := y) (n := (n : Int)) hs [110, 101, 115, 116]
 have i4 := is_ok (d := d) (s := s) (y := y) (n := (n : Int)) hs [103, 114, 111, 117, 112]
 have go : kh (w :: r) = true -> qd.reader_item_j1 (xF l d s y (n : Int) (w :: r)) G false = some (if n = 64 then .pan ⟨j8 (w :: r), 2⟩ else y9 (vG g (n + 1) (w :: r)) fun x => (x.1.1, true, xF l d s y (x.1.2 : Int) x.2)) := by
  intro hb
  unfold qd.reader_item_j1
  simp only [Bool.false_eq_true, if_false, yC, yD, yI, h2]
  by_cases e : n = 64
  ·subst e; rfl
  ·have e' : ¬ ((n : Int) == 64) = true := by rw [beq_iff_eq]; omega
   rw [if_neg e', if_neg e]
   exact (item_j2_ok h (by omega) hs hb).1
 unfold qd.reader_item_B
 simp only [yC, yD, h1, h2, if_true, i1, i2, i3, i4, Option.bind_some]
 cases hb : kh (w :: r) with
 | true =>
  rw [if_pos rfl]
  by_cases k4 : w.Kind = 4
  ·rw [if_neg (by simp [k4])]; exact go hb
  rw [if_pos (by simp [k4])]
  by_cases k3 : w.Kind = 3
  ·rw [if_neg (by simp [k3])]; exact go hb
  rw [if_pos (by simp [k3])]
  cases e1 : xt (w :: r) [95] with
  | true => exact go hb
  | false =>
  cases e2 : xt (w :: r) [47] with
  | true => exact go hb
  | false =>
  cases e3 : xt (w :: r) [110, 101, 115, 116] with
  | true => exact go hb
  | false =>
  have e4 : xt (w :: r) [103, 114, 111, 117, 112] = true := by
   simp only [kh, e1, e2, e3, Bool.or_false, Bool.or_eq_true, beq_iff_eq] at hb
   rcases hb with (hb | hb) | hb
   ·exact absurd hb k4
   ·exact absurd hb k3
   ·exact hb
  rw [e4]
  exact go hb
 | false =>
  simp only [kh, Bool.or_eq_false_iff, beq_eq_false_iff_ne] at hb
  obtain ⟨⟨⟨⟨⟨k4, k3⟩, e1⟩, e2⟩, e3⟩, e4⟩ := hb
  rw [if_pos (by simp [k4]), if_pos (by simp [k3]), e1, e2, e3, e4]
  rfl
theorem list_l1_ok : ∀ (f k j n : Nat) (q : za) (out : List Item) (ws : List zg), q.d = d -> 3 * f + 70 <= k -> f + 1 <= j -> 65 <= f + n -> n <= 64 -> out.length <= n -> Sf l ws ->
  qd.reader_list_l1 ((qd.reader_list_G k).2.1) q j out l (ix l ws) d.Start d.Layout s y (n : Int) = some (.ret (y9 (xi f n ws) fun x => (out ++ x.1.1, xF l d s y (x.1.2 : Int) x.2))) /\ ∀ x m r, xi f n ws = .ok ((x, m), r) -> Sf l r /\ n <= m /\ m <= 64 := by
 intro f
 induction f with
 | zero => intro k j n _ _ _ _ _ h h2; omega
 | succ f ih =>
  intro k j n q out ws hq hk hj hf hn ho hs
  obtain ⟨j, rfl⟩ : ∃ p, j = p + 1 := ⟨j - 1, by omega⟩
  obtain ⟨k, rfl⟩ : ∃ p, k = p + 3 := ⟨k - 3, by omega⟩
  have hL : Lok l d s y ((qd.reader_list_G (k + 1)).1) (xi f) (n + 1) := by
   intro n' ws' h1 h2 h3
   obtain ⟨a1, a2⟩ := ih k k n' (xF l d s y (n' : Int) ws') [] ws' rfl (by omega) (by omega) (by omega) h2 (by simp) h3
   refine ⟨?_, a2⟩
   simp only [qd.reader_list_G]
   unfold qd.reader_list_B
   simp only [yC, yD, yn, yL, yK, yI, a1]
   cases xi f n' ws' with
   | error e => rfl
   | ok v => rfl
  have hW := within_ok (k := k + 1) hL
  have hI := item_ok (k := k + 2) hW hn hs
  have hG : (qd.reader_list_G (k + 3)).2.1 = qd.reader_item_B (k + 2) (qd.reader_within_B (k + 1) (qd.reader_list_G (k + 1)).1) := rfl
  subst hq
  simp only [qd.reader_list_l1, yb, yY]
  rw [hG, hI]
  simp only [xi]
  cases hb : kh ws with
  | false =>
   simp only [Bool.false_eq_true, if_false]
   exact ⟨by simp [Pn.go, y9, yC, yD, yn, yL, yK, yI, yb, yY], fun _ _ _ h => by cases h; exact ⟨hs, by omega, hn⟩⟩
  | true =>
   simp only [if_true]
   by_cases e : n = 64
   ·rw [if_pos e, if_pos e]
    exact ⟨rfl, fun _ _ _ h => by cases h⟩
   rw [if_neg e, if_neg e]
   obtain ⟨_, b2⟩ := item_j2_ok hW (by omega) hs hb
   cases hi : vG (xi f) (n + 1) ws with
   | error e => exact ⟨rfl, fun _ _ _ h => by cases h⟩
   | ok v =>
    obtain ⟨⟨x, m⟩, r⟩ := v
    obtain ⟨c1, c2, c3⟩ := b2 x m r hi
    obtain ⟨a1, a2⟩ := ih (k + 3) j m q (out ++ [x]) r rfl (by omega) (by omega) (by omega) c3 (by simp; omega) c1
    simp only [y9, Option.bind_some, Pn.go, Bool.not_true, Bool.false_eq_true, if_false, yC, yD, yn, yL, yK, yI]
    rw [if_pos (decide_eq_true (by simp; omega)), if_pos (decide_eq_true (by simp; omega)), <- hG, a1]
    cases hl : xi f m r with
    | error e => exact ⟨rfl, fun _ _ _ h => by cases h⟩
    | ok v =>
     obtain ⟨⟨c, m'⟩, r'⟩ := v
     refine ⟨by simp [y9], fun _ _ _ h => by cases h; obtain ⟨z1, z2, z3⟩ := a2 c m' r' hl; exact ⟨z1, by omega, z3⟩⟩
theorem list_ok {k : Nat} (hk : 300 <= k) {n0 : Int} (hn : n0 = 0) (hs : Sf l ws) : qd.reader_list k (xF l d s y n0 ws) = some (y9 (xi 65 0 ws) fun x => (x.1.1, xF l d s y (x.1.2 : Int) x.2)) /\ ∀ x m r, xi 65 0 ws = .ok ((x, m), r) -> Sf l r := by
 subst hn
 obtain ⟨k, rfl⟩ : ∃ p, k = p + 1 := ⟨k - 1, by omega⟩
 obtain ⟨a1, a2⟩ := list_l1_ok (d := d) (s := s) (y := y) 65 k k 0 (xF l d s y 0 ws) [] ws rfl (by omega) (by omega) (by omega) (by omega) (by simp) hs
 refine ⟨?_, fun x m r h => (a2 x m r h).1⟩
 unfold qd.reader_list
 simp only [qd.reader_list_G]
 unfold qd.reader_list_B
 rw [wM] at a1
 simp only [yC, yD, yn, yL, yK, yI, a1]
 cases xi 65 0 ws with
 | error e => rfl
 | ok v => rfl
end
def kd (ws : List zg) : Ps (List UInt8) := match yR ws with
 | .error e => .error e
 | .ok (a, r) => match zJ r [59] with
  | .error e => .error e
  | .ok r2 => .ok (a, r2)
def vt (ws : List zg) : Ps Follow := match yR ws with
 | .error e => .error e
 | .ok (a, r) => match yN r 5 with
  | .error e => .error e
  | .ok (w, r2) => match zJ r2 [59] with
   | .error e => .error e
   | .ok r3 => .ok (⟨a, w.Set⟩, r3)
def vW (ws : List zg) : Ps zz := match yR ws with
 | .error e => .error e
 | .ok (a, r) => match yR r with
  | .error e => .error e
  | .ok (b, r2) => match zJ r2 [59] with
   | .error e => .error e
   | .ok r3 => .ok (⟨a, b⟩, r3)
def qo (ws : List zg) : Ps (xm × Nat) := match yR ws with
 | .error e => .error e
 | .ok (a, r) => match zJ r [61] with
  | .error e => .error e
  | .ok r2 => match xi 65 0 r2 with
   | .error e => .error e
   | .ok ((x, m), r3) => match zJ r3 [59] with
    | .error e => .error e
    | .ok r4 => .ok ((⟨a, x⟩, m), r4)
def wb (d : zY) (c : List Follow) : zY := ⟨d.Start, d.Layout, d.Prods, d.Chains, c, d.Rejects, d.Boxes⟩
def dR (d : zY) (c : List zz) : zY := ⟨d.Start, d.Layout, d.Prods, d.Chains, d.Follows, c, d.Boxes⟩
def dB (d : zY) (c : List xm) : zY := ⟨d.Start, d.Layout, d.Prods, d.Chains, d.Follows, d.Rejects, c⟩
def dS (d : zY) (c : List UInt8) : zY := ⟨c, d.Layout, d.Prods, d.Chains, d.Follows, d.Rejects, d.Boxes⟩
def dL (d : zY) (c : List UInt8) : zY := ⟨d.Start, c, d.Prods, d.Chains, d.Follows, d.Rejects, d.Boxes⟩
def xX (w : zg) (d : zY) (s y : Bool) (ws : List zg) : Ps (zY × Bool × Bool) :=
 if w.Text = [115, 116, 97, 114, 116] then (if s then .error ⟨w.At, 31⟩ else match kd ws with
  | .error e => .error e
  | .ok (x, r) => .ok ((dS d x, true, y), r))
 else if w.Text = [108, 97, 121, 111, 117, 116] then (if y then .error ⟨w.At, 31⟩ else match kd ws with
  | .error e => .error e
  | .ok (x, r) => .ok ((dL d x, s, true), r))
 else if w.Text = [108, 101, 120] then (match ql w d.Prods ws with
  | .error e => .error e
  | .ok (x, r) => .ok ((dP d x, s, y), r))
 else if w.Text = [99, 102] then (match cfW w d.Prods ws with
  | .error e => .error e
  | .ok (x, r) => .ok ((dP d x, s, y), r))
 else if w.Text = [112, 114, 105, 111] then (match kV ws with
  | .error e => .error e
  | .ok (x, r) => .ok ((dC d (d.Chains ++ [x]), s, y), r))
 else if w.Text = [102, 111, 108, 108, 111, 119] then (match vt ws with
  | .error e => .error e
  | .ok (x, r) => .ok ((wb d (d.Follows ++ [x]), s, y), r))
 else if w.Text = [114, 101, 106, 101, 99, 116] then (match vW ws with
  | .error e => .error e
  | .ok (x, r) => .ok ((dR d (d.Rejects ++ [x]), s, y), r))
 else if w.Text = [98, 111, 120] then (match qo ws with
  | .error e => .error e
  | .ok (x, r) => .ok ((dB d (d.Boxes ++ [x.1]), s, y), r))
 else .error ⟨w.At, 30⟩
def kw : Nat -> zY -> Bool -> Bool -> List zg -> Except Fault zY
 | 0, _, _, _, _ => .error ⟨0, 1⟩
 | j + 1, d, s, y, ws => match ws with
  | [] => .error ⟨0, 1⟩
  | w :: r => if w.Kind = 7 then .ok d else if w.Kind = 2 then (match xX w d s y r with
    | .error e => .error e
    | .ok (x, r') => kw j x.1 x.2.1 x.2.2 r') else .error ⟨w.At, 30⟩
section
variable {l : List zg} {d : zY} {s y : Bool} {n : Int} {ws : List zg}
theorem ua (h : Sf l ws) : ∀ a r, kd ws = .ok (a, r) -> Sf l r := by
 intro a r e
 unfold kd at e
 obtain ⟨n1, n2⟩ := xN (d := ⟨[], [], [], [], [], [], []⟩) (s := true) (y := true) (n := 0) h
 cases hn : yR ws with
 | error e' => rw [hn] at e; cases e
 | ok x =>
  obtain ⟨x, r2⟩ := x
  have h2 := n2 x r2 hn
  rw [hn] at e
  simp only at e
  cases hw : zJ r2 [59] with
  | error e' => rw [hw] at e; cases e
  | ok r3 => rw [hw] at e; cases e; exact (xp (d := ⟨[], [], [], [], [], [], []⟩) (s := true) (y := true) (n := 0) h2 [59]).2 r hw
theorem c1_ok (h : Sf l ws) (w : zg) : qd.reader_all_c1 w (xF l d s y n ws) = some (if s then .pan ⟨w.At, 31⟩ else y9 (kd ws) fun x => xF l (dS d x.1) true y n x.2) := by
 unfold qd.reader_all_c1 qd.reader_once_a0_9_a0_2
 cases s with
 | true => rfl
 | false =>
  obtain ⟨n1, n2⟩ := xN (d := d) (s := true) (y := y) (n := n) h
  unfold qd.reader_once_a0_9_a0_2_j1 kd
  simp only [yC, yD, yn, yL, yK, yI, yb, yY, Bool.false_eq_true, if_false, n1]
  cases hn : yR ws with
  | error e => rfl
  | ok x =>
   obtain ⟨a, r⟩ := x
   obtain ⟨b1, b2⟩ := xp (d := dS d a) (s := true) (y := y) (n := n) (n2 a r hn) [59]
   simp only [y9, Option.bind_some, Pn.go, yC, yD, yn, yL, yK, yI]
   erw [b1]
   cases hw : zJ r [59] with
   | error e => rfl
   | ok r2 => rfl
theorem c2_ok (h : Sf l ws) (w : zg) : qd.reader_all_c2 w (xF l d s y n ws) = some (if y then .pan ⟨w.At, 31⟩ else y9 (kd ws) fun x => xF l (dL d x.1) s true n x.2) := by
 unfold qd.reader_all_c2 qd.reader_once_a0_10_a0_3
 cases y with
 | true => rfl
 | false =>
  obtain ⟨n1, n2⟩ := xN (d := d) (s := s) (y := true) (n := n) h
  unfold qd.reader_once_a0_10_a0_3_j1 kd
  simp only [yC, yD, yn, yL, yK, yI, yb, yY, Bool.false_eq_true, if_false, n1]
  cases hn : yR ws with
  | error e => rfl
  | ok x =>
   obtain ⟨a, r⟩ := x
   obtain ⟨b1, b2⟩ := xp (d := dL d a) (s := s) (y := true) (n := n) (n2 a r hn) [59]
   simp only [y9, Option.bind_some, Pn.go, yC, yD, yn, yL, yK, yI]
   erw [b1]
   cases hw : zJ r [59] with
   | error e => rfl
   | ok r2 => rfl
theorem c3_ok (h : Sf l ws) (w : zg) (hd : d.Follows.length <= 1000000) : qd.reader_all_c3 w (xF l d s y n ws) = some (y9 (vt ws) fun x => xF l (wb d (d.Follows ++ [x.1])) s y n x.2) /\ ∀ a r, vt ws = .ok (a, r) -> Sf l r := by
 obtain ⟨n1, n2⟩ := xN (d := d) (s := s) (y := y) (n := n) h
 unfold qd.reader_all_c3 vt
 rw [n1]
 cases hn : yR ws with
 | error e => exact ⟨rfl, fun _ _ h => by cases h⟩
 | ok x =>
  obtain ⟨a, r⟩ := x
  obtain ⟨k1, k2⟩ := j6 (d := d) (s := s) (y := y) (n := n) (n2 a r hn) 5 (by decide)
  simp only [y9, Option.bind_some, Pn.go, yC, yD, yn, yL, yK, yI, yb, yY, k1]
  cases hk : yN r 5 with
  | error e => exact ⟨rfl, fun _ _ h => by cases h⟩
  | ok x =>
   obtain ⟨x, r2⟩ := x
   obtain ⟨b1, b2⟩ := xp (d := wb d (d.Follows ++ [⟨a, x.Set⟩])) (s := s) (y := y) (n := n) (k2 x r2 hk) [59]
   simp only [y9, Option.bind_some, Pn.go, yC, yD, yn, yL, yK, yI]
   erw [if_pos (decide_eq_true (by simp; omega)), if_pos (decide_eq_true (by simp; omega))]
   unfold qd.reader_all_c3_j1
   erw [b1]
   cases hw : zJ r2 [59] with
   | error e => exact ⟨rfl, fun _ _ h => by cases h⟩
   | ok r3 => exact ⟨rfl, fun _ _ h => by cases h; exact b2 r3 hw⟩
theorem c4_ok (h : Sf l ws) (w : zg) (hd : d.Rejects.length <= 1000000) : qd.reader_all_c4 w (xF l d s y n ws) = some (y9 (vW ws) fun x => xF l (dR d (d.Rejects ++ [x.1])) s y n x.2) /\ ∀ a r, vW ws = .ok (a, r) -> Sf l r := by
 obtain ⟨n1, n2⟩ := xN (d := d) (s := s) (y := y) (n := n) h
 unfold qd.reader_all_c4 vW
 rw [n1]
 cases hn : yR ws with
 | error e => exact ⟨rfl, fun _ _ h => by cases h⟩
 | ok x =>
  obtain ⟨a, r⟩ := x
  obtain ⟨k1, k2⟩ := xN (d := d) (s := s) (y := y) (n := n) (n2 a r hn)
  simp only [y9, Option.bind_some, Pn.go, yC, yD, yn, yL, yK, yI, yb, yY, k1]
  cases hk : yR r with
  | error e => exact ⟨rfl, fun _ _ h => by cases h⟩
  | ok x =>
   obtain ⟨x, r2⟩ := x
   obtain ⟨b1, b2⟩ := xp (d := dR d (d.Rejects ++ [⟨a, x⟩])) (s := s) (y := y) (n := n) (k2 x r2 hk) [59]
   simp only [y9, Option.bind_some, Pn.go, yC, yD, yn, yL, yK, yI]
   erw [if_pos (decide_eq_true (by simp; omega)), if_pos (decide_eq_true (by simp; omega))]
   unfold qd.reader_all_c4_j1
   erw [b1]
   cases hw : zJ r2 [59] with
   | error e => exact ⟨rfl, fun _ _ h => by cases h⟩
   | ok r3 => exact ⟨rfl, fun _ _ h => by cases h; exact b2 r3 hw⟩
theorem c5_ok {k : Nat} (hk : 300 <= k) (h : Sf l ws) (w : zg) (hd : d.Boxes.length <= 1000000) : qd.reader_all_c5 k w (xF l d s y n ws) = some (y9 (qo ws) fun x => xF l (dB d (d.Boxes ++ [x.1.1])) s y (x.1.2 : Int) x.2) /\ ∀ a r, qo ws = .ok (a, r) -> Sf l r := by
 obtain ⟨n1, n2⟩ := xN (d := d) (s := s) (y := y) (n := n) h
 unfold qd.reader_all_c5 qo
 rw [n1]
 cases hn : yR ws with
 | error e => exact ⟨rfl, fun _ _ h => by cases h⟩
 | ok x =>
  obtain ⟨a, r⟩ := x
  obtain ⟨a1, a2⟩ := xp (d := d) (s := s) (y := y) (n := n) (n2 a r hn) [61]
  simp only [y9, Option.bind_some, Pn.go, yC, yD, yn, yL, yK, yI, yb, yY, a1]
  cases hw1 : zJ r [61] with
  | error e => exact ⟨rfl, fun _ _ h => by cases h⟩
  | ok r2 =>
   obtain ⟨g1, g2⟩ := list_ok (d := d) (s := s) (y := y) hk rfl (a2 r2 hw1)
   simp only [y9, Option.bind_some, Pn.go, yC, yD, yn, yL, yK, yI, yb, yY, g1]
   cases hl : xi 65 0 r2 with
   | error e => exact ⟨rfl, fun _ _ h => by cases h⟩
   | ok x =>
    obtain ⟨⟨x, m⟩, r3⟩ := x
    obtain ⟨b1, b2⟩ := xp (d := d) (s := s) (y := y) (n := (m : Int)) (g2 x m r3 hl) [59]
    simp only [y9, Option.bind_some, Pn.go, yC, yD, yn, yL, yK, yI, yb, yY, b1]
    cases hw : zJ r3 [59] with
    | error e => exact ⟨rfl, fun _ _ h => by cases h⟩
    | ok r4 =>
     simp only [y9, Option.bind_some, Pn.go, yC, yD, yn, yL, yK, yI]
     erw [if_pos (decide_eq_true (by simp; omega)), if_pos (decide_eq_true (by simp; omega))]
     exact ⟨rfl, fun _ _ h => by cases h; exact b2 r4 hw⟩
theorem Sf_self (h : Sf l ws) : Sf ws ws := ⟨by simp, h.e7, by have := k9 h; have := h.len; omega⟩
structure Rm (d : zY) (m : Nat) : Prop where
 p : d.Prods.length <= 200
 c : d.Chains.length + m <= 1000000
 f : d.Follows.length + m <= 1000000
 r : d.Rejects.length + m <= 1000000
 b : d.Boxes.length + m <= 1000000
theorem stmt_len {w : zg} {x : zY × Bool × Bool} {r : List zg} (h : Sf ws ws) (hm : Rm d (ws.length + 1)) (e : xX w d s y ws = .ok (x, r)) : r.length <= ws.length /\ Rm x.1 r.length := by
 obtain ⟨m1, m2, m3, m4, m5⟩ := hm
 unfold xX at e
 by_cases c : w.Text = [115, 116, 97, 114, 116]
 ·rw [if_pos c] at e
  by_cases hs : s = true
  ·rw [if_pos hs] at e; cases e
  rw [if_neg hs] at e
  cases hx : kd ws with
  | error e' => rw [hx] at e; cases e
  | ok v =>
   obtain ⟨a, r'⟩ := v
   have z := ua h a r' hx
   rw [hx] at e
   cases e
   have := k9 z; exact ⟨this, by simp [dS, dL, dC, wb, dR, dB]; omega, by simp [dS, dL, dC, wb, dR, dB]; omega, by simp [dS, dL, dC, wb, dR, dB]; omega, by simp [dS, dL, dC, wb, dR, dB]; omega, by simp [dS, dL, dC, wb, dR, dB]; omega⟩
 rw [if_neg c] at e
 clear c
 by_cases c : w.Text = [108, 97, 121, 111, 117, 116]
 ·rw [if_pos c] at e
  by_cases hs : y = true
  ·rw [if_pos hs] at e; cases e
  rw [if_neg hs] at e
  cases hx : kd ws with
  | error e' => rw [hx] at e; cases e
  | ok v =>
   obtain ⟨a, r'⟩ := v
   have z := ua h a r' hx
   rw [hx] at e
   cases e
   have := k9 z; exact ⟨this, by simp [dS, dL, dC, wb, dR, dB]; omega, by simp [dS, dL, dC, wb, dR, dB]; omega, by simp [dS, dL, dC, wb, dR, dB]; omega, by simp [dS, dL, dC, wb, dR, dB]; omega, by simp [dS, dL, dC, wb, dR, dB]; omega⟩
 rw [if_neg c] at e
 clear c
 by_cases c : w.Text = [108, 101, 120]
 ·rw [if_pos c] at e
  cases hx : ql w d.Prods ws with
  | error e' => rw [hx] at e; cases e
  | ok v =>
   obtain ⟨a, r'⟩ := v
   have z := (lex_ok (d := d) (s := s) (y := y) (n := 0) (Nat.le_refl 300) h w m1).2 a r' hx
   rw [hx] at e
   cases e
   obtain ⟨z1, z2⟩ := z; have := k9 z1; exact ⟨this, z2, by simp only [dP]; omega, by simp only [dP]; omega, by simp only [dP]; omega, by simp only [dP]; omega⟩
 rw [if_neg c] at e
 clear c
 by_cases c : w.Text = [99, 102]
 ·rw [if_pos c] at e
  cases hx : cfW w d.Prods ws with
  | error e' => rw [hx] at e; cases e
  | ok v =>
   obtain ⟨a, r'⟩ := v
   have z := (cf_ok (d := d) (s := s) (y := y) (n := 0) (Nat.le_refl 300) h w m1).2 a r' hx
   rw [hx] at e
   cases e
   obtain ⟨z1, z2⟩ := z; have := k9 z1; exact ⟨this, z2, by simp only [dP]; omega, by simp only [dP]; omega, by simp only [dP]; omega, by simp only [dP]; omega⟩
 rw [if_neg c] at e
 clear c
 by_cases c : w.Text = [112, 114, 105, 111]
 ·rw [if_pos c] at e
  cases hx : kV ws with
  | error e' => rw [hx] at e; cases e
  | ok v =>
   obtain ⟨a, r'⟩ := v
   have z := (prio_ok (d := d) (s := s) (y := y) (n := 0) (Nat.le_refl 300) h w (by omega)).2 a r' hx
   rw [hx] at e
   cases e
   have := k9 z; exact ⟨this, by simp [dS, dL, dC, wb, dR, dB]; omega, by simp [dS, dL, dC, wb, dR, dB]; omega, by simp [dS, dL, dC, wb, dR, dB]; omega, by simp [dS, dL, dC, wb, dR, dB]; omega, by simp [dS, dL, dC, wb, dR, dB]; omega⟩
 rw [if_neg c] at e
 clear c
 by_cases c : w.Text = [102, 111, 108, 108, 111, 119]
 ·rw [if_pos c] at e
  cases hx : vt ws with
  | error e' => rw [hx] at e; cases e
  | ok v =>
   obtain ⟨a, r'⟩ := v
   have z := (c3_ok (d := d) (s := s) (y := y) (n := 0) h w (by omega)).2 a r' hx
   rw [hx] at e
   cases e
   have := k9 z; exact ⟨this, by simp [dS, dL, dC, wb, dR, dB]; omega, by simp [dS, dL, dC, wb, dR, dB]; omega, by simp [dS, dL, dC, wb, dR, dB]; omega, by simp [dS, dL, dC, wb, dR, dB]; omega, by simp [dS, dL, dC, wb, dR, dB]; omega⟩
 rw [if_neg c] at e
 clear c
 by_cases c : w.Text = [114, 101, 106, 101, 99, 116]
 ·rw [if_pos c] at e
  cases hx : vW ws with
  | error e' => rw [hx] at e; cases e
  | ok v =>
   obtain ⟨a, r'⟩ := v
   have z := (c4_ok (d := d) (s := s) (y := y) (n := 0) h w (by omega)).2 a r' hx
   rw [hx] at e
   cases e
   have := k9 z; exact ⟨this, by simp [dS, dL, dC, wb, dR, dB]; omega, by simp [dS, dL, dC, wb, dR, dB]; omega, by simp [dS, dL, dC, wb, dR, dB]; omega, by simp [dS, dL, dC, wb, dR, dB]; omega, by simp [dS, dL, dC, wb, dR, dB]; omega⟩
 rw [if_neg c] at e
 clear c
 by_cases c : w.Text = [98, 111, 120]
 ·rw [if_pos c] at e
  cases hx : qo ws with
  | error e' => rw [hx] at e; cases e
  | ok v =>
   obtain ⟨a, r'⟩ := v
   have z := (c5_ok (d := d) (s := s) (y := y) (n := 0) (Nat.le_refl 300) h w (by omega)).2 a r' hx
   rw [hx] at e
   cases e
   have := k9 z; exact ⟨this, by simp [dS, dL, dC, wb, dR, dB]; omega, by simp [dS, dL, dC, wb, dR, dB]; omega, by simp [dS, dL, dC, wb, dR, dB]; omega, by simp [dS, dL, dC, wb, dR, dB]; omega, by simp [dS, dL, dC, wb, dR, dB]; omega⟩
 rw [if_neg c] at e
 clear c
 cases e
end
section
variable {l : List zg} {d : zY} {s y : Bool} {n : Int} {ws : List zg}
theorem all_step {k j : Nat} (hk : 300 <= k) {w : zg} {r : List zg} (h : Sf l (w :: r)) (h7 : w.Kind ≠ 7) (hm : Rm d (r.length + 1)) :
  (w.Kind ≠ 2 -> qd.reader_all_l1 k (j + 1) l (ix l (w :: r)) d.Start d.Layout d.Prods d.Chains d.Follows d.Rejects d.Boxes s y n = some (.ret (.pan ⟨w.At, 30⟩))) /\ (w.Kind = 2 -> match xX w d s y r with
   | .error e => qd.reader_all_l1 k (j + 1) l (ix l (w :: r)) d.Start d.Layout d.Prods d.Chains d.Follows d.Rejects d.Boxes s y n = some (.ret (.pan e))
   | .ok (x, r') => Sf l r' /\ ∃ n', qd.reader_all_l1 k (j + 1) l (ix l (w :: r)) d.Start d.Layout d.Prods d.Chains d.Follows d.Rejects d.Boxes s y n = qd.reader_all_l1 k j l (ix l r') x.1.Start x.1.Layout x.1.Prods x.1.Chains x.1.Follows x.1.Rejects x.1.Boxes x.2.1 x.2.2 n') := by
 obtain ⟨h1, h2, h3⟩ := wz h
 have hr := qc h h7
 have hc : d.Chains.length <= 1000000 := by have := hm.c; omega
 have hf : d.Follows.length <= 1000000 := by have := hm.f; omega
 have hj : d.Rejects.length <= 1000000 := by have := hm.r; omega
 have hb : d.Boxes.length <= 1000000 := by have := hm.b; omega
 have e7 : (w.Kind != 7) = true := by simp [h7]
 have e0 : (!true) = false := rfl
 have f0 : (!false) = true := rfl
 simp only [qd.reader_all_l1, h1, if_true, h2, e7, e0, f0, Bool.false_eq_true, if_false]
 unfold xX
 by_cases c : w.Text = [115, 116, 97, 114, 116]
 ·have ec : (w.Text == ([115, 116, 97, 114, 116] : List UInt8)) = true := by simp [c]
  simp only [ec, if_true]
  rw [if_pos c]
  unfold qd.reader_all_j3 qd.reader_all_j4 qd.reader_all_j2
  refine ⟨fun h => ?_, fun h => ?_⟩
  ·have e : (w.Kind != 2) = true := by simp [h]
   simp only [e, if_true, h2]
   rfl
  ·have e : (w.Kind != 2) = false := by simp [h]
   simp only [e, Bool.false_eq_true, if_false, h2, h3, yb, yY]
   rw [c1_ok (d := d) (s := s) (y := y) (n := n) hr w]
   by_cases hs : s = true
   ·rw [if_pos hs, if_pos hs]; rfl
   rw [if_neg hs, if_neg hs]
   cases hx : kd r with
   | error e => rfl
   | ok v => exact ⟨ua hr v.1 v.2 hx, _, rfl⟩
 have ec : (w.Text == ([115, 116, 97, 114, 116] : List UInt8)) = false := by simp [c]
 simp only [ec, Bool.false_eq_true, if_false]
 rw [if_neg c]
 clear c ec
 by_cases c : w.Text = [108, 97, 121, 111, 117, 116]
 ·have ec : (w.Text == ([108, 97, 121, 111, 117, 116] : List UInt8)) = true := by simp [c]
  simp only [ec, if_true]
  rw [if_pos c]
  unfold qd.reader_all_j5 qd.reader_all_j6 qd.reader_all_j2
  refine ⟨fun h => ?_, fun h => ?_⟩
  ·have e : (w.Kind != 2) = true := by simp [h]
   simp only [e, if_true, h2]
   rfl
  ·have e : (w.Kind != 2) = false := by simp [h]
   simp only [e, Bool.false_eq_true, if_false, h2, h3, yb, yY]
   rw [c2_ok (d := d) (s := s) (y := y) (n := n) hr w]
   by_cases hs : y = true
   ·rw [if_pos hs, if_pos hs]; rfl
   rw [if_neg hs, if_neg hs]
   cases hx : kd r with
   | error e => rfl
   | ok v => exact ⟨ua hr v.1 v.2 hx, _, rfl⟩
 have ec : (w.Text == ([108, 97, 121, 111, 117, 116] : List UInt8)) = false := by simp [c]
 simp only [ec, Bool.false_eq_true, if_false]
 rw [if_neg c]
 clear c ec
 by_cases c : w.Text = [108, 101, 120]
 ·have ec : (w.Text == ([108, 101, 120] : List UInt8)) = true := by simp [c]
  simp only [ec, if_true]
  rw [if_pos c]
  unfold qd.reader_all_j7 qd.reader_all_j8 qd.reader_all_j2
  refine ⟨fun h => ?_, fun h => ?_⟩
  ·have e : (w.Kind != 2) = true := by simp [h]
   simp only [e, if_true, h2]
   rfl
  ·have e : (w.Kind != 2) = false := by simp [h]
   simp only [e, Bool.false_eq_true, if_false, h2, h3, yb, yY]
   rw [(lex_ok (d := d) (s := s) (y := y) (n := n) hk hr w hm.p).1]
   cases hx : ql w d.Prods r with
   | error e => rfl
   | ok v => exact ⟨((lex_ok (d := d) (s := s) (y := y) (n := n) hk hr w hm.p).2 v.1 v.2 hx).1, _, rfl⟩
 have ec : (w.Text == ([108, 101, 120] : List UInt8)) = false := by simp [c]
 simp only [ec, Bool.false_eq_true, if_false]
 rw [if_neg c]
 clear c ec
 by_cases c : w.Text = [99, 102]
 ·have ec : (w.Text == ([99, 102] : List UInt8)) = true := by simp [c]
  simp only [ec, if_true]
  rw [if_pos c]
  unfold qd.reader_all_j9 qd.reader_all_j10 qd.reader_all_j2
  refine ⟨fun h => ?_, fun h => ?_⟩
  ·have e : (w.Kind != 2) = true := by simp [h]
   simp only [e, if_true, h2]
   rfl
  ·have e : (w.Kind != 2) = false := by simp [h]
   simp only [e, Bool.false_eq_true, if_false, h2, h3, yb, yY]
   rw [(cf_ok (d := d) (s := s) (y := y) (n := n) hk hr w hm.p).1]
   cases hx : cfW w d.Prods r with
   | error e => rfl
   | ok v => exact ⟨((cf_ok (d := d) (s := s) (y := y) (n := n) hk hr w hm.p).2 v.1 v.2 hx).1, _, rfl⟩
 have ec : (w.Text == ([99, 102] : List UInt8)) = false := by simp [c]
 simp only [ec, Bool.false_eq_true, if_false]
 rw [if_neg c]
 clear c ec
 by_cases c : w.Text = [112, 114, 105, 111]
 ·have ec : (w.Text == ([112, 114, 105, 111] : List UInt8)) = true := by simp [c]
  simp only [ec, if_true]
  rw [if_pos c]
  unfold qd.reader_all_j11 qd.reader_all_j12 qd.reader_all_j2
  refine ⟨fun h => ?_, fun h => ?_⟩
  ·have e : (w.Kind != 2) = true := by simp [h]
   simp only [e, if_true, h2]
   rfl
  ·have e : (w.Kind != 2) = false := by simp [h]
   simp only [e, Bool.false_eq_true, if_false, h2, h3, yb, yY]
   rw [(prio_ok (d := d) (s := s) (y := y) (n := n) hk hr w hc).1]
   cases hx : kV r with
   | error e => rfl
   | ok v => exact ⟨(prio_ok (d := d) (s := s) (y := y) (n := n) hk hr w hc).2 v.1 v.2 hx, _, rfl⟩
 have ec : (w.Text == ([112, 114, 105, 111] : List UInt8)) = false := by simp [c]
 simp only [ec, Bool.false_eq_true, if_false]
 rw [if_neg c]
 clear c ec
 by_cases c : w.Text = [102, 111, 108, 108, 111, 119]
 ·have ec : (w.Text == ([102, 111, 108, 108, 111, 119] : List UInt8)) = true := by simp [c]
  simp only [ec, if_true]
  rw [if_pos c]
  unfold qd.reader_all_j13 qd.reader_all_j14 qd.reader_all_j2
  refine ⟨fun h => ?_, fun h => ?_⟩
  ·have e : (w.Kind != 2) = true := by simp [h]
   simp only [e, if_true, h2]
   rfl
  ·have e : (w.Kind != 2) = false := by simp [h]
   simp only [e, Bool.false_eq_true, if_false, h2, h3, yb, yY]
   rw [(c3_ok (d := d) (s := s) (y := y) (n := n) hr w hf).1]
   cases hx : vt r with
   | error e => rfl
   | ok v => exact ⟨(c3_ok (d := d) (s := s) (y := y) (n := n) hr w hf).2 v.1 v.2 hx, _, rfl⟩
 have ec : (w.Text == ([102, 111, 108, 108, 111, 119] : List UInt8)) = false := by simp [c]
 simp only [ec, Bool.false_eq_true, if_false]
 rw [if_neg c]
 clear c ec
 by_cases c : w.Text = [114, 101, 106, 101, 99, 116]
 ·have ec : (w.Text == ([114, 101, 106, 101, 99, 116] : List UInt8)) = true := by simp [c]
  simp only [ec, if_true]
  rw [if_pos c]
  unfold qd.reader_all_j15 qd.reader_all_j16 qd.reader_all_j2
  refine ⟨fun h => ?_, fun h => ?_⟩
  ·have e : (w.Kind != 2) = true := by simp [h]
   simp only [e, if_true, h2]
   rfl
  ·have e : (w.Kind != 2) = false := by simp [h]
   simp only [e, Bool.false_eq_true, if_false, h2, h3, yb, yY]
   rw [(c4_ok (d := d) (s := s) (y := y) (n := n) hr w hj).1]
   cases hx : vW r with
   | error e => rfl
   | ok v => exact ⟨(c4_ok (d := d) (s := s) (y := y) (n := n) hr w hj).2 v.1 v.2 hx, _, rfl⟩
 have ec : (w.Text == ([114, 101, 106, 101, 99, 116] : List UInt8)) = false := by simp [c]
 simp only [ec, Bool.false_eq_true, if_false]
 rw [if_neg c]
 clear c ec
 by_cases c : w.Text = [98, 111, 120]
 ·have ec : (w.Text == ([98, 111, 120] : List UInt8)) = true := by simp [c]
  simp only [ec, if_true]
  rw [if_pos c]
  unfold qd.reader_all_j17 qd.reader_all_j18 qd.reader_all_j2
  refine ⟨fun h => ?_, fun h => ?_⟩
  ·have e : (w.Kind != 2) = true := by simp [h]
   simp only [e, if_true, h2]
   rfl
  ·have e : (w.Kind != 2) = false := by simp [h]
   simp only [e, Bool.false_eq_true, if_false, h2, h3, yb, yY]
   rw [(c5_ok (d := d) (s := s) (y := y) (n := n) hk hr w hb).1]
   cases hx : qo r with
   | error e => rfl
   | ok v => exact ⟨(c5_ok (d := d) (s := s) (y := y) (n := n) hk hr w hb).2 v.1 v.2 hx, _, rfl⟩
 have ec : (w.Text == ([98, 111, 120] : List UInt8)) = false := by simp [c]
 simp only [ec, Bool.false_eq_true, if_false]
 rw [if_neg c]
 clear c ec
 have z : qd.reader_all_j19 l (ix l (w :: r)) true = some (LR.ret (Pn.pan ⟨w.At, 30⟩)) := by
  unfold qd.reader_all_j19
  simp only [if_true, h2]
  rfl
 exact ⟨fun _ => z, fun _ => z⟩
theorem all_l1_ok {k : Nat} (hk : 300 <= k) : ∀ (j j' : Nat) (d : zY) (s y : Bool) (n : Int) (ws : List zg), Sf l ws -> Rm d ws.length -> ws.length <= j -> ws.length <= j' ->
  ∃ z, qd.reader_all_l1 k j l (ix l ws) d.Start d.Layout d.Prods d.Chains d.Follows d.Rejects d.Boxes s y n = some z /\ match kw j' d s y ws with
   | .ok d' => ∃ a s' y' n', z = .done (l, a, d'.Start, d'.Layout, d'.Prods, d'.Chains, d'.Follows, d'.Rejects, d'.Boxes, s', y', n')
   | .error e => z = .ret (.pan e) := by
 intro j
 induction j with
 | zero => intro _ _ _ _ _ ws h _ h2; obtain ⟨w, r, rfl⟩ := jv h.e7; simp at h2
 | succ j ih =>
  intro j' d s y n ws h hm hj hj'
  obtain ⟨w, r, rfl⟩ := jv h.e7
  simp only [List.length_cons] at hj hj' hm
  obtain ⟨j', rfl⟩ : ∃ p, j' = p + 1 := ⟨j' - 1, by omega⟩
  obtain ⟨h1, h2, h3⟩ := wz h
  simp only [kw]
  by_cases h7 : w.Kind = 7
  ·have e7 : (w.Kind != 7) = false := by simp [h7]
   rw [if_pos h7]
   simp only [qd.reader_all_l1, h1, if_true, h2, e7, Bool.false_eq_true, if_false]
   exact ⟨_, rfl, _, _, _, _, rfl⟩
  rw [if_neg h7]
  obtain ⟨a1, a2⟩ := all_step (j := j) (s := s) (y := y) (n := n) hk h h7 hm
  by_cases k2 : w.Kind = 2
  ·rw [if_pos k2]
   have a2 := a2 k2
   cases hs : xX w d s y r with
   | error e => rw [hs] at a2; exact ⟨_, a2, rfl⟩
   | ok v =>
    obtain ⟨x, r'⟩ := v
    rw [hs] at a2
    obtain ⟨z3, n', a2⟩ := a2
    rw [a2]
    have hS := qc h h7
    obtain ⟨z1, z2⟩ := stmt_len (Sf_self hS) hm hs
    exact ih j' x.1 x.2.1 x.2.2 n' r' z3 z2 (by omega) (by omega)
  ·rw [if_neg k2]
   exact ⟨_, a1 k2, rfl⟩
end
end Go.Vc
