import Derived.Test.YtdbnoblklhgdoaaGreatDoorPW
import Derived.Test.YtdbnoblklhgdoaaGreatDoorPJ
import Derived.Test.YtdbnoblklhgdoaaGreatDoorSI
import Derived.Test.YtdbnoblklhgdoaaGreatDoorCQ2
set_option linter.unusedVariables false
set_option linter.unusedSimpArgs false
set_option linter.unusedSectionVars false
namespace Go.Vc
open Go
abbrev Wd := List UInt8 × Tk
inductive Lx : List UInt8 -> List Wd -> Prop
 | nil : Lx [] []
 | sp (c : UInt8) {t : List UInt8} {ws : List Wd} (hc : vm c.toNat) (h : Lx t ws) : Lx (c :: t) ws
 | wd {w : List UInt8} {x : Tk} {t : List UInt8} {ws : List Wd} (hg : Gd w x) (hs : uz x.kind t) (h : Lx t ws) : Lx (w ++ t) ((w, x) :: ws)
theorem scT_Lx {t : List UInt8} {ws : List Wd} (h : Lx t ws) : ∀ J, t.length < J -> ∃ l, jB J t = .ok l /\ l.map (fun p => p.2) = ws := by
 induction h with
 | nil =>
  intro J hJ
  obtain ⟨j, rfl⟩ : ∃ j, J = j + 1 := ⟨J - 1, by omega⟩
  exact ⟨[], by simp [jB, vx], rfl⟩
 | sp c hc h ih =>
  intro J hJ
  simp only [List.length_cons] at hJ
  obtain ⟨l, h1, h2⟩ := ih J (by omega)
  refine ⟨l, ?_, h2⟩
  obtain ⟨j, rfl⟩ : ∃ j, J = j + 1 := ⟨J - 1, by omega⟩
  unfold jB at h1 ⊢
  rw [skL_f, if_pos hc]
  exact h1
 | @wd w x t ws hg hs h ih =>
  intro J hJ
  obtain ⟨g1, _, g3, g4⟩ := hg
  simp only [List.length_append] at hJ
  have hw : 1 <= w.length := List.length_pos_iff.2 g1
  obtain ⟨j, rfl⟩ : ∃ j, J = j + 1 := ⟨J - 1, by omega⟩
  obtain ⟨l, h1, h2⟩ := ih j (by omega)
  refine ⟨((w ++ t).length, w, x) :: l, ?_, by rw [List.map_cons, h2]⟩
  rw [scT_ok (g4 t) (by simp [g1]) (g3 _ hs), List.drop_left, h1, List.take_left]
theorem Lx_len {t : List UInt8} {ws : List Wd} (h : Lx t ws) : ws.length <= t.length := by
 induction h with
 | nil => exact Nat.le_refl _
 | sp c hc h ih => rw [List.length_cons]; omega
 | @wd w x t ws hg hs h ih =>
  have hw : 1 <= w.length := List.length_pos_iff.2 hg.1
  rw [List.length_cons, List.length_append]
  omega
def Nx : List UInt8 -> Prop
 | [] => True
 | c :: _ => al c = false
theorem Nx_stop {k : Int} {t : List UInt8} (h : Nx t) : uz k t := by
 cases t with
 | nil => trivial
 | cons c t =>
  refine ⟨fun _ => h, fun _ h3 => ?_⟩
  have h' : al c = false := h
  unfold al at h'
  rw [decide_eq_false_iff_not] at h'
  omega
def km (a : List UInt8) : Wd := (a, ⟨1, [], noS, 0⟩)
def jR (a : List UInt8) : Wd := (a, ⟨2, [], noS, 0⟩)
def xh (c : UInt8) : Wd := ([c], ⟨6, [], noS, 0⟩)
def u4 (b : List UInt8) : Wd := (quo (ve b), ⟨4, ve b, noS, 0⟩)
def tNu (n : Int) : Wd := (Lib.itoa n, ⟨3, [], noS, n⟩)
def tSt (s : S4) : Wd := (Cp.printT s, ⟨5, [], s, 0⟩)
theorem Lx.one {p : Wd} {t : List UInt8} {ws : List Wd} (hg : Gd p.1 p.2) (hs : Nx t) (h : Lx t ws) : Lx (p.1 ++ t) (p :: ws) := Lx.wd hg (Nx_stop hs) h
theorem gd_al {w : List UInt8} {k : Nat} (hk : k = 1 \/ k = 2) (h1 : w.length <= 32) (h2 : ∃ c r, w = c :: r /\ vE c.toNat = k) (h3 : pl w = w.length) : Gd w ⟨(k : Int), [], noS, 0⟩ := by
 obtain ⟨c, r, rfl, hc⟩ := h2
 have hn : ¬ vm c.toNat /\ c.toNat ≠ 35 := by
  unfold vE at hc
  unfold vm
  split at hc
  ·omega
  ·split at hc
   ·omega
   ·split at hc <;> omega
 refine ⟨by simp, ?_, fun t ht => ?_, fun b => ?_⟩
 ·show (k : Int) ≠ 7
  omega
 ·have hp : pl (c :: r ++ t) = (c :: r).length := by
   have := (pl_some (c :: r)).2.2 t (fun c' t' e => by
    subst e
    exact ht.1 (by rcases hk with rfl | rfl; exact .inl rfl; exact .inr rfl))
   rw [h3, List.take_length] at this
   exact this
  show kD (c :: (r ++ t)) = _
  rw [kD]
  rw [if_pos (by omega)]
  rw [show c :: (r ++ t) = c :: r ++ t from rfl, hp, if_neg (by omega), hc]
 ·show vx false (c :: (r ++ b)) = c :: (r ++ b)
  rw [skL_f, if_neg hn.1, if_neg hn.2]
theorem gd_name {a : List UInt8} (h : yU a = true) : Gd (km a).1 (km a).2 := by
 cases a with
 | nil => cases h
 | cons c r =>
  simp only [yU, Bool.and_eq_true, decide_eq_true_eq] at h
  exact gd_al (k := 1) (.inl rfl) h.1 ⟨c, r, rfl, h.2.1⟩ h.2.2
def kyB : List UInt8 -> Bool
 | [] => false
 | c :: r => decide ((c :: r).length <= 32) && (decide (vE c.toNat = 2) && decide (pl (c :: r) = (c :: r).length))
theorem gd_key {a : List UInt8} (h : kyB a = true) : Gd (jR a).1 (jR a).2 := by
 cases a with
 | nil => cases h
 | cons c r =>
  simp only [kyB, Bool.and_eq_true, decide_eq_true_eq] at h
  exact gd_al (k := 2) (.inr rfl) h.1 ⟨c, r, rfl, h.2.1⟩ h.2.2
def sgB2 (c : UInt8) : Bool := uO c && (decide (vE c.toNat = 0) && (decide (c.toNat ≠ 34) && decide (c.toNat ≠ 91)))
theorem gd_sign {c : UInt8} (h : sgB2 c = true) : Gd (xh c).1 (xh c).2 := by
 simp only [sgB2, Bool.and_eq_true, decide_eq_true_eq] at h
 obtain ⟨h1, h2, h3, h4⟩ := h
 obtain ⟨n1, n2, n3⟩ := sign_ne h1
 refine ⟨by simp [xh], show (6 : Int) ≠ 7 by decide, fun t ht => ?_, fun b => ?_⟩
 ·show kD (c :: t) = _
  rw [kD]
  rw [if_neg (by omega), if_neg (by omega), if_neg h3, if_neg h4, if_pos h1]
  rfl
 ·show vx false (c :: b) = c :: b
  rw [skL_f, if_neg n3, if_neg n2]
theorem esc_app' {l r : List UInt8} {b n : Nat} (h : esc l = some (b, n)) : esc (l ++ r) = some (b, n) := by
 match l, h with
 | c :: v :: rest, h =>
  show esc (c :: v :: (rest ++ r)) = _
  unfold esc at h ⊢
  cases hs : sign v.toNat with
  | some b0 => simp only [hs] at h ⊢; exact h
  | none =>
   simp only [hs] at h ⊢
   split at h
   ·rename_i h1
    rw [if_pos h1]
    match rest, h with
    | a :: b' :: _, h => exact h
   ·cases h
def okQ (c : Nat) : Bool := match vj (qb (c : Int)) with
 | [x] => decide (x.toNat = c) && (decide (x.toNat ≠ 34) && (decide (x.toNat ≠ 92) && (decide (32 <= x.toNat) && decide (x.toNat <= 126))))
 | x :: r => decide (x.toNat = 92) && decide (esc (x :: r) = some (c, (x :: r).length))
 | [] => false
theorem okQ_all : ∀ c : _root_.Fin 256, okQ c.val = true := by decide +kernel
theorem quR_qb {c : Int} (hc : u8b c) (j : Nat) (r : List UInt8) (acc : List Int) : gP (j + 1) (vj (qb c) ++ r) acc = gP j r (acc ++ [c]) := by
 obtain ⟨n, rfl⟩ : ∃ n : Nat, c = n := ⟨c.toNat, by unfold u8b at hc; omega⟩
 have := okQ_all ⟨n, by unfold u8b at hc; omega⟩
 unfold okQ at this
 simp only at this
 split at this
 ·rename_i x e
  simp only [Bool.and_eq_true, decide_eq_true_eq] at this
  obtain ⟨h1, h2, h3, h4, h5⟩ := this
  rw [e]
  show gP (j + 1) (x :: r) acc = _
  rw [gP, if_neg h2, if_neg h3, if_neg (by omega), h1]
 ·rename_i x r' hne e
  simp only [Bool.and_eq_true, decide_eq_true_eq] at this
  obtain ⟨h1, h2⟩ := this
  rw [e]
  show gP (j + 1) (x :: (r' ++ r)) acc = _
  rw [gP, if_neg (by omega), if_pos h1]
  have h3 := esc_app' (r := r) h2
  rw [show x :: (r' ++ r) = x :: r' ++ r from rfl, h3]
  simp only
  rw [List.drop_left]
 ·cases this
theorem toS_app (a b : List Int) : vj (a ++ b) = vj a ++ vj b := by simp [vj]
theorem quR_qs (t : List UInt8) : ∀ (b : List Int) (hb : ∀ c ∈ b, u8b c) (j : Nat) (acc : List Int), gP (j + b.length + 1) (vj (qs b) ++ 34 :: t) acc = .ok (acc ++ b, t)
 | [], _, j, acc => by
  show gP (j + 0 + 1) (34 :: t) acc = _
  rw [gP, if_pos (by decide), List.append_nil]
 | c :: b, hb, j, acc => by
  rw [qs, toS_app, List.append_assoc, List.length_cons, show j + (b.length + 1) + 1 = (j + b.length + 1) + 1 by omega, quR_qb (hb c List.mem_cons_self), quR_qs t b (fun x hx => hb x (List.mem_cons_of_mem _ hx)) j, List.append_assoc]
  rfl
theorem quo_eq (b : List Int) : quo b = 34 :: (vj (qs b) ++ [34]) := by simp [quo, vj]
theorem gd_quote {a : List UInt8} (hl : a.length <= 1000) : Gd (u4 a).1 (u4 a).2 := by
 have e : ∀ t, quo (ve a) ++ t = 34 :: (vj (qs (ve a)) ++ 34 :: t) := fun t => by rw [quo_eq]; simp
 refine ⟨by simp [u4, quo_eq], show (4 : Int) ≠ 7 by decide, fun t ht => ?_, fun b => ?_⟩
 ·show kD (quo (ve a) ++ t) = .ok (_, (quo (ve a)).length)
  rw [e]
  rw [kD]
  rw [if_neg (by decide), if_neg (by decide), if_pos (by decide)]
  have h := quR_qs t (ve a) (u8b_ofS a) (400000 - (ve a).length - 1) []
  have hol := vY a
  rw [show 400000 - (ve a).length - 1 + (ve a).length + 1 = 400000 by omega] at h
  rw [h]
  simp only [List.nil_append]
  congr 2
  rw [quo_eq]
  simp only [List.length_append, List.length_cons, List.length_nil]
  omega
 ·show vx false (quo (ve a) ++ b) = _
  rw [e, skL_f, if_neg (by decide), if_neg (by decide)]
  exact (e b).symm
theorem dg_ok {d : Nat} (h : d < 10) : (UInt8.ofNat (48 + d)).toNat = 48 + d /\ vE (UInt8.ofNat (48 + d)).toNat = 3 := by
 have e : (UInt8.ofNat (48 + d)).toNat = 48 + d := by rw [UInt8.toNat_ofNat']; omega
 refine ⟨e, ?_⟩
 rw [e]
 unfold vE
 rw [if_neg (by omega), if_neg (by omega), if_pos (by omega)]
theorem numR_dig {c d : Nat} {v : Int} (hd : d < 10) (hc : c < 6) (hv0 : 0 <= v) (hv : v <= 10000000) (t : List UInt8) : vD c v (UInt8.ofNat (48 + d) :: t) = vD (c + 1) (10 * v + (d : Int)) t := by
 obtain ⟨h1, h2⟩ := dg_ok hd
 rw [vD, if_pos h2, if_neg (by omega), h1]
 have e4 : IntKind.wrap .u8 (((48 + d : Nat) : Int) - 48) = (d : Int) := by
  rw [show ((48 + d : Nat) : Int) - 48 = (d : Int) by omega]
  simp only [IntKind.wrap, IntKind.bits, IntKind.signed]
  simp
  omega
 rw [e4, zO (show -9223372036854775808 <= 10 * v by omega) (by omega), zO (show -9223372036854775808 <= (d : Int) by omega) (by omega), zO (by omega) (by omega)]
theorem numR_dec : ∀ (n u : Nat) (c : Nat) (t : List UInt8), u < 10 ^ n -> 1 <= n -> n <= 6 -> c + Lib.nDigits u <= 6 -> vD c 0 (Lib.decDigits u ++ t) = vD (c + Lib.nDigits u) (u : Int) t
 | 0, u, c, t, _, h, _, _ => by omega
 | n + 1, u, c, t, hu, h1, h6, hc => by
  by_cases h : u < 10
  ·rw [Lib.decDigits_one h, Lib.nDigits_small h]
   rw [Lib.nDigits_small h] at hc
   show vD c 0 (UInt8.ofNat (48 + u) :: t) = _
   rw [numR_dig h (by omega) (by omega) (by omega)]
   congr 1
   omega
  ·have hp := Lib.nDigits_pos (u / 10)
   rw [Lib.nDigits_big h] at hc ⊢
   rw [Lib.decDigits, dif_neg h]
   have hn : 1 <= n := by
    rcases Nat.eq_zero_or_pos n with rfl | hn
    ·simp at hu; omega
    ·exact hn
   have hu10 : u / 10 < 10 ^ n := by
    rw [Nat.pow_succ] at hu
    omega
   have hle : 10 ^ n <= 10 ^ 5 := Nat.pow_le_pow_right (by omega) (by omega)
   rw [List.append_assoc, numR_dec n (u / 10) c _ hu10 hn (by omega) (by omega)]
   show vD _ _ (UInt8.ofNat (48 + u % 10) :: t) = _
   rw [numR_dig (by omega) (by omega) (by omega) (by omega), show c + Lib.nDigits (u / 10) + 1 = c + (Lib.nDigits (u / 10) + 1) by omega]
   congr 1
   omega
theorem dec_head : ∀ (n u : Nat), u < 10 ^ n -> 1 <= n -> ∃ d r, Lib.decDigits u = UInt8.ofNat (48 + d) :: r /\ d < 10 /\ (d = 0 -> r = [])
 | 0, u, _, h => by omega
 | n + 1, u, hu, _ => by
  by_cases h : u < 10
  ·exact ⟨u, [], Lib.decDigits_one h, h, fun _ => rfl⟩
  ·have hn : 1 <= n := by
    rcases Nat.eq_zero_or_pos n with rfl | hn
    ·simp at hu; omega
    ·exact hn
   obtain ⟨d, r, h1, h2, h3⟩ := dec_head n (u / 10) (by rw [Nat.pow_succ] at hu; omega) hn
   refine ⟨d, r ++ [UInt8.ofNat (48 + u % 10)], ?_, h2, fun h0 => ?_⟩
   ·rw [Lib.decDigits, dif_neg h, h1]
    rfl
   ·exfalso
    have hr := h3 h0
    subst h0 hr
    have hl := Lib.decDigits_length (u / 10)
    rw [h1] at hl
    by_cases h4 : u / 10 < 10
    ·rw [Lib.decDigits_one h4] at h1
     have := congrArg UInt8.toNat (List.cons.inj h1).1
     rw [(dg_ok h4).1, (dg_ok (show 0 < 10 by omega)).1] at this
     omega
    ·have := Lib.nDigits_pos (u / 10 / 10)
     rw [Lib.nDigits_big h4] at hl
     simp at hl
     omega
theorem gd_num {n : Int} (h0 : 0 <= n) (h1 : n <= 999999) : Gd (tNu n).1 (tNu n).2 := by
 have hd := nDigits_le h0 h1
 have ei : Lib.itoa n = Lib.decDigits n.toNat := by unfold Lib.itoa; rw [if_neg (by omega)]
 have hu : n.toNat < 10 ^ 6 := by omega
 obtain ⟨d, r, g1, g2, g3⟩ := dec_head 6 _ hu (by omega)
 obtain ⟨q1, q2⟩ := dg_ok g2
 have hlen := Lib.decDigits_length n.toNat
 refine ⟨by show Lib.itoa n ≠ []; rw [ei, g1]; simp, show (3 : Int) ≠ 7 by decide, fun t ht => ?_, fun b => ?_⟩
 ·show kD (Lib.itoa n ++ t) = .ok (_, (Lib.itoa n).length)
  have hm := numR_dec 6 n.toNat 0 t hu (by omega) (by omega) (by omega)
  have hstop : vD (0 + Lib.nDigits n.toNat) (n.toNat : Int) t = some (Lib.nDigits n.toNat, n) := by
   rw [Nat.zero_add]
   cases t with
   | nil => rw [vD, show (n.toNat : Int) = n by omega]
   | cons c t => rw [vD, if_neg (ht.2 rfl), show (n.toNat : Int) = n by omega]
  rw [hstop] at hm
  rw [ei]
  rw [g1] at hm hlen ⊢
  show kD (UInt8.ofNat (48 + d) :: (r ++ t)) = _
  rw [kD]
  rw [if_neg (by omega), if_pos q2]
  rw [show UInt8.ofNat (48 + d) :: (r ++ t) = UInt8.ofNat (48 + d) :: r ++ t from rfl, hm]
  simp only
  rw [if_neg (fun hh => by
   have hd0 : d = 0 := by omega
   have := g3 hd0
   subst this
   simp at hlen
   omega), hlen]
  rfl
 ·show vx false (Lib.itoa n ++ b) = Lib.itoa n ++ b
  rw [ei, g1]
  show vx false (UInt8.ofNat (48 + d) :: (r ++ b)) = _
  rw [skL_f, if_neg (by unfold vm; omega), if_neg (by omega)]
  rfl
def okG : List UInt8 -> Bool
 | [] => true
 | c :: r => if c.toNat = 92 then (match r with
   | [] => false
   | _ :: r' => okG r') else decide (c.toNat ≠ 93) && okG r
theorem okG_all : ∀ b : _root_.Fin 256, okG (Cp.sg b.val) = true := by decide +kernel
theorem brk_okG (r : List UInt8) : ∀ (n : Nat) (w : List UInt8), w.length <= n -> okG w = true -> brk (w ++ r) = (brk r).map (· + w.length)
 | _, [], _, _ => by
  show brk r = (brk r).map (· + 0)
  cases brk r <;> rfl
 | 0, c :: w, hn, _ => by simp at hn
 | n + 1, c :: w, hn, h => by
  simp only [List.length_cons] at hn
  unfold okG at h
  show brk (c :: (w ++ r)) = _
  conv => lhs; unfold brk
  by_cases hc : c.toNat = 92
  ·rw [if_pos hc] at h
   rw [if_pos hc]
   cases w with
   | nil => cases h
   | cons d w =>
    simp only [List.length_cons] at hn
    simp only at h
    show (brk (w ++ r)).map _ = _
    rw [brk_okG r n w (by omega) h]
    cases brk r with
    | none => rfl
    | some x => exact congrArg some (show x + w.length + 2 = x + (w.length + 1 + 1) by omega)
  ·rw [if_neg hc] at h
   simp only [Bool.and_eq_true, decide_eq_true_eq] at h
   rw [if_neg hc, if_neg h.1, brk_okG r n w (by omega) h.2]
   cases brk r with
   | none => rfl
   | some x => exact congrArg some (show x + w.length + 1 = x + (w.length + 1) by omega)
theorem ub : ∀ (n : Nat) (a b : List UInt8), a.length <= n -> okG a = true -> okG b = true -> okG (a ++ b) = true
 | _, [], b, _, _, h => h
 | 0, c :: w, _, hn, _, _ => by simp at hn
 | n + 1, c :: w, b, hn, h, hb => by
  simp only [List.length_cons] at hn
  unfold okG at h
  show okG (c :: (w ++ b)) = true
  unfold okG
  by_cases hc : c.toNat = 92
  ·rw [if_pos hc] at h
   rw [if_pos hc]
   cases w with
   | nil => cases h
   | cons d w =>
    simp only [List.length_cons] at hn
    exact ub n w b (by omega) h hb
  ·rw [if_neg hc] at h
   simp only [Bool.and_eq_true, decide_eq_true_eq] at h
   rw [if_neg hc, ub n w b (by omega) h.2 hb]
   simp [h.1]
theorem okG_run {r : vw} (h : Cp.okR r) : okG (Cp.runT r) = true := by
 obtain ⟨h1, h2, h3⟩ := h
 have a := okG_all ⟨r.Lo.toNat, by omega⟩
 have b := okG_all ⟨r.Hi.toNat, by omega⟩
 unfold Cp.runT
 refine ub _ _ _ (Nat.le_refl _) (ub _ _ _ (Nat.le_refl _) a ?_) ?_
 ·split <;> rfl
 ·split
  ·exact b
  ·rfl
theorem okG_body : ∀ {l : List vw}, (∀ r ∈ l, Cp.okR r) -> okG (Cp.bodyT l) = true
 | [], _ => rfl
 | r :: l, h => by
  show okG (Cp.runT r ++ Cp.bodyT l) = true
  exact ub _ _ _ (Nat.le_refl _) (okG_run (h r List.mem_cons_self)) (okG_body fun x hx => h x (List.mem_cons_of_mem _ hx))
theorem psP_print {s : S4} (hs : Cp.okS s) : psP (Cp.printT s) = (s, ⟨0, 0⟩) := by
 have hl := Cp.printT_len s
 unfold psP
 rw [Cp.yParse_ok (by omega) (by omega), Cp.parse_print hs (by omega)]
 rfl
theorem gd_set {s : S4} (hs : Cp.okS s) : Gd (tSt s).1 (tSt s).2 := by
 have e : ∀ t, Cp.printT s ++ t = 91 :: (Cp.bodyT (Cp.Cr s 256) ++ 93 :: t) := fun t => by simp [Cp.printT]
 have hb := okG_body (Cp.Cr_okR (s := s) 256 (Nat.le_refl _))
 refine ⟨by simp [tSt, Cp.printT], show (5 : Int) ≠ 7 by decide, fun t ht => ?_, fun b => ?_⟩
 ·show kD (Cp.printT s ++ t) = .ok (_, (Cp.printT s).length)
  have hk := brk_okG (93 :: t) _ _ (Nat.le_refl _) hb
  have h93 : brk (93 :: t) = some 1 := by unfold brk; rw [if_neg (by decide), if_pos (by decide)]
  rw [h93] at hk
  have hlen : (Cp.printT s).length = 1 + (Cp.bodyT (Cp.Cr s 256)).length + 1 := by simp [Cp.printT]; omega
  rw [e]
  rw [kD]
  rw [if_neg (by decide), if_neg (by decide), if_neg (by decide), if_pos (by decide), hk]
  simp only [Option.map_some]
  rw [<- e, show 1 + (Cp.bodyT (Cp.Cr s 256)).length + 1 = (Cp.printT s).length from hlen.symm, List.take_left, psP_print hs]
  rfl
 ·show vx false (Cp.printT s ++ b) = _
  rw [e, skL_f, if_neg (by decide), if_neg (by decide)]
  exact (e b).symm
end Go.Vc
