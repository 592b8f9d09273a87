import Derived.Test.YtdbnoblklhgdoaaGreatDoorSS
set_option linter.unusedVariables false
set_option linter.unusedSimpArgs false
namespace Go.Vc
open Go
def wd (s : List UInt8) (i : Nat) (w : List UInt8) (x : Tk) : zg := ⟨x.kind, w, x.bytes, x.set, x.num, (i : Int), (us s i : Int), (colN s i : Int)⟩
theorem put_ok {s r : List UInt8} {out : List zg} {i n : Nat} (hb : s.length < 100000) (ho : out.length < 1000000) (hD : D s i r) (hn : n <= r.length) (x : Tk) (t : List UInt8) (a b c : Int) (hw : us s (i + n) = us s i /\ jb s (i + n) = jb s i) :
  qw.scanner_put (je s i out) ⟨x.kind, t, x.bytes, x.set, x.num, a, b, c⟩ ((i + n : Nat) : Int) = some (je s (i + n) (out ++ [wd s i (r.take n) x])) := by
 obtain ⟨h1, h2⟩ := D_subn hD hn
 have hc := colN_le s i
 have h3 := hD.2
 unfold qw.scanner_put je
 simp only
 rw [if_pos h1, if_pos (by rw [decide_eq_true_eq]; simp; omega), if_pos (by rw [decide_eq_true_eq]; simp; omega), h2]
 have e : IntKind.wrap .i64 (IntKind.wrap .i64 ((i : Int) - jb s i) + 1) = (colN s i : Int) := by
  unfold jb
  rw [zO (n := (i : Int) - _) (by omega) (by omega), zO (by omega) (by omega)]
  omega
 rw [e, hw.1, hw.2]
 rfl
theorem uK : ∀ (r : List UInt8) (c : Nat) (n : Int) (m : Nat) (v : Int), vD c n r = some (m, v) -> ∃ w r', r = w ++ r' /\ m = c + w.length /\ (∀ d ∈ w, vE d.toNat = 3) /\ (∀ t, (∀ d t', t = d :: t' -> vE d.toNat ≠ 3) -> vD c n (w ++ t) = some (m, v)) /\ (∀ d t', r' = d :: t' -> vE d.toNat ≠ 3)
 | [], c, n, m, v, h => by
  unfold vD at h
  simp only [Option.some.injEq, Prod.mk.injEq] at h
  obtain ⟨rfl, rfl⟩ := h
  refine ⟨[], [], rfl, rfl, fun d hd => (by cases hd), fun t ht => ?_, fun d t' e => (by cases e)⟩
  cases t with
  | nil => rfl
  | cons d t => rw [List.nil_append, vD, if_neg (ht d t rfl)]
 | d :: r, c, n, m, v, h => by
  unfold vD at h
  split at h
  ·rename_i hd
   split at h
   ·cases h
   rename_i hc
   obtain ⟨w, r', h1, h2, h3, h4, h5⟩ := uK r _ _ _ _ h
   refine ⟨d :: w, r', by rw [h1]; rfl, by simp; omega, ?_, ?_, h5⟩
   ·intro x hx
    rcases List.mem_cons.1 hx with rfl | hx
    ·exact hd
    ·exact h3 x hx
   ·intro t ht
    rw [List.cons_append, vD, if_pos hd, if_neg hc]
    exact h4 t ht
  ·rename_i hd
   simp only [Option.some.injEq, Prod.mk.injEq] at h
   obtain ⟨rfl, rfl⟩ := h
   refine ⟨[], d :: r, rfl, rfl, fun d hd => (by cases hd), fun t ht => ?_, fun x t' e => ?_⟩
   ·cases t with
    | nil => rfl
    | cons d t => rw [List.nil_append, vD, if_neg (ht d t rfl)]
   ·cases e
    exact hd
def nmO (s : zm) (i : Nat) : Option (Nat × Int) -> LR (Int × Int) (Int × zm)
 | none => .ret (21, s)
 | some (m, n) => .done (((i + m : Nat) : Int), n)
theorem uc {S : zm} (hb : S.text.length < 100000) {i : Nat} (hat : S.at_ = (i : Int)) (hi : i <= S.text.length) : ∀ (j : Nat) (r : List UInt8) (c : Nat) (n : Int), D S.text (i + c) r -> r.length < j -> qw.scanner_number_l1 S j ((i + c : Nat) : Int) n = some (nmO S i (vD c n r))
 | 0, _, _, _, _, h => by omega
 | j + 1, r, c, n, hD, hj => by
  have h2 := hD.2
  simp only [qw.scanner_number_l1]
  cases r with
  | nil =>
   have := D_nil hD
   rw [if_neg (by rw [decide_eq_true_eq]; omega)]
   unfold qw.scanner_number_j2
   rw [if_neg (by simp)]
   rfl
  | cons d r =>
   obtain ⟨d1, d2, d3, d4⟩ := qd hD
   simp only [List.length_cons] at hj h2
   have hdl := d.toNat_lt
   rw [if_pos (by rw [decide_eq_true_eq]; omega), if_pos d3, d2, wrap_i32 (by omega) (by omega), k8, Option.bind_some]
   unfold qw.scanner_number_j2 vD
   by_cases h3 : vE d.toNat = 3
   ·rw [if_pos (by simpa using h3), if_pos h3, hat]
    rw [zO (n := ((i + c : Nat) : Int) - (i : Int)) (by omega) (by omega), show ((i + c : Nat) : Int) - (i : Int) = (c : Int) by omega]
    by_cases h6 : c = 6
    ·rw [if_pos (by simp [h6]), if_pos h6]
     rfl
    ·rw [if_neg (by simp; omega), if_neg h6, if_pos d3, d2, yg (by omega)]
     exact uc hb hat hi j r (c + 1) _ d4 (by omega)
   ·rw [if_neg (by simpa using h3), if_neg h3]
    rfl
theorem mem10 {w : List UInt8} (h : ∀ d ∈ w, vE d.toNat = 3) : (10 : UInt8) ∉ w := fun hm => by
 have := h _ hm
 revert this
 decide
theorem number_ok {K : Nat} (hK : 400000 <= K) {s r : List UInt8} {out : List zg} {i : Nat} {c : UInt8} (hb : s.length < 100000) (ho : out.length < 1000000) (hD : D s i (c :: r)) :
  qw.scanner_number K (je s i out) = some (match vD 0 0 (c :: r) with
   | none => (21, je s i out)
   | some (m, n) => if c.toNat = 48 /\ 1 < m then (21, je s i out) else (0, je s (i + m) (out ++ [wd s i ((c :: r).take m) ⟨3, [], noS, n⟩]))) := by
 obtain ⟨d1, d2, d3, d4⟩ := qd hD
 have h2 := hD.2
 simp only [List.length_cons] at h2
 unfold qw.scanner_number
 have := uc (S := je s i out) hb (i := i) rfl (show i <= s.length by omega) K (c :: r) 0 0 hD (by simp only [List.length_cons]; omega)
 show ((qw.scanner_number_l1 (je s i out) K ((i + 0 : Nat) : Int) 0).bind _) = _
 rw [this, Option.bind_some]
 cases hn : vD 0 0 (c :: r) with
 | none => rfl
 | some p =>
  obtain ⟨m, n⟩ := p
  simp only [nmO, LR.fin]
  obtain ⟨w, r', e1, e2, e3, e4, e5⟩ := uK _ _ _ _ _ hn
  have hlen : m <= (c :: r).length := by rw [e1, List.length_append]; omega
  have h10 : (10 : UInt8) ∉ (c :: r).take m := by
   rw [e1, e2, Nat.zero_add, List.take_left']
   exact mem10 e3
   rfl
  have hp := put_ok (out := out) hb ho hD hlen ⟨3, [], noS, n⟩ [] 0 0 0 (ln_NF m (by have := hD.2; omega) (D_NF hD hlen h10))
  have hj : ∀ b : Bool, qw.scanner_number_j3 (je s i out) (((i + m : Nat) : Int), n) b = some (if b = true then (21, je s i out) else (0, je s (i + m) (out ++ [wd s i ((c :: r).take m) ⟨3, [], noS, n⟩]))) := by
   intro b
   unfold qw.scanner_number_j3
   cases b with
   | true => rfl
   | false =>
    rw [if_neg (by simp), if_neg (by simp)]
    show ((qw.scanner_put (je s i out) ⟨3, [], [], noS, n, 0, 0, 0⟩ ((i + m : Nat) : Int)).bind _) = _
    rw [hp]
    rfl
  show (if xf (i : Int) s.length = true then (if (yk s (i : Int) == 48) = true then qw.scanner_number_j3 (je s i out) (((i + m : Nat) : Int), n) (decide (IntKind.wrap .i64 ((i : Int) + 1) < ((i + m : Nat) : Int))) else qw.scanner_number_j3 (je s i out) (((i + m : Nat) : Int), n) false) else none) = _
  rw [if_pos d3, d2, hj, hj, yg (by omega)]
  by_cases h48 : c.toNat = 48
  ·rw [if_pos (by simp [h48])]
   by_cases h1 : 1 < m
   ·rw [if_pos (by rw [decide_eq_true_eq]; omega), if_pos ⟨h48, h1⟩]
   ·rw [if_neg (by rw [decide_eq_true_eq]; omega), if_neg (by omega)]
  ·rw [if_neg (by simp; omega), if_neg (by simp), if_neg (by omega)]
theorem um : ∀ (r : List UInt8) (m : Nat), brk r = some m -> 1 <= m /\ m <= r.length /\ ∀ t, brk (r.take m ++ t) = some m
 | [], _, h => by cases h
 | [c], m, h => by
  unfold brk at h
  split at h
  ·cases h
  rename_i h92
  split at h
  ·rename_i h93
   cases h
   refine ⟨by omega, by simp, fun t => ?_⟩
   show brk (c :: t) = _
   rw [brk.eq_def]
   simp only
   rw [if_neg h92, if_pos h93]
  ·cases h
 | c :: d :: r, m, h => by
  rw [brk] at h
  split at h
  ·rename_i h92
   cases hb : brk r with
   | none => rw [hb] at h; cases h
   | some n =>
    rw [hb] at h
    simp only [Option.map_some, Option.some.injEq] at h
    subst h
    obtain ⟨h1, h2, h3⟩ := um r n hb
    refine ⟨by omega, by simp; omega, fun t => ?_⟩
    show brk (c :: d :: (r.take n ++ t)) = _
    rw [brk, if_pos h92, h3]
    rfl
  rename_i h92
  split at h
  ·rename_i h93
   cases h
   refine ⟨by omega, by simp, fun t => ?_⟩
   show brk (c :: t) = _
   rw [brk.eq_def]
   simp only
   rw [if_neg h92, if_pos h93]
  ·rename_i h93
   cases hb : brk (d :: r) with
   | none => rw [hb] at h; cases h
   | some n =>
    rw [hb] at h
    simp only [Option.map_some, Option.some.injEq] at h
    subst h
    obtain ⟨h1, h2, h3⟩ := um (d :: r) n hb
    refine ⟨by omega, by simp at h2 ⊢; omega, fun t => ?_⟩
    show brk (c :: ((d :: r).take n ++ t)) = _
    have h4 := h3 t
    rw [brk.eq_def]
    simp only
    rw [if_neg h92, if_neg h93, h4]
    rfl
def bkO (s r0 : List UInt8) (i0 i : Nat) : Option Nat -> LR Unit (S4 × Int × Fault)
 | none => .done ()
 | some m => let p := psP (r0.take (i - i0 + m)); .ret (p.1, ((i + m : Nat) : Int), ⟨if p.2.Code ≠ 0 then p.2.At + (i0 : Int) else p.2.At, p.2.Code⟩)
theorem kr {K : Nat} (hK : 400000 <= K) {s r0 : List UInt8} (hb : s.length <= 65536) {i0 : Nat} (hD0 : D s i0 r0) : ∀ (j i : Nat) (r : List UInt8), i0 <= i -> D s i r -> r.length < j -> qw.bracketed_l1 K s (i0 : Int) j i = some (bkO s r0 i0 i (brk r))
 | 0, _, _, _, _, h => by omega
 | j + 1, i, r, hi, hD, hj => by
  simp only [qw.bracketed_l1]
  cases r with
  | nil =>
   have := D_nil hD
   rw [if_neg (by rw [decide_eq_true_eq]; omega)]
   rfl
  | cons c r =>
   obtain ⟨d1, d2, d3, d4⟩ := qd hD
   have d5 := hD.2
   have d6 := hD0.2
   simp only [List.length_cons] at hj d5
   rw [if_pos (by rw [decide_eq_true_eq]; omega), if_pos d3, d2]
   simp only [qw.bracketed_j4, qw.bracketed_j3, qw.bracketed_j2, qw.bracketed_j5]
   rw [yg (by omega), yg (show i + 1 < 4611686018427387904 by omega)]
   by_cases h92 : c.toNat = 92
   ·rw [if_pos (by simp [h92])]
    cases r with
    | nil =>
     have hj1 : 0 < j := by simp at hj; omega
     obtain ⟨j, rfl⟩ : ∃ j', j = j' + 1 := ⟨j - 1, by omega⟩
     simp only [qw.bracketed_l1]
     rw [if_neg (by rw [decide_eq_true_eq]; simp at d5; omega), brk, if_pos h92]
     rfl
    | cons d r =>
     obtain ⟨_, _, _, d7⟩ := qd d4
     simp only [List.length_cons] at hj
     rw [kr hK hb hD0 j (i + 1 + 1) r (by omega) d7 (by omega), brk, if_pos h92]
     cases brk r with
     | none => rfl
     | some m =>
      simp only [Option.map_some, bkO]
      rw [show i + 1 + 1 + m = i + (m + 2) by omega, show i + 1 + 1 - i0 + m = i - i0 + (m + 2) by omega]
   ·rw [if_neg (by simp; omega)]
    have hbk : brk (c :: r) = if c.toNat = 93 then some 1 else (brk r).map (· + 1) := by
     rw [brk.eq_def]
     simp only
     rw [if_neg h92]
    rw [hbk]
    by_cases h93 : c.toNat = 93
    ·rw [if_pos (by simp [h93]), if_pos h93]
     have hle : i + 1 - i0 <= r0.length := by omega
     obtain ⟨g1, g2⟩ := D_subn hD0 hle
     rw [show i0 + (i + 1 - i0) = i + 1 by omega] at g1 g2
     rw [if_pos g1, g2]
     obtain ⟨p1, p2⟩ := psP_ok hK (t := r0.take (i + 1 - i0)) (by rw [List.length_take]; omega)
     rw [p1, Option.bind_some]
     simp only [bkO]
     rw [show i - i0 + 1 = i + 1 - i0 by omega]
     generalize hp : psP (r0.take (i + 1 - i0)) = p at *
     by_cases hc : p.2.Code = 0
     ·rw [if_neg (by simpa using hc), if_neg (by simpa using hc)]
     ·rw [if_pos (by simpa using hc), if_pos hc]
      rcases p2 with hf | hf
      ·have hl := hf.2.2
       have hl0 := hf.2.1
       rw [List.length_take] at hl
       rw [zO (by omega) (by omega)]
      ·exact absurd hf.1 hc
    ·rw [if_neg (by simp; omega), if_neg h93, kr hK hb hD0 j (i + 1) r (by omega) d4 (by omega)]
     cases brk r with
     | none => rfl
     | some m =>
      simp only [Option.map_some, bkO]
      rw [show i + 1 + m = i + (m + 1) by omega, show i + 1 - i0 + m = i - i0 + (m + 1) by omega]
def uz (k : Int) : List UInt8 -> Prop
 | [] => True
 | c :: _ => (k = 1 \/ k = 2 -> al c = false) /\ (k = 3 -> vE c.toNat ≠ 3)
theorem pl_some (r : List UInt8) : (∀ c ∈ r.take (pl r), al c = true) /\ (∀ c t, r.drop (pl r) = c :: t -> al c = false) /\ ∀ t, (∀ c t', t = c :: t' -> al c = false) -> pl (r.take (pl r) ++ t) = pl r := by
 induction r with
 | nil =>
  refine ⟨by simp [pl], by simp [pl], fun t ht => ?_⟩
  cases t with
  | nil => rfl
  | cons c t => simp [pl, ht c t rfl]
 | cons c r ih =>
  obtain ⟨h1, h2, h3⟩ := ih
  by_cases hc : al c = true
  ·have e : pl (c :: r) = pl r + 1 := by rw [jX, if_pos hc]
   rw [e]
   refine ⟨fun x hx => ?_, fun x t hx => h2 x t hx, fun t ht => ?_⟩
   ·rw [List.take_succ_cons] at hx
    rcases List.mem_cons.1 hx with rfl | hx
    ·exact hc
    ·exact h1 x hx
   ·rw [List.take_succ_cons, List.cons_append, jX, if_pos hc, h3 t ht]
  ·have e : pl (c :: r) = 0 := by rw [jX, if_neg hc]
   rw [e]
   refine ⟨fun x hx => (by cases hx), fun x t hx => ?_, fun t ht => ?_⟩
   ·rw [List.drop_zero] at hx
    cases hx
    exact Bool.eq_false_iff.2 hc
   ·cases t with
    | nil => rfl
    | cons d t => rw [List.take_zero, List.nil_append, jX, ht d t rfl]; rfl
theorem al_ne {c : UInt8} (h : al c = true) : c ≠ 10 := fun e => by subst e; revert h; decide
theorem esc_some {l : List UInt8} {b n : Nat} (h : esc l = some (b, n)) : ∃ w r, l = w ++ r /\ w.length = n /\ (10 : UInt8) ∉ w.tail /\ ∀ t, esc (w ++ t) = some (b, n) := by
 match l, h with
 | c :: v :: rest, h =>
  unfold esc at h
  cases hs : sign v.toNat with
  | some b0 =>
   simp only [hs] at h
   cases h
   refine ⟨[c, v], rest, rfl, rfl, ?_, fun t => ?_⟩
   ·intro hm
    simp at hm
    rw [<- hm, show sign (UInt8.toNat 10) = none by decide] at hs
    cases hs
   ·show esc (c :: v :: t) = _
    unfold esc
    simp only [hs]
  | none =>
   simp only [hs] at h
   split at h
   ·rename_i h120
    split at h
    ·rename_i p q r2
     split at h
     ·rename_i a b0 ha hb
      cases h
      refine ⟨[c, v, p, q], r2, rfl, rfl, ?_, fun t => ?_⟩
      ·intro hm
       simp at hm
       rcases hm with hm | hm | hm
       ·rw [<- hm] at h120; revert h120; decide
       ·rw [<- hm, show hv (UInt8.toNat 10) = none by decide] at ha; cases ha
       ·rw [<- hm, show hv (UInt8.toNat 10) = none by decide] at hb; cases hb
      ·show esc (c :: v :: p :: q :: t) = _
       unfold esc
       simp only [hs, if_pos h120, ha, hb]
     ·cases h
    ·cases h
   ·cases h
theorem hU : ∀ (j : Nat) (r : List UInt8) (acc out : List Int) (r' : List UInt8), gP j r acc = .ok (out, r') -> ∃ w, r = w ++ r' /\ 1 <= w.length /\ (10 : UInt8) ∉ w /\ ∀ t, gP j (w ++ t) acc = .ok (out, t)
 | 0, _, _, _, _, h => by cases h
 | j + 1, [], _, _, _, h => by cases h
 | j + 1, c :: r, acc, out, r', h => by
  unfold gP at h
  split at h
  ·rename_i h34
   cases h
   refine ⟨[c], rfl, by simp, ?_, fun t => ?_⟩
   ·intro hm
    simp at hm
    rw [<- hm] at h34
    revert h34
    decide
   ·show gP (j + 1) (c :: t) acc = _
    rw [gP, if_pos h34]
  rename_i h34
  split at h
  ·rename_i h92
   split at h
   ·cases h
   rename_i b n he
   obtain ⟨w, r2, e1, e2, e3, e4⟩ := esc_some he
   rw [e1, <- e2, List.drop_left] at h
   obtain ⟨w', f1, f2, f3, f4⟩ := hU j _ _ _ _ h
   cases w with
   | nil => exact absurd (esc_len he).1 (by simp at e2; omega)
   | cons c0 w =>
    obtain ⟨rfl, e5⟩ := List.cons.inj e1
    refine ⟨c :: w ++ w', by rw [e1, f1, List.append_assoc], by simp, ?_, fun t => ?_⟩
    ·intro hm
     rcases List.mem_append.1 hm with hm | hm
     ·rcases List.mem_cons.1 hm with hm | hm
      ·rw [<- hm] at h92; revert h92; decide
      ·exact e3 hm
     ·exact f3 hm
    ·have hx := e4 (w' ++ t)
     rw [List.append_assoc, List.cons_append]
     rw [List.cons_append] at hx
     rw [gP, if_neg h34, if_pos h92, hx]
     simp only
     rw [<- List.cons_append, <- e2, List.drop_left]
     exact f4 t
  rename_i h92
  split at h
  ·cases h
  rename_i hr
  obtain ⟨w', f1, f2, f3, f4⟩ := hU j _ _ _ _ h
  refine ⟨c :: w', by rw [f1]; rfl, by simp, ?_, fun t => ?_⟩
  ·intro hm
   rcases List.mem_cons.1 hm with hm | hm
   ·rw [<- hm] at hr; revert hr; decide
   ·exact f3 hm
  ·rw [List.cons_append, gP, if_neg h34, if_neg h92, if_neg hr]
   exact f4 t
theorem quR_err : ∀ (j : Nat) (r : List UInt8) (acc : List Int) (m : Nat) (c : Int), gP j r acc = .error (some m, c) -> c = 11 \/ c = 12
 | 0, _, _, _, _, h => by cases h
 | j + 1, [], _, _, _, h => by cases h
 | j + 1, c :: r, acc, m, e, h => by
  unfold gP at h
  split at h
  ·cases h
  split at h
  ·split at h
   ·cases h; exact Or.inr rfl
   ·exact quR_err j _ _ m e h
  split at h
  ·cases h; exact Or.inl rfl
  ·exact quR_err j _ _ m e h
theorem quR_m : ∀ (j : Nat) (r : List UInt8) (acc : List Int) (m : Nat) (c : Int), gP j r acc = .error (some m, c) -> m <= r.length
 | 0, _, _, _, _, h => by cases h
 | j + 1, [], _, _, _, h => by cases h
 | j + 1, c :: r, acc, m, e, h => by
  unfold gP at h
  split at h
  ·cases h
  split at h
  ·split at h
   ·cases h; simp
   ·rename_i b n he
    have := quR_m j _ _ _ _ h
    rw [List.length_drop] at this
    omega
  split at h
  ·cases h; simp
  ·have := quR_m j _ _ _ _ h
   simp
   omega
theorem hQ : ∀ n : _root_.Fin 256, uO (UInt8.ofNat n.val) = true -> n.val ≠ 10 /\ n.val ≠ 35 /\ ¬ vm n.val := by decide +kernel
theorem sign_ne {c : UInt8} (h : uO c = true) : c.toNat ≠ 10 /\ c.toNat ≠ 35 /\ ¬ vm c.toNat := hQ ⟨c.toNat, c.toNat_lt⟩ (by simpa using h)
theorem ux {r : List UInt8} {x : Tk} {n : Nat} (hl : r.length <= 65536) (h : kD r = .ok (x, n)) : 1 <= n /\ n <= r.length /\ (10 : UInt8) ∉ r.take n /\ x.kind ≠ 7 /\ uz x.kind (r.drop n) /\ (∀ t, uz x.kind t -> kD (r.take n ++ t) = .ok (x, n)) /\ ∀ b, vx false (r.take n ++ b) = r.take n ++ b := by
 cases r with
 | nil => cases h
 | cons c r =>
  have hsk : ∀ m b, 1 <= m -> c.toNat ≠ 35 -> ¬ vm c.toNat -> vx false ((c :: r).take m ++ b) = (c :: r).take m ++ b := by
   intro m b hm h1 h2
   obtain ⟨m, rfl⟩ : ∃ m', m = m' + 1 := ⟨m - 1, by omega⟩
   rw [List.take_succ_cons, List.cons_append, vx, if_neg h2, if_neg h1]
  have hcl : ∀ k, vE c.toNat = k -> 1 <= k -> c.toNat ≠ 35 /\ ¬ vm c.toNat := by
   intro k h1 h2
   refine ⟨fun e => ?_, fun e => ?_⟩
   ·rw [e] at h1; revert h1; unfold vE; simp; omega
   ·rcases e with e | e | e | e <;> (rw [e] at h1; revert h1; unfold vE; simp; omega)
  simp only [kD] at h
  split at h
  ·rename_i hc
   split at h
   ·cases h
   rename_i h32
   cases h
   obtain ⟨p1, p2, p3⟩ := pl_some (c :: r)
   have hpl : 1 <= pl (c :: r) := by
    rw [jX, if_pos]
    ·omega
    ·unfold al; rw [decide_eq_true_eq]; omega
   refine ⟨hpl, pl_le _, fun hm => al_ne (p1 _ hm) rfl, ?_, ?_, fun t ht => ?_, fun b => hsk _ b hpl ?_ ?_⟩
   ·rcases hc with hc | hc <;> simp [hc]
   ·unfold uz
    split
    ·trivial
    ·rename_i d t he
     refine ⟨fun _ => p2 d t he, fun hk => ?_⟩
     simp only at hk
     omega
   ·have h1 := p3 t (by
     intro d t' he
     subst he
     exact ht.1 (by rcases hc with hc | hc <;> simp [hc]))
    obtain ⟨m, hm⟩ : ∃ m', pl (c :: r) = m' + 1 := ⟨pl (c :: r) - 1, by omega⟩
    rw [hm, List.take_succ_cons, List.cons_append] at h1 ⊢
    simp only [kD]
    rw [if_pos hc, h1, if_neg (by omega)]
   ·rcases hc with hc | hc
    ·exact (hcl 1 hc (by omega)).1
    ·exact (hcl 2 hc (by omega)).1
   ·rcases hc with hc | hc
    ·exact (hcl 1 hc (by omega)).2
    ·exact (hcl 2 hc (by omega)).2
  rename_i hc
  split at h
  ·rename_i h3
   split at h
   ·cases h
   rename_i m n' hn
   split at h
   ·cases h
   rename_i h48
   cases h
   obtain ⟨w, r', e1, e2, e3, e4, e5⟩ := uK _ _ _ _ _ hn
   rw [Nat.zero_add] at e2
   have hw : 1 <= w.length := by
    cases w with
    | cons _ _ => simp
    | nil =>
     exfalso
     rw [List.nil_append] at e1
     exact e5 c r e1.symm h3
   have ht : (c :: r).take n = w := by rw [e1, e2, List.take_left]
   have hd : (c :: r).drop n = r' := by rw [e1, e2, List.drop_left]
   refine ⟨by omega, by rw [e1, List.length_append]; omega, by rw [ht]; exact mem10 e3, by simp, ?_, fun t hs => ?_, fun b => hsk _ b (by omega) (hcl 3 h3 (by omega)).1 (hcl 3 h3 (by omega)).2⟩
   ·rw [hd]
    unfold uz
    split
    ·trivial
    ·rename_i d t
     exact ⟨fun hk => by simp at hk, fun _ => e5 d t rfl⟩
   ·have h1 := e4 t (by
     intro d t' he
     subst he
     exact hs.2 rfl)
    rw [ht]
    cases w with
    | nil => simp at hw
    | cons c0 w =>
     obtain ⟨rfl, _⟩ := List.cons.inj e1
     rw [List.cons_append] at h1 ⊢
     simp only [kD]
     rw [if_neg hc, if_pos h3, h1]
     simp only
     rw [if_neg h48]
  rename_i h3
  split at h
  ·rename_i h34
   split at h
   ·cases h
   ·cases h
   rename_i out r' hq
   cases h
   obtain ⟨w, e1, e2, e3, e4⟩ := hU _ _ _ _ _ hq
   have hlen : r.length + 1 - r'.length = w.length + 1 := by rw [e1, List.length_append]; omega
   rw [hlen]
   have ht : (c :: r).take (w.length + 1) = c :: w := by rw [e1, List.take_succ_cons, List.take_left]
   refine ⟨by omega, by rw [e1]; simp, ?_, by simp, ?_, fun t hs => ?_, fun b => hsk _ b (by omega) (by omega) (by unfold vm; omega)⟩
   ·rw [ht]
    intro hm
    rcases List.mem_cons.1 hm with hm | hm
    ·rw [<- hm] at h34; revert h34; decide
    ·exact e3 hm
   ·unfold uz
    split
    ·trivial
    ·exact ⟨fun hk => by simp at hk, fun hk => by simp at hk⟩
   ·rw [ht, List.cons_append]
    simp only [kD]
    rw [if_neg hc, if_neg h3, if_pos h34, e4 t]
    simp only
    rw [show (w ++ t).length + 1 - t.length = w.length + 1 by rw [List.length_append]; omega]
  rename_i h34
  split at h
  ·rename_i h91
   split at h
   ·cases h
   rename_i m hb
   split at h
   ·cases h
   rename_i hcode
   cases h
   obtain ⟨b1, b2, b3⟩ := um _ _ hb
   have hlen : ((c :: r).take (m + 1)).length = m + 1 := by rw [List.length_take, List.length_cons]; omega
   obtain ⟨_, p2⟩ := psP_ok (Nat.le_refl 400000) (t := (c :: r).take (m + 1)) (by rw [hlen]; simp at hl; omega)
   refine ⟨by omega, by simp; omega, ?_, by simp, ?_, fun t hs => ?_, fun b => hsk _ b (by omega) (by omega) (by unfold vm; omega)⟩
   ·rcases p2 with hf | ⟨_, hf⟩
    ·exact absurd hf.1 hcode
    ·intro hm
     obtain ⟨i, hi⟩ := List.mem_iff_getElem?.1 hm
     exact hf i (by omega) (List.getElem?_eq_some_iff.1 hi).1 hi
   ·unfold uz
    split
    ·trivial
    ·exact ⟨fun hk => by simp at hk, fun hk => by simp at hk⟩
   ·rw [List.take_succ_cons, List.cons_append]
    have e : (c :: (r.take m ++ t)).take (m + 1) = (c :: r).take (m + 1) := by
     rw [List.take_succ_cons, List.take_succ_cons, List.take_left' (by rw [List.length_take]; omega)]
    simp only [kD]
    rw [if_neg hc, if_neg h3, if_neg h34, if_pos h91, b3 t]
    simp only
    rw [e, if_neg hcode]
    rfl
  rename_i h91
  split at h
  ·rename_i hs
   cases h
   obtain ⟨s1, s2, s3⟩ := sign_ne hs
   refine ⟨by omega, by simp, ?_, by simp, ?_, fun t _ => ?_, fun b => hsk _ b (by omega) s2 s3⟩
   ·intro hm
    simp at hm
    rw [<- hm] at s1
    exact s1 rfl
   ·unfold uz
    split
    ·trivial
    ·exact ⟨fun hk => by simp at hk, fun hk => by simp at hk⟩
   ·show kD (c :: t) = _
    simp only [kD]
    rw [if_neg hc, if_neg h3, if_neg h34, if_neg h91, if_pos hs]
  ·cases h
theorem tok_err {r : List UInt8} {o e : Int} (hl : r.length <= 65536) (h : kD r = .error (o, e)) : e ≠ 0 /\ 0 <= o /\ o <= r.length := by
 cases r with
 | nil => cases h; decide
 | cons c r =>
  simp only [kD] at h
  split at h
  ·split at h
   ·cases h; exact ⟨by decide, by decide, by omega⟩
   ·cases h
  split at h
  ·split at h
   ·cases h; exact ⟨by decide, by decide, by omega⟩
   split at h
   ·cases h; exact ⟨by decide, by decide, by omega⟩
   ·cases h
  split at h
  ·split at h
   ·cases h; exact ⟨by decide, by decide, by omega⟩
   ·rename_i m e' hq
    cases h
    have h1 := quR_err _ _ _ _ _ hq
    have h2 := quR_m _ _ _ _ _ hq
    exact ⟨by omega, by omega, by simp only [List.length_cons]; omega⟩
   ·cases h
  split at h
  ·split at h
   ·cases h; exact ⟨by decide, by decide, by omega⟩
   rename_i m hb
   obtain ⟨b1, b2, b3⟩ := um _ _ hb
   have hlen : ((c :: r).take (m + 1)).length = m + 1 := by rw [List.length_take, List.length_cons]; omega
   obtain ⟨_, p2⟩ := psP_ok (Nat.le_refl 400000) (t := (c :: r).take (m + 1)) (by rw [hlen]; simp at hl; omega)
   split at h
   ·rename_i hcode
    cases h
    rcases p2 with hf | hf
    ·refine ⟨hf.1, hf.2.1, ?_⟩
     have := hf.2.2
     rw [hlen] at this
     simp only [List.length_cons]
     omega
    ·exact absurd hf.1 hcode
   ·cases h
  split at h
  ·cases h
  ·cases h; exact ⟨by decide, by decide, by omega⟩
end Go.Vc
