import Derived.Test.YtdbnoblklhgdoaaGreatDoorSSD
set_option linter.unusedVariables false
set_option linter.unusedSimpArgs false
namespace Go.Vc
open Go
theorem quR_fuel : ∀ (j j' : Nat) (r : List UInt8) (acc : List Int), r.length < j -> r.length < j' -> gP j r acc = gP j' r acc
 | 0, _, r, _, h, _ => by omega
 | _, 0, r, _, _, h => by omega
 | j + 1, j' + 1, [], acc, _, _ => rfl
 | j + 1, j' + 1, c :: r, acc, h, h' => by
  simp only [List.length_cons] at h h'
  simp only [gP]
  split
  ·rfl
  split
  ·cases he : esc (c :: r) with
   | none => rfl
   | some p =>
    obtain ⟨b, n⟩ := p
    obtain ⟨n1, n2, _⟩ := esc_len he
    simp only [List.length_cons] at n2
    exact quR_fuel j j' _ _ (by rw [List.length_drop, List.length_cons]; omega) (by rw [List.length_drop, List.length_cons]; omega)
  split
  ·rfl
  ·exact quR_fuel j j' r _ (by omega) (by omega)
theorem next_ok {K : Nat} (hK : 400000 <= K) {s r : List UInt8} {out : List zg} {i : Nat} {c : UInt8} (hb : s.length <= 65536) (ho : out.length < 1000000) (hD : D s i (c :: r)) : ∃ z, qw.scanner_next K (je s i out) = some z /\
  (match kD (c :: r) with
  | .error (o, e) => z.1 = ⟨(i : Int) + o, e⟩
  | .ok (x, n) => z = (⟨0, 0⟩, je s (i + n) (out ++ [wd s i ((c :: r).take n) x]))) := by
 obtain ⟨d1, d2, d3, d4⟩ := qd hD
 have d5 := hD.2
 simp only [List.length_cons] at d5
 have hcl := c.toNat_lt
 have w32 : IntKind.wrap .i32 (c.toNat : Int) = (c.toNat : Int) := wrap_i32 (by omega) (by omega)
 have hput : ∀ (x : Tk) (n : Nat), kD (c :: r) = .ok (x, n) -> ∀ t a b d, qw.scanner_put (je s i out) ⟨x.kind, t, x.bytes, x.set, x.num, a, b, d⟩ ((i + n : Nat) : Int) = some (je s (i + n) (out ++ [wd s i ((c :: r).take n) x])) := by
  intro x n h t a b d
  obtain ⟨h1, h2, h3, _⟩ := ux (by simp only [List.length_cons]; omega) h
  have h2' := h2
  simp only [List.length_cons] at h2'
  exact put_ok (by omega) ho hD h2 x t a b d (ln_NF n (by omega) (D_NF hD h2 h3))
 have key : ∃ z, qw.scanner_next_j1 K (je s i out) (decide (vE c.toNat = 1 \/ vE c.toNat = 2)) = some z /\
  (match kD (c :: r) with
  | .error (o, e) => z.1 = ⟨(i : Int) + o, e⟩
  | .ok (x, n) => z = (⟨0, 0⟩, je s (i + n) (out ++ [wd s i ((c :: r).take n) x]))) := by
  unfold qw.scanner_next_j1
  by_cases hc : vE c.toNat = 1 \/ vE c.toNat = 2
  ·rw [decide_eq_true hc, if_pos rfl]
   have hcut : vp (i : Int) (s.length : Int) s.length = true := by simp [vp]; omega
   show ∃ z, (if vp (i : Int) (s.length : Int) s.length = true then ((qw.run K (sub s (i : Int) (s.length : Int))).bind fun v => if decide (32 < v) = true then some (Fault.mk (i : Int) 20, je s i out) else (qw.great (IntKind.wrap .i32 (yk s (i : Int)))).bind fun v1 => if v1 = true then qw.scanner_next_j3 (je s i out) v 1 else qw.scanner_next_j3 (je s i out) v 2) else none) = some z /\ _
   rw [if_pos hcut, D_sub hD, run_ok (by simp only [List.length_cons]; omega) (by simp only [List.length_cons]; omega), Option.bind_some]
   have hple := pl_le (c :: r)
   simp only [List.length_cons] at hple
   by_cases h32 : 32 < pl (c :: r)
   ·rw [if_pos (by rw [decide_eq_true_eq]; omega)]
    refine ⟨_, rfl, ?_⟩
    simp only [kD]
    rw [if_pos hc, if_pos h32]
    simp
   ·have ht : kD (c :: r) = .ok (⟨(vE c.toNat : Int), [], noS, 0⟩, pl (c :: r)) := by
     simp only [kD]
     rw [if_pos hc, if_neg h32]
    rw [if_neg (by rw [decide_eq_true_eq]; omega), d2, w32, uh, Option.bind_some, ht]
    have hw : IntKind.wrap .i64 ((i : Int) + (pl (c :: r) : Int)) = ((i + pl (c :: r) : Nat) : Int) := by rw [zO (by omega) (by omega)]; omega
    have hj : ∀ kind : Int, kind = (vE c.toNat : Int) -> qw.scanner_next_j3 (je s i out) (pl (c :: r) : Int) kind = some (⟨0, 0⟩, je s (i + pl (c :: r)) (out ++ [wd s i ((c :: r).take (pl (c :: r))) ⟨(vE c.toNat : Int), [], noS, 0⟩])) := by
     intro kind hk
     subst hk
     unfold qw.scanner_next_j3
     show ((qw.scanner_put (je s i out) ⟨(vE c.toNat : Int), [], [], noS, 0, 0, 0, 0⟩ (IntKind.wrap .i64 ((i : Int) + (pl (c :: r) : Int)))).bind _) = _
     rw [hw, hput _ _ ht]
     rfl
    by_cases h1 : vE c.toNat = 1
    ·rw [decide_eq_true h1, if_pos rfl, hj 1 (by omega)]
     exact ⟨_, rfl, rfl⟩
    ·rw [decide_eq_false h1, if_neg (by simp), hj 2 (by omega)]
     exact ⟨_, rfl, rfl⟩
  rw [decide_eq_false hc, if_neg (by simp)]
  show ∃ z, ((qw.digit (IntKind.wrap .i32 (yk s (i : Int)))).bind fun v3 => if v3 = true then _ else (if (yk s (i : Int) == 34) = true then ((qw.quoted K s (i : Int)).bind fun v6 => qw.scanner_next_j5 (je s i out) v6.1 v6.2.1 v6.2.2.At v6.2.2.Code) else (if (yk s (i : Int) == 91) = true then ((qw.bracketed K s (i : Int)).bind fun v8 => qw.scanner_next_j6 (je s i out) v8.1 v8.2.1 v8.2.2.At v8.2.2.Code) else ((F.strings.IndexByte ([61, 124, 46, 59, 62, 63, 42, 43, 123, 125, 40, 41, 95, 47, 44, 45] : List UInt8) (yk s (i : Int))).bind fun v9 => if decide (0 <= v9) = true then ((qw.scanner_put (je s i out) ⟨6, [], [], noS, 0, 0, 0, 0⟩ (IntKind.wrap .i64 ((i : Int) + 1))).bind fun v10 => qw.scanner_next_j4 v10.text v10.at_ v10.line v10.top v10.out) else some (Fault.mk (i : Int) 11, je s i out))))) = some z /\ _
  rw [d2, w32, k8, Option.bind_some]
  by_cases h3 : vE c.toNat = 3
  ·rw [decide_eq_true h3, if_pos rfl, number_ok hK (by omega) ho hD]
   simp only [Option.bind_some]
   have ht : kD (c :: r) = (match vD 0 0 (c :: r) with
    | none => .error (0, 21)
    | some (m, n) => if c.toNat = 48 /\ 1 < m then .error (0, 21) else .ok (⟨3, [], noS, n⟩, m)) := by
    simp only [kD]
    rw [if_neg hc, if_pos h3]
    rfl
   rw [ht]
   cases vD 0 0 (c :: r) with
   | none => exact ⟨_, rfl, by simp [je]⟩
   | some p =>
    obtain ⟨m, n⟩ := p
    simp only
    by_cases h48 : c.toNat = 48 /\ 1 < m
    ·simp only [if_pos h48]
     exact ⟨_, rfl, by simp [je]⟩
    ·simp only [if_neg h48]
     exact ⟨_, rfl, rfl⟩
  rw [decide_eq_false h3, if_neg (by simp)]
  by_cases h34 : c.toNat = 34
  ·rw [if_pos (by simp [h34])]
   have ht : kD (c :: r) = (match gP 400000 r [] with
    | .error (none, _) => .error (0, 13)
    | .error (some m, e) => .error (((r.length + 1 - m : Nat) : Int), e)
    | .ok (o, r') => .ok (⟨4, o, noS, 0⟩, r.length + 1 - r'.length)) := by
    simp only [kD]
    rw [if_neg hc, if_neg h3, if_pos h34]
    rfl
   unfold qw.quoted
   rw [yg (by omega), jU (by omega) K (i + 1) r [] d4 (by omega) (by simp; omega), Option.bind_some, ht, quR_fuel K 400000 r [] (by omega) (by omega)]
   rw [ht] at hput
   cases hq : gP 400000 r [] with
   | error p =>
    obtain ⟨m, e⟩ := p
    cases m with
    | none => exact ⟨_, rfl, by simp⟩
    | some m =>
     have h1 := quR_err _ _ _ _ _ hq
     have h2 := quR_m _ _ _ _ _ hq
     simp only [qn, LR.fin, Option.bind_some]
     unfold qw.scanner_next_j5
     rw [if_pos (by simp; omega)]
     refine ⟨_, rfl, ?_⟩
     simp only
     congr 1
     omega
   | ok p =>
    obtain ⟨o, r'⟩ := p
    obtain ⟨w, e1, e2, e3, e4⟩ := hU _ _ _ _ _ hq
    have hle : r'.length <= r.length := by rw [e1, List.length_append]; omega
    rw [hq] at hput
    simp only [qn, LR.fin, Option.bind_some]
    unfold qw.scanner_next_j5
    rw [if_neg (by simp), show s.length - r'.length = i + (r.length + 1 - r'.length) by omega]
    have := hput _ _ rfl [] 0 0 0
    simp only at this
    rw [show (S4.mk 0 0 0 0) = noS from rfl, this]
    exact ⟨_, rfl, rfl⟩
  rw [if_neg (by simp; omega)]
  by_cases h91 : c.toNat = 91
  ·rw [if_pos (by simp [h91])]
   have ht : kD (c :: r) = (match brk r with
    | none => .error (0, 13)
    | some m => if (psP ((c :: r).take (m + 1))).2.Code ≠ 0 then .error ((psP ((c :: r).take (m + 1))).2.At, (psP ((c :: r).take (m + 1))).2.Code) else .ok (⟨5, [], (psP ((c :: r).take (m + 1))).1, 0⟩, m + 1)) := by
    simp only [kD]
    rw [if_neg hc, if_neg h3, if_neg h34, if_pos h91]
    rfl
   unfold qw.bracketed
   rw [yg (by omega), kr hK hb hD K (i + 1) r (by omega) d4 (by omega), Option.bind_some, ht]
   rw [ht] at hput
   cases hk : brk r with
   | none => exact ⟨_, rfl, by simp⟩
   | some m =>
    rw [hk] at hput
    simp only [bkO, LR.fin, Option.bind_some]
    rw [show i + 1 - i + m = m + 1 by omega, show i + 1 + m = i + (m + 1) by omega]
    simp only at hput
    generalize hp : psP ((c :: r).take (m + 1)) = p at *
    unfold qw.scanner_next_j6
    by_cases hcode : p.2.Code ≠ 0
    ·rw [if_pos (by simpa using hcode)]
     simp only [if_pos hcode]
     refine ⟨_, rfl, ?_⟩
     simp only
     congr 1
     omega
    ·rw [if_neg (by simpa using hcode)]
     simp only [if_neg hcode]
     rw [if_neg hcode] at hput
     have := hput _ _ rfl [] 0 0 0
     simp only at this
     rw [this]
     exact ⟨_, rfl, rfl⟩
  rw [if_neg (by simp; omega)]
  unfold F.strings.IndexByte
  rw [Option.bind_some, show ((c.toNat : Int).toNat.toUInt8) = c by simp]
  have hs : decide (0 <= Lib.indexByte ([61, 124, 46, 59, 62, 63, 42, 43, 123, 125, 40, 41, 95, 47, 44, 45] : List UInt8) c) = uO c := rfl
  rw [hs]
  by_cases hg : uO c = true
  ·have ht : kD (c :: r) = .ok (⟨6, [], noS, 0⟩, 1) := by
    simp only [kD]
    rw [if_neg hc, if_neg h3, if_neg h34, if_neg h91, if_pos hg]
   rw [if_pos hg, yg (by omega)]
   have := hput _ _ ht [] 0 0 0
   simp only at this
   rw [this, ht]
   exact ⟨_, rfl, rfl⟩
  ·have ht : kD (c :: r) = .error (0, 11) := by
    simp only [kD]
    rw [if_neg hc, if_neg h3, if_neg h34, if_neg h91, if_neg hg]
   rw [if_neg hg, ht]
   exact ⟨_, rfl, by simp⟩
 unfold qw.scanner_next
 show ∃ z, (if xf (i : Int) s.length = true then ((qw.great (IntKind.wrap .i32 (yk s (i : Int)))).bind fun v11 => if v11 = true then qw.scanner_next_j1 K (je s i out) true else ((qw.small (IntKind.wrap .i32 (yk s (i : Int)))).bind fun v12 => qw.scanner_next_j1 K (je s i out) v12)) else none) = some z /\ _
 rw [if_pos d3, d2, w32, uh, small_ok, Option.bind_some, Option.bind_some]
 by_cases h1 : vE c.toNat = 1
 ·rw [decide_eq_true h1, if_pos rfl]
  rw [decide_eq_true (Or.inl h1)] at key
  exact key
 ·rw [decide_eq_false h1, if_neg (by simp)]
  have : decide (vE c.toNat = 1 \/ vE c.toNat = 2) = decide (vE c.toNat = 2) := by simp [h1]
  rw [this] at key
  exact key
def jB : Nat -> List UInt8 -> Except (Nat × Int × Int) (List (Nat × List UInt8 × Tk))
 | 0, _ => .ok []
 | j + 1, r => match vx false r with
  | [] => .ok []
  | c :: t => match kD (c :: t) with
   | .error (o, e) => .error ((c :: t).length, o, e)
   | .ok (x, n) => match jB j ((c :: t).drop n) with
    | .error z => .error z
    | .ok l => .ok (((c :: t).length, (c :: t).take n, x) :: l)
theorem gG (r : List UInt8) (b : Bool) : (vx b r).length <= r.length := by
 obtain ⟨w, h⟩ := qR r b
 have := congrArg List.length h
 rw [List.length_append] at this
 omega
theorem kb : ∀ (r : List UInt8) (b : Bool), vx false (vx b r) = vx b r
 | [], b => by simp [vx]
 | c :: r, false => by
  have e : vx false (c :: r) = if vm c.toNat then vx false r else if c.toNat = 35 then vx true r else c :: r := by rw [vx]
  by_cases h1 : vm c.toNat
  ·rw [e, if_pos h1]; exact kb r false
  by_cases h2 : c.toNat = 35
  ·rw [e, if_neg h1, if_pos h2]; exact kb r true
  ·rw [e, if_neg h1, if_neg h2, e, if_neg h1, if_neg h2]
 | c :: r, true => by
  have e : vx true (c :: r) = if c.toNat = 10 then vx false r else vx true r := by rw [vx]
  by_cases h1 : c.toNat = 10
  ·rw [e, if_pos h1]; exact kb r false
  ·rw [e, if_neg h1]; exact kb r true
theorem scT_fuel : ∀ (j j' : Nat) (r : List UInt8), r.length <= 65536 -> r.length < j -> r.length < j' -> jB j r = jB j' r
 | 0, _, _, _, h, _ => by omega
 | _ + 1, 0, _, _, _, h => by omega
 | j + 1, j' + 1, r, hl, h1, h2 => by
  have hs := gG r false
  unfold jB
  cases hk : vx false r with
  | nil => rfl
  | cons c t =>
   simp only
   rw [hk] at hs
   cases ht : kD (c :: t) with
   | error p => rfl
   | ok p =>
    obtain ⟨x, n⟩ := p
    obtain ⟨n1, n2, _⟩ := ux (by omega) ht
    simp only
    rw [scT_fuel j j' _ (by rw [List.length_drop]; omega) (by rw [List.length_drop]; omega) (by rw [List.length_drop]; omega)]
def uv (s : List UInt8) (l : List (Nat × List UInt8 × Tk)) : List zg := l.map fun p => wd s (s.length - p.1) p.2.1 p.2.2
def scO (s : List UInt8) (out : List zg) : Except (Nat × Int × Int) (List (Nat × List UInt8 × Tk)) -> LR (List UInt8 × Int × Int × Int × List zg) (List zg × Fault)
 | .error (m, o, e) => .ret ([], ⟨((s.length - m : Nat) : Int) + o, e⟩)
 | .ok l => .done (s, (s.length : Int), (us s s.length : Int), jb s s.length, out ++ uv s l)
theorem Scan_l1_ok {K : Nat} (hK : 400000 <= K) {s : List UInt8} (hb : s.length <= 65536) : ∀ (j i : Nat) (r : List UInt8) (out : List zg), D s i r -> vx false r = r -> r.length < j -> out.length <= i -> qw.Scan_l1 K s j s (i : Int) (us s i : Int) (jb s i) out = some (scO s out (jB j r))
 | 0, _, _, _, _, _, h, _ => by omega
 | j + 1, i, r, out, hD, hsk, hj, ho => by
  have d5 := hD.2
  simp only [qw.Scan_l1]
  unfold jB
  rw [hsk]
  cases r with
  | nil =>
   have := D_nil hD
   subst this
   rw [if_neg (by rw [decide_eq_true_eq]; omega)]
   simp [scO, uv]
  | cons c t =>
   simp only [List.length_cons] at d5 hj
   rw [if_pos (by rw [decide_eq_true_eq]; omega)]
   obtain ⟨z, hz, hm⟩ := next_ok hK hb (by omega) hD (out := out)
   show ((qw.scanner_next K (je s i out)).bind _) = _
   rw [hz, Option.bind_some]
   simp only
   cases ht : kD (c :: t) with
   | error p =>
    obtain ⟨o, e⟩ := p
    rw [ht] at hm
    obtain ⟨he, _⟩ := tok_err (by simp only [List.length_cons]; omega) ht
    simp only at hm
    rw [hm]
    simp only
    rw [if_pos (by simpa using he)]
    simp only [scO]
    rw [show s.length - (c :: t).length = i by simp only [List.length_cons]; omega]
   | ok p =>
    obtain ⟨x, n⟩ := p
    rw [ht] at hm
    obtain ⟨n1, n2, _⟩ := ux (by simp only [List.length_cons]; omega) ht
    simp only at hm
    subst hm
    simp only
    rw [if_neg (by simp)]
    have hDn := D_drop hD n2
    rw [skip_ok hK (by omega) hDn, Option.bind_some]
    have hle := gG ((c :: t).drop n) false
    rw [List.length_drop] at hle
    simp only [List.length_cons] at hle n2
    have hlast := skL_D hDn false
    have ih := Scan_l1_ok hK hb j _ _ (out ++ [wd s i ((c :: t).take n) x]) hlast (kb _ _) (by omega) (by simp; omega)
    show qw.Scan_l1 K s j s _ _ _ _ = _
    refine ih.trans ?_
    have hf : jB j (vx false ((c :: t).drop n)) = jB j ((c :: t).drop n) := by
     obtain ⟨j, rfl⟩ : ∃ j', j = j' + 1 := ⟨j - 1, by omega⟩
     unfold jB
     rw [kb]
    rw [hf]
    cases jB j ((c :: t).drop n) with
    | error z => rfl
    | ok l =>
     simp only [scO]
     rw [show uv s (((c :: t).length, (c :: t).take n, x) :: l) = wd s i ((c :: t).take n) x :: uv s l by
      simp only [uv, List.map_cons]
      rw [show s.length - (c :: t).length = i by simp only [List.length_cons]; omega], List.append_assoc]
     rfl
def jz (s : List UInt8) : zg := wd s s.length [] ⟨7, [], noS, 0⟩
theorem scT_len : ∀ (j : Nat) (r : List UInt8) (l : List (Nat × List UInt8 × Tk)), r.length <= 65536 -> jB j r = .ok l -> l.length <= r.length
 | 0, _, _, _, h => by cases h; simp
 | j + 1, r, l, hl, h => by
  have hs := gG r false
  unfold jB at h
  cases hk : vx false r with
  | nil => rw [hk] at h; cases h; simp
  | cons c t =>
   rw [hk] at h hs
   simp only at h
   cases ht : kD (c :: t) with
   | error p => rw [ht] at h; cases h
   | ok p =>
    obtain ⟨x, n⟩ := p
    obtain ⟨n1, n2, _⟩ := ux (by omega) ht
    rw [ht] at h
    simp only at h
    cases hr : jB j ((c :: t).drop n) with
    | error z => rw [hr] at h; cases h
    | ok l' =>
     rw [hr] at h
     cases h
     have := scT_len j _ l' (by rw [List.length_drop]; omega) hr
     rw [List.length_drop] at this
     simp only [List.length_cons] at *
     omega
theorem D_zero (s : List UInt8) : D s 0 s := ⟨rfl, by simp⟩
theorem Scan_ok {K : Nat} (hK : 400000 <= K) {s : List UInt8} (hb : s.length <= 65536) : qw.Scan K s = some (match jB 400000 s with
  | .error (m, o, e) => ([], ⟨((s.length - m : Nat) : Int) + o, e⟩)
  | .ok l => (uv s l ++ [jz s], ⟨0, 0⟩)) := by
 unfold qw.Scan
 rw [if_neg (by rw [decide_eq_true_eq]; omega)]
 have e0 : (zm.mk s 0 1 0 ([] : List zg)) = je s 0 [] := by
  simp [je, us, jb, colN]
 rw [e0, skip_ok hK (by omega) (D_zero s), Option.bind_some]
 have hle := gG s false
 have h1 := Scan_l1_ok hK hb K _ _ [] (skL_D (D_zero s) false) (kb _ _) (by omega) (by simp)
 simp only [je]
 rw [h1, Option.bind_some]
 have hf : jB K (vx false s) = jB 400000 s := by
  rw [scT_fuel K 400000 _ (by omega) (by omega) (by omega)]
  show jB (399999 + 1) _ = jB (399999 + 1) _
  unfold jB
  rw [kb]
 rw [hf]
 cases hs : jB 400000 s with
 | error z => rfl
 | ok l =>
  have hlen := scT_len _ _ _ hb hs
  simp only [scO, LR.fin]
  have hp := put_ok (r := []) (i := s.length) (n := 0) (out := uv s l) (s := s) (by omega) (by simp [uv]; omega) ⟨by simp, by simp⟩ (by simp) ⟨7, [], noS, 0⟩ [] 0 0 0 ⟨rfl, rfl⟩
  show ((qw.scanner_put (je s s.length (uv s l)) ⟨7, [], [], noS, 0, 0, 0, 0⟩ ((s.length + 0 : Nat) : Int)).bind _) = _
  simp only at hp
  rw [hp]
  rfl
end Go.Vc
