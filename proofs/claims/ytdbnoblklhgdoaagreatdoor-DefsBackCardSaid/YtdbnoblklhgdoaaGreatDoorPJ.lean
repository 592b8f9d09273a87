import Derived.Test.YtdbnoblklhgdoaaGreatDoorRH
set_option linter.unusedVariables false
set_option linter.unusedSimpArgs false
set_option maxRecDepth 8000
namespace Go.Vc
open Go
theorem g8 (s : List UInt8) : vj (ve s) = s := by
 induction s with
 | nil => rfl
 | cons c r ih =>
  simp only [ve, vj, List.map_cons] at *
  rw [ih]
  simp
theorem okB_ofS (s : List UInt8) : (ve s).all okB = true := by
 rw [List.all_eq_true]
 intro c hc
 obtain ⟨h1, h2⟩ := u8b_ofS s c hc
 simp only [okB, Bool.and_eq_true, decide_eq_true_eq]
 omega
theorem ofS_app2 (a b : List UInt8) : ve (a ++ b) = ve a ++ ve b := by simp [ve]
theorem S4_eta (s : S4) : S4.mk s.w0 s.w1 s.w2 s.w3 = s := by cases s; rfl
def wl (f : Follow) : List UInt8 := [102, 111, 108, 108, 111, 119, 32] ++ f.Sort_ ++ [32] ++ Cp.printT f.Set
def wy (r : zz) : List UInt8 := [114, 101, 106, 101, 99, 116, 32] ++ r.Sort_ ++ [32] ++ r.By
def uo (b : xm) : List UInt8 := [98, 111, 120, 32] ++ b.Cons ++ [32, 61] ++ j7 b.Items
def xO (t : List UInt8) : List UInt8 := t ++ [59, 10]
def startL (d : zY) : List (List UInt8) := if d.Start = [] then [] else [[115, 116, 97, 114, 116, 32] ++ d.Start]
def j0 (d : zY) : List (List UInt8) := if d.Layout = [] then [] else [[108, 97, 121, 111, 117, 116, 32] ++ d.Layout]
def linesT (d : zY) : List (List UInt8) := startL d ++ j0 d ++ d.Prods.map kB ++ d.Chains.map wI ++ d.Follows.map wl ++ d.Rejects.map wy ++ d.Boxes.map uo
def jE (d : zY) : List UInt8 := (linesT d).flatMap xO
def jW (d : zY) : List UInt8 × Int := if qJ d then (if (jE d).length <= 65536 then (jE d, 0) else ([], 2)) else ([], 3)
structure gO (d : zY) : Prop where
 syms : ∀ p ∈ d.Prods, ∀ s ∈ p.Syms, Cp.okS s.Set
 follows : ∀ f ∈ d.Follows, Cp.okS f.Set
structure DefS (d : zY) : Prop where
 start : d.Start.length <= 32
 layout : d.Layout.length <= 32
 prods : ∀ p ∈ d.Prods, kc p = true
 chains : ∀ c ∈ d.Chains, wJ c = true
 follows : ∀ f ∈ d.Follows, f.Sort_.length <= 32
 rejects : ∀ r ∈ d.Rejects, r.Sort_.length <= 32 /\ r.By.length <= 32
 boxes : ∀ b ∈ d.Boxes, b.Cons.length <= 32 /\ ∃ m, wF b.Items 64 = some m
theorem defP_spec {d : zY} (h : qJ d = true) : DefS d := by
 simp only [qJ, Bool.and_eq_true, decide_eq_true_eq] at h
 obtain ⟨h1, h2, h3, h4, h5, h6, h7, h8⟩ := h
 refine ⟨nmE_len h1, nmE_len h2, List.all_eq_true.1 h4, List.all_eq_true.1 h5, fun f hf => (wq (List.all_eq_true.1 h6 f hf)).2, fun r hr => ?_, fun b hb => ?_⟩
 ·have := List.all_eq_true.1 h7 r hr
  simp only [Bool.and_eq_true] at this
  exact ⟨(wq this.1).2, (wq this.2).2⟩
 ·have := List.all_eq_true.1 h8 b hb
  simp only [uV, Bool.and_eq_true, Option.isSome_iff_exists] at this
  exact ⟨(wq this.1).2, this.2⟩
theorem fol_ok {k : Nat} (hk : 200000 <= k) (f : Follow) (ho : Cp.okS f.Set) : ∃ w, w.length <= 2306 /\ qc.Print k f.Set = some w /\ True /\ wl f = [102, 111, 108, 108, 111, 119, 32] ++ f.Sort_ ++ [32] ++ w :=
 ⟨_, Cp.printT_len f.Set, Cp.Print_ok ho (by omega), trivial, rfl⟩
theorem followT_len {f : Follow} (h : f.Sort_.length <= 32) : (wl f).length <= 3000 := by
 have := Cp.printT_len f.Set
 unfold wl
 simp only [la, lc, ln]; omega
theorem rejectT_len {r : zz} (h : r.Sort_.length <= 32 /\ r.By.length <= 32) : (wy r).length <= 3000 := by
 obtain ⟨h1, h2⟩ := h
 unfold wy
 simp only [la, lc, ln]; omega
theorem boxT_len {b : xm} (h : b.Cons.length <= 32 /\ ∃ m, wF b.Items 64 = some m) : (uo b).length <= 20000 := by
 obtain ⟨h1, m, h2⟩ := h
 obtain ⟨h3, _, _⟩ := kf 64 _ m h2
 unfold uo
 simp only [la, lc, ln]; omega
def Put (ok : Bool) (B : List Int) (T : List UInt8) : Prop := (ok = true /\ B = ve T /\ T.length <= 65536) \/ (ok = false /\ 65536 < T.length)
theorem pc1_ok {a : Bool} {B : List Int} {s : List UInt8} (hB : B.length <= 100000) (hs : s.length <= 100000) : qd.Print_c1 s ⟨a, B⟩ = some (decide (B.length + s.length <= 65536), ⟨true, B ++ ve s⟩) := by
 unfold qd.Print_c1 F.strings.Builder_Len
 rw [WS_ok (by omega) (by omega)]
 simp only [Option.bind_some]
 congr 2
 rw [Bool.eq_iff_iff]
 simp only [decide_eq_true_eq, List.length_append, vY]
 omega
theorem qD {α : Type} {xs : List α} {f : α -> List UInt8} {L : Nat -> Bool -> Int -> Bool -> List Int -> Option (Bool × Bool × List Int)} {k : Nat} (hk : xs.length < k) (hf : ∀ x ∈ xs, (f x).length <= 100000)
  (h1 : ∀ j i a B, (h : i < xs.length) -> B.length <= 65536 -> L (j + 1) true (i : Int) a B = (qd.Print_c1 (f xs[i]) ⟨a, B⟩).bind fun v => L j v.1 ((i + 1 : Nat) : Int) v.2.addr v.2.buf)
  (h2 : ∀ j i ok a B, i <= xs.length -> ok = false \/ i = xs.length -> L (j + 1) ok ((i : Nat) : Int) a B = some (ok, a, B)) {ok : Bool} {a : Bool} {B : List Int} {T : List UInt8} (hp : Put ok B T) :
  ∃ ok' a' B', L k ok 0 a B = some (ok', a', B') /\ Put ok' B' (T ++ xs.flatMap f) := by
 have gen : ∀ j i ok a B T, i <= xs.length -> xs.length - i < j -> Put ok B T -> ∃ ok' a' B', L j ok (i : Int) a B = some (ok', a', B') /\ Put ok' B' (T ++ (xs.drop i).flatMap f) := by
  intro j
  induction j with
  | zero => intro i _ _ _ _ _ h; omega
  | succ j ih =>
   intro i ok a B T hi hj hp
   rcases hp with ⟨rfl, rfl, hT⟩ | ⟨rfl, hT⟩
   ·by_cases h : i < xs.length
    ·have hl := hf _ (List.getElem_mem h)
     rw [h1 j i a _ h (by rw [vY]; exact hT), pc1_ok (by rw [vY]; omega) hl]
     simp only [Option.bind_some, vY]
     rw [List.drop_eq_getElem_cons h, List.flatMap_cons, <- List.append_assoc]
     refine ih (i + 1) _ _ _ _ (by omega) (by omega) ?_
     by_cases hle : T.length + (f xs[i]).length <= 65536
     ·exact .inl ⟨decide_eq_true hle, (ofS_app2 _ _).symm, by rw [List.length_append]; exact hle⟩
     ·exact .inr ⟨decide_eq_false hle, by rw [List.length_append]; omega⟩
    ·refine ⟨_, _, _, h2 j i _ _ _ hi (.inr (by omega)), ?_⟩
     rw [List.drop_eq_nil_of_le (by omega)]
     exact .inl ⟨rfl, by simp, by simpa using hT⟩
   ·refine ⟨_, _, _, h2 j i _ _ _ hi (.inl rfl), .inr ⟨rfl, ?_⟩⟩
    rw [List.length_append]
    omega
 have := gen k 0 ok a B T (by omega) (by omega) hp
 rwa [wM, List.drop_zero] at this
section
variable {k : Nat} {d : zY} (hk : 200000 <= k) (hd : Bd d) (hs : gO d) (hp : qJ d = true)
include hk hd hs hp
theorem j2_ok {a : Bool} {B : List Int} {T : List UInt8} (hB : Put true B T) : qd.Print_j2 k d a B = some (if (T ++ (d.Prods.map kB ++ d.Chains.map wI ++ d.Follows.map wl ++ d.Rejects.map wy ++ d.Boxes.map uo).flatMap xO).length <= 65536 then (T ++ (d.Prods.map kB ++ d.Chains.map wI ++ d.Follows.map wl ++ d.Rejects.map wy ++ d.Boxes.map uo).flatMap xO, 0) else ([], 2)) := by
 obtain ⟨b1, _, b2, _, _, b3, b4, b5⟩ := hd
 obtain ⟨_, _, s3, s4, s5, s6, s7⟩ := defP_spec hp
 obtain ⟨t1, t2⟩ := hs
 unfold qd.Print_j2
 obtain ⟨ok1, a1, B1, e1, p1⟩ := qD (xs := d.Prods) (f := fun x => xO (kB x)) (L := fun j ok i a B => qd.Print_l3 k d j ok i a B) (k := k) (by omega) (fun x hx => by have := prodT_len (s3 x hx); unfold xO; simp only [la, lc, ln]; omega)
  (fun j i a B h hB => by
   have hm := List.getElem_mem h
   simp only [qd.Print_l3, qd.Print_j4, xB h, yQ h, yG h, if_true, (prodText_ok hk (s3 _ hm) (t1 _ hm)).1, Option.bind_some, yg (show i < 4611686018427387904 by omega)]
   rfl)
  (fun j i ok a B hi hc => by
   simp only [qd.Print_l3, qd.Print_j4]
   rcases hc with rfl | rfl
   ·split <;> rfl
   ·rw [xy (Nat.lt_irrefl _)]; rfl) (a := a) hB
 obtain ⟨ok2, a2, B2, e2, p2⟩ := qD (xs := d.Chains) (f := fun x => xO (wI x)) (L := fun j ok i a B => qd.Print_l5 k d j ok i a B) (k := k) (by omega) (fun x hx => by have := chainT_len (s4 x hx); unfold xO; simp only [la, lc, ln]; omega)
  (fun j i a B h hB => by
   have hm := List.getElem_mem h
   simp only [qd.Print_l5, qd.Print_j6, xB h, yQ h, yG h, if_true, chainText_ok hk (s4 _ hm), Option.bind_some, yg (show i < 4611686018427387904 by omega)]
   rfl)
  (fun j i ok a B hi hc => by
   simp only [qd.Print_l5, qd.Print_j6]
   rcases hc with rfl | rfl
   ·split <;> rfl
   ·rw [xy (Nat.lt_irrefl _)]; rfl) (a := a1) p1
 obtain ⟨ok3, a3, B3, e3, p3⟩ := qD (xs := d.Follows) (f := fun x => xO (wl x)) (L := fun j ok i a B => qd.Print_l7 k d j ok i a B) (k := k) (by omega) (fun x hx => by have := followT_len (s5 x hx); unfold xO; simp only [la, lc, ln]; omega)
  (fun j i a B h hB => by
   have hm := List.getElem_mem h
   have hl := s5 _ hm
   obtain ⟨w, hpl, e, _, hT⟩ := fol_ok hk d.Follows[i] (t2 _ hm)
   simp only [qd.Print_l7, qd.Print_j8, xB h, yQ h, yG h, if_true, S4_eta, e, Option.bind_some, yg (show i < 4611686018427387904 by omega)]
   rw [if_pos (dt (by simp only [la, lc, ln]; omega)), if_pos (dt (by simp only [la, lc, ln]; omega)), if_pos (dt (by simp only [la, lc, ln]; omega)), if_pos (dt (by simp only [la, lc, ln]; omega))]
   rw [hT]
   rfl)
  (fun j i ok a B hi hc => by
   simp only [qd.Print_l7, qd.Print_j8]
   rcases hc with rfl | rfl
   ·split <;> rfl
   ·rw [xy (Nat.lt_irrefl _)]; rfl) (a := a2) p2
 obtain ⟨ok4, a4, B4, e4, p4⟩ := qD (xs := d.Rejects) (f := fun x => xO (wy x)) (L := fun j ok i a B => qd.Print_l9 d j ok i a B) (k := k) (by omega) (fun x hx => by have := rejectT_len (s6 x hx); unfold xO; simp only [la, lc, ln]; omega)
  (fun j i a B h hB => by
   have hm := List.getElem_mem h
   obtain ⟨hl, hl2⟩ := s6 _ hm
   simp only [qd.Print_l9, qd.Print_j10, xB h, yQ h, yG h, if_true, Option.bind_some, yg (show i < 4611686018427387904 by omega)]
   rw [if_pos (dt (by simp only [la, lc, ln]; omega)), if_pos (dt (by simp only [la, lc, ln]; omega)), if_pos (dt (by simp only [la, lc, ln]; omega)), if_pos (dt (by simp only [la, lc, ln]; omega))]
   rfl)
  (fun j i ok a B hi hc => by
   simp only [qd.Print_l9, qd.Print_j10]
   rcases hc with rfl | rfl
   ·split <;> rfl
   ·rw [xy (Nat.lt_irrefl _)]; rfl) (a := a3) p3
 obtain ⟨ok5, a5, B5, e5, p5⟩ := qD (xs := d.Boxes) (f := fun x => xO (uo x)) (L := fun j ok i a B => qd.Print_l11 k d j ok i a B) (k := k) (by omega) (fun x hx => by have := boxT_len (s7 x hx); unfold xO; simp only [la, lc, ln]; omega)
  (fun j i a B h hB => by
   have hm := List.getElem_mem h
   obtain ⟨hl, m, hc⟩ := s7 _ hm
   obtain ⟨hil, _, _⟩ := kf 64 _ m hc
   simp only [qd.Print_l11, qd.Print_j12, xB h, yQ h, yG h, if_true, (itemsText_ok 64 _ m k (by omega) hc (by omega)).1, Option.bind_some, yg (show i < 4611686018427387904 by omega)]
   rw [if_pos (dt (by simp only [la, lc, ln]; omega)), if_pos (dt (by simp only [la, lc, ln]; omega)), if_pos (dt (by simp only [la, lc, ln]; omega)), if_pos (dt (by simp only [la, lc, ln]; omega))]
   rfl)
  (fun j i ok a B hi hc => by
   simp only [qd.Print_l11, qd.Print_j12]
   rcases hc with rfl | rfl
   ·split <;> rfl
   ·rw [xy (Nat.lt_irrefl _)]; rfl) (a := a4) p4
 simp only [e1, e2, e3, e4, e5, Option.bind_some]
 have eT : T ++ d.Prods.flatMap (fun x => xO (kB x)) ++ d.Chains.flatMap (fun x => xO (wI x)) ++ d.Follows.flatMap (fun x => xO (wl x)) ++ d.Rejects.flatMap (fun x => xO (wy x)) ++ d.Boxes.flatMap (fun x => xO (uo x)) = T ++ (d.Prods.map kB ++ d.Chains.map wI ++ d.Follows.map wl ++ d.Rejects.map wy ++ d.Boxes.map uo).flatMap xO := by
  simp only [List.flatMap_append, List.flatMap_map, List.append_assoc]
 rw [eT] at p5
 rcases p5 with ⟨rfl, rfl, hl⟩ | ⟨rfl, hl⟩
 ·rw [if_pos hl]
  simp only [Bool.not_true, Bool.false_eq_true, if_false]
  unfold F.strings.Builder_String
  rw [if_pos (okB_ofS _), g8]
  rfl
 ·simp only [Bool.not_false, if_true]
  rw [if_neg (by omega)]
theorem Print_right : qd.Print k d = some (jW d) := by
 obtain ⟨s1, s2, _⟩ := defP_spec hp
 have hj1 : ∀ a B T, Put true B T -> T.length <= 60 -> qd.Print_j1 k d a B = some (if (T ++ (j0 d ++ d.Prods.map kB ++ d.Chains.map wI ++ d.Follows.map wl ++ d.Rejects.map wy ++ d.Boxes.map uo).flatMap xO).length <= 65536 then (T ++ (j0 d ++ d.Prods.map kB ++ d.Chains.map wI ++ d.Follows.map wl ++ d.Rejects.map wy ++ d.Boxes.map uo).flatMap xO, 0) else ([], 2)) := by
  intro a B T hB hT
  obtain ⟨_, rfl, _⟩ | ⟨h, _⟩ := hB
  ·unfold qd.Print_j1 j0
   by_cases hl : d.Layout = []
   ·have := j2_ok hk hd hs hp (a := a) (B := ve T) (T := T) (.inl ⟨rfl, rfl, by omega⟩)
    simp only [hl, BEq.rfl, Bool.not_true, Bool.false_eq_true, if_false, if_true, List.nil_append]
    exact this
   ·have hl' : (!(d.Layout == [])) = true := by simp [hl]
    rw [hl', if_pos rfl, if_neg hl, if_pos (dt (by simp only [la, lc, ln]; omega)), if_pos (dt (by simp only [la, lc, ln]; omega)), pc1_ok (by rw [vY]; omega) (by simp only [la, lc, ln]; omega)]
    simp only [Option.bind_some]
    rw [<- ofS_app2]
    rw [j2_ok hk hd hs hp (T := T ++ ([108, 97, 121, 111, 117, 116, 32] ++ d.Layout ++ [59, 10])) (.inl ⟨rfl, rfl, by simp only [la, lc, ln]; omega⟩)]
    simp only [List.flatMap_append, List.flatMap_cons, List.flatMap_nil, List.append_nil, List.append_assoc, xO]
  ·cases h
 unfold qd.Print jW jE linesT
 rw [Right_ok (by omega) hd, hp]
 simp only [Option.bind_some, Bool.not_true, Bool.false_eq_true, if_false, if_true]
 unfold startL
 by_cases hl : d.Start = []
 ·have := hj1 false [] [] (.inl ⟨rfl, rfl, by simp⟩) (by simp)
  simp only [hl, BEq.rfl, Bool.not_true, Bool.false_eq_true, if_false, if_true, List.nil_append] at this ⊢
  exact this
 ·have hl' : (!(d.Start == [])) = true := by simp [hl]
  rw [hl', if_pos rfl, if_neg hl, if_pos (dt (by simp only [la, lc, ln]; omega)), if_pos (dt (by simp only [la, lc, ln]; omega)), pc1_ok (by simp) (by simp only [la, lc, ln]; omega)]
  simp only [Option.bind_some, List.nil_append]
  rw [hj1 true _ ([115, 116, 97, 114, 116, 32] ++ d.Start ++ [59, 10]) (.inl ⟨rfl, rfl, by simp only [la, lc, ln]; omega⟩) (by simp only [la, lc, ln]; omega)]
  simp only [List.flatMap_append, List.flatMap_cons, List.flatMap_nil, List.append_nil, List.append_assoc, xO]
end
end Go.Vc
