/-
  A definition's text; both write it so; the law DefsWrites.
-/
import Derived.Test.YtdbnoblklhgdoaaGreatDoorRH
set_option linter.unusedVariables false
set_option linter.unusedSimpArgs false
set_option maxRecDepth 8000
namespace Go.Vc
open Go
theorem toS_ofS2 (s : List UInt8) : toS (ofS s) = s := by
  induction s with
  | nil => rfl
  | cons c r ih =>
    simp only [ofS, toS, List.map_cons] at *
    rw [ih]
    simp
theorem okB_ofS (s : List UInt8) : (ofS s).all okB = true := by
  rw [List.all_eq_true]
  intro c hc
  obtain ⟨h1, h2⟩ := u8b_ofS s c hc
  simp only [okB, Bool.and_eq_true, decide_eq_true_eq]
  omega
theorem ofS_app2 (a b : List UInt8) : ofS (a ++ b) = ofS a ++ ofS b := by simp [ofS]
theorem S4_eta (s : S4) : S4.mk s.w0 s.w1 s.w2 s.w3 = s := by cases s; rfl
def followT (f : Follow) : List UInt8 := [102, 111, 108, 108, 111, 119, 32] ++ f.Sort_ ++ [32] ++ Cp.printT f.Set
def rejectT (r : Reject) : List UInt8 := [114, 101, 106, 101, 99, 116, 32] ++ r.Sort_ ++ [32] ++ r.By
def boxT (b : Box) : List UInt8 := [98, 111, 120, 32] ++ b.Cons ++ [32, 61] ++ itsT b.Items
def endT (t : List UInt8) : List UInt8 := t ++ [59, 10]
def startL (d : Def) : List (List UInt8) := if d.Start = [] then [] else [[115, 116, 97, 114, 116, 32] ++ d.Start]
def layoutL (d : Def) : List (List UInt8) := if d.Layout = [] then [] else [[108, 97, 121, 111, 117, 116, 32] ++ d.Layout]
def linesT (d : Def) : List (List UInt8) := startL d ++ layoutL d ++ d.Prods.map prodT ++ d.Chains.map chainT ++ d.Follows.map followT ++ d.Rejects.map rejectT ++ d.Boxes.map boxT
def textT (d : Def) : List UInt8 := (linesT d).flatMap endT
def printR (d : Def) : List UInt8 × Int := if defP d then (if (textT d).length ≤ 65536 then (textT d, 0) else ([], 2)) else ([], 3)
structure OkSets (d : Def) : Prop where
  syms : ∀ p ∈ d.Prods, ∀ s ∈ p.Syms, Cp.okS s.Set
  follows : ∀ f ∈ d.Follows, Cp.okS f.Set
structure DefS (d : Def) : Prop where
  start : d.Start.length ≤ 32
  layout : d.Layout.length ≤ 32
  prods : ∀ p ∈ d.Prods, prodP p = true
  chains : ∀ c ∈ d.Chains, chainP c = true
  follows : ∀ f ∈ d.Follows, f.Sort_.length ≤ 32
  rejects : ∀ r ∈ d.Rejects, r.Sort_.length ≤ 32 ∧ r.By.length ≤ 32
  boxes : ∀ b ∈ d.Boxes, b.Cons.length ≤ 32 ∧ ∃ m, itsC b.Items 64 = some m
theorem defP_spec {d : Def} (h : defP d = true) : DefS d := by
  simp only [defP, Bool.and_eq_true, decide_eq_true_eq] at h
  obtain ⟨h1, h2, h3, h4, h5, h6, h7, h8⟩ := h
  refine ⟨nmE_len h1, nmE_len h2, List.all_eq_true.1 h4, List.all_eq_true.1 h5, fun f hf => (isNm_len (List.all_eq_true.1 h6 f hf)).2, fun r hr => ?_, fun b hb => ?_⟩
  · have := List.all_eq_true.1 h7 r hr
    simp only [Bool.and_eq_true] at this
    exact ⟨(isNm_len this.1).2, (isNm_len this.2).2⟩
  · have := List.all_eq_true.1 h8 b hb
    simp only [boxP, Bool.and_eq_true, Option.isSome_iff_exists] at this
    exact ⟨(isNm_len this.1).2, this.2⟩
theorem fol_ok {k : Nat} (hk : 200000 ≤ k) (f : Follow) (ho : Cp.okS f.Set) : ∃ w, w.length ≤ 2306 ∧ F.charset.Print k f.Set = some w ∧ F.ref01.Print k f.Set = some w ∧ followT f = [102, 111, 108, 108, 111, 119, 32] ++ f.Sort_ ++ [32] ++ w :=
  ⟨_, Cp.printT_len f.Set, Cp.Print_ok ho (by omega), Cp.refPrint_ok ho (by omega), rfl⟩
theorem followT_len {f : Follow} (h : f.Sort_.length ≤ 32) : (followT f).length ≤ 3000 := by
  have := Cp.printT_len f.Set
  unfold followT
  simp only [la, lc, ln]; omega
theorem rejectT_len {r : Reject} (h : r.Sort_.length ≤ 32 ∧ r.By.length ≤ 32) : (rejectT r).length ≤ 3000 := by
  obtain ⟨h1, h2⟩ := h
  unfold rejectT
  simp only [la, lc, ln]; omega
theorem boxT_len {b : Box} (h : b.Cons.length ≤ 32 ∧ ∃ m, itsC b.Items 64 = some m) : (boxT b).length ≤ 20000 := by
  obtain ⟨h1, m, h2⟩ := h
  obtain ⟨h3, _, _⟩ := itsT_len 64 _ m h2
  unfold boxT
  simp only [la, lc, ln]; omega
def Put (ok : Bool) (B : List Int) (T : List UInt8) : Prop := (ok = true ∧ B = ofS T ∧ T.length ≤ 65536) ∨ (ok = false ∧ 65536 < T.length)
theorem pc1_ok {a : Bool} {B : List Int} {s : List UInt8} (hB : B.length ≤ 100000) (hs : s.length ≤ 100000) : F.defs.Print_c1 s ⟨a, B⟩ = some (decide (B.length + s.length ≤ 65536), ⟨true, B ++ ofS s⟩) := by
  unfold F.defs.Print_c1 F.strings.Builder_Len
  rw [WS_ok (by omega) (by omega)]
  simp only [Option.bind_some]
  congr 2
  rw [Bool.eq_iff_iff]
  simp only [decide_eq_true_eq, List.length_append, ofS_len]
  omega
theorem loop_put {α : Type} {xs : List α} {f : α → List UInt8} {L : Nat → Bool → Int → Bool → List Int → Option (Bool × Bool × List Int)} {k : Nat} (hk : xs.length < k) (hf : ∀ x ∈ xs, (f x).length ≤ 100000)
    (h1 : ∀ j i a B, (h : i < xs.length) → B.length ≤ 65536 → L (j + 1) true (i : Int) a B = (F.defs.Print_c1 (f xs[i]) ⟨a, B⟩).bind fun v => L j v.1 ((i + 1 : Nat) : Int) v.2.addr v.2.buf)
    (h2 : ∀ j i ok a B, i ≤ xs.length → ok = false ∨ i = xs.length → L (j + 1) ok ((i : Nat) : Int) a B = some (ok, a, B)) {ok : Bool} {a : Bool} {B : List Int} {T : List UInt8} (hp : Put ok B T) :
    ∃ ok' a' B', L k ok 0 a B = some (ok', a', B') ∧ Put ok' B' (T ++ xs.flatMap f) := by
  have gen : ∀ j i ok a B T, i ≤ xs.length → xs.length - i < j → Put ok B T → ∃ ok' a' B', L j ok (i : Int) a B = some (ok', a', B') ∧ Put ok' B' (T ++ (xs.drop i).flatMap f) := by
    intro j
    induction j with
    | zero => intro i _ _ _ _ _ h; omega
    | succ j ih =>
      intro i ok a B T hi hj hp
      rcases hp with ⟨rfl, rfl, hT⟩ | ⟨rfl, hT⟩
      · by_cases h : i < xs.length
        · have hl := hf _ (List.getElem_mem h)
          rw [h1 j i a _ h (by rw [ofS_len]; exact hT), pc1_ok (by rw [ofS_len]; omega) hl]
          simp only [Option.bind_some, ofS_len]
          rw [List.drop_eq_getElem_cons h, List.flatMap_cons, ← List.append_assoc]
          refine ih (i + 1) _ _ _ _ (by omega) (by omega) ?_
          by_cases hle : T.length + (f xs[i]).length ≤ 65536
          · exact .inl ⟨decide_eq_true hle, (ofS_app2 _ _).symm, by rw [List.length_append]; exact hle⟩
          · exact .inr ⟨decide_eq_false hle, by rw [List.length_append]; omega⟩
        · refine ⟨_, _, _, h2 j i _ _ _ hi (.inr (by omega)), ?_⟩
          rw [List.drop_eq_nil_of_le (by omega)]
          exact .inl ⟨rfl, by simp, by simpa using hT⟩
      · refine ⟨_, _, _, h2 j i _ _ _ hi (.inl rfl), .inr ⟨rfl, ?_⟩⟩
        rw [List.length_append]
        omega
  have := gen k 0 ok a B T (by omega) (by omega) hp
  rwa [zero_cast, List.drop_zero] at this
section
variable {k : Nat} {d : Def} (hk : 200000 ≤ k) (hd : Bd d) (hs : OkSets d) (hp : defP d = true)
include hk hd hs hp
theorem j2_ok {a : Bool} {B : List Int} {T : List UInt8} (hB : Put true B T) : F.defs.Print_j2 k d a B = some (if (T ++ (d.Prods.map prodT ++ d.Chains.map chainT ++ d.Follows.map followT ++ d.Rejects.map rejectT ++ d.Boxes.map boxT).flatMap endT).length ≤ 65536 then (T ++ (d.Prods.map prodT ++ d.Chains.map chainT ++ d.Follows.map followT ++ d.Rejects.map rejectT ++ d.Boxes.map boxT).flatMap endT, 0) else ([], 2)) := by
  obtain ⟨b1, _, b2, _, _, b3, b4, b5⟩ := hd
  obtain ⟨_, _, s3, s4, s5, s6, s7⟩ := defP_spec hp
  obtain ⟨t1, t2⟩ := hs
  unfold F.defs.Print_j2
  obtain ⟨ok1, a1, B1, e1, p1⟩ := loop_put (xs := d.Prods) (f := fun x => endT (prodT x)) (L := fun j ok i a B => F.defs.Print_l3 k d j ok i a B) (k := k) (by omega) (fun x hx => by have := prodT_len (s3 x hx); unfold endT; simp only [la, lc, ln]; omega)
    (fun j i a B h hB => by
      have hm := List.getElem_mem h
      simp only [F.defs.Print_l3, F.defs.Print_j4, ix_lt h, ix_in h, ix_at h, if_true, (prodText_ok hk (s3 _ hm) (t1 _ hm)).1, Option.bind_some, ix_inc (show i < 4611686018427387904 by omega)]
      rfl)
    (fun j i ok a B hi hc => by
      simp only [F.defs.Print_l3, F.defs.Print_j4]
      rcases hc with rfl | rfl
      · split <;> rfl
      · rw [ix_ge (Nat.lt_irrefl _)]; rfl) (a := a) hB
  obtain ⟨ok2, a2, B2, e2, p2⟩ := loop_put (xs := d.Chains) (f := fun x => endT (chainT x)) (L := fun j ok i a B => F.defs.Print_l5 k d j ok i a B) (k := k) (by omega) (fun x hx => by have := chainT_len (s4 x hx); unfold endT; simp only [la, lc, ln]; omega)
    (fun j i a B h hB => by
      have hm := List.getElem_mem h
      simp only [F.defs.Print_l5, F.defs.Print_j6, ix_lt h, ix_in h, ix_at h, if_true, chainText_ok hk (s4 _ hm), Option.bind_some, ix_inc (show i < 4611686018427387904 by omega)]
      rfl)
    (fun j i ok a B hi hc => by
      simp only [F.defs.Print_l5, F.defs.Print_j6]
      rcases hc with rfl | rfl
      · split <;> rfl
      · rw [ix_ge (Nat.lt_irrefl _)]; rfl) (a := a1) p1
  obtain ⟨ok3, a3, B3, e3, p3⟩ := loop_put (xs := d.Follows) (f := fun x => endT (followT x)) (L := fun j ok i a B => F.defs.Print_l7 k d j ok i a B) (k := k) (by omega) (fun x hx => by have := followT_len (s5 x hx); unfold endT; simp only [la, lc, ln]; omega)
    (fun j i a B h hB => by
      have hm := List.getElem_mem h
      have hl := s5 _ hm
      obtain ⟨w, hpl, e, _, hT⟩ := fol_ok hk d.Follows[i] (t2 _ hm)
      simp only [F.defs.Print_l7, F.defs.Print_j8, ix_lt h, ix_in h, ix_at h, if_true, S4_eta, e, Option.bind_some, ix_inc (show i < 4611686018427387904 by omega)]
      rw [if_pos (dt (by simp only [la, lc, ln]; omega)), if_pos (dt (by simp only [la, lc, ln]; omega)), if_pos (dt (by simp only [la, lc, ln]; omega)), if_pos (dt (by simp only [la, lc, ln]; omega))]
      rw [hT]
      rfl)
    (fun j i ok a B hi hc => by
      simp only [F.defs.Print_l7, F.defs.Print_j8]
      rcases hc with rfl | rfl
      · split <;> rfl
      · rw [ix_ge (Nat.lt_irrefl _)]; rfl) (a := a2) p2
  obtain ⟨ok4, a4, B4, e4, p4⟩ := loop_put (xs := d.Rejects) (f := fun x => endT (rejectT x)) (L := fun j ok i a B => F.defs.Print_l9 d j ok i a B) (k := k) (by omega) (fun x hx => by have := rejectT_len (s6 x hx); unfold endT; simp only [la, lc, ln]; omega)
    (fun j i a B h hB => by
      have hm := List.getElem_mem h
      obtain ⟨hl, hl2⟩ := s6 _ hm
      simp only [F.defs.Print_l9, F.defs.Print_j10, ix_lt h, ix_in h, ix_at h, if_true, Option.bind_some, ix_inc (show i < 4611686018427387904 by omega)]
      rw [if_pos (dt (by simp only [la, lc, ln]; omega)), if_pos (dt (by simp only [la, lc, ln]; omega)), if_pos (dt (by simp only [la, lc, ln]; omega)), if_pos (dt (by simp only [la, lc, ln]; omega))]
      rfl)
    (fun j i ok a B hi hc => by
      simp only [F.defs.Print_l9, F.defs.Print_j10]
      rcases hc with rfl | rfl
      · split <;> rfl
      · rw [ix_ge (Nat.lt_irrefl _)]; rfl) (a := a3) p3
  obtain ⟨ok5, a5, B5, e5, p5⟩ := loop_put (xs := d.Boxes) (f := fun x => endT (boxT x)) (L := fun j ok i a B => F.defs.Print_l11 k d j ok i a B) (k := k) (by omega) (fun x hx => by have := boxT_len (s7 x hx); unfold endT; simp only [la, lc, ln]; omega)
    (fun j i a B h hB => by
      have hm := List.getElem_mem h
      obtain ⟨hl, m, hc⟩ := s7 _ hm
      obtain ⟨hil, _, _⟩ := itsT_len 64 _ m hc
      simp only [F.defs.Print_l11, F.defs.Print_j12, ix_lt h, ix_in h, ix_at h, if_true, (itemsText_ok 64 _ m k (by omega) hc (by omega)).1, Option.bind_some, ix_inc (show i < 4611686018427387904 by omega)]
      rw [if_pos (dt (by simp only [la, lc, ln]; omega)), if_pos (dt (by simp only [la, lc, ln]; omega)), if_pos (dt (by simp only [la, lc, ln]; omega)), if_pos (dt (by simp only [la, lc, ln]; omega))]
      rfl)
    (fun j i ok a B hi hc => by
      simp only [F.defs.Print_l11, F.defs.Print_j12]
      rcases hc with rfl | rfl
      · split <;> rfl
      · rw [ix_ge (Nat.lt_irrefl _)]; rfl) (a := a4) p4
  simp only [e1, e2, e3, e4, e5, Option.bind_some]
  have eT : T ++ d.Prods.flatMap (fun x => endT (prodT x)) ++ d.Chains.flatMap (fun x => endT (chainT x)) ++ d.Follows.flatMap (fun x => endT (followT x)) ++ d.Rejects.flatMap (fun x => endT (rejectT x)) ++ d.Boxes.flatMap (fun x => endT (boxT x)) = T ++ (d.Prods.map prodT ++ d.Chains.map chainT ++ d.Follows.map followT ++ d.Rejects.map rejectT ++ d.Boxes.map boxT).flatMap endT := by
    simp only [List.flatMap_append, List.flatMap_map, List.append_assoc]
  rw [eT] at p5
  rcases p5 with ⟨rfl, rfl, hl⟩ | ⟨rfl, hl⟩
  · rw [if_pos hl]
    simp only [Bool.not_true, Bool.false_eq_true, if_false]
    unfold F.strings.Builder_String
    rw [if_pos (okB_ofS _), toS_ofS2]
    rfl
  · simp only [Bool.not_false, if_true]
    rw [if_neg (by omega)]
theorem Print_right : F.defs.Print k d = some (printR d) := by
  obtain ⟨s1, s2, _⟩ := defP_spec hp
  have hj1 : ∀ a B T, Put true B T → T.length ≤ 60 → F.defs.Print_j1 k d a B = some (if (T ++ (layoutL d ++ d.Prods.map prodT ++ d.Chains.map chainT ++ d.Follows.map followT ++ d.Rejects.map rejectT ++ d.Boxes.map boxT).flatMap endT).length ≤ 65536 then (T ++ (layoutL d ++ d.Prods.map prodT ++ d.Chains.map chainT ++ d.Follows.map followT ++ d.Rejects.map rejectT ++ d.Boxes.map boxT).flatMap endT, 0) else ([], 2)) := by
    intro a B T hB hT
    obtain ⟨_, rfl, _⟩ | ⟨h, _⟩ := hB
    · unfold F.defs.Print_j1 layoutL
      by_cases hl : d.Layout = []
      · have := j2_ok hk hd hs hp (a := a) (B := ofS T) (T := T) (.inl ⟨rfl, rfl, by omega⟩)
        simp only [hl, BEq.rfl, Bool.not_true, Bool.false_eq_true, if_false, if_true, List.nil_append]
        exact this
      · have hl' : (!(d.Layout == [])) = true := by simp [hl]
        rw [hl', if_pos rfl, if_neg hl, if_pos (dt (by simp only [la, lc, ln]; omega)), if_pos (dt (by simp only [la, lc, ln]; omega)), pc1_ok (by rw [ofS_len]; omega) (by simp only [la, lc, ln]; omega)]
        simp only [Option.bind_some]
        rw [← ofS_app2]
        rw [j2_ok hk hd hs hp (T := T ++ ([108, 97, 121, 111, 117, 116, 32] ++ d.Layout ++ [59, 10])) (.inl ⟨rfl, rfl, by simp only [la, lc, ln]; omega⟩)]
        simp only [List.flatMap_append, List.flatMap_cons, List.flatMap_nil, List.append_nil, List.append_assoc, endT]
    · cases h
  unfold F.defs.Print printR textT linesT
  rw [Right_ok (by omega) hd, hp]
  simp only [Option.bind_some, Bool.not_true, Bool.false_eq_true, if_false, if_true]
  unfold startL
  by_cases hl : d.Start = []
  · have := hj1 false [] [] (.inl ⟨rfl, rfl, by simp⟩) (by simp)
    simp only [hl, BEq.rfl, Bool.not_true, Bool.false_eq_true, if_false, if_true, List.nil_append] at this ⊢
    exact this
  · have hl' : (!(d.Start == [])) = true := by simp [hl]
    rw [hl', if_pos rfl, if_neg hl, if_pos (dt (by simp only [la, lc, ln]; omega)), if_pos (dt (by simp only [la, lc, ln]; omega)), pc1_ok (by simp) (by simp only [la, lc, ln]; omega)]
    simp only [Option.bind_some, List.nil_append]
    rw [hj1 true _ ([115, 116, 97, 114, 116, 32] ++ d.Start ++ [59, 10]) (.inl ⟨rfl, rfl, by simp only [la, lc, ln]; omega⟩) (by simp only [la, lc, ln]; omega)]
    simp only [List.flatMap_append, List.flatMap_cons, List.flatMap_nil, List.append_nil, List.append_assoc, endT]
end
end Go.Vc
