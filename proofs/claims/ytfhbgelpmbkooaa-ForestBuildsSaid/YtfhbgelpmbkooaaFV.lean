import Derived.Test.YtfhbgelpmbkooaaFU
set_option linter.unusedVariables false
set_option linter.unusedSimpArgs false
namespace Go.Vc
open Go Ea
section
variable {g : Gram} {w : List Int}
theorem fin_any {S : List (List It)} {g' : Gram} (hg' : g'.Rules = g.Rules) {w' : List Int} {a j : Nat} : (at' S j).any (fin g a) = true ↔ ∃ x ∈ at' S j, ∃ r, (Rs g' w')[x.rule]? = some r ∧ r.lhs = a ∧ x.from_ = 0 ∧ x.dot = r.rhs.length := by
  rw [List.any_eq_true]
  constructor
  · rintro ⟨x, hx, hf⟩
    unfold fin at hf
    cases hr : g.Rules[x.rule]? with
    | none => rw [hr] at hf; cases hf
    | some r =>
      rw [hr] at hf
      simp only [Bool.and_eq_true, decide_eq_true_eq] at hf
      refine ⟨x, hx, toRu w' r, ?_, hf.1, hf.2.1, by rw [toRu_len]; exact hf.2.2⟩
      unfold Rs
      rw [List.getElem?_map, hg', hr]; rfl
  · rintro ⟨x, hx, r, h1, h2, h3, h4⟩
    refine ⟨x, hx, ?_⟩
    unfold Rs at h1
    rw [List.getElem?_map, hg'] at h1
    obtain ⟨y, hy, rfl⟩ := Option.map_eq_some_iff.1 h1
    rw [toRu_len] at h4
    unfold fin
    rw [hy]
    simp only [Bool.and_eq_true, decide_eq_true_eq]
    exact ⟨h2, h3, h4⟩
theorem Spans_ok {k : Nat} (hk : 100000 ≤ k) (hr : rightB g = true) (hsm : SmallG g) (hw : Bytes w) (hwl : w.length ≤ 20) {nt : Int} (h0 : 0 ≤ nt) (h1 : nt < g.Nts) :
    ∃ L, F.earley.Spans k g w nt = some (L, 0) ∧ L.length ≤ 1000 ∧ RunsI (fun a b => ∃ lo hi : Nat, a = lo ∧ b = hi ∧ hi ≤ w.length ∧ DerY (Rs g w) (.nt nt.toNat) lo hi) L := by
  have hg := rightG hr
  have hfit : F.earley.fit k g w = some 0 := by
    unfold F.earley.fit
    rw [Right_ok (by omega), hr, if_pos rfl, Option.bind_some]
    have : ¬ (512 < (w.length : Int)) := by omega
    simp [this]
  unfold F.earley.Spans
  rw [hfit, Option.bind_some]
  have n1 : ¬ (nt < 0) := by omega
  have n2 : ¬ (g.Nts ≤ nt) := by omega
  simp only [n1, n2, decide_false, Bool.false_eq_true, if_false, bne_self_eq_false]
  have key := loop_inv0 (n := w.length + 1) (k := k) (σ := List Run) (s := []) (L := fun j i s => F.earley.Spans_l1 k w g nt j s i)
    (I := fun q s => s.length ≤ q * 30 ∧ RunsI (fun a b => ∃ lo hi : Nat, lo < q ∧ a = lo ∧ b = hi ∧ hi ≤ w.length ∧ DerY (Rs g w) (.nt nt.toNat) lo hi) s)
    (Q := fun o => ∃ L, o = some L ∧ L.length ≤ 1000 ∧ RunsI (fun a b => ∃ lo hi : Nat, a = lo ∧ b = hi ∧ hi ≤ w.length ∧ DerY (Rs g w) (.nt nt.toNat) lo hi) L) (by omega) ⟨by simp, fun x => by simp⟩ (fun j q s hq hI => ?_) (fun j s hI => ?_)
  · obtain ⟨L, e, hL⟩ := key
    exact ⟨L, by rw [e]; rfl, hL⟩
  · left
    have hlt : decide ((q : Int) ≤ (w.length : Int)) = true := decide_eq_true (by omega)
    have hok : okSub (q : Int) (w.length : Int) w.length = true := okSub_iff.2 ⟨⟨by omega, by omega⟩, by omega⟩
    have hqw : q ≤ w.length := by omega
    have hg' : RightG ⟨g.Nts, nt, g.Rules⟩ := ⟨hg.n1, hg.n2, h0, h1, hg.len, hg.lhs1, hg.lhs2, hg.rhs, hg.nt1, hg.nt2⟩
    have hsm' : SmallG ⟨g.Nts, nt, g.Rules⟩ := ⟨hsm.nts, hsm.sum⟩
    have hdl : (w.drop q).length = w.length - q := List.length_drop
    obtain ⟨c, S, e1, e2, e3, e4, e5⟩ := earley_open_ok (g := ⟨g.Nts, nt, g.Rules⟩) (w := w.drop q) hk hg' hsm' (fun b hb => hw b (List.mem_of_mem_drop hb)) (by omega)
    have hBr : ∀ j, ∀ y ∈ at' S j, y.rule < g.Rules.length := by
      intro j y hy
      obtain ⟨⟨r, h2, _⟩, _⟩ := e4.it j y hy
      exact (Rs_get h2).1
    obtain ⟨out', z, f1, f2, f3⟩ := Spans_l2_ok hk hg h0 (c := c) e2 (by omega) e4 hBr (lo := q) (by omega) (out := s) (by have := hI.1; omega) hI.2
    refine ⟨out', ⟨by have := hI.1; omega, fun x => ?_⟩, ?_⟩
    · rw [f3 x]
      constructor
      · rintro (⟨lo, hi, a1, a2, a3, a4, a5⟩ | ⟨a1, j', a2, a3, a4⟩)
        · exact ⟨lo, hi, by omega, a2, a3, a4, a5⟩
        · have h3 := (e5 j' (by omega)).1 ((fin_any (g := g) (g' := ⟨g.Nts, nt, g.Rules⟩) rfl).1 a4)
          rw [Rs_drop hqw ⟨g.Nts, nt, g.Rules⟩ rfl] at h3
          have h4 := derY_shift.1 h3
          exact ⟨q, q + j', by omega, a1, by omega, by omega, h4⟩
      · rintro ⟨lo, hi, a1, a2, a3, a4, a5⟩
        by_cases hlo : lo = q
        · subst hlo
          right
          have hle : lo ≤ hi := Der.le a5
          refine ⟨a2, hi - lo, by omega, by omega, ?_⟩
          refine (fin_any (g := g) (g' := ⟨g.Nts, nt, g.Rules⟩) (w' := w.drop lo) rfl).2 ((e5 (hi - lo) (by omega)).2 ?_)
          rw [Rs_drop hqw ⟨g.Nts, nt, g.Rules⟩ rfl]
          refine derY_shift.2 ?_
          rw [show lo + (hi - lo) = hi by omega]
          exact a5
        · exact .inl ⟨lo, hi, by omega, a2, a3, a4, a5⟩
    · simp only [F.earley.Spans_l1, hlt, hok, if_true, sub_drop]
      rw [e1, Option.bind_some, f1, Option.bind_some, ix_inc (by omega)]
  · have hlt : decide (((w.length + 1 : Nat) : Int) ≤ (w.length : Int)) = false := decide_eq_false (by omega)
    simp only [F.earley.Spans_l1, hlt, Bool.false_eq_true, if_false]
    refine ⟨s, rfl, by have := hI.1; omega, fun x => ?_⟩
    rw [hI.2 x]
    constructor
    · rintro ⟨lo, hi, _, h⟩
      exact ⟨lo, hi, h⟩
    · rintro ⟨lo, hi, a2, a3, a4, a5⟩
      have := Der.le a5
      exact ⟨lo, hi, by omega, a2, a3, a4, a5⟩
theorem qS_iff {a b : Forest_span} : qForest_span a b = true ↔ a = b := by
  cases a; cases b
  simp [qForest_span]
theorem qP_iff {a b : Forest_part} : qForest_part a b = true ↔ a = b := by
  cases a; cases b
  simp [qForest_part]
instance : DecidableEq Forest_span := fun a b => if h : qForest_span a b = true then isTrue (qS_iff.1 h) else isFalse fun e => h (qS_iff.2 e)
instance : DecidableEq Forest_part := fun a b => if h : qForest_part a b = true then isTrue (qP_iff.1 h) else isFalse fun e => h (qP_iff.2 e)
def WholeI (P : Forest_span → Prop) (m : List (Forest_span × Int)) : Prop := ∀ x, ((tget qForest_span x m).getD 0 = 1 ∧ P x) ∨ ((tget qForest_span x m).getD 0 = 0 ∧ ¬ P x)
theorem WholeI.put {P : Forest_span → Prop} {m : List (Forest_span × Int)} (h : WholeI P m) (y : Forest_span) : WholeI (fun x => P x ∨ x = y) (tput qForest_span y 1 m) := by
  intro x
  rw [tget_tput (fun a b => qS_iff)]
  by_cases hx : x = y
  · rw [if_pos hx]
    exact .inl ⟨rfl, .inr hx⟩
  · rw [if_neg hx]
    rcases h x with ⟨h1, h2⟩ | ⟨h1, h2⟩
    · exact .inl ⟨h1, .inl h2⟩
    · exact .inr ⟨h1, fun h => by rcases h with h | h; exact h2 h; exact hx h⟩
theorem WholeI.congr {P P' : Forest_span → Prop} {m : List (Forest_span × Int)} (h : WholeI P m) (e : ∀ x, P x ↔ P' x) : WholeI P' m := fun x => by
  rcases h x with ⟨h1, h2⟩ | ⟨h1, h2⟩
  · exact .inl ⟨h1, (e x).1 h2⟩
  · exact .inr ⟨h1, fun h => h2 ((e x).2 h)⟩
theorem open_l7_ok {k : Nat} (hk : 100000 ≤ k) {L : List Run} (hL : L.length ≤ 1000) {t : Int} {P : Forest_span → Prop} {m : List (Forest_span × Int)} (h : WholeI P m) :
    ∃ z m', F.forest.open__l7 (L, 0) t k 0 m = some (z, m') ∧ WholeI (fun x => P x ∨ (x.nt = t ∧ ⟨x.from_, x.to⟩ ∈ L)) m' := by
  refine loop_inv0 (n := L.length) (k := k) (σ := List (Forest_span × Int)) (s := m) (L := fun j i s => F.forest.open__l7 (L, 0) t j i s) (I := fun q s => WholeI (fun x => P x ∨ (x.nt = t ∧ ⟨x.from_, x.to⟩ ∈ L.take q)) s)
    (Q := fun o => ∃ z m', o = some (z, m') ∧ WholeI (fun x => P x ∨ (x.nt = t ∧ ⟨x.from_, x.to⟩ ∈ L)) m') (by omega) (h.congr fun x => by simp) (fun j q s hq hI => ?_) (fun j s hI => ?_)
  · left
    refine ⟨_, (hI.put ⟨t, L[q].Lo, L[q].Hi⟩).congr fun x => ?_, ?_⟩
    · rw [List.take_succ_eq_append_getElem hq, List.mem_append, List.mem_singleton]
      constructor
      · rintro ((h | ⟨h1, h2⟩) | rfl)
        · exact .inl h
        · exact .inr ⟨h1, .inl h2⟩
        · exact .inr ⟨rfl, .inr rfl⟩
      · rintro (h | ⟨h1, h2 | h2⟩)
        · exact .inl (.inl h)
        · exact .inl (.inr ⟨h1, h2⟩)
        · right
          cases x
          simp only at h1 h2
          rw [h1, ← h2]
    · simp only [F.forest.open__l7, ix_lt hq, ix_in hq, ix_at hq, if_true]
      rw [ix_inc (by omega)]
  · rw [List.take_length] at hI
    simp only [F.forest.open__l7, ix_ge (Nat.lt_irrefl _), Bool.false_eq_true, if_false]
    exact ⟨_, _, rfl, hI⟩
structure Grove (g : Gram) (w : List Int) (v : Forest_grove) : Prop where
  gr : v.g = g
  tx : v.w_ = w
  byl : v.by_.length = g.Nts.toNat
  by_ : ByR v.by_ (byG g)
  whole : WholeI (fun x => ∃ a i j : Nat, x = ⟨(a : Int), (i : Int), (j : Int)⟩ ∧ a < g.Nts.toNat ∧ j ≤ w.length ∧ DerY (Rs g w) (.nt a) i j) v.whole
theorem no_rules {a i j : Nat} (h : byG g a = []) : ¬ DerY (Rs g w) (.nt a) i j := by
  intro hd
  obtain ⟨r, hr, hl, _⟩ := derY_nt.1 hd
  obtain ⟨q, hq⟩ := List.mem_iff_getElem?.1 hr
  have := (byG_Bys g w a q).2 ⟨r, hq, hl⟩
  rw [h] at this
  cases this
theorem forest_open_ok {k : Nat} (hk : 100000 ≤ k) (hr : rightB g = true) (hsm : SmallG g) (hw : Bytes w) (hwl : w.length ≤ 20) : ∃ v, F.forest.open_ k g w = some v ∧ Grove g w v ∧ v.counts = [] ∧ v.rows = [] := by
  have hg := rightG hr
  have hn1 := hg.n1
  have hn2 := hsm.nts
  have hlr := hsm.rules
  have d1 : decide (0 ≤ g.Nts) = true := decide_eq_true (by omega)
  have d2 : decide (24 * g.Nts.toNat ≤ 140737488355328) = true := decide_eq_true (by omega)
  have d3 : decide (g.Nts.toNat ≤ 9223372036854775807) = true := decide_eq_true (by omega)
  obtain ⟨by_, eb, hbl, hby⟩ := forest_by_ok (k := k) (by omega) hg
  unfold F.forest.open_ F.forest.open__j1
  simp only [d1, d2, d3, if_true]
  rw [eb, Option.bind_some]
  have key := loop_inv0 (n := g.Nts.toNat) (k := k) (σ := List (Forest_span × Int)) (s := []) (L := fun j i s => F.forest.open__l5 k g by_ w j i s)
    (I := fun q s => WholeI (fun x => ∃ a i j : Nat, x = ⟨(a : Int), (i : Int), (j : Int)⟩ ∧ a < q ∧ j ≤ w.length ∧ DerY (Rs g w) (.nt a) i j) s)
    (Q := fun o => ∃ m, o = some m ∧ WholeI (fun x => ∃ a i j : Nat, x = ⟨(a : Int), (i : Int), (j : Int)⟩ ∧ a < g.Nts.toNat ∧ j ≤ w.length ∧ DerY (Rs g w) (.nt a) i j) m) (by omega) (fun x => .inr ⟨by simp [tget], by simp⟩) (fun j q s hq hI => ?_) (fun j s hI => ?_)
  · obtain ⟨m, e, hm⟩ := key
    rw [e, Option.bind_some]
    exact ⟨_, rfl, ⟨rfl, rfl, hbl, hby, hm⟩, rfl, rfl⟩
  · left
    have hlt : decide ((q : Int) < g.Nts) = true := decide_eq_true (by omega)
    have hin : inR (q : Int) by_.length = true := inR_iff.2 ⟨by omega, by omega⟩
    have hat : at_ by_ (q : Int) = (byG g q).map fun q : Nat => (q : Int) := hby q
    simp only [F.forest.open__l5, hlt, hin, if_true, hat]
    unfold F.forest.open__j6
    rw [ix_inc (by omega)]
    by_cases he : byG g q = []
    · have h0 : ((((byG g q).map fun q : Nat => (q : Int)).length : Int) == 0) = true := by rw [he]; rfl
      rw [h0, if_pos rfl]
      refine ⟨s, hI.congr fun x => ?_, rfl⟩
      constructor
      · rintro ⟨a, i, j, h1, h2, h3⟩
        exact ⟨a, i, j, h1, by omega, h3⟩
      · rintro ⟨a, i, j, h1, h2, h3, h4⟩
        have : a ≠ q := by
          rintro rfl
          exact no_rules he h4
        exact ⟨a, i, j, h1, by omega, h3, h4⟩
    · have h0 : ((((byG g q).map fun q : Nat => (q : Int)).length : Int) == 0) = false := by
        rw [beq_eq_false_iff_ne, List.length_map]
        have : (byG g q).length ≠ 0 := fun h => he (List.eq_nil_of_length_eq_zero h)
        omega
      rw [h0, if_neg (by simp)]
      obtain ⟨L, eL, hL1, hL2⟩ := Spans_ok hk hr hsm hw hwl (nt := (q : Int)) (by omega) (by omega)
      obtain ⟨z, m', em, hm'⟩ := open_l7_ok hk hL1 (t := (q : Int)) hI
      rw [eL, Option.bind_some, em, Option.bind_some]
      refine ⟨m', hm'.congr fun x => ?_, rfl⟩
      constructor
      · rintro (⟨a, i, j, h1, h2, h3⟩ | ⟨h1, h2⟩)
        · exact ⟨a, i, j, h1, by omega, h3⟩
        · obtain ⟨lo, hi, a1, a2, a3, a4⟩ := (hL2 _).1 h2
          refine ⟨q, lo, hi, ?_, by omega, a3, a4⟩
          cases x
          simp only at h1 a1 a2
          rw [h1, a1, a2]
      · rintro ⟨a, i, j, h1, h2, h3, h4⟩
        by_cases ha : a = q
        · subst ha
          right
          subst h1
          exact ⟨rfl, (hL2 _).2 ⟨i, j, rfl, rfl, h3, h4⟩⟩
        · exact .inl ⟨a, i, j, h1, by omega, h3, h4⟩
  · have hlt : decide (((g.Nts.toNat : Nat) : Int) < g.Nts) = false := decide_eq_false (by omega)
    simp only [F.forest.open__l5, hlt, Bool.false_eq_true, if_false]
    exact ⟨s, rfl, hI⟩
end
end Go.Vc
namespace Go.Vc
open Go Ea
def spn (a i j : Nat) : Forest_span := ⟨(a : Int), (i : Int), (j : Int)⟩
def prt (q d i j : Nat) : Forest_part := ⟨(q : Int), (d : Int), (i : Int), (j : Int)⟩
theorem spn_inj {a i j a' i' j' : Nat} (h : spn a i j = spn a' i' j') : a = a' ∧ i = i' ∧ j = j' := by
  simp only [spn, Forest_span.mk.injEq, Int.natCast_inj] at h
  exact h
theorem prt_inj {q d i j q' d' i' j' : Nat} (h : prt q d i j = prt q' d' i' j') : q = q' ∧ d = d' ∧ i = i' ∧ j = j' := by
  simp only [prt, Forest_part.mk.injEq, Int.natCast_inj] at h
  exact h
def hasW (v : Forest_grove) (a i j : Nat) : Bool := decide (0 < (tget qForest_span (spn a i j) v.whole).getD 0)
structure GR (g : Gram) (w : List Int) (v0 : Forest_grove) (st : Kn) (v : Forest_grove) : Prop where
  gr : v.g = g
  tx : v.w_ = w
  by_ : v.by_ = v0.by_
  wh : v.whole = v0.whole
  c : ∀ a i j, tget qForest_span (spn a i j) v.counts = (known st (.c a i j)).map fun n : Nat => (n : Int)
  r : ∀ q d i j, tget qForest_part (prt q d i j) v.rows = (known st (.r q d i j)).map fun n : Nat => (n : Int)
  le : ∀ x n, known st x = some n → n ≤ top
theorem known_cons {x y : Qu} {n : Nat} {st : Kn} : known ((x, n) :: st) y = if x = y then some n else known st y := by
  unfold known
  rw [List.find?_cons]
  by_cases h : x = y
  · subst h; simp
  · have : (x == y) = false := by simpa using h
    rw [this, if_neg h]
theorem add_F {a b : Nat} (ha : a ≤ top) (hb : b ≤ top) : F.forest.add (a : Int) (b : Int) = some ((sat (a + b) : Nat) : Int) := by
  have ht : (top : Int) = 4611686018427387904 := rfl
  have := @add_sat a b
  unfold top at ha hb
  unfold F.forest.add
  rw [wrap_i64 (by omega) (by omega)]
  rw [ht] at this
  rw [← this]
  by_cases h : (4611686018427387904 : Int) - (b : Int) < (a : Int)
  · simp [h]
  · simp only [h, decide_false, Bool.false_eq_true, if_false]
    rw [wrap_i64 (by omega) (by omega)]
theorem mul_F {a b : Nat} (ha : a ≤ top) (hb : b ≤ top) : F.forest.mul (a : Int) (b : Int) = some ((sat (a * b) : Nat) : Int) := by
  have hT : top = 4611686018427387904 := rfl
  unfold F.forest.mul F.forest.mul_j1
  rcases Nat.eq_zero_or_pos a with h0 | h0
  · subst h0
    simp [sat, wrap_i64]
  · have d1 : decide ((0 : Int) < (a : Int)) = true := decide_eq_true (by omega)
    have d2 : ((a : Int) == 0) = false := by rw [beq_eq_false_iff_ne]; omega
    simp only [d1, d2, if_true, Bool.false_eq_true, if_false]
    have hq : gquo .i64 4611686018427387904 (a : Int) = ((top / a : Nat) : Int) := by
      unfold gquo
      rw [Int.tdiv_eq_ediv_of_nonneg (by omega), hT]
      have : (4611686018427387904 : Int) / (a : Int) = ((4611686018427387904 / a : Nat) : Int) := by rw [Int.natCast_ediv]; rfl
      rw [this]
      have h2 : 4611686018427387904 / a ≤ 4611686018427387904 := Nat.div_le_self _ _
      generalize 4611686018427387904 / a = t at *
      exact wrap_i64 (by omega) (by omega)
    rw [hq]
    by_cases h : top / a < b
    · have := (mul_gt (b := b) h0).1 h
      have e : sat (a * b) = top := sat_ge (by omega)
      have d3 : decide (((top / a : Nat) : Int) < (b : Int)) = true := decide_eq_true (by omega)
      rw [d3, if_pos rfl, e, hT]; rfl
    · have h3 : a * b ≤ top := by
        rcases Nat.lt_or_ge top (a * b) with h4 | h4
        · exact absurd ((mul_gt h0).2 h4) h
        · exact h4
      have d3 : decide (((top / a : Nat) : Int) < (b : Int)) = false := decide_eq_false (by omega)
      rw [d3, if_neg (by simp), sat_of_le h3]
      have e : ((a : Int) * (b : Int)) = ((a * b : Nat) : Int) := by simp
      rw [e, wrap_i64 (by omega) (by omega)]
section
variable {g : Gram} {w : List Int} {v0 : Forest_grove}
theorem GR.mk_eq {st : Kn} {v vv : Forest_grove} (h : GR g w v0 st v) (h1 : vv.g = g) (h2 : vv.w_ = w) (h3 : vv.by_ = v0.by_) : Forest_grove.mk vv.g vv.w_ vv.by_ v.whole v.counts v.rows = v := by
  cases v; cases vv
  have := h.gr; have := h.tx; have := h.by_
  simp_all
theorem sym_F {v : Forest_grove} (hw : Bytes w) (h1 : v.w_ = w) (h2 : v.whole = v0.whole) {s : KSym} {m j : Nat} (hmj : m ≤ j) (hj : j ≤ w.length) (hwl : w.length ≤ 20) : F.forest.grove_sym v s (m : Int) (j : Int) = some (symB (hasW v0) (toSy w s) m j) := by
  unfold F.forest.grove_sym toSy
  by_cases h0 : 0 ≤ s.Nt
  · have d : decide (s.Nt < 0) = false := decide_eq_false (by omega)
    rw [d, if_neg (by simp), if_pos h0, h2]
    show some (decide (0 < (tget qForest_span ⟨s.Nt, (m : Int), (j : Int)⟩ v0.whole).getD 0)) = some (decide (0 < (tget qForest_span ⟨(s.Nt.toNat : Int), (m : Int), (j : Int)⟩ v0.whole).getD 0))
    rw [Int.toNat_of_nonneg h0]
  · have d : decide (s.Nt < 0) = true := decide_eq_true (by omega)
    rw [d, if_pos rfl, if_neg h0]
    unfold symB
    simp only
    by_cases hjm : j = m + 1
    · subst hjm
      have e : (((m + 1 : Nat) : Int) == IntKind.wrap .i64 ((m : Int) + 1)) = true := by rw [ix_inc (by omega)]; simp
      have hm : m < w.length := by omega
      have hb := hw _ (List.getElem_mem hm)
      rw [e, if_pos rfl, h1, ix_in hm, if_pos rfl, ix_at hm, Has_ok hb.1 hb.2, Option.bind_some]
      simp [hm]
    · have e : ((j : Int) == IntKind.wrap .i64 ((m : Int) + 1)) = false := by
        rw [ix_inc (by omega), beq_eq_false_iff_ne]; omega
      rw [e, if_neg (by simp)]
      simp [hjm]
def askF (k : Nat) (v : Forest_grove) : Qu → Option (Int × Forest_grove)
  | .c a i j => F.forest.grove_count k v (spn a i j)
  | .r q d i j => F.forest.grove_row k v (prt q d i j)
def InR (g : Gram) (w : List Int) : Qu → Prop
  | .c a i j => a < g.Nts.toNat ∧ i ≤ 100 ∧ j ≤ w.length
  | .r q d i j => (∃ h : q < g.Rules.length, d ≤ g.Rules[q].Rhs.length) ∧ i ≤ 100 ∧ j ≤ w.length
theorem sumC_F {d k : Nat} (hg : RightG g) (hk : 20000 ≤ k) (hby : ByR v0.by_ (byG g)) (hlr : g.Rules.length ≤ 200) {a i j : Nat} (ha : a < g.Nts.toNat) (hi : i ≤ 100) (hj : j ≤ w.length) {vv : Forest_grove} (h1 : vv.g = g) (h2 : vv.w_ = w) (h3 : vv.by_ = v0.by_)
    (ih : ∀ x st n st' v, Ea.ask (Rs g w) (byG g) (hasW v0) d x st = some (n, st') → GR g w v0 st v → InR g w x → ∃ v', askF k v x = some ((n : Int), v') ∧ GR g w v0 st' v' ∧ n ≤ top) :
    ∀ (c t n : Nat) (st : Kn) (v : Forest_grove) (m : Nat) (st' : Kn) (ff : Nat), t + c = (byG g a).length → c < ff → n ≤ top → sumC (Ea.ask (Rs g w) (byG g) (hasW v0) d) (Rs g w) i j ((byG g a).drop t) n st = some (m, st') → GR g w v0 st v →
    ∃ v', F.forest.grove_count_l1 vv (spn a i j) (F.forest.grove_row k) ff (n : Int) (t : Int) v.whole v.counts v.rows = some ((m : Int), v'.whole, v'.counts, v'.rows) ∧ GR g w v0 st' v' ∧ m ≤ top
  | _, _, _, _, _, _, _, 0, _, h, _, _, _ => by omega
  | 0, t, n, st, v, m, st', ff + 1, htc, _, hn, h, hgr => by
    rw [List.drop_eq_nil_of_le (by omega)] at h
    cases h
    have hat : at_ vv.by_ (spn a i j).nt = (byG g a).map fun q : Nat => (q : Int) := by rw [h3]; exact hby a
    have : decide ((t : Int) < (((byG g a).map fun q : Nat => (q : Int)).length : Int)) = false := ix_ge (by simp; omega)
    simp only [F.forest.grove_count_l1, hat, this, Bool.false_eq_true, if_false]
    exact ⟨v, rfl, hgr, hn⟩
  | c + 1, t, n, st, v, m, st', ff + 1, htc, hff, hn, h, hgr => by
    have ht : t < (byG g a).length := by omega
    have hbl := byG_len g a
    have ht1 : t < ((byG g a).map fun q : Nat => (q : Int)).length := by simpa using ht
    have hat : at_ vv.by_ (spn a i j).nt = (byG g a).map fun q : Nat => (q : Int) := by rw [h3]; exact hby a
    have hqi : at_ ((byG g a).map fun q : Nat => (q : Int)) (t : Int) = (((byG g a)[t] : Nat) : Int) := by rw [ix_at ht1]; simp
    obtain ⟨r, hr, _⟩ := (byG_Bys g w a _).1 (List.getElem_mem ht)
    obtain ⟨hq, rfl⟩ := Rs_get hr
    have hin : inR (((byG g a)[t] : Nat) : Int) vv.g.Rules.length = true := by rw [h1]; exact ix_in hq
    have har : at_ vv.g.Rules (((byG g a)[t] : Nat) : Int) = g.Rules[(byG g a)[t]] := by rw [h1]; exact ix_at hq
    rw [List.drop_eq_getElem_cons ht] at h
    unfold sumC at h
    simp only [hr, Option.map_some, Option.getD_some, toRu_len] at h
    cases hask : Ea.ask (Rs g w) (byG g) (hasW v0) d (.r (byG g a)[t] g.Rules[(byG g a)[t]].Rhs.length i j) st with
    | none => rw [hask] at h; cases h
    | some p =>
      obtain ⟨x, st1⟩ := p
      rw [hask] at h
      simp only at h
      obtain ⟨v1, e1, hgr1, hx⟩ := ih _ _ _ _ v hask hgr ⟨⟨hq, Nat.le_refl _⟩, hi, hj⟩
      simp only [F.forest.grove_count_l1, hat, ix_lt ht1, ix_in ht1, if_true, hqi, hin, har]
      rw [hgr.mk_eq h1 h2 h3]
      have e2 : F.forest.grove_row k v (Forest_part.mk (((byG g a)[t] : Nat) : Int) (g.Rules[(byG g a)[t]].Rhs.length : Int) (spn a i j).from_ (spn a i j).to) = some ((x : Int), v1) := e1
      rw [e2, Option.bind_some, add_F hn hx, Option.bind_some, ix_inc (by omega)]
      exact sumC_F hg hk hby hlr ha hi hj h1 h2 h3 ih c (t + 1) _ st1 v1 m st' ff (by omega) (by omega) (sat_le _) h hgr1
theorem sumR_F {d k : Nat} (hg : RightG g) (hw : Bytes w) (hwl : w.length ≤ 20) {q e i j : Nat} (hq : q < g.Rules.length) (he : e < g.Rules[q].Rhs.length) (hi : i ≤ 100) (hj : j ≤ w.length) {vv : Forest_grove} (h1 : vv.g = g) (h2 : vv.w_ = w) (h3 : vv.by_ = v0.by_)
    (ih : ∀ x st n st' v, Ea.ask (Rs g w) (byG g) (hasW v0) d x st = some (n, st') → GR g w v0 st v → InR g w x → ∃ v', askF k v x = some ((n : Int), v') ∧ GR g w v0 st' v' ∧ n ≤ top) :
    ∀ (c m0 n : Nat) (st : Kn) (v : Forest_grove) (m : Nat) (st' : Kn) (ff : Nat), m0 + c = j + 1 ∨ (c = 0 ∧ j < m0 ∧ m0 ≤ 100) → c < ff → n ≤ top → sumR (Ea.ask (Rs g w) (byG g) (hasW v0) d) (hasW v0) (toSy w g.Rules[q].Rhs[e]) q e i j (List.range' m0 c) n st = some (m, st') → GR g w v0 st v →
    ∃ v', F.forest.grove_row_l1 (prt q (e + 1) i j) vv (F.forest.grove_row k) (F.forest.grove_count k) ff (n : Int) (m0 : Int) v.whole v.counts v.rows = some ((m : Int), v'.whole, v'.counts, v'.rows) ∧ GR g w v0 st' v' ∧ m ≤ top
  | _, _, _, _, _, _, _, 0, _, h, _, _, _ => by omega
  | 0, m0, n, st, v, m, st', ff + 1, hmc, _, hn, h, hgr => by
    simp only [List.range'_zero] at h
    cases h
    have : decide ((m0 : Int) ≤ (prt q (e + 1) i j).to) = false := decide_eq_false (by simp only [prt]; omega)
    simp only [F.forest.grove_row_l1, this, Bool.false_eq_true, if_false]
    exact ⟨v, rfl, hgr, hn⟩
  | c + 1, m0, n, st, v, m, st', ff + 1, hmc, hff, hn, h, hgr => by
    have hmj : m0 ≤ j := by omega
    have hd : decide ((m0 : Int) ≤ (j : Int)) = true := decide_eq_true (by omega)
    have hrm : g.Rules[q] ∈ g.Rules := List.getElem_mem hq
    have h80 := hg.rhs _ hrm
    have hsm : g.Rules[q].Rhs[e] ∈ g.Rules[q].Rhs := List.getElem_mem he
    have hdot : IntKind.wrap .i64 ((prt q (e + 1) i j).dot - 1) = (e : Int) := by
      show IntKind.wrap .i64 (((e + 1 : Nat) : Int) - 1) = _
      rw [wrap_i64 (by omega) (by omega)]; omega
    have har : at_ vv.g.Rules (prt q (e + 1) i j).rule = g.Rules[q] := by rw [h1]; exact ix_at hq
    have hae : at_ g.Rules[q].Rhs (e : Int) = g.Rules[q].Rhs[e] := ix_at he
    have hto : (prt q (e + 1) i j).to = (j : Int) := rfl
    rw [List.range'_succ] at h
    unfold sumR at h
    simp only [F.forest.grove_row_l1, hd, if_true, hdot, har, hae, hto]
    rw [hgr.mk_eq h1 h2 h3, sym_F hw hgr.tx hgr.wh hmj hj hwl, Option.bind_some]
    unfold F.forest.grove_row_j3 F.forest.grove_row_j2
    rw [ix_inc (by omega)]
    by_cases hsb : symB (hasW v0) (toSy w g.Rules[q].Rhs[e]) m0 j = false
    · rw [if_pos hsb] at h
      rw [hsb]
      simp only [Bool.not_false, if_true]
      exact sumR_F hg hw hwl hq he hi hj h1 h2 h3 ih c (m0 + 1) n st v m st' ff (by omega) (by omega) hn h hgr
    · rw [if_neg hsb] at h
      have hsb' : symB (hasW v0) (toSy w g.Rules[q].Rhs[e]) m0 j = true := by simpa using hsb
      rw [hsb']
      simp only [Bool.not_true, Bool.false_eq_true, if_false]
      cases hask : Ea.ask (Rs g w) (byG g) (hasW v0) d (.r q e i m0) st with
      | none => rw [hask] at h; cases h
      | some p =>
        obtain ⟨left, st1⟩ := p
        rw [hask] at h
        simp only at h
        obtain ⟨v1, e1, hgr1, hle⟩ := ih _ _ _ _ v hask hgr ⟨⟨hq, by omega⟩, hi, by omega⟩
        have e2 : F.forest.grove_row k v (Forest_part.mk (prt q (e + 1) i j).rule (e : Int) (prt q (e + 1) i j).from_ (m0 : Int)) = some ((left : Int), v1) := e1
        rw [e2, Option.bind_some]
        by_cases hl0 : left = 0
        · rw [if_pos hl0] at h
          have : ((left : Int) == 0) = true := by rw [hl0]; rfl
          simp only [this, if_true]
          exact sumR_F hg hw hwl hq he hi hj h1 h2 h3 ih c (m0 + 1) n st1 v1 m st' ff (by omega) (by omega) hn h hgr1
        · rw [if_neg hl0] at h
          have : ((left : Int) == 0) = false := by rw [beq_eq_false_iff_ne]; omega
          simp only [this, Bool.false_eq_true, if_false]
          unfold toSy at h
          by_cases h0 : 0 ≤ g.Rules[q].Rhs[e].Nt
          · rw [if_pos h0] at h
            simp only at h
            have hnt2 := hg.nt2 _ hrm _ hsm
            cases hask2 : Ea.ask (Rs g w) (byG g) (hasW v0) d (.c g.Rules[q].Rhs[e].Nt.toNat m0 j) st1 with
            | none => rw [hask2] at h; cases h
            | some p2 =>
              obtain ⟨kid, st2⟩ := p2
              rw [hask2] at h
              simp only at h
              obtain ⟨v2, e3, hgr2, hle2⟩ := ih _ _ _ _ v1 hask2 hgr1 ⟨by omega, by omega, hj⟩
              have d0 : decide (0 ≤ g.Rules[q].Rhs[e].Nt) = true := decide_eq_true h0
              rw [d0, if_pos rfl, hgr1.mk_eq h1 h2 h3]
              have e4 : F.forest.grove_count k v1 (Forest_span.mk g.Rules[q].Rhs[e].Nt (m0 : Int) (j : Int)) = some ((kid : Int), v2) := by
                have e5 : F.forest.grove_count k v1 (Forest_span.mk (g.Rules[q].Rhs[e].Nt.toNat : Int) (m0 : Int) (j : Int)) = some ((kid : Int), v2) := e3
                rw [Int.toNat_of_nonneg h0] at e5
                exact e5
              rw [e4, Option.bind_some]
              simp only
              rw [mul_F hle hle2, Option.bind_some, add_F hn (sat_le _), Option.bind_some]
              have hs : toSy w g.Rules[q].Rhs[e] = .nt g.Rules[q].Rhs[e].Nt.toNat := by unfold toSy; rw [if_pos h0]
              rw [← hs] at h
              exact sumR_F hg hw hwl hq he hi hj h1 h2 h3 ih c (m0 + 1) _ st2 v2 m st' ff (by omega) (by omega) (sat_le _) h hgr2
          · rw [if_neg h0] at h
            simp only at h
            have d0 : decide (0 ≤ g.Rules[q].Rhs[e].Nt) = false := decide_eq_false h0
            rw [d0, if_neg (by simp)]
            rw [show ((1 : Int) = ((1 : Nat) : Int)) from rfl, mul_F hle (by unfold top; omega), Option.bind_some, add_F hn (sat_le _), Option.bind_some]
            have hs : toSy w g.Rules[q].Rhs[e] = .tm (fun p => decide (p < w.length) && hasB g.Rules[q].Rhs[e].Set (w.getD p 0)) := by unfold toSy; rw [if_neg h0]
            rw [← hs] at h
            exact sumR_F hg hw hwl hq he hi hj h1 h2 h3 ih c (m0 + 1) _ st1 v1 m st' ff (by omega) (by omega) (sat_le _) h hgr1
theorem ask_F (hg : RightG g) (hsm : SmallG g) (hw : Bytes w) (hwl : w.length ≤ 20) (hv0 : Grove g w v0) : ∀ (d k : Nat) (x : Qu) (st : Kn) (n : Nat) (st' : Kn) (v : Forest_grove), d + 20000 ≤ k → Ea.ask (Rs g w) (byG g) (hasW v0) d x st = some (n, st') → GR g w v0 st v → InR g w x →
    ∃ v', askF k v x = some ((n : Int), v') ∧ GR g w v0 st' v' ∧ n ≤ top
  | 0, _, _, _, _, _, _, _, h, _, _ => by cases h
  | d + 1, 0, _, _, _, _, _, h, _, _, _ => by omega
  | d + 1, k + 1, .c a i j, st, n, st', v, hk, h, hgr, hx => by
    have ih := fun x st n st' v => ask_F hg hsm hw hwl hv0 d k x st n st' v (by omega)
    obtain ⟨ha, hi, hj⟩ := hx
    unfold Ea.ask at h
    show ∃ v', F.forest.grove_count_B k (F.forest.grove_row k) v (spn a i j) = some ((n : Int), v') ∧ _
    unfold F.forest.grove_count_B
    have hh : (((tget qForest_span (spn a i j) v.whole).getD 0) == 0) = !hasW v0 a i j := by
      unfold hasW
      rw [hgr.wh]
      rcases hv0.whole (spn a i j) with ⟨h1, _⟩ | ⟨h1, _⟩ <;> rw [h1] <;> rfl
    rw [hh]
    by_cases hb : hasW v0 a i j = false
    · rw [if_pos hb] at h
      cases h
      rw [hb]
      exact ⟨v, rfl, hgr, by unfold top; omega⟩
    · rw [if_neg hb] at h
      have hb' : hasW v0 a i j = true := by simpa using hb
      rw [hb']
      simp only [Bool.not_true, Bool.false_eq_true, if_false, hgr.c]
      cases hkn : known st (.c a i j) with
      | some m =>
        rw [hkn] at h
        cases h
        exact ⟨v, rfl, hgr, hgr.le _ _ hkn⟩
      | none =>
        rw [hkn] at h
        simp only at h
        cases hs : sumC (Ea.ask (Rs g w) (byG g) (hasW v0) d) (Rs g w) i j (byG g a) 0 st with
        | none => rw [hs] at h; cases h
        | some p =>
          obtain ⟨m, st1⟩ := p
          rw [hs] at h
          simp only [Option.some.injEq, Prod.mk.injEq] at h
          obtain ⟨rfl, rfl⟩ := h
          have hlr := hsm.rules
          have hbl := byG_len g a
          obtain ⟨v1, e1, hgr1, hle⟩ := sumC_F (w := w) (k := k) hg (by omega) hv0.by_ hlr ha hi hj hgr.gr hgr.tx hgr.by_ ih (byG g a).length 0 0 st v m st1 k (by omega) (by omega) (by unfold top; omega) hs hgr
          have hin : inR (spn a i j).nt v.by_.length = true := by rw [hgr.by_]; exact inR_iff.2 ⟨by simp [spn], by rw [hv0.byl]; simp only [spn]; omega⟩
          simp only [Option.map_none, Option.isSome_none, Bool.false_eq_true, if_false, hin, if_true]
          rw [show ((0 : Int) = ((0 : Nat) : Int)) from rfl, e1, Option.bind_some]
          refine ⟨_, rfl, ⟨hgr.gr, hgr.tx, hgr.by_, hgr1.wh, fun a' i' j' => ?_, fun q' d' i' j' => ?_, fun x n hx => ?_⟩, hle⟩
          · show tget qForest_span (spn a' i' j') (tput qForest_span (spn a i j) (m : Int) v1.counts) = _
            rw [tget_tput (fun a b => qS_iff), known_cons]
            by_cases he : spn a' i' j' = spn a i j
            · obtain ⟨rfl, rfl, rfl⟩ := spn_inj he
              rw [if_pos rfl, if_pos rfl]; rfl
            · rw [if_neg he, if_neg (fun e => he (by cases e; rfl)), hgr1.c]
          · show tget qForest_part (prt q' d' i' j') v1.rows = _
            rw [known_cons, if_neg (by simp), hgr1.r]
          · rw [known_cons] at hx
            split at hx
            · cases hx; exact hle
            · exact hgr1.le _ _ hx
  | d + 1, k + 1, .r q e i j, st, n, st', v, hk, h, hgr, hx => by
    have ih := fun x st n st' v => ask_F hg hsm hw hwl hv0 d k x st n st' v (by omega)
    obtain ⟨⟨hq, hel⟩, hi, hj⟩ := hx
    unfold Ea.ask at h
    show ∃ v', F.forest.grove_row_B k (F.forest.grove_count k) (F.forest.grove_row k) v (prt q e i j) = some ((n : Int), v') ∧ _
    unfold F.forest.grove_row_B
    by_cases h0 : e = 0
    · subst h0
      rw [if_pos rfl] at h
      cases h
      have b1 : ((prt q 0 i j).dot == 0) = true := rfl
      have b2 : ((prt q 0 i j).from_ == (prt q 0 i j).to) = decide (i = j) := by
        rw [Bool.eq_iff_iff, beq_iff_eq, decide_eq_true_eq]; simp only [prt]; omega
      rw [b1, if_pos rfl, b2]
      by_cases hij : i = j
      · rw [decide_eq_true hij, if_pos rfl, if_pos hij]
        exact ⟨v, rfl, hgr, by unfold top; omega⟩
      · rw [decide_eq_false hij, if_neg (by simp), if_neg hij]
        exact ⟨v, rfl, hgr, by unfold top; omega⟩
    · rw [if_neg h0] at h
      have b1 : ((prt q e i j).dot == 0) = false := by rw [beq_eq_false_iff_ne]; simp only [prt]; omega
      rw [b1, if_neg (by simp)]
      simp only [hgr.r]
      cases hkn : known st (.r q e i j) with
      | some m =>
        rw [hkn] at h
        cases h
        exact ⟨v, rfl, hgr, hgr.le _ _ hkn⟩
      | none =>
        rw [hkn] at h
        simp only at h
        have hr : (Rs g w)[q]? = some (toRu w g.Rules[q]) := by simp [Rs, hq]
        have hrm : g.Rules[q] ∈ g.Rules := List.getElem_mem hq
        have h80 := hg.rhs _ hrm
        have he1 : e - 1 < g.Rules[q].Rhs.length := by omega
        rw [hr] at h
        simp only [toRu_get he1] at h
        cases hs : sumR (Ea.ask (Rs g w) (byG g) (hasW v0) d) (hasW v0) (toSy w g.Rules[q].Rhs[e - 1]) q (e - 1) i j (List.range' i (j + 1 - i)) 0 st with
        | none => rw [hs] at h; cases h
        | some p =>
          obtain ⟨m, st1⟩ := p
          rw [hs] at h
          simp only [Option.some.injEq, Prod.mk.injEq] at h
          obtain ⟨rfl, rfl⟩ := h
          obtain ⟨v1, e1, hgr1, hle⟩ := sumR_F (k := k) hg hw hwl hq he1 hi hj hgr.gr hgr.tx hgr.by_ ih (j + 1 - i) i 0 st v m st1 k (by omega) (by omega) (by unfold top; omega) hs hgr
          rw [show e - 1 + 1 = e by omega] at e1
          have hin : inR (prt q e i j).rule v.g.Rules.length = true := by rw [hgr.gr]; exact ix_in hq
          have har : at_ v.g.Rules (prt q e i j).rule = g.Rules[q] := by rw [hgr.gr]; exact ix_at hq
          have hdot : IntKind.wrap .i64 ((prt q e i j).dot - 1) = ((e - 1 : Nat) : Int) := by
            show IntKind.wrap .i64 ((e : Int) - 1) = _
            rw [wrap_i64 (by omega) (by omega)]; omega
          have hin2 : inR ((e - 1 : Nat) : Int) g.Rules[q].Rhs.length = true := ix_in he1
          have hfr : (prt q e i j).from_ = (i : Int) := rfl
          simp only [Option.map_none, Option.isSome_none, Bool.false_eq_true, if_false, hin, if_true, hdot, har, hin2, hfr]
          rw [show ((0 : Int) = ((0 : Nat) : Int)) from rfl, e1, Option.bind_some]
          refine ⟨_, rfl, ⟨hgr.gr, hgr.tx, hgr.by_, hgr1.wh, fun a' i' j' => ?_, fun q' d' i' j' => ?_, fun x n hx => ?_⟩, hle⟩
          · show tget qForest_span (spn a' i' j') v1.counts = _
            rw [known_cons, if_neg (by simp), hgr1.c]
          · show tget qForest_part (prt q' d' i' j') (tput qForest_part (prt q e i j) (m : Int) v1.rows) = _
            rw [tget_tput (fun a b => qP_iff), known_cons]
            by_cases he : prt q' d' i' j' = prt q e i j
            · obtain ⟨rfl, rfl, rfl, rfl⟩ := prt_inj he
              rw [if_pos rfl, if_pos rfl]; rfl
            · rw [if_neg he, if_neg (fun e => he (by cases e; rfl)), hgr1.r]
          · rw [known_cons] at hx
            split at hx
            · cases hx; exact hle
            · exact hgr1.le _ _ hx
end
end Go.Vc
namespace Go.Vc
open Go Ea
section
variable {g : Gram} {w : List Int}
theorem Count_ok {k : Nat} (hk : 1000000 ≤ k) (hr : rightB g = true) (hsm : SmallG g) (hw : Bytes w) (hwl : w.length ≤ 20) {ρ : Nat → Nat} (hρ : Falls (Rs g w) ρ g.Nts.toNat) :
    ∃ v, F.forest.open_ k g w = some v ∧ Grove g w v ∧ v.counts = [] ∧ v.rows = [] ∧ ∃ v', F.forest.grove_count k v (spn g.Start.toNat 0 w.length) = some (((sat (trees (Rs g w) ρ g.Nts.toNat g.Start.toNat 0 w.length).length : Nat) : Int), v') ∧ ∃ st, KnOk (Rs g w) ρ g.Nts.toNat st ∧ GR g w v st v' := by
  have hg := rightG hr
  obtain ⟨v, e, hv, hc, hrw⟩ := forest_open_ok (k := k) (by omega) hr hsm hw hwl
  refine ⟨v, e, hv, hc, hrw, ?_⟩
  have hs1 := hg.s1
  have hs2 := hg.s2
  have hn := hsm.nts
  have hhas : ∀ a i j, j ≤ w.length → (hasW v a i j = true ↔ DerY (Rs g w) (.nt a) i j) := by
    intro a i j hj
    unfold hasW
    rw [decide_eq_true_eq]
    rcases hv.whole (spn a i j) with ⟨h1, a', i', j', h2, h3, h4, h5⟩ | ⟨h1, h2⟩
    · rw [h1]
      obtain ⟨rfl, rfl, rfl⟩ := spn_inj (show spn a i j = spn a' i' j' from h2)
      exact ⟨fun _ => h5, fun _ => by omega⟩
    · rw [h1]
      refine ⟨fun h => by omega, fun h => absurd ⟨a, i, j, rfl, ?_, hj, h⟩ h2⟩
      obtain ⟨r, hr', hl, _⟩ := derY_nt.1 h
      obtain ⟨x, hx, rfl⟩ := List.mem_map.1 hr'
      have := hg.lhs1 x hx
      have := hg.lhs2 x hx
      have hl' : x.Lhs.toNat = a := hl
      omega
  have hW : ∀ r ∈ Rs g w, r.rhs.length + 2 ≤ 82 := by
    intro r hr'
    obtain ⟨x, hx, rfl⟩ := List.mem_map.1 hr'
    rw [toRu_len]
    have := hg.rhs x hx
    omega
  have hrk : rk ρ g.Nts.toNat g.Start.toNat 0 w.length ≤ 4220 := by
    unfold rk
    have h1 := hρ.le g.Start.toNat
    have h2 : (w.length - 0) * (g.Nts.toNat + 1) ≤ 20 * 201 := Nat.mul_le_mul (by omega) (by omega)
    omega
  have hfits : Fits (Rs g w) ρ g.Nts.toNat 82 w.length 400000 (.c g.Start.toNat 0 w.length) := ⟨by omega, by omega, by omega⟩
  obtain ⟨st, ha, hkn⟩ := ask_ok (R := Rs g w) (by_ := byG g) (has := hasW v) (ρ := ρ) (K := g.Nts.toNat) (W := 82) (n := w.length) hρ (fun a => byG_Rs g w a) hhas hW 400001 400000 (.c g.Start.toNat 0 w.length) [] (by omega) hfits (fun p hp => by cases hp)
  have hgr0 : GR g w v [] v := ⟨hv.gr, hv.tx, rfl, rfl, fun a i j => by rw [hc]; rfl, fun q d i j => by rw [hrw]; rfl, fun x n h => by cases h⟩
  obtain ⟨v', e', hgr', _⟩ := ask_F hg hsm hw hwl hv 400001 k _ _ _ _ v (by omega) ha hgr0 ⟨by omega, by omega, by omega⟩
  exact ⟨v', e', st, hkn, hgr'⟩
end
structure ReachG (g : Gram) : Prop where
  nts : -9223372036854775808 ≤ g.Nts
  rules : g.Rules.length * 32 ≤ 140737488351232
  rhs : ∀ r ∈ g.Rules, r.Rhs.length * 40 ≤ 140737488351232
theorem Heavy6_ok {k : Nat} (hk : 20000 ≤ k) {g : Gram} (h : ReachG g) : ∃ b, F.ref06.Heavy k g 120 = some b ∧ (b = false → g.Nts ≤ 120 ∧ g.Rules.length ≤ 120 ∧ g.Nts + ((g.Rules.map fun r => r.Rhs.length + 1).sum : Nat) ≤ 120) := by
  unfold F.ref06.Heavy
  have hn := h.nts
  by_cases h1 : 120 < g.Nts
  · refine ⟨true, by simp [h1], fun h => (by cases h)⟩
  by_cases h2 : 120 < (g.Rules.length : Int)
  · refine ⟨true, by simp [h1, h2], fun h => (by cases h)⟩
  simp only [h1, h2, decide_false, Bool.false_eq_true, if_false]
  have key := loop_inv0 (n := g.Rules.length) (k := k) (σ := Int) (s := g.Nts) (L := fun j i s => F.ref06.Heavy_l1 g 120 j s i) (I := fun q s => s ≤ 120 ∧ s = g.Nts + (((g.Rules.take q).map fun r => r.Rhs.length + 1).sum : Nat))
    (Q := fun o => (∃ r, o = some r ∧ (r = .ret true ∨ (r = .done () ∧ g.Nts + ((g.Rules.map fun r => r.Rhs.length + 1).sum : Nat) ≤ 120)))) (by omega) ⟨by omega, by simp⟩ (fun j q s hq hI => ?_) (fun j s hI => ?_)
  · obtain ⟨r, e, hr⟩ := key
    rw [e, Option.bind_some]
    rcases hr with rfl | ⟨rfl, hs⟩
    · exact ⟨true, rfl, fun h => (by cases h)⟩
    · exact ⟨false, rfl, fun _ => ⟨by omega, by omega, hs⟩⟩
  · have hb := h.rhs _ (List.getElem_mem hq)
    obtain ⟨hI1, hI2⟩ := hI
    have e1 : IntKind.wrap .i64 (s + 1) = s + 1 := wrap_i64 (by omega) (by omega)
    have e2 : IntKind.wrap .i64 (s + 1 + (g.Rules[q].Rhs.length : Int)) = s + 1 + (g.Rules[q].Rhs.length : Int) := wrap_i64 (by omega) (by omega)
    simp only [F.ref06.Heavy_l1, ix_lt hq, ix_in hq, ix_at hq, if_true, e1, e2]
    by_cases h3 : 120 < s + 1 + (g.Rules[q].Rhs.length : Int)
    · right
      refine ⟨.ret true, by simp [h3], .inl rfl⟩
    · left
      refine ⟨s + 1 + (g.Rules[q].Rhs.length : Int), ⟨by omega, ?_⟩, by
        simp only [h3, decide_false, Bool.false_eq_true, if_false]
        rw [ix_inc (by omega)]⟩
      rw [sum_take_succ _ hq]
      omega
  · rw [List.take_length] at hI
    simp only [F.ref06.Heavy_l1, ix_ge (Nat.lt_irrefl _), Bool.false_eq_true, if_false]
    exact ⟨_, rfl, .inr ⟨rfl, by omega⟩⟩
theorem Heavy_ok {k : Nat} (hk : 20000 ≤ k) {g : Gram} (h : ReachG g) (w : List Int) : ∃ b, F.ref08.Heavy k g w = some b ∧ (b = false → (w.length ≤ 9 ∨ 512 < (w.length : Int)) ∧ g.Nts ≤ 120 ∧ g.Rules.length ≤ 120 ∧ g.Nts + ((g.Rules.map fun r => r.Rhs.length + 1).sum : Nat) ≤ 120) := by
  obtain ⟨b, e, hb⟩ := Heavy6_ok hk h
  unfold F.ref08.Heavy
  by_cases h1 : 9 < (w.length : Int)
  · by_cases h2 : (w.length : Int) ≤ 512
    · exact ⟨true, by simp [h1, h2], fun h => (by cases h)⟩
    · refine ⟨b, by simp [h1, h2, e], fun hb' => ⟨.inr (by omega), hb hb'⟩⟩
  · refine ⟨b, by simp [h1, e], fun hb' => ⟨.inl (by omega), hb hb'⟩⟩
theorem small_of {g : Gram} (h1 : g.Nts ≤ 120) (h2 : g.Nts + ((g.Rules.map fun r => r.Rhs.length + 1).sum : Nat) ≤ 120) (hr : rightB g = true) : SmallG g := by
  have := (rightG hr).n1
  exact ⟨by omega, by omega⟩
end Go.Vc
