/-
  Where a nonterminal stands; what the grove knows when it is opened.
-/
import Derived.Test.YtfhbgelpmbkooaaFI
set_option linter.unusedVariables false
set_option linter.unusedSimpArgs false
namespace Go.Vc
open Go Ea
section
variable {g : Gram} {w : List Int}
theorem fin_any {S : List (List It)} {g' : Gram} (hg' : g'.Rules = g.Rules) {w' : List Int} {a j : Nat} : (at' S j).any (fin g a) = true ↔ ∃ x ∈ at' S j, ∃ r, (Rs g' w')[x.rule]? = some r ∧ r.lhs = a ∧ x.from_ = 0 ∧ x.dot = r.rhs.length := by
  rw [List.any_eq_true]
  constructor
  · rintro ⟨x, hx, hf⟩
    unfold fin at hf
    cases hr : g.Rules[x.rule]? with
    | none => rw [hr] at hf; cases hf
    | some r =>
      rw [hr] at hf
      simp only [Bool.and_eq_true, decide_eq_true_eq] at hf
      refine ⟨x, hx, toRu w' r, ?_, hf.1, hf.2.1, by rw [toRu_len]; exact hf.2.2⟩
      unfold Rs
      rw [List.getElem?_map, hg', hr]; rfl
  · rintro ⟨x, hx, r, h1, h2, h3, h4⟩
    refine ⟨x, hx, ?_⟩
    unfold Rs at h1
    rw [List.getElem?_map, hg'] at h1
    obtain ⟨y, hy, rfl⟩ := Option.map_eq_some_iff.1 h1
    rw [toRu_len] at h4
    unfold fin
    rw [hy]
    simp only [Bool.and_eq_true, decide_eq_true_eq]
    exact ⟨h2, h3, h4⟩
theorem Spans_ok {k : Nat} (hk : 100000 ≤ k) (hr : rightB g = true) (hsm : SmallG g) (hw : Bytes w) (hwl : w.length ≤ 20) {nt : Int} (h0 : 0 ≤ nt) (h1 : nt < g.Nts) :
    ∃ L, F.earley.Spans k g w nt = some (L, 0) ∧ L.length ≤ 1000 ∧ RunsI (fun a b => ∃ lo hi : Nat, a = lo ∧ b = hi ∧ hi ≤ w.length ∧ DerY (Rs g w) (.nt nt.toNat) lo hi) L := by
  have hg := rightG hr
  have hfit : F.earley.fit k g w = some 0 := by
    unfold F.earley.fit
    rw [Right_ok (by omega), hr, if_pos rfl, Option.bind_some]
    have : ¬ (512 < (w.length : Int)) := by omega
    simp [this]
  unfold F.earley.Spans
  rw [hfit, Option.bind_some]
  have n1 : ¬ (nt < 0) := by omega
  have n2 : ¬ (g.Nts ≤ nt) := by omega
  simp only [n1, n2, decide_false, Bool.false_eq_true, if_false, bne_self_eq_false]
  have key := loop_inv0 (n := w.length + 1) (k := k) (σ := List Run) (s := []) (L := fun j i s => F.earley.Spans_l1 k w g nt j s i)
    (I := fun q s => s.length ≤ q * 30 ∧ RunsI (fun a b => ∃ lo hi : Nat, lo < q ∧ a = lo ∧ b = hi ∧ hi ≤ w.length ∧ DerY (Rs g w) (.nt nt.toNat) lo hi) s)
    (Q := fun o => ∃ L, o = some L ∧ L.length ≤ 1000 ∧ RunsI (fun a b => ∃ lo hi : Nat, a = lo ∧ b = hi ∧ hi ≤ w.length ∧ DerY (Rs g w) (.nt nt.toNat) lo hi) L) (by omega) ⟨by simp, fun x => by simp⟩ (fun j q s hq hI => ?_) (fun j s hI => ?_)
  · obtain ⟨L, e, hL⟩ := key
    exact ⟨L, by rw [e]; rfl, hL⟩
  · left
    have hlt : decide ((q : Int) ≤ (w.length : Int)) = true := decide_eq_true (by omega)
    have hok : okSub (q : Int) (w.length : Int) w.length = true := okSub_iff.2 ⟨⟨by omega, by omega⟩, by omega⟩
    have hqw : q ≤ w.length := by omega
    have hg' : RightG ⟨g.Nts, nt, g.Rules⟩ := ⟨hg.n1, hg.n2, h0, h1, hg.len, hg.lhs1, hg.lhs2, hg.rhs, hg.nt1, hg.nt2⟩
    have hsm' : SmallG ⟨g.Nts, nt, g.Rules⟩ := ⟨hsm.nts, hsm.sum⟩
    have hdl : (w.drop q).length = w.length - q := List.length_drop
    obtain ⟨c, S, e1, e2, e3, e4, e5⟩ := earley_open_ok (g := ⟨g.Nts, nt, g.Rules⟩) (w := w.drop q) hk hg' hsm' (fun b hb => hw b (List.mem_of_mem_drop hb)) (by omega)
    have hBr : ∀ j, ∀ y ∈ at' S j, y.rule < g.Rules.length := by
      intro j y hy
      obtain ⟨⟨r, h2, _⟩, _⟩ := e4.it j y hy
      exact (Rs_get h2).1
    obtain ⟨out', z, f1, f2, f3⟩ := Spans_l2_ok hk hg h0 (c := c) e2 (by omega) e4 hBr (lo := q) (by omega) (out := s) (by have := hI.1; omega) hI.2
    refine ⟨out', ⟨by have := hI.1; omega, fun x => ?_⟩, ?_⟩
    · rw [f3 x]
      constructor
      · rintro (⟨lo, hi, a1, a2, a3, a4, a5⟩ | ⟨a1, j', a2, a3, a4⟩)
        · exact ⟨lo, hi, by omega, a2, a3, a4, a5⟩
        · have h3 := (e5 j' (by omega)).1 ((fin_any (g := g) (g' := ⟨g.Nts, nt, g.Rules⟩) rfl).1 a4)
          rw [Rs_drop hqw ⟨g.Nts, nt, g.Rules⟩ rfl] at h3
          have h4 := derY_shift.1 h3
          exact ⟨q, q + j', by omega, a1, by omega, by omega, h4⟩
      · rintro ⟨lo, hi, a1, a2, a3, a4, a5⟩
        by_cases hlo : lo = q
        · subst hlo
          right
          have hle : lo ≤ hi := Der.le a5
          refine ⟨a2, hi - lo, by omega, by omega, ?_⟩
          refine (fin_any (g := g) (g' := ⟨g.Nts, nt, g.Rules⟩) (w' := w.drop lo) rfl).2 ((e5 (hi - lo) (by omega)).2 ?_)
          rw [Rs_drop hqw ⟨g.Nts, nt, g.Rules⟩ rfl]
          refine derY_shift.2 ?_
          rw [show lo + (hi - lo) = hi by omega]
          exact a5
        · exact .inl ⟨lo, hi, by omega, a2, a3, a4, a5⟩
    · simp only [F.earley.Spans_l1, hlt, hok, if_true, sub_drop]
      rw [e1, Option.bind_some, f1, Option.bind_some, ix_inc (by omega)]
  · have hlt : decide (((w.length + 1 : Nat) : Int) ≤ (w.length : Int)) = false := decide_eq_false (by omega)
    simp only [F.earley.Spans_l1, hlt, Bool.false_eq_true, if_false]
    refine ⟨s, rfl, by have := hI.1; omega, fun x => ?_⟩
    rw [hI.2 x]
    constructor
    · rintro ⟨lo, hi, _, h⟩
      exact ⟨lo, hi, h⟩
    · rintro ⟨lo, hi, a2, a3, a4, a5⟩
      have := Der.le a5
      exact ⟨lo, hi, by omega, a2, a3, a4, a5⟩
theorem qS_iff {a b : Forest_span} : qForest_span a b = true ↔ a = b := by
  cases a; cases b
  simp [qForest_span]
theorem qP_iff {a b : Forest_part} : qForest_part a b = true ↔ a = b := by
  cases a; cases b
  simp [qForest_part]
instance : DecidableEq Forest_span := fun a b => if h : qForest_span a b = true then isTrue (qS_iff.1 h) else isFalse fun e => h (qS_iff.2 e)
instance : DecidableEq Forest_part := fun a b => if h : qForest_part a b = true then isTrue (qP_iff.1 h) else isFalse fun e => h (qP_iff.2 e)
def WholeI (P : Forest_span → Prop) (m : List (Forest_span × Int)) : Prop := ∀ x, ((tget qForest_span x m).getD 0 = 1 ∧ P x) ∨ ((tget qForest_span x m).getD 0 = 0 ∧ ¬ P x)
theorem WholeI.put {P : Forest_span → Prop} {m : List (Forest_span × Int)} (h : WholeI P m) (y : Forest_span) : WholeI (fun x => P x ∨ x = y) (tput qForest_span y 1 m) := by
  intro x
  rw [tget_tput (fun a b => qS_iff)]
  by_cases hx : x = y
  · rw [if_pos hx]
    exact .inl ⟨rfl, .inr hx⟩
  · rw [if_neg hx]
    rcases h x with ⟨h1, h2⟩ | ⟨h1, h2⟩
    · exact .inl ⟨h1, .inl h2⟩
    · exact .inr ⟨h1, fun h => by rcases h with h | h; exact h2 h; exact hx h⟩
theorem WholeI.congr {P P' : Forest_span → Prop} {m : List (Forest_span × Int)} (h : WholeI P m) (e : ∀ x, P x ↔ P' x) : WholeI P' m := fun x => by
  rcases h x with ⟨h1, h2⟩ | ⟨h1, h2⟩
  · exact .inl ⟨h1, (e x).1 h2⟩
  · exact .inr ⟨h1, fun h => h2 ((e x).2 h)⟩
theorem open_l7_ok {k : Nat} (hk : 100000 ≤ k) {L : List Run} (hL : L.length ≤ 1000) {t : Int} {P : Forest_span → Prop} {m : List (Forest_span × Int)} (h : WholeI P m) :
    ∃ z m', F.forest.open__l7 (L, 0) t k 0 m = some (z, m') ∧ WholeI (fun x => P x ∨ (x.nt = t ∧ ⟨x.from_, x.to⟩ ∈ L)) m' := by
  refine loop_inv0 (n := L.length) (k := k) (σ := List (Forest_span × Int)) (s := m) (L := fun j i s => F.forest.open__l7 (L, 0) t j i s) (I := fun q s => WholeI (fun x => P x ∨ (x.nt = t ∧ ⟨x.from_, x.to⟩ ∈ L.take q)) s)
    (Q := fun o => ∃ z m', o = some (z, m') ∧ WholeI (fun x => P x ∨ (x.nt = t ∧ ⟨x.from_, x.to⟩ ∈ L)) m') (by omega) (h.congr fun x => by simp) (fun j q s hq hI => ?_) (fun j s hI => ?_)
  · left
    refine ⟨_, (hI.put ⟨t, L[q].Lo, L[q].Hi⟩).congr fun x => ?_, ?_⟩
    · rw [List.take_succ_eq_append_getElem hq, List.mem_append, List.mem_singleton]
      constructor
      · rintro ((h | ⟨h1, h2⟩) | rfl)
        · exact .inl h
        · exact .inr ⟨h1, .inl h2⟩
        · exact .inr ⟨rfl, .inr rfl⟩
      · rintro (h | ⟨h1, h2 | h2⟩)
        · exact .inl (.inl h)
        · exact .inl (.inr ⟨h1, h2⟩)
        · right
          cases x
          simp only at h1 h2
          rw [h1, ← h2]
    · simp only [F.forest.open__l7, ix_lt hq, ix_in hq, ix_at hq, if_true]
      rw [ix_inc (by omega)]
  · rw [List.take_length] at hI
    simp only [F.forest.open__l7, ix_ge (Nat.lt_irrefl _), Bool.false_eq_true, if_false]
    exact ⟨_, _, rfl, hI⟩
structure Grove (g : Gram) (w : List Int) (v : Forest_grove) : Prop where
  gr : v.g = g
  tx : v.w_ = w
  byl : v.by_.length = g.Nts.toNat
  by_ : ByR v.by_ (byG g)
  whole : WholeI (fun x => ∃ a i j : Nat, x = ⟨(a : Int), (i : Int), (j : Int)⟩ ∧ a < g.Nts.toNat ∧ j ≤ w.length ∧ DerY (Rs g w) (.nt a) i j) v.whole
theorem no_rules {a i j : Nat} (h : byG g a = []) : ¬ DerY (Rs g w) (.nt a) i j := by
  intro hd
  obtain ⟨r, hr, hl, _⟩ := derY_nt.1 hd
  obtain ⟨q, hq⟩ := List.mem_iff_getElem?.1 hr
  have := (byG_Bys g w a q).2 ⟨r, hq, hl⟩
  rw [h] at this
  cases this
theorem forest_open_ok {k : Nat} (hk : 100000 ≤ k) (hr : rightB g = true) (hsm : SmallG g) (hw : Bytes w) (hwl : w.length ≤ 20) : ∃ v, F.forest.open_ k g w = some v ∧ Grove g w v ∧ v.counts = [] ∧ v.rows = [] := by
  have hg := rightG hr
  have hn1 := hg.n1
  have hn2 := hsm.nts
  have hlr := hsm.rules
  have d1 : decide (0 ≤ g.Nts) = true := decide_eq_true (by omega)
  have d2 : decide (24 * g.Nts.toNat ≤ 140737488355328) = true := decide_eq_true (by omega)
  have d3 : decide (g.Nts.toNat ≤ 9223372036854775807) = true := decide_eq_true (by omega)
  obtain ⟨by_, eb, hbl, hby⟩ := forest_by_ok (k := k) (by omega) hg
  unfold F.forest.open_ F.forest.open__j1
  simp only [d1, d2, d3, if_true]
  rw [eb, Option.bind_some]
  have key := loop_inv0 (n := g.Nts.toNat) (k := k) (σ := List (Forest_span × Int)) (s := []) (L := fun j i s => F.forest.open__l5 k g by_ w j i s)
    (I := fun q s => WholeI (fun x => ∃ a i j : Nat, x = ⟨(a : Int), (i : Int), (j : Int)⟩ ∧ a < q ∧ j ≤ w.length ∧ DerY (Rs g w) (.nt a) i j) s)
    (Q := fun o => ∃ m, o = some m ∧ WholeI (fun x => ∃ a i j : Nat, x = ⟨(a : Int), (i : Int), (j : Int)⟩ ∧ a < g.Nts.toNat ∧ j ≤ w.length ∧ DerY (Rs g w) (.nt a) i j) m) (by omega) (fun x => .inr ⟨by simp [tget], by simp⟩) (fun j q s hq hI => ?_) (fun j s hI => ?_)
  · obtain ⟨m, e, hm⟩ := key
    rw [e, Option.bind_some]
    exact ⟨_, rfl, ⟨rfl, rfl, hbl, hby, hm⟩, rfl, rfl⟩
  · left
    have hlt : decide ((q : Int) < g.Nts) = true := decide_eq_true (by omega)
    have hin : inR (q : Int) by_.length = true := inR_iff.2 ⟨by omega, by omega⟩
    have hat : at_ by_ (q : Int) = (byG g q).map fun q : Nat => (q : Int) := hby q
    simp only [F.forest.open__l5, hlt, hin, if_true, hat]
    unfold F.forest.open__j6
    rw [ix_inc (by omega)]
    by_cases he : byG g q = []
    · have h0 : ((((byG g q).map fun q : Nat => (q : Int)).length : Int) == 0) = true := by rw [he]; rfl
      rw [h0, if_pos rfl]
      refine ⟨s, hI.congr fun x => ?_, rfl⟩
      constructor
      · rintro ⟨a, i, j, h1, h2, h3⟩
        exact ⟨a, i, j, h1, by omega, h3⟩
      · rintro ⟨a, i, j, h1, h2, h3, h4⟩
        have : a ≠ q := by
          rintro rfl
          exact no_rules he h4
        exact ⟨a, i, j, h1, by omega, h3, h4⟩
    · have h0 : ((((byG g q).map fun q : Nat => (q : Int)).length : Int) == 0) = false := by
        rw [beq_eq_false_iff_ne, List.length_map]
        have : (byG g q).length ≠ 0 := fun h => he (List.eq_nil_of_length_eq_zero h)
        omega
      rw [h0, if_neg (by simp)]
      obtain ⟨L, eL, hL1, hL2⟩ := Spans_ok hk hr hsm hw hwl (nt := (q : Int)) (by omega) (by omega)
      obtain ⟨z, m', em, hm'⟩ := open_l7_ok hk hL1 (t := (q : Int)) hI
      rw [eL, Option.bind_some, em, Option.bind_some]
      refine ⟨m', hm'.congr fun x => ?_, rfl⟩
      constructor
      · rintro (⟨a, i, j, h1, h2, h3⟩ | ⟨h1, h2⟩)
        · exact ⟨a, i, j, h1, by omega, h3⟩
        · obtain ⟨lo, hi, a1, a2, a3, a4⟩ := (hL2 _).1 h2
          refine ⟨q, lo, hi, ?_, by omega, a3, a4⟩
          cases x
          simp only at h1 a1 a2
          rw [h1, a1, a2]
      · rintro ⟨a, i, j, h1, h2, h3, h4⟩
        by_cases ha : a = q
        · subst ha
          right
          subst h1
          exact ⟨rfl, (hL2 _).2 ⟨i, j, rfl, rfl, h3, h4⟩⟩
        · exact .inl ⟨a, i, j, h1, by omega, h3, h4⟩
  · have hlt : decide (((g.Nts.toNat : Nat) : Int) < g.Nts) = false := decide_eq_false (by omega)
    simp only [F.forest.open__l5, hlt, Bool.false_eq_true, if_false]
    exact ⟨s, rfl, hI⟩
end
end Go.Vc
