/-
  The program's chart: complete, step, a set, all sets.
-/
import Derived.Test.YtfhbgelpmbkooaaFE
set_option linter.unusedVariables false
set_option linter.unusedSimpArgs false
namespace Go.Vc
open Go Ea
def ByR (by_ : List (List Int)) (byN : Nat → List Nat) : Prop := ∀ a, by_.getD a [] = (byN a).map fun q : Nat => (q : Int)
section
variable {g : Gram} {w : List Int}
theorem Rs_get {q : Nat} {r : Ru} (h : (Rs g w)[q]? = some r) : ∃ h : q < g.Rules.length, r = toRu w g.Rules[q] := by
  unfold Rs at h
  rw [List.getElem?_map] at h
  obtain ⟨x, hx, rfl⟩ := Option.map_eq_some_iff.1 h
  obtain ⟨h1, rfl⟩ := List.getElem?_eq_some_iff.1 hx
  exact ⟨h1, rfl⟩
theorem toRu_len (r : Rule) : (toRu w r).rhs.length = r.Rhs.length := by simp [toRu]
theorem toRu_get {r : Rule} {d : Nat} (hd : d < r.Rhs.length) : (toRu w r).rhs[d]? = some (toSy w r.Rhs[d]) := by simp [toRu, hd]
theorem waits_eq (hg : RightG g) {y : It} (hq : y.rule < g.Rules.length) {a : Int} (ha : 0 ≤ a) :
    waits (Rs g w) y a.toNat = (if h : y.dot < g.Rules[y.rule].Rhs.length then g.Rules[y.rule].Rhs[y.dot].Nt == a else false) := by
  have e : (Rs g w)[y.rule]? = some (toRu w g.Rules[y.rule]) := by simp [Rs, hq]
  unfold waits
  rw [e]
  by_cases hd : y.dot < g.Rules[y.rule].Rhs.length
  · rw [dif_pos hd]
    simp only [toRu_get hd]
    unfold toSy
    by_cases h0 : 0 ≤ g.Rules[y.rule].Rhs[y.dot].Nt
    · rw [if_pos h0]
      simp only
      rw [Bool.eq_iff_iff, beq_iff_eq, beq_iff_eq]
      omega
    · rw [if_neg h0]
      simp only
      symm
      rw [beq_eq_false_iff_ne]
      omega
  · rw [dif_neg hd]
    have : (toRu w g.Rules[y.rule]).rhs[y.dot]? = none := List.getElem?_eq_none (by rw [toRu_len]; omega)
    simp only [this]
theorem itE_get {l : List It} {i : Nat} (hi : i < l.length) : at_ (l.map itE) (i : Int) = itE (l.getD i default) := by
  simp [at_, hi]
theorem complete_l2_ok (hg : RightG g) {c : Earley_chart} (hcg : c.g = g) {j k : Nat} {x : It} {v : List (Int × Int)} (hx : x.rule < g.Rules.length) (hxf : x.from_ = k) : ∀ (f i : Nat) (S S' : List (List It)) (met : List (List (EItem × Int))) (ff : Nat),
    compL (Rs g w) j k (g.Rules[x.rule].Lhs).toNat f i S = some S' → Bnd (Rs g w) S' → MetR S met → j < S.length → k < S.length → i ≤ 100000 → f ≤ ff →
    ∃ met', F.earley.chart_complete_l2 (itE x) c v (j : Int) ff (i : Int) (setsE S) met = some (setsE S', met') ∧ MetR S' met'
  | 0, _, _, _, _, _, h, _, _, _, _, _, _ => by cases h
  | f + 1, _, _, _, _, 0, _, _, _, _, _, _, h => by omega
  | f + 1, i, S, S', met, ff + 1, h, hB, hm, hj, hk, hi0, hff => by
    have hpre := compL_pre (f + 1) i S S' h
    have hBS := hB.of_pre hpre
    unfold compL at h
    have hat : at_ (setsE S) (itE x).From = (at' S k).map itE := by
      have := setsE_at S k
      rw [← hxf] at this ⊢
      exact this
    have hin : inR (itE x).From (setsE S).length = true := inR_iff.2 ⟨by simp [itE], by rw [setsE_len]; simp only [itE]; omega⟩
    have hszk := hBS.sz k
    simp only [F.earley.chart_complete_l2, hin, if_true, hat]
    by_cases hi : i < (at' S k).length
    · rw [if_pos hi] at h
      have hi1 : i < ((at' S k).map itE).length := by simpa using hi
      generalize hy : (at' S k).getD i default = y at h
      have hym : y ∈ at' S k := by
        rw [← hy, List.getD_eq_getElem?_getD, List.getElem?_eq_getElem hi]
        exact List.getElem_mem hi
      have hye : at_ ((at' S k).map itE) (i : Int) = itE y := by rw [itE_get hi, hy]
      obtain ⟨⟨r, hr, hrd⟩, _⟩ := hBS.it k y hym
      obtain ⟨hq, rfl⟩ := Rs_get hr
      have hinr : inR (itE y).Rule c.g.Rules.length = true := inR_iff.2 ⟨by simp [itE], by rw [hcg]; simp only [itE]; omega⟩
      have har : at_ c.g.Rules (itE y).Rule = g.Rules[y.rule] := by rw [hcg]; exact ix_at hq
      have harx : at_ c.g.Rules (itE x).Rule = g.Rules[x.rule] := by rw [hcg]; exact ix_at hx
      simp only [ix_lt hi1, ix_in hi1, if_true, hye, hinr, har, harx]
      have hw := waits_eq (w := w) hg hq (hg.lhs1 _ (List.getElem_mem hx))
      have hr80 := hg.rhs _ (List.getElem_mem hq)
      have hdot : IntKind.wrap .i64 ((itE y).Dot + 1) = ((y.dot + 1 : Nat) : Int) := by
        rw [toRu_len] at hrd
        exact ix_inc (by omega)
      have key : ∀ t : Bool, waits (Rs g w) y (g.Rules[x.rule].Lhs).toNat = t → ∃ met', F.earley.chart_complete_j4 c (setsE S) met v (j : Int) (itE x) (i : Int) (F.earley.chart_complete_l2 (itE x) c v (j : Int) ff) t = some (setsE S', met') ∧ MetR S' met' := by
        intro t ht
        unfold F.earley.chart_complete_j4 F.earley.chart_complete_j5 F.earley.chart_complete_j3
        rw [ht] at h
        cases t with
        | true =>
          simp only [if_true] at h ⊢
          obtain ⟨met1, e1, hm1⟩ := add_ok (R := Rs g w) (S := S) (c := ⟨c.g, c.w_, c.by_, setsE S, met, v⟩) rfl hm hj (hBS.sz j) (nx y)
          have hnx : (EItem.mk ((at_ (at_ (setsE S) (itE x).From) (i : Int)).Rule) (IntKind.wrap .i64 (((at_ (at_ (setsE S) (itE x).From) (i : Int)).Dot) + 1)) ((at_ (at_ (setsE S) (itE x).From) (i : Int)).From)) = itE (nx y) := by
            rw [hat, hye, hdot]; rfl
          rw [hnx, e1, Option.bind_some, ix_inc (by omega)]
          exact complete_l2_ok hg hcg hx hxf f (i + 1) _ S' met1 ff h hB hm1 (by rw [(addI_pre (S := S) (j := j) (nx y)).len]; exact hj) (by rw [(addI_pre (S := S) (j := j) (nx y)).len]; exact hk) (by omega) (by omega)
        | false =>
          simp only [Bool.false_eq_true, if_false] at h ⊢
          rw [ix_inc (by omega)]
          exact complete_l2_ok hg hcg hx hxf f (i + 1) S S' met ff h hB hm hj hk (by omega) (by omega)
      by_cases hd : y.dot < g.Rules[y.rule].Rhs.length
      · rw [dif_pos hd] at hw
        have hlt : decide ((itE y).Dot < (g.Rules[y.rule].Rhs.length : Int)) = true := ix_lt hd
        have hin3 : inR (itE y).Dot g.Rules[y.rule].Rhs.length = true := ix_in hd
        have hat3 : at_ g.Rules[y.rule].Rhs (itE y).Dot = g.Rules[y.rule].Rhs[y.dot] := ix_at hd
        simp only [hlt, hin3, if_true, hat3]
        exact key _ hw
      · rw [dif_neg hd] at hw
        have hlt : decide ((itE y).Dot < (g.Rules[y.rule].Rhs.length : Int)) = false := ix_ge hd
        simp only [hlt, Bool.false_eq_true, if_false]
        exact key _ hw
    · rw [if_neg hi] at h
      cases h
      have : decide ((i : Int) < (((at' S k).map itE).length : Int)) = false := ix_ge (by simpa using hi)
      simp only [this, Bool.false_eq_true, if_false]
      exact ⟨met, rfl, hm⟩
def EmR (em : List Nat) (e : List (Int × Int)) : Prop := ∀ a : Nat, 0 < (tget intE (a : Int) e).getD 0 ↔ a ∈ em
theorem Has_ok {s : S4} {b : Int} (h0 : 0 ≤ b) (h1 : b < 256) : F.charset.Has s b = some (hasB s b) := by
  have h : (F.charset.Has s b).isSome = true := by
    unfold F.charset.Has
    have e1 : gquo .u8 b 64 = b / 64 := by
      unfold gquo
      rw [Int.tdiv_eq_ediv_of_nonneg h0]
      simp only [IntKind.wrap, IntKind.bits, IntKind.signed]
      simp
      omega
    have e2 : grem b 64 = b % 64 := Int.tmod_eq_emod_of_nonneg h0
    have hin : inR (gquo .u8 b 64) 4 = true := by
      rw [e1]; exact inR_iff.2 ⟨by omega, by omega⟩
    have hneg : decide (grem b 64 < 0) = false := decide_eq_false (by rw [e2]; omega)
    rw [hin, hneg]; rfl
  unfold hasB
  cases hh : F.charset.Has s b with
  | none => rw [hh] at h; cases h
  | some v => rfl
def Bytes (w : List Int) : Prop := ∀ b ∈ w, 0 ≤ b ∧ b < 256
theorem adds_F {R : List Ru} {c : Earley_chart} {x : It} {j : Nat} {qs : List Nat} {nt : Int} (hqs : at_ c.by_ nt = qs.map fun q : Nat => (q : Int)) (hq200 : qs.length ≤ 1000) (hnt : (at_ ((at_ c.g.Rules (itE x).Rule).Rhs) (itE x).Dot).Nt = nt) {S0 : List (List It)} (hj : j < S0.length) (hB : Bnd R (qs.foldl (fun S q => addI S j ⟨q, 0, j⟩) S0)) {met0 : List (List (EItem × Int))} (hm : MetR S0 met0) {k : Nat} (hk : 20000 ≤ k) :
    ∃ met', F.earley.chart_step_l2 c (itE x) (j : Int) k 0 (setsE S0) met0 = some (setsE (qs.foldl (fun S q => addI S j ⟨q, 0, j⟩) S0), met') ∧ MetR (qs.foldl (fun S q => addI S j ⟨q, 0, j⟩) S0) met' := by
  have key := loop_inv0 (n := qs.length) (k := k) (σ := List (List EItem) × List (List (EItem × Int))) (s := (setsE S0, met0)) (L := fun j' i s => F.earley.chart_step_l2 c (itE x) (j : Int) j' i s.1 s.2)
    (I := fun i s => s.1 = setsE ((qs.take i).foldl (fun S q => addI S j ⟨q, 0, j⟩) S0) ∧ MetR ((qs.take i).foldl (fun S q => addI S j ⟨q, 0, j⟩) S0) s.2)
    (Q := fun o => ∃ met', o = some (setsE (qs.foldl (fun S q => addI S j ⟨q, 0, j⟩) S0), met') ∧ MetR (qs.foldl (fun S q => addI S j ⟨q, 0, j⟩) S0) met') (by omega) ⟨rfl, hm⟩ (fun j' i s hi hI => ?_) (fun j' s hI => ?_)
  · exact key
  · obtain ⟨s1, s2⟩ := s
    obtain ⟨rfl, hI2⟩ := hI
    simp only at hI2
    have hpre : Pre ((qs.take i).foldl (fun S q => addI S j ⟨q, 0, j⟩) S0) (qs.foldl (fun S q => addI S j ⟨q, 0, j⟩) S0) := by
      have := adds_pre (j := j) (qs.drop i) ((qs.take i).foldl (fun S q => addI S j ⟨q, 0, j⟩) S0)
      rw [← List.foldl_append, List.take_append_drop] at this
      exact this
    have hpre0 := adds_pre (j := j) (qs.take i) S0
    obtain ⟨met1, e1, hm1⟩ := add_ok (R := R) (c := ⟨c.g, c.w_, c.by_, setsE ((qs.take i).foldl (fun S q => addI S j ⟨q, 0, j⟩) S0), s2, c.empty⟩) rfl hI2 (j := j) (by rw [hpre0.len]; exact hj) ((hB.of_pre hpre).sz j) ⟨qs[i], 0, j⟩
    have hl : i < (qs.map fun q : Nat => (q : Int)).length := by simpa using hi
    have hai : at_ (qs.map fun q : Nat => (q : Int)) (i : Int) = ((qs[i] : Nat) : Int) := by rw [ix_at hl]; simp
    left
    refine ⟨(setsE (addI ((qs.take i).foldl (fun S q => addI S j ⟨q, 0, j⟩) S0) j ⟨qs[i], 0, j⟩), met1), ⟨?_, ?_⟩, ?_⟩
    · rw [List.take_succ_eq_append_getElem hi, List.foldl_append]; rfl
    · rw [List.take_succ_eq_append_getElem hi, List.foldl_append]; exact hm1
    · simp only [F.earley.chart_step_l2, hnt, hqs, ix_lt hl, ix_in hl, if_true, hai]
      rw [show (EItem.mk ((qs[i] : Nat) : Int) 0 (j : Int)) = itE ⟨qs[i], 0, j⟩ from rfl, e1, Option.bind_some, ix_inc (by omega)]
  · obtain ⟨s1, s2⟩ := s
    obtain ⟨rfl, hI2⟩ := hI
    simp only at hI2
    rw [List.take_length] at hI2
    have : decide ((qs.length : Int) < ((qs.map fun q : Nat => (q : Int)).length : Int)) = false := by simp
    simp only [F.earley.chart_step_l2, hnt, hqs, this, Bool.false_eq_true, if_false, List.take_length]
    exact ⟨s2, rfl, hI2⟩
theorem step_ok (hg : RightG g) (hw : Bytes w) (hwl : w.length ≤ 1000) {c : Earley_chart} (hcg : c.g = g) (hcw : c.w_ = w) {byN : Nat → List Nat} (hby : ByR c.by_ byN) (hbl : c.by_.length = g.Nts.toNat) (hby2 : ∀ a, (byN a).length ≤ 1000) {k f : Nat} (hk : 20000 ≤ k) (hf : f ≤ k) {j : Nat} {x : It} {S S' : List (List It)} {em em' : List Nat} (hs : c.sets = setsE S) (hm : MetR S c.met) (he : EmR em c.empty) (hl : S.length = w.length + 1) (hj : j ≤ w.length) (hx : x ∈ at' S j)
    (h : stepE (Rs g w) byN w.length f j x S em = some (S', em')) (hB : Bnd (Rs g w) S') :
    ∃ met' e', F.earley.chart_step k c (j : Int) (itE x) = some ⟨c.g, c.w_, c.by_, setsE S', met', e'⟩ ∧ MetR S' met' ∧ EmR em' e' := by
  have hpre := stepE_pre h
  have hBS := hB.of_pre hpre
  obtain ⟨⟨r, hr, hrd⟩, hxf⟩ := hBS.it j x hx
  obtain ⟨hq, rfl⟩ := Rs_get hr
  rw [toRu_len] at hrd
  have hrm : g.Rules[x.rule] ∈ g.Rules := List.getElem_mem hq
  have hr80 := hg.rhs _ hrm
  have hinr : inR (itE x).Rule c.g.Rules.length = true := inR_iff.2 ⟨by simp [itE], by rw [hcg]; simp only [itE]; omega⟩
  have har : at_ c.g.Rules (itE x).Rule = g.Rules[x.rule] := by rw [hcg]; exact ix_at hq
  have hdot : IntKind.wrap .i64 ((itE x).Dot + 1) = ((x.dot + 1 : Nat) : Int) := ix_inc (by omega)
  unfold stepE at h
  rw [hr] at h
  simp only at h
  unfold F.earley.chart_step
  simp only [hinr, if_true, har]
  by_cases hd : x.dot < g.Rules[x.rule].Rhs.length
  · have hne : ((itE x).Dot == (g.Rules[x.rule].Rhs.length : Int)) = false := by rw [beq_eq_false_iff_ne]; simp only [itE]; omega
    have hin3 : inR (itE x).Dot g.Rules[x.rule].Rhs.length = true := ix_in hd
    have hat3 : at_ g.Rules[x.rule].Rhs (itE x).Dot = g.Rules[x.rule].Rhs[x.dot] := ix_at hd
    rw [toRu_get hd] at h
    simp only [hne, hin3, if_true, hat3, Bool.false_eq_true, if_false]
    have hsm : g.Rules[x.rule].Rhs[x.dot] ∈ g.Rules[x.rule].Rhs := List.getElem_mem hd
    have hnt1 := hg.nt1 _ hrm _ hsm
    have hnt2 := hg.nt2 _ hrm _ hsm
    unfold toSy at h
    by_cases h0 : 0 ≤ g.Rules[x.rule].Rhs[x.dot].Nt
    · rw [if_pos h0] at h
      simp only [Option.some.injEq, Prod.mk.injEq] at h
      obtain ⟨h1, rfl⟩ := h
      have hlt0 : decide (g.Rules[x.rule].Rhs[x.dot].Nt < 0) = false := decide_eq_false (by omega)
      have hinb : inR g.Rules[x.rule].Rhs[x.dot].Nt c.by_.length = true := inR_iff.2 ⟨h0, by rw [hbl]; omega⟩
      simp only [hlt0, Bool.false_eq_true, if_false, hinb, if_true]
      have hqs : at_ c.by_ g.Rules[x.rule].Rhs[x.dot].Nt = (byN g.Rules[x.rule].Rhs[x.dot].Nt.toNat).map fun q : Nat => (q : Int) := hby _
      have hntx : (at_ ((at_ c.g.Rules (itE x).Rule).Rhs) (itE x).Dot).Nt = g.Rules[x.rule].Rhs[x.dot].Nt := by rw [har, hat3]
      have hBf : Bnd (Rs g w) ((byN g.Rules[x.rule].Rhs[x.dot].Nt.toNat).foldl (fun S q => addI S j ⟨q, 0, j⟩) S) := by
        refine hB.of_pre ?_
        rw [← h1]
        split
        · exact addI_pre _
        · exact .refl _
      obtain ⟨met1, e1, hm1⟩ := adds_F hqs (hby2 _) hntx (by omega : j < S.length) hBf hm hk
      rw [hs, e1, Option.bind_some]
      have hem : (0 < (tget intE g.Rules[x.rule].Rhs[x.dot].Nt c.empty).getD 0) ↔ g.Rules[x.rule].Rhs[x.dot].Nt.toNat ∈ em := by
        have := he g.Rules[x.rule].Rhs[x.dot].Nt.toNat
        rw [Int.toNat_of_nonneg h0] at this
        exact this
      have hlenf := (adds_pre (j := j) (byN g.Rules[x.rule].Rhs[x.dot].Nt.toNat) S).len
      by_cases hin : g.Rules[x.rule].Rhs[x.dot].Nt.toNat ∈ em
      · rw [if_pos hin] at h1
        have hd1 : decide (0 < (tget intE g.Rules[x.rule].Rhs[x.dot].Nt c.empty).getD 0) = true := decide_eq_true (hem.2 hin)
        obtain ⟨met2, e2, hm2⟩ := add_ok (R := Rs g w) (c := ⟨c.g, c.w_, c.by_, setsE ((byN g.Rules[x.rule].Rhs[x.dot].Nt.toNat).foldl (fun S q => addI S j ⟨q, 0, j⟩) S), met1, c.empty⟩) rfl hm1 (j := j) (by rw [hlenf]; omega) (hBf.sz j) (nx x)
        rw [hd1, if_pos rfl, hdot]
        rw [show (EItem.mk (itE x).Rule ((x.dot + 1 : Nat) : Int) (itE x).From) = itE (nx x) from rfl, e2, Option.bind_some]
        rw [← h1]
        exact ⟨met2, c.empty, rfl, hm2, he⟩
      · rw [if_neg hin] at h1
        have hd1 : decide (0 < (tget intE g.Rules[x.rule].Rhs[x.dot].Nt c.empty).getD 0) = false := decide_eq_false (fun h => hin (hem.1 h))
        rw [hd1, if_neg (by simp), ← h1]
        exact ⟨met1, c.empty, rfl, hm1, he⟩
    · rw [if_neg h0] at h
      simp only [Option.some.injEq, Prod.mk.injEq] at h
      obtain ⟨h1, rfl⟩ := h
      have hlt0 : decide (g.Rules[x.rule].Rhs[x.dot].Nt < 0) = true := decide_eq_true (by omega)
      simp only [hlt0, if_true, hcw]
      unfold F.earley.chart_step_j1
      by_cases hjw : j < w.length
      · have hb := hw _ (List.getElem_mem hjw)
        have hwd : w.getD j 0 = w[j] := by simp [hjw]
        rw [ix_lt hjw, if_pos rfl, ix_in hjw, if_pos rfl, ix_at hjw]
        have hHas : F.charset.Has (S4.mk g.Rules[x.rule].Rhs[x.dot].Set.w0 g.Rules[x.rule].Rhs[x.dot].Set.w1 g.Rules[x.rule].Rhs[x.dot].Set.w2 g.Rules[x.rule].Rhs[x.dot].Set.w3) w[j] = some (hasB g.Rules[x.rule].Rhs[x.dot].Set w[j]) := Has_ok hb.1 hb.2
        rw [hHas, Option.bind_some]
        simp only [hjw, decide_true, Bool.true_and, hwd, true_and] at h1
        by_cases hp : hasB g.Rules[x.rule].Rhs[x.dot].Set w[j] = true
        · rw [if_pos hp] at h1
          rw [if_pos hp]
          obtain ⟨met1, e1, hm1⟩ := add_ok (R := Rs g w) hs hm (j := j + 1) (by omega) (hBS.sz (j + 1)) (nx x)
          rw [hdot, ix_inc (by omega), show (EItem.mk (itE x).Rule ((x.dot + 1 : Nat) : Int) (itE x).From) = itE (nx x) from rfl, e1, Option.bind_some, ← h1, ← hcw]
          exact ⟨met1, c.empty, rfl, hm1, he⟩
        · rw [if_neg hp] at h1
          rw [if_neg hp, ← h1, ← hcw]
          exact ⟨c.met, c.empty, by rw [← hs], hm, he⟩
      · have : ¬ (j < w.length ∧ (decide (j < w.length) && hasB g.Rules[x.rule].Rhs[x.dot].Set (w.getD j 0)) = true) := fun h => hjw h.1
        rw [if_neg this] at h1
        rw [ix_ge hjw, if_neg (by simp), if_neg (by simp), ← h1, ← hcw]
        exact ⟨c.met, c.empty, by rw [← hs], hm, he⟩
  · have hde : x.dot = g.Rules[x.rule].Rhs.length := by omega
    have heq : ((itE x).Dot == (g.Rules[x.rule].Rhs.length : Int)) = true := by rw [beq_iff_eq]; simp only [itE]; omega
    have : (toRu w g.Rules[x.rule]).rhs[x.dot]? = none := List.getElem?_eq_none (by rw [toRu_len]; omega)
    rw [this] at h
    simp only at h
    obtain ⟨S1, hc1, e⟩ := Option.map_eq_some_iff.1 h
    simp only [Prod.mk.injEq] at e
    obtain ⟨rfl, rfl⟩ := e
    simp only [heq, if_true]
    unfold F.earley.chart_complete F.earley.chart_complete_j1
    simp only [hinr, if_true, har]
    have hL1 := hg.lhs1 _ hrm
    have hcl : (toRu w g.Rules[x.rule]).lhs = g.Rules[x.rule].Lhs.toNat := rfl
    rw [hcl] at hc1
    have hfe : ((itE x).From == (j : Int)) = decide (x.from_ = j) := by
      rw [Bool.eq_iff_iff, beq_iff_eq, decide_eq_true_eq]; simp only [itE]; omega
    have run : ∀ v, ∃ met', (F.earley.chart_complete_l2 (itE x) c v (j : Int) k 0 c.sets c.met) = some (setsE S1, met') ∧ MetR S1 met' := by
      intro v
      rw [hs]
      exact complete_l2_ok hg hcg hq rfl f 0 S S1 c.met k hc1 hB hm (by omega) hxf (by omega) hf
    rw [hfe]
    by_cases hfj : x.from_ = j
    · obtain ⟨met', e1, hm1⟩ := run (tput intE g.Rules[x.rule].Lhs 1 c.empty)
      rw [decide_eq_true hfj, if_pos rfl, e1, Option.bind_some, Option.bind_some, if_pos hfj]
      refine ⟨met', _, rfl, hm1, fun a => ?_⟩
      rw [tget_tput (fun a b => intE_iff)]
      by_cases ha : (a : Int) = g.Rules[x.rule].Lhs
      · rw [if_pos ha]
        have : a = g.Rules[x.rule].Lhs.toNat := by omega
        simp [hcl, this]
      · rw [if_neg ha, he a]
        have : a ≠ g.Rules[x.rule].Lhs.toNat := by omega
        simp [hcl, this]
    · obtain ⟨met', e1, hm1⟩ := run c.empty
      rw [decide_eq_false hfj, if_neg (by simp), e1, Option.bind_some, Option.bind_some, if_neg hfj]
      exact ⟨met', _, rfl, hm1, he⟩
end
end Go.Vc
