import Derived.Test.YtfhbgelpmbkooaaFE
set_option linter.unusedVariables false
set_option linter.unusedSimpArgs false
namespace Go.Vc
open Go Ea
def ByR (by_ : List (List Int)) (byN : Nat → List Nat) : Prop := ∀ a, by_.getD a [] = (byN a).map fun q : Nat => (q : Int)
section
variable {g : Gram} {w : List Int}
theorem Rs_get {q : Nat} {r : Ru} (h : (Rs g w)[q]? = some r) : ∃ h : q < g.Rules.length, r = toRu w g.Rules[q] := by
  unfold Rs at h
  rw [List.getElem?_map] at h
  obtain ⟨x, hx, rfl⟩ := Option.map_eq_some_iff.1 h
  obtain ⟨h1, rfl⟩ := List.getElem?_eq_some_iff.1 hx
  exact ⟨h1, rfl⟩
theorem toRu_len (r : Rule) : (toRu w r).rhs.length = r.Rhs.length := by simp [toRu]
theorem toRu_get {r : Rule} {d : Nat} (hd : d < r.Rhs.length) : (toRu w r).rhs[d]? = some (toSy w r.Rhs[d]) := by simp [toRu, hd]
theorem waits_eq (hg : RightG g) {y : It} (hq : y.rule < g.Rules.length) {a : Int} (ha : 0 ≤ a) :
    waits (Rs g w) y a.toNat = (if h : y.dot < g.Rules[y.rule].Rhs.length then g.Rules[y.rule].Rhs[y.dot].Nt == a else false) := by
  have e : (Rs g w)[y.rule]? = some (toRu w g.Rules[y.rule]) := by simp [Rs, hq]
  unfold waits
  rw [e]
  by_cases hd : y.dot < g.Rules[y.rule].Rhs.length
  · rw [dif_pos hd]
    simp only [toRu_get hd]
    unfold toSy
    by_cases h0 : 0 ≤ g.Rules[y.rule].Rhs[y.dot].Nt
    · rw [if_pos h0]
      simp only
      rw [Bool.eq_iff_iff, beq_iff_eq, beq_iff_eq]
      omega
    · rw [if_neg h0]
      simp only
      symm
      rw [beq_eq_false_iff_ne]
      omega
  · rw [dif_neg hd]
    have : (toRu w g.Rules[y.rule]).rhs[y.dot]? = none := List.getElem?_eq_none (by rw [toRu_len]; omega)
    simp only [this]
theorem itE_get {l : List It} {i : Nat} (hi : i < l.length) : at_ (l.map itE) (i : Int) = itE (l.getD i default) := by
  simp [at_, hi]
theorem complete_l2_ok (hg : RightG g) {c : Earley_chart} (hcg : c.g = g) {j k : Nat} {x : It} {v : List (Int × Int)} (hx : x.rule < g.Rules.length) (hxf : x.from_ = k) : ∀ (f i : Nat) (S S' : List (List It)) (met : List (List (EItem × Int))) (ff : Nat),
    compL (Rs g w) j k (g.Rules[x.rule].Lhs).toNat f i S = some S' → Bnd (Rs g w) S' → MetR S met → j < S.length → k < S.length → i ≤ 100000 → f ≤ ff →
    ∃ met', F.earley.chart_complete_l2 (itE x) c v (j : Int) ff (i : Int) (setsE S) met = some (setsE S', met') ∧ MetR S' met'
  | 0, _, _, _, _, _, h, _, _, _, _, _, _ => by cases h
  | f + 1, _, _, _, _, 0, _, _, _, _, _, _, h => by omega
  | f + 1, i, S, S', met, ff + 1, h, hB, hm, hj, hk, hi0, hff => by
    have hpre := compL_pre (f + 1) i S S' h
    have hBS := hB.of_pre hpre
    unfold compL at h
    have hat : at_ (setsE S) (itE x).From = (at' S k).map itE := by
      have := setsE_at S k
      rw [← hxf] at this ⊢
      exact this
    have hin : inR (itE x).From (setsE S).length = true := inR_iff.2 ⟨by simp [itE], by rw [setsE_len]; simp only [itE]; omega⟩
    have hszk := hBS.sz k
    simp only [F.earley.chart_complete_l2, hin, if_true, hat]
    by_cases hi : i < (at' S k).length
    · rw [if_pos hi] at h
      have hi1 : i < ((at' S k).map itE).length := by simpa using hi
      generalize hy : (at' S k).getD i default = y at h
      have hym : y ∈ at' S k := by
        rw [← hy, List.getD_eq_getElem?_getD, List.getElem?_eq_getElem hi]
        exact List.getElem_mem hi
      have hye : at_ ((at' S k).map itE) (i : Int) = itE y := by rw [itE_get hi, hy]
      obtain ⟨⟨r, hr, hrd⟩, _⟩ := hBS.it k y hym
      obtain ⟨hq, rfl⟩ := Rs_get hr
      have hinr : inR (itE y).Rule c.g.Rules.length = true := inR_iff.2 ⟨by simp [itE], by rw [hcg]; simp only [itE]; omega⟩
      have har : at_ c.g.Rules (itE y).Rule = g.Rules[y.rule] := by rw [hcg]; exact ix_at hq
      have harx : at_ c.g.Rules (itE x).Rule = g.Rules[x.rule] := by rw [hcg]; exact ix_at hx
      simp only [ix_lt hi1, ix_in hi1, if_true, hye, hinr, har, harx]
      have hw := waits_eq (w := w) hg hq (hg.lhs1 _ (List.getElem_mem hx))
      have hr80 := hg.rhs _ (List.getElem_mem hq)
      have hdot : IntKind.wrap .i64 ((itE y).Dot + 1) = ((y.dot + 1 : Nat) : Int) := by
        rw [toRu_len] at hrd
        exact ix_inc (by omega)
      have key : ∀ t : Bool, waits (Rs g w) y (g.Rules[x.rule].Lhs).toNat = t → ∃ met', F.earley.chart_complete_j4 c (setsE S) met v (j : Int) (itE x) (i : Int) (F.earley.chart_complete_l2 (itE x) c v (j : Int) ff) t = some (setsE S', met') ∧ MetR S' met' := by
        intro t ht
        unfold F.earley.chart_complete_j4 F.earley.chart_complete_j5 F.earley.chart_complete_j3
        rw [ht] at h
        cases t with
        | true =>
          simp only [if_true] at h ⊢
          obtain ⟨met1, e1, hm1⟩ := add_ok (R := Rs g w) (S := S) (c := ⟨c.g, c.w_, c.by_, setsE S, met, v⟩) rfl hm hj (hBS.sz j) (nx y)
          have hnx : (EItem.mk ((at_ (at_ (setsE S) (itE x).From) (i : Int)).Rule) (IntKind.wrap .i64 (((at_ (at_ (setsE S) (itE x).From) (i : Int)).Dot) + 1)) ((at_ (at_ (setsE S) (itE x).From) (i : Int)).From)) = itE (nx y) := by
            rw [hat, hye, hdot]; rfl
          rw [hnx, e1, Option.bind_some, ix_inc (by omega)]
          exact complete_l2_ok hg hcg hx hxf f (i + 1) _ S' met1 ff h hB hm1 (by rw [(addI_pre (S := S) (j := j) (nx y)).len]; exact hj) (by rw [(addI_pre (S := S) (j := j) (nx y)).len]; exact hk) (by omega) (by omega)
        | false =>
          simp only [Bool.false_eq_true, if_false] at h ⊢
          rw [ix_inc (by omega)]
          exact complete_l2_ok hg hcg hx hxf f (i + 1) S S' met ff h hB hm hj hk (by omega) (by omega)
      by_cases hd : y.dot < g.Rules[y.rule].Rhs.length
      · rw [dif_pos hd] at hw
        have hlt : decide ((itE y).Dot < (g.Rules[y.rule].Rhs.length : Int)) = true := ix_lt hd
        have hin3 : inR (itE y).Dot g.Rules[y.rule].Rhs.length = true := ix_in hd
        have hat3 : at_ g.Rules[y.rule].Rhs (itE y).Dot = g.Rules[y.rule].Rhs[y.dot] := ix_at hd
        simp only [hlt, hin3, if_true, hat3]
        exact key _ hw
      · rw [dif_neg hd] at hw
        have hlt : decide ((itE y).Dot < (g.Rules[y.rule].Rhs.length : Int)) = false := ix_ge hd
        simp only [hlt, Bool.false_eq_true, if_false]
        exact key _ hw
    · rw [if_neg hi] at h
      cases h
      have : decide ((i : Int) < (((at' S k).map itE).length : Int)) = false := ix_ge (by simpa using hi)
      simp only [this, Bool.false_eq_true, if_false]
      exact ⟨met, rfl, hm⟩
def EmR (em : List Nat) (e : List (Int × Int)) : Prop := ∀ a : Nat, 0 < (tget intE (a : Int) e).getD 0 ↔ a ∈ em
theorem Has_ok {s : S4} {b : Int} (h0 : 0 ≤ b) (h1 : b < 256) : F.charset.Has s b = some (hasB s b) := by
  have h : (F.charset.Has s b).isSome = true := by
    unfold F.charset.Has
    have e1 : gquo .u8 b 64 = b / 64 := by
      unfold gquo
      rw [Int.tdiv_eq_ediv_of_nonneg h0]
      simp only [IntKind.wrap, IntKind.bits, IntKind.signed]
      simp
      omega
    have e2 : grem b 64 = b % 64 := Int.tmod_eq_emod_of_nonneg h0
    have hin : inR (gquo .u8 b 64) 4 = true := by
      rw [e1]; exact inR_iff.2 ⟨by omega, by omega⟩
    have hneg : decide (grem b 64 < 0) = false := decide_eq_false (by rw [e2]; omega)
    rw [hin, hneg]; rfl
  unfold hasB
  cases hh : F.charset.Has s b with
  | none => rw [hh] at h; cases h
  | some v => rfl
def Bytes (w : List Int) : Prop := ∀ b ∈ w, 0 ≤ b ∧ b < 256
theorem adds_F {R : List Ru} {c : Earley_chart} {x : It} {j : Nat} {qs : List Nat} {nt : Int} (hqs : at_ c.by_ nt = qs.map fun q : Nat => (q : Int)) (hq200 : qs.length ≤ 1000) (hnt : (at_ ((at_ c.g.Rules (itE x).Rule).Rhs) (itE x).Dot).Nt = nt) {S0 : List (List It)} (hj : j < S0.length) (hB : Bnd R (qs.foldl (fun S q => addI S j ⟨q, 0, j⟩) S0)) {met0 : List (List (EItem × Int))} (hm : MetR S0 met0) {k : Nat} (hk : 20000 ≤ k) :
    ∃ met', F.earley.chart_step_l2 c (itE x) (j : Int) k 0 (setsE S0) met0 = some (setsE (qs.foldl (fun S q => addI S j ⟨q, 0, j⟩) S0), met') ∧ MetR (qs.foldl (fun S q => addI S j ⟨q, 0, j⟩) S0) met' := by
  have key := loop_inv0 (n := qs.length) (k := k) (σ := List (List EItem) × List (List (EItem × Int))) (s := (setsE S0, met0)) (L := fun j' i s => F.earley.chart_step_l2 c (itE x) (j : Int) j' i s.1 s.2)
    (I := fun i s => s.1 = setsE ((qs.take i).foldl (fun S q => addI S j ⟨q, 0, j⟩) S0) ∧ MetR ((qs.take i).foldl (fun S q => addI S j ⟨q, 0, j⟩) S0) s.2)
    (Q := fun o => ∃ met', o = some (setsE (qs.foldl (fun S q => addI S j ⟨q, 0, j⟩) S0), met') ∧ MetR (qs.foldl (fun S q => addI S j ⟨q, 0, j⟩) S0) met') (by omega) ⟨rfl, hm⟩ (fun j' i s hi hI => ?_) (fun j' s hI => ?_)
  · exact key
  · obtain ⟨s1, s2⟩ := s
    obtain ⟨rfl, hI2⟩ := hI
    simp only at hI2
    have hpre : Pre ((qs.take i).foldl (fun S q => addI S j ⟨q, 0, j⟩) S0) (qs.foldl (fun S q => addI S j ⟨q, 0, j⟩) S0) := by
      have := adds_pre (j := j) (qs.drop i) ((qs.take i).foldl (fun S q => addI S j ⟨q, 0, j⟩) S0)
      rw [← List.foldl_append, List.take_append_drop] at this
      exact this
    have hpre0 := adds_pre (j := j) (qs.take i) S0
    obtain ⟨met1, e1, hm1⟩ := add_ok (R := R) (c := ⟨c.g, c.w_, c.by_, setsE ((qs.take i).foldl (fun S q => addI S j ⟨q, 0, j⟩) S0), s2, c.empty⟩) rfl hI2 (j := j) (by rw [hpre0.len]; exact hj) ((hB.of_pre hpre).sz j) ⟨qs[i], 0, j⟩
    have hl : i < (qs.map fun q : Nat => (q : Int)).length := by simpa using hi
    have hai : at_ (qs.map fun q : Nat => (q : Int)) (i : Int) = ((qs[i] : Nat) : Int) := by rw [ix_at hl]; simp
    left
    refine ⟨(setsE (addI ((qs.take i).foldl (fun S q => addI S j ⟨q, 0, j⟩) S0) j ⟨qs[i], 0, j⟩), met1), ⟨?_, ?_⟩, ?_⟩
    · rw [List.take_succ_eq_append_getElem hi, List.foldl_append]; rfl
    · rw [List.take_succ_eq_append_getElem hi, List.foldl_append]; exact hm1
    · simp only [F.earley.chart_step_l2, hnt, hqs, ix_lt hl, ix_in hl, if_true, hai]
      rw [show (EItem.mk ((qs[i] : Nat) : Int) 0 (j : Int)) = itE ⟨qs[i], 0, j⟩ from rfl, e1, Option.bind_some, ix_inc (by omega)]
  · obtain ⟨s1, s2⟩ := s
    obtain ⟨rfl, hI2⟩ := hI
    simp only at hI2
    rw [List.take_length] at hI2
    have : decide ((qs.length : Int) < ((qs.map fun q : Nat => (q : Int)).length : Int)) = false := by simp
    simp only [F.earley.chart_step_l2, hnt, hqs, this, Bool.false_eq_true, if_false, List.take_length]
    exact ⟨s2, rfl, hI2⟩
theorem step_ok (hg : RightG g) (hw : Bytes w) (hwl : w.length ≤ 1000) {c : Earley_chart} (hcg : c.g = g) (hcw : c.w_ = w) {byN : Nat → List Nat} (hby : ByR c.by_ byN) (hbl : c.by_.length = g.Nts.toNat) (hby2 : ∀ a, (byN a).length ≤ 1000) {k f : Nat} (hk : 20000 ≤ k) (hf : f ≤ k) {j : Nat} {x : It} {S S' : List (List It)} {em em' : List Nat} (hs : c.sets = setsE S) (hm : MetR S c.met) (he : EmR em c.empty) (hl : S.length = w.length + 1) (hj : j ≤ w.length) (hx : x ∈ at' S j)
    (h : stepE (Rs g w) byN w.length f j x S em = some (S', em')) (hB : Bnd (Rs g w) S') :
    ∃ met' e', F.earley.chart_step k c (j : Int) (itE x) = some ⟨c.g, c.w_, c.by_, setsE S', met', e'⟩ ∧ MetR S' met' ∧ EmR em' e' := by
  have hpre := stepE_pre h
  have hBS := hB.of_pre hpre
  obtain ⟨⟨r, hr, hrd⟩, hxf⟩ := hBS.it j x hx
  obtain ⟨hq, rfl⟩ := Rs_get hr
  rw [toRu_len] at hrd
  have hrm : g.Rules[x.rule] ∈ g.Rules := List.getElem_mem hq
  have hr80 := hg.rhs _ hrm
  have hinr : inR (itE x).Rule c.g.Rules.length = true := inR_iff.2 ⟨by simp [itE], by rw [hcg]; simp only [itE]; omega⟩
  have har : at_ c.g.Rules (itE x).Rule = g.Rules[x.rule] := by rw [hcg]; exact ix_at hq
  have hdot : IntKind.wrap .i64 ((itE x).Dot + 1) = ((x.dot + 1 : Nat) : Int) := ix_inc (by omega)
  unfold stepE at h
  rw [hr] at h
  simp only at h
  unfold F.earley.chart_step
  simp only [hinr, if_true, har]
  by_cases hd : x.dot < g.Rules[x.rule].Rhs.length
  · have hne : ((itE x).Dot == (g.Rules[x.rule].Rhs.length : Int)) = false := by rw [beq_eq_false_iff_ne]; simp only [itE]; omega
    have hin3 : inR (itE x).Dot g.Rules[x.rule].Rhs.length = true := ix_in hd
    have hat3 : at_ g.Rules[x.rule].Rhs (itE x).Dot = g.Rules[x.rule].Rhs[x.dot] := ix_at hd
    rw [toRu_get hd] at h
    simp only [hne, hin3, if_true, hat3, Bool.false_eq_true, if_false]
    have hsm : g.Rules[x.rule].Rhs[x.dot] ∈ g.Rules[x.rule].Rhs := List.getElem_mem hd
    have hnt1 := hg.nt1 _ hrm _ hsm
    have hnt2 := hg.nt2 _ hrm _ hsm
    unfold toSy at h
    by_cases h0 : 0 ≤ g.Rules[x.rule].Rhs[x.dot].Nt
    · rw [if_pos h0] at h
      simp only [Option.some.injEq, Prod.mk.injEq] at h
      obtain ⟨h1, rfl⟩ := h
      have hlt0 : decide (g.Rules[x.rule].Rhs[x.dot].Nt < 0) = false := decide_eq_false (by omega)
      have hinb : inR g.Rules[x.rule].Rhs[x.dot].Nt c.by_.length = true := inR_iff.2 ⟨h0, by rw [hbl]; omega⟩
      simp only [hlt0, Bool.false_eq_true, if_false, hinb, if_true]
      have hqs : at_ c.by_ g.Rules[x.rule].Rhs[x.dot].Nt = (byN g.Rules[x.rule].Rhs[x.dot].Nt.toNat).map fun q : Nat => (q : Int) := hby _
      have hntx : (at_ ((at_ c.g.Rules (itE x).Rule).Rhs) (itE x).Dot).Nt = g.Rules[x.rule].Rhs[x.dot].Nt := by rw [har, hat3]
      have hBf : Bnd (Rs g w) ((byN g.Rules[x.rule].Rhs[x.dot].Nt.toNat).foldl (fun S q => addI S j ⟨q, 0, j⟩) S) := by
        refine hB.of_pre ?_
        rw [← h1]
        split
        · exact addI_pre _
        · exact .refl _
      obtain ⟨met1, e1, hm1⟩ := adds_F hqs (hby2 _) hntx (by omega : j < S.length) hBf hm hk
      rw [hs, e1, Option.bind_some]
      have hem : (0 < (tget intE g.Rules[x.rule].Rhs[x.dot].Nt c.empty).getD 0) ↔ g.Rules[x.rule].Rhs[x.dot].Nt.toNat ∈ em := by
        have := he g.Rules[x.rule].Rhs[x.dot].Nt.toNat
        rw [Int.toNat_of_nonneg h0] at this
        exact this
      have hlenf := (adds_pre (j := j) (byN g.Rules[x.rule].Rhs[x.dot].Nt.toNat) S).len
      by_cases hin : g.Rules[x.rule].Rhs[x.dot].Nt.toNat ∈ em
      · rw [if_pos hin] at h1
        have hd1 : decide (0 < (tget intE g.Rules[x.rule].Rhs[x.dot].Nt c.empty).getD 0) = true := decide_eq_true (hem.2 hin)
        obtain ⟨met2, e2, hm2⟩ := add_ok (R := Rs g w) (c := ⟨c.g, c.w_, c.by_, setsE ((byN g.Rules[x.rule].Rhs[x.dot].Nt.toNat).foldl (fun S q => addI S j ⟨q, 0, j⟩) S), met1, c.empty⟩) rfl hm1 (j := j) (by rw [hlenf]; omega) (hBf.sz j) (nx x)
        rw [hd1, if_pos rfl, hdot]
        rw [show (EItem.mk (itE x).Rule ((x.dot + 1 : Nat) : Int) (itE x).From) = itE (nx x) from rfl, e2, Option.bind_some]
        rw [← h1]
        exact ⟨met2, c.empty, rfl, hm2, he⟩
      · rw [if_neg hin] at h1
        have hd1 : decide (0 < (tget intE g.Rules[x.rule].Rhs[x.dot].Nt c.empty).getD 0) = false := decide_eq_false (fun h => hin (hem.1 h))
        rw [hd1, if_neg (by simp), ← h1]
        exact ⟨met1, c.empty, rfl, hm1, he⟩
    · rw [if_neg h0] at h
      simp only [Option.some.injEq, Prod.mk.injEq] at h
      obtain ⟨h1, rfl⟩ := h
      have hlt0 : decide (g.Rules[x.rule].Rhs[x.dot].Nt < 0) = true := decide_eq_true (by omega)
      simp only [hlt0, if_true, hcw]
      unfold F.earley.chart_step_j1
      by_cases hjw : j < w.length
      · have hb := hw _ (List.getElem_mem hjw)
        have hwd : w.getD j 0 = w[j] := by simp [hjw]
        rw [ix_lt hjw, if_pos rfl, ix_in hjw, if_pos rfl, ix_at hjw]
        have hHas : F.charset.Has (S4.mk g.Rules[x.rule].Rhs[x.dot].Set.w0 g.Rules[x.rule].Rhs[x.dot].Set.w1 g.Rules[x.rule].Rhs[x.dot].Set.w2 g.Rules[x.rule].Rhs[x.dot].Set.w3) w[j] = some (hasB g.Rules[x.rule].Rhs[x.dot].Set w[j]) := Has_ok hb.1 hb.2
        rw [hHas, Option.bind_some]
        simp only [hjw, decide_true, Bool.true_and, hwd, true_and] at h1
        by_cases hp : hasB g.Rules[x.rule].Rhs[x.dot].Set w[j] = true
        · rw [if_pos hp] at h1
          rw [if_pos hp]
          obtain ⟨met1, e1, hm1⟩ := add_ok (R := Rs g w) hs hm (j := j + 1) (by omega) (hBS.sz (j + 1)) (nx x)
          rw [hdot, ix_inc (by omega), show (EItem.mk (itE x).Rule ((x.dot + 1 : Nat) : Int) (itE x).From) = itE (nx x) from rfl, e1, Option.bind_some, ← h1, ← hcw]
          exact ⟨met1, c.empty, rfl, hm1, he⟩
        · rw [if_neg hp] at h1
          rw [if_neg hp, ← h1, ← hcw]
          exact ⟨c.met, c.empty, by rw [← hs], hm, he⟩
      · have : ¬ (j < w.length ∧ (decide (j < w.length) && hasB g.Rules[x.rule].Rhs[x.dot].Set (w.getD j 0)) = true) := fun h => hjw h.1
        rw [if_neg this] at h1
        rw [ix_ge hjw, if_neg (by simp), if_neg (by simp), ← h1, ← hcw]
        exact ⟨c.met, c.empty, by rw [← hs], hm, he⟩
  · have hde : x.dot = g.Rules[x.rule].Rhs.length := by omega
    have heq : ((itE x).Dot == (g.Rules[x.rule].Rhs.length : Int)) = true := by rw [beq_iff_eq]; simp only [itE]; omega
    have : (toRu w g.Rules[x.rule]).rhs[x.dot]? = none := List.getElem?_eq_none (by rw [toRu_len]; omega)
    rw [this] at h
    simp only at h
    obtain ⟨S1, hc1, e⟩ := Option.map_eq_some_iff.1 h
    simp only [Prod.mk.injEq] at e
    obtain ⟨rfl, rfl⟩ := e
    simp only [heq, if_true]
    unfold F.earley.chart_complete F.earley.chart_complete_j1
    simp only [hinr, if_true, har]
    have hL1 := hg.lhs1 _ hrm
    have hcl : (toRu w g.Rules[x.rule]).lhs = g.Rules[x.rule].Lhs.toNat := rfl
    rw [hcl] at hc1
    have hfe : ((itE x).From == (j : Int)) = decide (x.from_ = j) := by
      rw [Bool.eq_iff_iff, beq_iff_eq, decide_eq_true_eq]; simp only [itE]; omega
    have run : ∀ v, ∃ met', (F.earley.chart_complete_l2 (itE x) c v (j : Int) k 0 c.sets c.met) = some (setsE S1, met') ∧ MetR S1 met' := by
      intro v
      rw [hs]
      exact complete_l2_ok hg hcg hq rfl f 0 S S1 c.met k hc1 hB hm (by omega) hxf (by omega) hf
    rw [hfe]
    by_cases hfj : x.from_ = j
    · obtain ⟨met', e1, hm1⟩ := run (tput intE g.Rules[x.rule].Lhs 1 c.empty)
      rw [decide_eq_true hfj, if_pos rfl, e1, Option.bind_some, Option.bind_some, if_pos hfj]
      refine ⟨met', _, rfl, hm1, fun a => ?_⟩
      rw [tget_tput (fun a b => intE_iff)]
      by_cases ha : (a : Int) = g.Rules[x.rule].Lhs
      · rw [if_pos ha]
        have : a = g.Rules[x.rule].Lhs.toNat := by omega
        simp [hcl, this]
      · rw [if_neg ha, he a]
        have : a ≠ g.Rules[x.rule].Lhs.toNat := by omega
        simp [hcl, this]
    · obtain ⟨met', e1, hm1⟩ := run c.empty
      rw [decide_eq_false hfj, if_neg (by simp), e1, Option.bind_some, Option.bind_some, if_neg hfj]
      exact ⟨met', _, rfl, hm1, he⟩
end
end Go.Vc
namespace Go.Vc
open Go Ea
def byG (g : Gram) (a : Nat) : List Nat := (g.Rules.zipIdx.filter fun x => x.1.Lhs.toNat == a).map fun x => x.2
theorem byG_Rs (g : Gram) (w : List Int) (a : Nat) : byG g a = ((Rs g w).zipIdx.filter fun x => x.1.lhs == a).map fun x => x.2 := by
  unfold byG Rs
  rw [List.zipIdx_map, List.filter_map, List.map_map]
  rfl
theorem byG_Bys (g : Gram) (w : List Int) : Bys (Rs g w) (byG g) := by
  intro a q
  rw [byG_Rs g w]
  simp only [List.mem_map, List.mem_filter, beq_iff_eq]
  constructor
  · rintro ⟨⟨r, i⟩, ⟨h1, h2⟩, rfl⟩
    exact ⟨r, List.mem_zipIdx_iff_getElem?.1 h1, h2⟩
  · rintro ⟨r, h1, h2⟩
    exact ⟨(r, q), ⟨List.mem_zipIdx_iff_getElem?.2 h1, h2⟩, rfl⟩
theorem byG_len (g : Gram) (a : Nat) : (byG g a).length ≤ g.Rules.length := by
  unfold byG
  rw [List.length_map]
  refine Nat.le_trans (List.length_filter_le _ _) ?_
  simp
theorem byTake {l : List Rule} {q : Nat} (hq : q < l.length) (a : Nat) : (((l.take (q + 1)).zipIdx.filter fun x => x.1.Lhs.toNat == a).map fun x => ((x.2 : Nat) : Int)) = (((l.take q).zipIdx.filter fun x => x.1.Lhs.toNat == a).map fun x => ((x.2 : Nat) : Int)) ++ if a = l[q].Lhs.toNat then [((q : Nat) : Int)] else [] := by
  rw [List.take_succ_eq_append_getElem hq, List.zipIdx_append, List.filter_append, List.map_append]
  congr 1
  have : (l.take q).length = q := by simp; omega
  rw [this]
  simp only [List.zipIdx_cons, List.zipIdx_nil, Nat.zero_add, List.filter_cons, List.filter_nil]
  by_cases h : a = l[q].Lhs.toNat
  · rw [if_pos h, if_pos (by simpa using h.symm)]; rfl
  · rw [if_neg h, if_neg (by simpa using fun e => h e.symm)]; rfl
section
variable {g : Gram}
theorem by_round (hg : RightG g) {q : Nat} (hq : q < g.Rules.length) {s : List (List Int)} (hlen : s.length = g.Nts.toNat) (hs : ∀ a, s.getD a [] = ((g.Rules.take q).zipIdx.filter fun x => x.1.Lhs.toNat == a).map fun x => ((x.2 : Nat) : Int)) :
    inR g.Rules[q].Lhs s.length = true ∧ decide (((at_ s g.Rules[q].Lhs).length + ([(q : Int)] : List Int).length) * 8 ≤ 140737488355328) = true ∧ decide ((at_ s g.Rules[q].Lhs).length + ([(q : Int)] : List Int).length ≤ 9223372036854775807) = true ∧
      (set_ s g.Rules[q].Lhs (at_ s g.Rules[q].Lhs ++ [(q : Int)])).length = g.Nts.toNat ∧ ∀ a, (set_ s g.Rules[q].Lhs (at_ s g.Rules[q].Lhs ++ [(q : Int)])).getD a [] = ((g.Rules.take (q + 1)).zipIdx.filter fun x => x.1.Lhs.toNat == a).map fun x => ((x.2 : Nat) : Int) := by
  have hr : g.Rules[q] ∈ g.Rules := List.getElem_mem hq
  have h1 := hg.lhs1 _ hr
  have h2 := hg.lhs2 _ hr
  have hl := hg.len
  have hat : at_ s g.Rules[q].Lhs = s.getD g.Rules[q].Lhs.toNat [] := rfl
  have hle : (at_ s g.Rules[q].Lhs).length ≤ q := by
    rw [hat, hs, List.length_map]
    refine Nat.le_trans (List.length_filter_le _ _) ?_
    simp
    omega
  refine ⟨inR_iff.2 ⟨h1, by rw [hlen]; omega⟩, decide_eq_true (by simp only [List.length_singleton]; omega), decide_eq_true (by simp only [List.length_singleton]; omega), by rw [set_len]; exact hlen, fun a => ?_⟩
  rw [set_get h1 (by rw [hlen]; omega), byTake hq]
  by_cases ha : a = g.Rules[q].Lhs.toNat
  · rw [if_pos ha, if_pos ha, hat, hs, ha]
  · rw [if_neg ha, if_neg ha, hs, List.append_nil]
theorem by_zero (N : Nat) (a : Nat) : (List.replicate N ([] : List Int)).getD a [] = [] := by
  rw [List.getD_eq_getElem?_getD, List.getElem?_replicate]
  split <;> rfl
theorem earley_by_ok {k : Nat} (hk : 20000 ≤ k) (hg : RightG g) : ∃ by_, F.earley.open__l2 g k 0 (List.replicate g.Nts.toNat ([] : List Int)) = some by_ ∧ by_.length = g.Nts.toNat ∧ ByR by_ (byG g) := by
  have hl := hg.len
  refine loop_inv0 (n := g.Rules.length) (k := k) (σ := List (List Int)) (s := List.replicate g.Nts.toNat ([] : List Int)) (L := fun j i s => F.earley.open__l2 g j i s)
    (I := fun q s => s.length = g.Nts.toNat ∧ ∀ a, s.getD a [] = ((g.Rules.take q).zipIdx.filter fun x => x.1.Lhs.toNat == a).map fun x => ((x.2 : Nat) : Int))
    (Q := fun o => ∃ by_, o = some by_ ∧ by_.length = g.Nts.toNat ∧ ByR by_ (byG g)) (by omega) ⟨by simp, fun a => by rw [by_zero]; simp⟩ (fun j q s hq hI => ?_) (fun j s hI => ?_)
  · left
    obtain ⟨c1, c2, c3, c4, c5⟩ := by_round hg hq hI.1 hI.2
    refine ⟨_, ⟨c4, c5⟩, ?_⟩
    simp only [F.earley.open__l2, ix_lt hq, ix_in hq, if_true, ix_at hq, c1, c2, c3]
    unfold F.earley.open__j4 F.earley.open__j3
    rw [ix_inc (by omega)]
  · simp only [F.earley.open__l2, ix_ge (Nat.lt_irrefl _), Bool.false_eq_true, if_false]
    refine ⟨s, rfl, hI.1, fun a => ?_⟩
    rw [hI.2 a, List.take_length]
    unfold byG
    rw [List.map_map]; rfl
theorem forest_by_ok {k : Nat} (hk : 20000 ≤ k) (hg : RightG g) : ∃ by_, F.forest.open__l2 g k 0 (List.replicate g.Nts.toNat ([] : List Int)) = some by_ ∧ by_.length = g.Nts.toNat ∧ ByR by_ (byG g) := by
  have hl := hg.len
  refine loop_inv0 (n := g.Rules.length) (k := k) (σ := List (List Int)) (s := List.replicate g.Nts.toNat ([] : List Int)) (L := fun j i s => F.forest.open__l2 g j i s)
    (I := fun q s => s.length = g.Nts.toNat ∧ ∀ a, s.getD a [] = ((g.Rules.take q).zipIdx.filter fun x => x.1.Lhs.toNat == a).map fun x => ((x.2 : Nat) : Int))
    (Q := fun o => ∃ by_, o = some by_ ∧ by_.length = g.Nts.toNat ∧ ByR by_ (byG g)) (by omega) ⟨by simp, fun a => by rw [by_zero]; simp⟩ (fun j q s hq hI => ?_) (fun j s hI => ?_)
  · left
    obtain ⟨c1, c2, c3, c4, c5⟩ := by_round hg hq hI.1 hI.2
    refine ⟨_, ⟨c4, c5⟩, ?_⟩
    simp only [F.forest.open__l2, ix_lt hq, ix_in hq, if_true, ix_at hq, c1, c2, c3]
    unfold F.forest.open__j4 F.forest.open__j3
    rw [ix_inc (by omega)]
  · simp only [F.forest.open__l2, ix_ge (Nat.lt_irrefl _), Bool.false_eq_true, if_false]
    refine ⟨s, rfl, hI.1, fun a => ?_⟩
    rw [hI.2 a, List.take_length]
    unfold byG
    rw [List.map_map]; rfl
theorem met_ok {k n : Nat} (hk : 20000 ≤ k) (hn : n ≤ 1000) {sets : List (List EItem)} (hs : sets.length = n) : F.earley.open__l5 sets k 0 [] = some (List.replicate n []) := by
  refine loop_inv0 (n := sets.length) (k := k) (σ := List (List (EItem × Int))) (s := []) (L := fun j i s => F.earley.open__l5 sets j i s) (I := fun q s => s = List.replicate q []) (Q := fun o => o = some (List.replicate n [])) (by omega) rfl (fun j q s hq hI => ?_) (fun j s hI => ?_)
  · left
    subst hI
    refine ⟨_, rfl, ?_⟩
    have e1 : decide (((List.replicate q ([] : List (EItem × Int))).length + 1) * 8 ≤ 140737488355328) = true := decide_eq_true (by simp; omega)
    have e2 : decide ((List.replicate q ([] : List (EItem × Int))).length + 1 ≤ 9223372036854775807) = true := decide_eq_true (by simp; omega)
    simp only [F.earley.open__l5, ix_lt hq, if_true, e1, e2]
    rw [ix_inc (by omega), List.replicate_succ']
  · subst hI
    simp only [F.earley.open__l5, ix_ge (Nat.lt_irrefl _), Bool.false_eq_true, if_false]
    rw [hs]
variable {w : List Int}
theorem start_ok (hw : w.length ≤ 20) {by_ : List (List Int)} {byN : Nat → List Nat} (hby : ByR by_ byN) (hby2 : ∀ a, (byN a).length ≤ 1000) (h0 : 0 ≤ g.Start) {S0 : List (List It)} (hl : S0.length = w.length + 1) {met0 : List (List (EItem × Int))} (hm : MetR S0 met0) {k : Nat} (hk : 20000 ≤ k)
    (hB : Bnd (Rs g w) ((byN g.Start.toNat).foldl (fun S q => addI S 0 ⟨q, 0, 0⟩) S0)) :
    ∃ met', F.earley.open__l6 by_ g w k 0 (setsE S0) met0 = some (setsE ((byN g.Start.toNat).foldl (fun S q => addI S 0 ⟨q, 0, 0⟩) S0), met') ∧ MetR ((byN g.Start.toNat).foldl (fun S q => addI S 0 ⟨q, 0, 0⟩) S0) met' := by
  have hqs : at_ by_ g.Start = (byN g.Start.toNat).map fun q : Nat => (q : Int) := hby _
  have hq := hby2 g.Start.toNat
  generalize byN g.Start.toNat = qs at *
  have key := loop_inv0 (n := qs.length) (k := k) (σ := List (List EItem) × List (List (EItem × Int))) (s := (setsE S0, met0)) (L := fun j' i s => F.earley.open__l6 by_ g w j' i s.1 s.2)
    (I := fun i s => s.1 = setsE ((qs.take i).foldl (fun S q => addI S 0 ⟨q, 0, 0⟩) S0) ∧ MetR ((qs.take i).foldl (fun S q => addI S 0 ⟨q, 0, 0⟩) S0) s.2)
    (Q := fun o => ∃ met', o = some (setsE (qs.foldl (fun S q => addI S 0 ⟨q, 0, 0⟩) S0), met') ∧ MetR (qs.foldl (fun S q => addI S 0 ⟨q, 0, 0⟩) S0) met') (by omega) ⟨rfl, hm⟩ (fun j' i s hi hI => ?_) (fun j' s hI => ?_)
  · exact key
  · obtain ⟨s1, s2⟩ := s
    obtain ⟨rfl, hI2⟩ := hI
    simp only at hI2
    have hpre : Pre ((qs.take i).foldl (fun S q => addI S 0 ⟨q, 0, 0⟩) S0) (qs.foldl (fun S q => addI S 0 ⟨q, 0, 0⟩) S0) := by
      have := adds_pre (j := 0) (qs.drop i) ((qs.take i).foldl (fun S q => addI S 0 ⟨q, 0, 0⟩) S0)
      rw [← List.foldl_append, List.take_append_drop] at this
      exact this
    have hpre0 := adds_pre (j := 0) (qs.take i) S0
    obtain ⟨met1, e1, hm1⟩ := add_ok (R := Rs g w) (c := ⟨g, w, by_, setsE ((qs.take i).foldl (fun S q => addI S 0 ⟨q, 0, 0⟩) S0), s2, []⟩) rfl hI2 (j := 0) (by rw [hpre0.len]; omega) ((hB.of_pre hpre).sz 0) ⟨qs[i], 0, 0⟩
    have hl : i < (qs.map fun q : Nat => (q : Int)).length := by simpa using hi
    have hai : at_ (qs.map fun q : Nat => (q : Int)) (i : Int) = ((qs[i] : Nat) : Int) := by rw [ix_at hl]; simp
    left
    refine ⟨(setsE (addI ((qs.take i).foldl (fun S q => addI S 0 ⟨q, 0, 0⟩) S0) 0 ⟨qs[i], 0, 0⟩), met1), ⟨?_, ?_⟩, ?_⟩
    · rw [List.take_succ_eq_append_getElem hi, List.foldl_append]; rfl
    · rw [List.take_succ_eq_append_getElem hi, List.foldl_append]; exact hm1
    · simp only [F.earley.open__l6, hqs, ix_lt hl, ix_in hl, if_true, hai]
      rw [show (EItem.mk ((qs[i] : Nat) : Int) 0 0) = itE ⟨qs[i], 0, 0⟩ from rfl, show ((0 : Int) = ((0 : Nat) : Int)) from rfl, e1, Option.bind_some, ix_inc (by omega)]
  · obtain ⟨s1, s2⟩ := s
    obtain ⟨rfl, hI2⟩ := hI
    simp only at hI2
    rw [List.take_length] at hI2
    have : decide ((qs.length : Int) < ((qs.map fun q : Nat => (q : Int)).length : Int)) = false := by simp
    simp only [F.earley.open__l6, hqs, this, Bool.false_eq_true, if_false, List.take_length]
    exact ⟨s2, rfl, hI2⟩
theorem set_ok (hg : RightG g) (hw : Bytes w) (hwl : w.length ≤ 20) {by_ : List (List Int)} {byN : Nat → List Nat} (hby : ByR by_ byN) (hbl : by_.length = g.Nts.toNat) (hby2 : ∀ a, (byN a).length ≤ 1000) {k f : Nat} (hk : 20000 ≤ k) (hf : f ≤ k) {j : Nat} (hj : j ≤ w.length) : ∀ (gg i : Nat) (S S' : List (List It)) (em : List Nat) (met : List (List (EItem × Int))) (e : List (Int × Int)) (ff : Nat),
    setL (Rs g w) byN w.length f j gg i S em = some S' → Bnd (Rs g w) S' → MetR S met → EmR em e → S.length = w.length + 1 → i ≤ 100000 → gg ≤ ff →
    ∃ z met' e', F.earley.open__l8 k (j : Int) g w by_ ff (i : Int) (setsE S) met e = some (z, setsE S', met', e') ∧ MetR S' met'
  | 0, _, _, _, _, _, _, _, h, _, _, _, _, _, _ => by cases h
  | gg + 1, _, _, _, _, _, _, 0, _, _, _, _, _, _, h => by omega
  | gg + 1, i, S, S', em, met, e, ff + 1, h, hB, hm, he, hl, hi0, hff => by
    have hpre := setL_pre _ _ _ _ _ h
    have hBS := hB.of_pre hpre
    have hszj := hBS.sz j
    unfold setL at h
    have hin : inR (j : Int) (setsE S).length = true := inR_iff.2 ⟨by omega, by rw [setsE_len]; omega⟩
    simp only [F.earley.open__l8, hin, if_true, setsE_at]
    by_cases hi : i < (at' S j).length
    · rw [if_pos hi] at h
      have hi1 : i < ((at' S j).map itE).length := by simpa using hi
      rw [ix_lt hi1, if_pos rfl, ix_in hi1, if_pos rfl, itE_get hi]
      generalize hy : (at' S j).getD i default = y at h
      have hym : y ∈ at' S j := by
        rw [← hy, List.getD_eq_getElem?_getD, List.getElem?_eq_getElem hi]
        exact List.getElem_mem hi
      cases hst : stepE (Rs g w) byN w.length f j y S em with
      | none => rw [hst] at h; cases h
      | some v =>
        obtain ⟨S1, em1⟩ := v
        rw [hst] at h
        simp only at h
        have hpre1 := setL_pre _ _ _ _ _ h
        obtain ⟨met1, e1, hF, hm1, he1⟩ := step_ok hg hw (by omega) (c := ⟨g, w, by_, setsE S, met, e⟩) rfl rfl hby hbl hby2 hk hf rfl hm he hl hj hym hst (hB.of_pre hpre1)
        simp only at hF
        rw [hF, Option.bind_some, ix_inc (by omega)]
        exact set_ok hg hw hwl hby hbl hby2 hk hf hj gg (i + 1) S1 S' em1 met1 e1 ff h hB hm1 he1 (by rw [(stepE_pre hst).len]; exact hl) (by omega) (by omega)
    · rw [if_neg hi] at h
      cases h
      have : decide ((i : Int) < (((at' S j).map itE).length : Int)) = false := ix_ge (by simpa using hi)
      simp only [this, Bool.false_eq_true, if_false]
      exact ⟨_, met, e, rfl, hm⟩
theorem all_ok (hg : RightG g) (hw : Bytes w) (hwl : w.length ≤ 20) {by_ : List (List Int)} {byN : Nat → List Nat} (hby : ByR by_ byN) (hbl : by_.length = g.Nts.toNat) (hby2 : ∀ a, (byN a).length ≤ 1000) {k f : Nat} (hk : 20000 ≤ k) (hf : f ≤ k) {o6 : List (List EItem) × List (List (EItem × Int))} (ho6 : o6.1.length = w.length + 1) : ∀ (c j : Nat) (S S' : List (List It)) (met : List (List (EItem × Int))) (ff : Nat),
    allL (Rs g w) byN w.length f c j S = some S' → j + c = w.length + 1 → Bnd (Rs g w) S' → MetR S met → S.length = w.length + 1 → c < ff →
    ∃ met', F.earley.open__l7 k o6 g w by_ ff (j : Int) (setsE S) met = some (setsE S', met') ∧ MetR S' met'
  | _, _, _, _, _, 0, _, _, _, _, _, h => by omega
  | 0, j, S, S', met, ff + 1, h, hjc, hB, hm, hl, _ => by
    cases h
    have : decide ((j : Int) < (o6.1.length : Int)) = false := decide_eq_false (by rw [ho6]; omega)
    simp only [F.earley.open__l7, this, Bool.false_eq_true, if_false]
    exact ⟨met, rfl, hm⟩
  | c + 1, j, S, S', met, ff + 1, h, hjc, hB, hm, hl, hff => by
    unfold allL at h
    have hlt : decide ((j : Int) < (o6.1.length : Int)) = true := decide_eq_true (by rw [ho6]; omega)
    simp only [F.earley.open__l7, hlt, if_true]
    cases hst : setL (Rs g w) byN w.length f j f 0 S [] with
    | none => rw [hst] at h; cases h
    | some S1 =>
      rw [hst] at h
      simp only at h
      have hpre1 := allL_pre _ _ _ _ h
      obtain ⟨z, met1, e1, hF, hm1⟩ := set_ok hg hw hwl hby hbl hby2 hk hf (j := j) (by omega) f 0 S S1 [] met [] k hst (hB.of_pre hpre1) hm (fun a => by simp [tget]) hl (by omega) hf
      rw [show ((0 : Int) = ((0 : Nat) : Int)) from rfl, hF, Option.bind_some, ix_inc (by omega)]
      exact all_ok hg hw hwl hby hbl hby2 hk hf ho6 c (j + 1) S1 S' met1 ff h (by omega) hB hm1 (by rw [(setL_pre _ _ _ _ _ hst).len]; exact hl) (by omega)
theorem bound_le (hsm : SmallG g) {n : Nat} (hn : n ≤ 20) : bound (Rs g w) n ≤ 4200 := by
  unfold bound Rs
  rw [List.map_map]
  have h := hsm.sum
  have : ∀ l : List Rule, ((l.map ((fun r : Ru => (r.rhs.length + 1) * (n + 1)) ∘ toRu w)).sum) = (l.map fun r => r.Rhs.length + 1).sum * (n + 1) := by
    intro l
    induction l with
    | nil => simp
    | cons x l ih => simp only [List.map_cons, List.sum_cons, Function.comp_def, toRu_len] at ih ⊢; rw [ih, ← Nat.add_mul]
  rw [this]
  calc _ ≤ 200 * (n + 1) := Nat.mul_le_mul_right _ h
    _ ≤ 4200 := by omega
theorem earley_open_ok {k : Nat} (hk : 100000 ≤ k) (hg : RightG g) (hsm : SmallG g) (hw : Bytes w) (hwl : w.length ≤ 20) : ∃ c S, F.earley.open_ k g w = some c ∧ c.sets = setsE S ∧ S.length = w.length + 1 ∧ Bnd (Rs g w) S ∧
    ∀ j, j ≤ w.length → ((∃ x ∈ at' S j, ∃ r, (Rs g w)[x.rule]? = some r ∧ r.lhs = g.Start.toNat ∧ x.from_ = 0 ∧ x.dot = r.rhs.length) ↔ DerY (Rs g w) (.nt g.Start.toNat) 0 j) := by
  have hbd := bound_le (w := w) hsm hwl
  obtain ⟨S, e, hl, hs, hn, hc⟩ := chart_ok (R := Rs g w) (byG_Bys g w) (n := w.length) (f := bound (Rs g w) w.length + 1) (Nat.le_refl _) g.Start.toNat
  have hB : Bnd (Rs g w) S := by
    refine ⟨fun q => Nat.le_trans (set_le hl hs hn q) (by omega), fun q y hy => ?_⟩
    obtain ⟨r, h1, h2, h3⟩ := hs q y hy
    refine ⟨⟨r, h1, h2⟩, ?_⟩
    have h4 := h3.le
    have h5 : q < S.length := by
      apply Decidable.byContradiction
      intro hq
      rw [at_over (by omega)] at hy
      cases hy
    omega
  unfold chart at e
  have hlr := hsm.rules
  have hby2 : ∀ a, (byG g a).length ≤ 1000 := fun a => by have := byG_len g a; omega
  obtain ⟨by_, eb, hbl, hby⟩ := earley_by_ok (k := k) (by omega) hg
  have hS0 : setsE (List.replicate (w.length + 1) []) = List.replicate (w.length + 1) ([] : List EItem) := by simp [setsE]
  have hm0 : MetR (List.replicate (w.length + 1) ([] : List It)) (List.replicate (w.length + 1) []) := by
    refine ⟨by simp, fun q x => ?_⟩
    have h1 : (List.replicate (w.length + 1) ([] : List (EItem × Int))).getD q [] = [] := by
      rw [List.getD_eq_getElem?_getD, List.getElem?_replicate]; split <;> rfl
    have h2 : at' (List.replicate (w.length + 1) ([] : List It)) q = [] := by
      unfold at'
      rw [List.getD_eq_getElem?_getD, List.getElem?_replicate]; split <;> rfl
    rw [h1, h2]
    simp [tget]
  have hpre := allL_pre _ _ _ _ e
  have hpre0 := adds_pre (j := 0) (byG g g.Start.toNat) (List.replicate (w.length + 1) ([] : List It))
  obtain ⟨met1, e1, hm1⟩ := start_ok (g := g) (w := w) hwl hby hby2 hg.s1 (S0 := List.replicate (w.length + 1) []) (by simp) hm0 (k := k) (by omega) (hB.of_pre hpre)
  obtain ⟨met2, e2, hm2⟩ := all_ok hg hw hwl hby hbl hby2 (k := k) (f := bound (Rs g w) w.length + 1) (by omega) (by omega) (o6 := (setsE ((byG g g.Start.toNat).foldl (fun S q => addI S 0 ⟨q, 0, 0⟩) (List.replicate (w.length + 1) [])), met1)) (by
    rw [setsE_len, hpre0.len]; simp) (w.length + 1) 0 _ S met1 k e (by omega) hB hm1 (by rw [hpre0.len]; simp) (by omega)
  have hn1 := hg.n1
  have hn2 := hg.n2
  have d1 : decide (0 ≤ g.Nts) = true := decide_eq_true (by omega)
  have d2 : decide (24 * g.Nts.toNat ≤ 140737488355328) = true := decide_eq_true (by omega)
  have d3 : decide (g.Nts.toNat ≤ 9223372036854775807) = true := decide_eq_true (by omega)
  have ew : IntKind.wrap .i64 ((w.length : Int) + 1) = ((w.length + 1 : Nat) : Int) := ix_inc (by omega)
  have d4 : decide (0 ≤ ((w.length + 1 : Nat) : Int)) = true := decide_eq_true (by omega)
  have d5 : decide (24 * (w.length + 1) ≤ 140737488355328) = true := decide_eq_true (by omega)
  have d6 : decide (w.length + 1 ≤ 9223372036854775807) = true := decide_eq_true (by omega)
  have d7 : inR g.Start by_.length = true := inR_iff.2 ⟨hg.s1, by rw [hbl]; have := hg.s2; omega⟩
  refine ⟨⟨g, w, by_, setsE S, met2, default⟩, S, ?_, rfl, hl, hB, hc⟩
  unfold F.earley.open_ F.earley.open__j1
  simp only [d1, d2, d3, ew, d4, Int.toNat_natCast, d5, d6, if_true]
  rw [eb, Option.bind_some, met_ok (k := k) (n := w.length + 1) (by omega) (by omega) (by simp), Option.bind_some, d7, if_pos rfl]
  rw [hS0] at e1
  rw [e1, Option.bind_some]
  rw [show ((0 : Int) = ((0 : Nat) : Int)) from rfl, e2, Option.bind_some]
end
end Go.Vc
namespace Go.Vc
open Go Ea
def fin (g : Gram) (a : Nat) (y : It) : Bool := match g.Rules[y.rule]? with
  | none => false
  | some r => decide (r.Lhs.toNat = a) && (decide (y.from_ = 0) && decide (y.dot = r.Rhs.length))
section
variable {g : Gram} {w : List Int}
theorem c1_fin (hg : RightG g) {nt : Int} (h0 : 0 ≤ nt) {y : It} (hy : y.rule < g.Rules.length) : F.earley.Spans_c1 (itE y) (Gram.mk g.Nts nt g.Rules) nt = some (fin g nt.toNat y) := by
  have hin : inR (itE y).Rule g.Rules.length = true := inR_iff.2 ⟨by simp [itE], by simp only [itE]; omega⟩
  have hat : at_ g.Rules (itE y).Rule = g.Rules[y.rule] := ix_at hy
  have hl := hg.lhs1 _ (List.getElem_mem hy)
  unfold F.earley.Spans_c1 fin
  rw [List.getElem?_eq_getElem hy]
  simp only [hin, if_true, hat]
  have e1 : (g.Rules[y.rule].Lhs == nt) = decide (g.Rules[y.rule].Lhs.toNat = nt.toNat) := by
    rw [Bool.eq_iff_iff, beq_iff_eq, decide_eq_true_eq]; omega
  have e2 : ((itE y).From == 0) = decide (y.from_ = 0) := by
    rw [Bool.eq_iff_iff, beq_iff_eq, decide_eq_true_eq]; simp only [itE]; omega
  have e3 : ((itE y).Dot == (g.Rules[y.rule].Rhs.length : Int)) = decide (y.dot = g.Rules[y.rule].Rhs.length) := by
    rw [Bool.eq_iff_iff, beq_iff_eq, decide_eq_true_eq]; simp only [itE]; omega
  rw [e1, e2, e3]
  cases decide (g.Rules[y.rule].Lhs.toNat = nt.toNat) <;> cases decide (y.from_ = 0) <;> rfl
theorem contains_ok {k : Nat} (hk : 100000 ≤ k) (hg : RightG g) {nt : Int} (h0 : 0 ≤ nt) {l : List It} (hl : l.length < 100000) (hr : ∀ y ∈ l, y.rule < g.Rules.length) :
    F.slices.ContainsFunc_f73_74 k (l.map itE) (Gram.mk g.Nts nt g.Rules) nt = some (l.any (fin g nt.toNat)) := by
  have key : ∃ r, F.slices.IndexFunc_f84_74_l1 (l.map itE) (Gram.mk g.Nts nt g.Rules) nt k 0 = some r ∧ (if l.any (fin g nt.toNat) then ∃ z : Nat, r = .ret (z : Int) else r = .done ()) := by
    refine loop_inv0 (n := l.length) (σ := Unit) (s := ()) (L := fun j t _ => F.slices.IndexFunc_f84_74_l1 (l.map itE) (Gram.mk g.Nts nt g.Rules) nt j t) (I := fun q _ => (l.take q).any (fin g nt.toNat) = false)
      (Q := fun o => ∃ r, o = some r ∧ (if l.any (fin g nt.toNat) then ∃ z : Nat, r = .ret (z : Int) else r = .done ())) (by omega) (by simp) (fun j q s hq hI => ?_) (fun j s hI => ?_)
    · have hq1 : q < (l.map itE).length := by simpa using hq
      have hat : at_ (l.map itE) (q : Int) = itE l[q] := by rw [ix_at hq1]; simp
      simp only [F.slices.IndexFunc_f84_74_l1, ix_lt hq1, ix_in hq1, if_true, hat]
      rw [c1_fin hg h0 (hr _ (List.getElem_mem hq)), Option.bind_some]
      by_cases hf : fin g nt.toNat l[q] = true
      · right
        rw [hf, if_pos rfl]
        have : l.any (fin g nt.toNat) = true := List.any_eq_true.2 ⟨_, List.getElem_mem hq, hf⟩
        rw [this]
        exact ⟨_, rfl, q, rfl⟩
      · left
        refine ⟨(), ?_, ?_⟩
        · rw [List.take_succ_eq_append_getElem hq, List.any_append, hI]
          simp [Bool.eq_false_iff.2 hf]
        · rw [if_neg hf, ix_inc (by omega)]
    · rw [List.take_length] at hI
      have : decide ((l.length : Int) < ((l.map itE).length : Int)) = false := by simp
      simp only [F.slices.IndexFunc_f84_74_l1, this, Bool.false_eq_true, if_false, hI]
      exact ⟨_, rfl, rfl⟩
  obtain ⟨r, e, hr'⟩ := key
  unfold F.slices.ContainsFunc_f73_74 F.slices.IndexFunc_f84_74
  rw [e, Option.bind_some]
  cases ha : l.any (fin g nt.toNat) with
  | true =>
    rw [ha, if_pos rfl] at hr'
    obtain ⟨z, rfl⟩ := hr'
    have : decide (0 ≤ (z : Int)) = true := decide_eq_true (by omega)
    show some (decide (0 ≤ (z : Int))) = _
    rw [this]
  | false =>
    rw [ha, if_neg (by simp)] at hr'
    subst hr'
    rfl
theorem Rs_drop {lo : Nat} (hlo : lo ≤ w.length) (g' : Gram) (h : g'.Rules = g.Rules) : Rs g' (w.drop lo) = (Rs g w).map (shR lo) := by
  unfold Rs
  rw [h, List.map_map]
  refine List.map_congr_left fun r _ => ?_
  unfold toRu shR
  simp only [Function.comp_def, List.map_map, Ru.mk.injEq, true_and]
  refine List.map_congr_left fun s _ => ?_
  unfold toSy
  show _ = shS lo (if 0 ≤ s.Nt then _ else _)
  by_cases h0 : 0 ≤ s.Nt
  · rw [if_pos h0, if_pos h0]; rfl
  · rw [if_neg h0, if_neg h0]
    simp only [shS, Sy.tm.injEq]
    funext p
    have e1 : decide (p < (w.drop lo).length) = decide (lo + p < w.length) := by
      rw [List.length_drop]
      rw [decide_eq_decide]
      omega
    have e2 : (w.drop lo).getD p 0 = w.getD (lo + p) 0 := by
      rw [List.getD_eq_getElem?_getD, List.getElem?_drop, List.getD_eq_getElem?_getD]
    rw [e1, e2]
theorem sub_drop {lo : Nat} : sub w (lo : Int) (w.length : Int) = w.drop lo := by
  unfold sub
  rw [Int.toNat_natCast, Int.toNat_natCast]
  exact List.take_of_length_le (by simp)
def RunsI (P : Int → Int → Prop) (out : List Run) : Prop := ∀ x, x ∈ out ↔ P x.Lo x.Hi
theorem Spans_l2_ok {k : Nat} (hk : 100000 ≤ k) (hg : RightG g) {nt : Int} (h0 : 0 ≤ nt) {c : Earley_chart} {S : List (List It)} (hcs : c.sets = setsE S) (hS : S.length ≤ 30) {R : List Ru} (hB : Bnd R S) (hBr : ∀ j, ∀ y ∈ at' S j, y.rule < g.Rules.length) {lo : Nat} (hlo : lo ≤ 100) {out : List Run} (hol : out.length ≤ 1000) {P : Int → Int → Prop} (hP : RunsI P out) :
    ∃ out' z, F.earley.Spans_l2 k c g nt (lo : Int) k out 0 = some (out', z) ∧ out'.length ≤ out.length + S.length ∧ RunsI (fun a b => P a b ∨ (a = (lo : Int) ∧ ∃ j : Nat, j < S.length ∧ b = (lo : Int) + j ∧ (at' S j).any (fin g nt.toNat) = true)) out' := by
  refine loop_inv0 (n := S.length) (k := k) (σ := List Run) (s := out) (L := fun j i s => F.earley.Spans_l2 k c g nt (lo : Int) j s i)
    (I := fun q s => s.length ≤ out.length + q ∧ RunsI (fun a b => P a b ∨ (a = (lo : Int) ∧ ∃ j : Nat, j < q ∧ b = (lo : Int) + j ∧ (at' S j).any (fin g nt.toNat) = true)) s)
    (Q := fun o => ∃ out' z, o = some (out', z) ∧ out'.length ≤ out.length + S.length ∧ RunsI (fun a b => P a b ∨ (a = (lo : Int) ∧ ∃ j : Nat, j < S.length ∧ b = (lo : Int) + j ∧ (at' S j).any (fin g nt.toNat) = true)) out') (by omega) ⟨by omega, fun x => by rw [hP x]; simp⟩ (fun j q s hq hI => ?_) (fun j s hI => ?_)
  · left
    have hq1 : q < (setsE S).length := by rw [setsE_len]; exact hq
    have hsz := hB.sz q
    simp only [F.earley.Spans_l2, hcs, ix_lt hq1, ix_in hq1, if_true, setsE_at]
    have hcont := contains_ok hk hg h0 (l := at' S q) (k := k) (by
      have := hB.sz q
      omega) (hBr q)
    rw [hcont, Option.bind_some]
    unfold F.earley.Spans_j4 F.earley.Spans_j3
    have hadd : IntKind.wrap .i64 ((lo : Int) + (q : Int)) = (lo : Int) + q := wrap_i64 (by omega) (by omega)
    have e1 : decide ((s.length + ([(Run.mk (lo : Int) ((lo : Int) + q))] : List Run).length) * 16 ≤ 140737488355328) = true := decide_eq_true (by have := hI.1; simp only [List.length_singleton]; omega)
    have e2 : decide (s.length + ([(Run.mk (lo : Int) ((lo : Int) + q))] : List Run).length ≤ 9223372036854775807) = true := decide_eq_true (by have := hI.1; simp only [List.length_singleton]; omega)
    simp only [hadd, e1, e2, if_true]
    rw [ix_inc (by omega)]
    cases ha : (at' S q).any (fin g nt.toNat) with
    | true =>
      refine ⟨s ++ [Run.mk (lo : Int) ((lo : Int) + q)], ⟨by have := hI.1; simp; omega, fun x => ?_⟩, by rw [if_pos rfl]⟩
      rw [List.mem_append, hI.2 x, List.mem_singleton]
      constructor
      · rintro ((h | ⟨h1, j', h2, h3⟩) | rfl)
        · exact .inl h
        · exact .inr ⟨h1, j', by omega, h3⟩
        · exact .inr ⟨rfl, q, by omega, rfl, ha⟩
      · rintro (h | ⟨h1, j', h2, h3, h4⟩)
        · exact .inl (.inl h)
        · by_cases hj : j' = q
          · subst hj
            right
            cases x
            simp only at h1 h3
            rw [h1, h3]
          · exact .inl (.inr ⟨h1, j', by omega, h3, h4⟩)
    | false =>
      refine ⟨s, ⟨by have := hI.1; omega, fun x => ?_⟩, by rw [if_neg (by simp)]⟩
      rw [hI.2 x]
      constructor
      · rintro (h | ⟨h1, j', h2, h3⟩)
        · exact .inl h
        · exact .inr ⟨h1, j', by omega, h3⟩
      · rintro (h | ⟨h1, j', h2, h3, h4⟩)
        · exact .inl h
        · by_cases hj : j' = q
          · subst hj
            rw [ha] at h4
            cases h4
          · exact .inr ⟨h1, j', by omega, h3, h4⟩
  · have : decide ((S.length : Int) < ((setsE S).length : Int)) = false := decide_eq_false (by rw [setsE_len]; omega)
    simp only [F.earley.Spans_l2, hcs, this, Bool.false_eq_true, if_false]
    exact ⟨_, _, rfl, hI⟩
end
end Go.Vc
