/-
  The program's chart: opened, it tells what the beginning derives.
-/
import Derived.Test.YtfhbgelpmbkooaaFG
set_option linter.unusedVariables false
set_option linter.unusedSimpArgs false
namespace Go.Vc
open Go Ea
def byG (g : Gram) (a : Nat) : List Nat := (g.Rules.zipIdx.filter fun x => x.1.Lhs.toNat == a).map fun x => x.2
theorem byG_Rs (g : Gram) (w : List Int) (a : Nat) : byG g a = ((Rs g w).zipIdx.filter fun x => x.1.lhs == a).map fun x => x.2 := by
  unfold byG Rs
  rw [List.zipIdx_map, List.filter_map, List.map_map]
  rfl
theorem byG_Bys (g : Gram) (w : List Int) : Bys (Rs g w) (byG g) := by
  intro a q
  rw [byG_Rs g w]
  simp only [List.mem_map, List.mem_filter, beq_iff_eq]
  constructor
  · rintro ⟨⟨r, i⟩, ⟨h1, h2⟩, rfl⟩
    exact ⟨r, List.mem_zipIdx_iff_getElem?.1 h1, h2⟩
  · rintro ⟨r, h1, h2⟩
    exact ⟨(r, q), ⟨List.mem_zipIdx_iff_getElem?.2 h1, h2⟩, rfl⟩
theorem byG_len (g : Gram) (a : Nat) : (byG g a).length ≤ g.Rules.length := by
  unfold byG
  rw [List.length_map]
  refine Nat.le_trans (List.length_filter_le _ _) ?_
  simp
theorem byTake {l : List Rule} {q : Nat} (hq : q < l.length) (a : Nat) : (((l.take (q + 1)).zipIdx.filter fun x => x.1.Lhs.toNat == a).map fun x => ((x.2 : Nat) : Int)) = (((l.take q).zipIdx.filter fun x => x.1.Lhs.toNat == a).map fun x => ((x.2 : Nat) : Int)) ++ if a = l[q].Lhs.toNat then [((q : Nat) : Int)] else [] := by
  rw [List.take_succ_eq_append_getElem hq, List.zipIdx_append, List.filter_append, List.map_append]
  congr 1
  have : (l.take q).length = q := by simp; omega
  rw [this]
  simp only [List.zipIdx_cons, List.zipIdx_nil, Nat.zero_add, List.filter_cons, List.filter_nil]
  by_cases h : a = l[q].Lhs.toNat
  · rw [if_pos h, if_pos (by simpa using h.symm)]; rfl
  · rw [if_neg h, if_neg (by simpa using fun e => h e.symm)]; rfl
section
variable {g : Gram}
theorem by_round (hg : RightG g) {q : Nat} (hq : q < g.Rules.length) {s : List (List Int)} (hlen : s.length = g.Nts.toNat) (hs : ∀ a, s.getD a [] = ((g.Rules.take q).zipIdx.filter fun x => x.1.Lhs.toNat == a).map fun x => ((x.2 : Nat) : Int)) :
    inR g.Rules[q].Lhs s.length = true ∧ decide (((at_ s g.Rules[q].Lhs).length + ([(q : Int)] : List Int).length) * 8 ≤ 140737488355328) = true ∧ decide ((at_ s g.Rules[q].Lhs).length + ([(q : Int)] : List Int).length ≤ 9223372036854775807) = true ∧
      (set_ s g.Rules[q].Lhs (at_ s g.Rules[q].Lhs ++ [(q : Int)])).length = g.Nts.toNat ∧ ∀ a, (set_ s g.Rules[q].Lhs (at_ s g.Rules[q].Lhs ++ [(q : Int)])).getD a [] = ((g.Rules.take (q + 1)).zipIdx.filter fun x => x.1.Lhs.toNat == a).map fun x => ((x.2 : Nat) : Int) := by
  have hr : g.Rules[q] ∈ g.Rules := List.getElem_mem hq
  have h1 := hg.lhs1 _ hr
  have h2 := hg.lhs2 _ hr
  have hl := hg.len
  have hat : at_ s g.Rules[q].Lhs = s.getD g.Rules[q].Lhs.toNat [] := rfl
  have hle : (at_ s g.Rules[q].Lhs).length ≤ q := by
    rw [hat, hs, List.length_map]
    refine Nat.le_trans (List.length_filter_le _ _) ?_
    simp
    omega
  refine ⟨inR_iff.2 ⟨h1, by rw [hlen]; omega⟩, decide_eq_true (by simp only [List.length_singleton]; omega), decide_eq_true (by simp only [List.length_singleton]; omega), by rw [set_len]; exact hlen, fun a => ?_⟩
  rw [set_get h1 (by rw [hlen]; omega), byTake hq]
  by_cases ha : a = g.Rules[q].Lhs.toNat
  · rw [if_pos ha, if_pos ha, hat, hs, ha]
  · rw [if_neg ha, if_neg ha, hs, List.append_nil]
theorem by_zero (N : Nat) (a : Nat) : (List.replicate N ([] : List Int)).getD a [] = [] := by
  rw [List.getD_eq_getElem?_getD, List.getElem?_replicate]
  split <;> rfl
theorem earley_by_ok {k : Nat} (hk : 20000 ≤ k) (hg : RightG g) : ∃ by_, F.earley.open__l2 g k 0 (List.replicate g.Nts.toNat ([] : List Int)) = some by_ ∧ by_.length = g.Nts.toNat ∧ ByR by_ (byG g) := by
  have hl := hg.len
  refine loop_inv0 (n := g.Rules.length) (k := k) (σ := List (List Int)) (s := List.replicate g.Nts.toNat ([] : List Int)) (L := fun j i s => F.earley.open__l2 g j i s)
    (I := fun q s => s.length = g.Nts.toNat ∧ ∀ a, s.getD a [] = ((g.Rules.take q).zipIdx.filter fun x => x.1.Lhs.toNat == a).map fun x => ((x.2 : Nat) : Int))
    (Q := fun o => ∃ by_, o = some by_ ∧ by_.length = g.Nts.toNat ∧ ByR by_ (byG g)) (by omega) ⟨by simp, fun a => by rw [by_zero]; simp⟩ (fun j q s hq hI => ?_) (fun j s hI => ?_)
  · left
    obtain ⟨c1, c2, c3, c4, c5⟩ := by_round hg hq hI.1 hI.2
    refine ⟨_, ⟨c4, c5⟩, ?_⟩
    simp only [F.earley.open__l2, ix_lt hq, ix_in hq, if_true, ix_at hq, c1, c2, c3]
    unfold F.earley.open__j4 F.earley.open__j3
    rw [ix_inc (by omega)]
  · simp only [F.earley.open__l2, ix_ge (Nat.lt_irrefl _), Bool.false_eq_true, if_false]
    refine ⟨s, rfl, hI.1, fun a => ?_⟩
    rw [hI.2 a, List.take_length]
    unfold byG
    rw [List.map_map]; rfl
theorem forest_by_ok {k : Nat} (hk : 20000 ≤ k) (hg : RightG g) : ∃ by_, F.forest.open__l2 g k 0 (List.replicate g.Nts.toNat ([] : List Int)) = some by_ ∧ by_.length = g.Nts.toNat ∧ ByR by_ (byG g) := by
  have hl := hg.len
  refine loop_inv0 (n := g.Rules.length) (k := k) (σ := List (List Int)) (s := List.replicate g.Nts.toNat ([] : List Int)) (L := fun j i s => F.forest.open__l2 g j i s)
    (I := fun q s => s.length = g.Nts.toNat ∧ ∀ a, s.getD a [] = ((g.Rules.take q).zipIdx.filter fun x => x.1.Lhs.toNat == a).map fun x => ((x.2 : Nat) : Int))
    (Q := fun o => ∃ by_, o = some by_ ∧ by_.length = g.Nts.toNat ∧ ByR by_ (byG g)) (by omega) ⟨by simp, fun a => by rw [by_zero]; simp⟩ (fun j q s hq hI => ?_) (fun j s hI => ?_)
  · left
    obtain ⟨c1, c2, c3, c4, c5⟩ := by_round hg hq hI.1 hI.2
    refine ⟨_, ⟨c4, c5⟩, ?_⟩
    simp only [F.forest.open__l2, ix_lt hq, ix_in hq, if_true, ix_at hq, c1, c2, c3]
    unfold F.forest.open__j4 F.forest.open__j3
    rw [ix_inc (by omega)]
  · simp only [F.forest.open__l2, ix_ge (Nat.lt_irrefl _), Bool.false_eq_true, if_false]
    refine ⟨s, rfl, hI.1, fun a => ?_⟩
    rw [hI.2 a, List.take_length]
    unfold byG
    rw [List.map_map]; rfl
theorem met_ok {k n : Nat} (hk : 20000 ≤ k) (hn : n ≤ 1000) {sets : List (List EItem)} (hs : sets.length = n) : F.earley.open__l5 sets k 0 [] = some (List.replicate n []) := by
  refine loop_inv0 (n := sets.length) (k := k) (σ := List (List (EItem × Int))) (s := []) (L := fun j i s => F.earley.open__l5 sets j i s) (I := fun q s => s = List.replicate q []) (Q := fun o => o = some (List.replicate n [])) (by omega) rfl (fun j q s hq hI => ?_) (fun j s hI => ?_)
  · left
    subst hI
    refine ⟨_, rfl, ?_⟩
    have e1 : decide (((List.replicate q ([] : List (EItem × Int))).length + 1) * 8 ≤ 140737488355328) = true := decide_eq_true (by simp; omega)
    have e2 : decide ((List.replicate q ([] : List (EItem × Int))).length + 1 ≤ 9223372036854775807) = true := decide_eq_true (by simp; omega)
    simp only [F.earley.open__l5, ix_lt hq, if_true, e1, e2]
    rw [ix_inc (by omega), List.replicate_succ']
  · subst hI
    simp only [F.earley.open__l5, ix_ge (Nat.lt_irrefl _), Bool.false_eq_true, if_false]
    rw [hs]
variable {w : List Int}
theorem start_ok (hw : w.length ≤ 20) {by_ : List (List Int)} {byN : Nat → List Nat} (hby : ByR by_ byN) (hby2 : ∀ a, (byN a).length ≤ 1000) (h0 : 0 ≤ g.Start) {S0 : List (List It)} (hl : S0.length = w.length + 1) {met0 : List (List (EItem × Int))} (hm : MetR S0 met0) {k : Nat} (hk : 20000 ≤ k)
    (hB : Bnd (Rs g w) ((byN g.Start.toNat).foldl (fun S q => addI S 0 ⟨q, 0, 0⟩) S0)) :
    ∃ met', F.earley.open__l6 by_ g w k 0 (setsE S0) met0 = some (setsE ((byN g.Start.toNat).foldl (fun S q => addI S 0 ⟨q, 0, 0⟩) S0), met') ∧ MetR ((byN g.Start.toNat).foldl (fun S q => addI S 0 ⟨q, 0, 0⟩) S0) met' := by
  have hqs : at_ by_ g.Start = (byN g.Start.toNat).map fun q : Nat => (q : Int) := hby _
  have hq := hby2 g.Start.toNat
  generalize byN g.Start.toNat = qs at *
  have key := loop_inv0 (n := qs.length) (k := k) (σ := List (List EItem) × List (List (EItem × Int))) (s := (setsE S0, met0)) (L := fun j' i s => F.earley.open__l6 by_ g w j' i s.1 s.2)
    (I := fun i s => s.1 = setsE ((qs.take i).foldl (fun S q => addI S 0 ⟨q, 0, 0⟩) S0) ∧ MetR ((qs.take i).foldl (fun S q => addI S 0 ⟨q, 0, 0⟩) S0) s.2)
    (Q := fun o => ∃ met', o = some (setsE (qs.foldl (fun S q => addI S 0 ⟨q, 0, 0⟩) S0), met') ∧ MetR (qs.foldl (fun S q => addI S 0 ⟨q, 0, 0⟩) S0) met') (by omega) ⟨rfl, hm⟩ (fun j' i s hi hI => ?_) (fun j' s hI => ?_)
  · exact key
  · obtain ⟨s1, s2⟩ := s
    obtain ⟨rfl, hI2⟩ := hI
    simp only at hI2
    have hpre : Pre ((qs.take i).foldl (fun S q => addI S 0 ⟨q, 0, 0⟩) S0) (qs.foldl (fun S q => addI S 0 ⟨q, 0, 0⟩) S0) := by
      have := adds_pre (j := 0) (qs.drop i) ((qs.take i).foldl (fun S q => addI S 0 ⟨q, 0, 0⟩) S0)
      rw [← List.foldl_append, List.take_append_drop] at this
      exact this
    have hpre0 := adds_pre (j := 0) (qs.take i) S0
    obtain ⟨met1, e1, hm1⟩ := add_ok (R := Rs g w) (c := ⟨g, w, by_, setsE ((qs.take i).foldl (fun S q => addI S 0 ⟨q, 0, 0⟩) S0), s2, []⟩) rfl hI2 (j := 0) (by rw [hpre0.len]; omega) ((hB.of_pre hpre).sz 0) ⟨qs[i], 0, 0⟩
    have hl : i < (qs.map fun q : Nat => (q : Int)).length := by simpa using hi
    have hai : at_ (qs.map fun q : Nat => (q : Int)) (i : Int) = ((qs[i] : Nat) : Int) := by rw [ix_at hl]; simp
    left
    refine ⟨(setsE (addI ((qs.take i).foldl (fun S q => addI S 0 ⟨q, 0, 0⟩) S0) 0 ⟨qs[i], 0, 0⟩), met1), ⟨?_, ?_⟩, ?_⟩
    · rw [List.take_succ_eq_append_getElem hi, List.foldl_append]; rfl
    · rw [List.take_succ_eq_append_getElem hi, List.foldl_append]; exact hm1
    · simp only [F.earley.open__l6, hqs, ix_lt hl, ix_in hl, if_true, hai]
      rw [show (EItem.mk ((qs[i] : Nat) : Int) 0 0) = itE ⟨qs[i], 0, 0⟩ from rfl, show ((0 : Int) = ((0 : Nat) : Int)) from rfl, e1, Option.bind_some, ix_inc (by omega)]
  · obtain ⟨s1, s2⟩ := s
    obtain ⟨rfl, hI2⟩ := hI
    simp only at hI2
    rw [List.take_length] at hI2
    have : decide ((qs.length : Int) < ((qs.map fun q : Nat => (q : Int)).length : Int)) = false := by simp
    simp only [F.earley.open__l6, hqs, this, Bool.false_eq_true, if_false, List.take_length]
    exact ⟨s2, rfl, hI2⟩
theorem set_ok (hg : RightG g) (hw : Bytes w) (hwl : w.length ≤ 20) {by_ : List (List Int)} {byN : Nat → List Nat} (hby : ByR by_ byN) (hbl : by_.length = g.Nts.toNat) (hby2 : ∀ a, (byN a).length ≤ 1000) {k f : Nat} (hk : 20000 ≤ k) (hf : f ≤ k) {j : Nat} (hj : j ≤ w.length) : ∀ (gg i : Nat) (S S' : List (List It)) (em : List Nat) (met : List (List (EItem × Int))) (e : List (Int × Int)) (ff : Nat),
    setL (Rs g w) byN w.length f j gg i S em = some S' → Bnd (Rs g w) S' → MetR S met → EmR em e → S.length = w.length + 1 → i ≤ 100000 → gg ≤ ff →
    ∃ z met' e', F.earley.open__l8 k (j : Int) g w by_ ff (i : Int) (setsE S) met e = some (z, setsE S', met', e') ∧ MetR S' met'
  | 0, _, _, _, _, _, _, _, h, _, _, _, _, _, _ => by cases h
  | gg + 1, _, _, _, _, _, _, 0, _, _, _, _, _, _, h => by omega
  | gg + 1, i, S, S', em, met, e, ff + 1, h, hB, hm, he, hl, hi0, hff => by
    have hpre := setL_pre _ _ _ _ _ h
    have hBS := hB.of_pre hpre
    have hszj := hBS.sz j
    unfold setL at h
    have hin : inR (j : Int) (setsE S).length = true := inR_iff.2 ⟨by omega, by rw [setsE_len]; omega⟩
    simp only [F.earley.open__l8, hin, if_true, setsE_at]
    by_cases hi : i < (at' S j).length
    · rw [if_pos hi] at h
      have hi1 : i < ((at' S j).map itE).length := by simpa using hi
      rw [ix_lt hi1, if_pos rfl, ix_in hi1, if_pos rfl, itE_get hi]
      generalize hy : (at' S j).getD i default = y at h
      have hym : y ∈ at' S j := by
        rw [← hy, List.getD_eq_getElem?_getD, List.getElem?_eq_getElem hi]
        exact List.getElem_mem hi
      cases hst : stepE (Rs g w) byN w.length f j y S em with
      | none => rw [hst] at h; cases h
      | some v =>
        obtain ⟨S1, em1⟩ := v
        rw [hst] at h
        simp only at h
        have hpre1 := setL_pre _ _ _ _ _ h
        obtain ⟨met1, e1, hF, hm1, he1⟩ := step_ok hg hw (by omega) (c := ⟨g, w, by_, setsE S, met, e⟩) rfl rfl hby hbl hby2 hk hf rfl hm he hl hj hym hst (hB.of_pre hpre1)
        simp only at hF
        rw [hF, Option.bind_some, ix_inc (by omega)]
        exact set_ok hg hw hwl hby hbl hby2 hk hf hj gg (i + 1) S1 S' em1 met1 e1 ff h hB hm1 he1 (by rw [(stepE_pre hst).len]; exact hl) (by omega) (by omega)
    · rw [if_neg hi] at h
      cases h
      have : decide ((i : Int) < (((at' S j).map itE).length : Int)) = false := ix_ge (by simpa using hi)
      simp only [this, Bool.false_eq_true, if_false]
      exact ⟨_, met, e, rfl, hm⟩
theorem all_ok (hg : RightG g) (hw : Bytes w) (hwl : w.length ≤ 20) {by_ : List (List Int)} {byN : Nat → List Nat} (hby : ByR by_ byN) (hbl : by_.length = g.Nts.toNat) (hby2 : ∀ a, (byN a).length ≤ 1000) {k f : Nat} (hk : 20000 ≤ k) (hf : f ≤ k) {o6 : List (List EItem) × List (List (EItem × Int))} (ho6 : o6.1.length = w.length + 1) : ∀ (c j : Nat) (S S' : List (List It)) (met : List (List (EItem × Int))) (ff : Nat),
    allL (Rs g w) byN w.length f c j S = some S' → j + c = w.length + 1 → Bnd (Rs g w) S' → MetR S met → S.length = w.length + 1 → c < ff →
    ∃ met', F.earley.open__l7 k o6 g w by_ ff (j : Int) (setsE S) met = some (setsE S', met') ∧ MetR S' met'
  | _, _, _, _, _, 0, _, _, _, _, _, h => by omega
  | 0, j, S, S', met, ff + 1, h, hjc, hB, hm, hl, _ => by
    cases h
    have : decide ((j : Int) < (o6.1.length : Int)) = false := decide_eq_false (by rw [ho6]; omega)
    simp only [F.earley.open__l7, this, Bool.false_eq_true, if_false]
    exact ⟨met, rfl, hm⟩
  | c + 1, j, S, S', met, ff + 1, h, hjc, hB, hm, hl, hff => by
    unfold allL at h
    have hlt : decide ((j : Int) < (o6.1.length : Int)) = true := decide_eq_true (by rw [ho6]; omega)
    simp only [F.earley.open__l7, hlt, if_true]
    cases hst : setL (Rs g w) byN w.length f j f 0 S [] with
    | none => rw [hst] at h; cases h
    | some S1 =>
      rw [hst] at h
      simp only at h
      have hpre1 := allL_pre _ _ _ _ h
      obtain ⟨z, met1, e1, hF, hm1⟩ := set_ok hg hw hwl hby hbl hby2 hk hf (j := j) (by omega) f 0 S S1 [] met [] k hst (hB.of_pre hpre1) hm (fun a => by simp [tget]) hl (by omega) hf
      rw [show ((0 : Int) = ((0 : Nat) : Int)) from rfl, hF, Option.bind_some, ix_inc (by omega)]
      exact all_ok hg hw hwl hby hbl hby2 hk hf ho6 c (j + 1) S1 S' met1 ff h (by omega) hB hm1 (by rw [(setL_pre _ _ _ _ _ hst).len]; exact hl) (by omega)
theorem bound_le (hsm : SmallG g) {n : Nat} (hn : n ≤ 20) : bound (Rs g w) n ≤ 4200 := by
  unfold bound Rs
  rw [List.map_map]
  have h := hsm.sum
  have : ∀ l : List Rule, ((l.map ((fun r : Ru => (r.rhs.length + 1) * (n + 1)) ∘ toRu w)).sum) = (l.map fun r => r.Rhs.length + 1).sum * (n + 1) := by
    intro l
    induction l with
    | nil => simp
    | cons x l ih => simp only [List.map_cons, List.sum_cons, Function.comp_def, toRu_len] at ih ⊢; rw [ih, ← Nat.add_mul]
  rw [this]
  calc _ ≤ 200 * (n + 1) := Nat.mul_le_mul_right _ h
    _ ≤ 4200 := by omega
theorem earley_open_ok {k : Nat} (hk : 100000 ≤ k) (hg : RightG g) (hsm : SmallG g) (hw : Bytes w) (hwl : w.length ≤ 20) : ∃ c S, F.earley.open_ k g w = some c ∧ c.sets = setsE S ∧ S.length = w.length + 1 ∧ Bnd (Rs g w) S ∧
    ∀ j, j ≤ w.length → ((∃ x ∈ at' S j, ∃ r, (Rs g w)[x.rule]? = some r ∧ r.lhs = g.Start.toNat ∧ x.from_ = 0 ∧ x.dot = r.rhs.length) ↔ DerY (Rs g w) (.nt g.Start.toNat) 0 j) := by
  have hbd := bound_le (w := w) hsm hwl
  obtain ⟨S, e, hl, hs, hn, hc⟩ := chart_ok (R := Rs g w) (byG_Bys g w) (n := w.length) (f := bound (Rs g w) w.length + 1) (Nat.le_refl _) g.Start.toNat
  have hB : Bnd (Rs g w) S := by
    refine ⟨fun q => Nat.le_trans (set_le hl hs hn q) (by omega), fun q y hy => ?_⟩
    obtain ⟨r, h1, h2, h3⟩ := hs q y hy
    refine ⟨⟨r, h1, h2⟩, ?_⟩
    have h4 := h3.le
    have h5 : q < S.length := by
      apply Decidable.byContradiction
      intro hq
      rw [at_over (by omega)] at hy
      cases hy
    omega
  unfold chart at e
  have hlr := hsm.rules
  have hby2 : ∀ a, (byG g a).length ≤ 1000 := fun a => by have := byG_len g a; omega
  obtain ⟨by_, eb, hbl, hby⟩ := earley_by_ok (k := k) (by omega) hg
  have hS0 : setsE (List.replicate (w.length + 1) []) = List.replicate (w.length + 1) ([] : List EItem) := by simp [setsE]
  have hm0 : MetR (List.replicate (w.length + 1) ([] : List It)) (List.replicate (w.length + 1) []) := by
    refine ⟨by simp, fun q x => ?_⟩
    have h1 : (List.replicate (w.length + 1) ([] : List (EItem × Int))).getD q [] = [] := by
      rw [List.getD_eq_getElem?_getD, List.getElem?_replicate]; split <;> rfl
    have h2 : at' (List.replicate (w.length + 1) ([] : List It)) q = [] := by
      unfold at'
      rw [List.getD_eq_getElem?_getD, List.getElem?_replicate]; split <;> rfl
    rw [h1, h2]
    simp [tget]
  have hpre := allL_pre _ _ _ _ e
  have hpre0 := adds_pre (j := 0) (byG g g.Start.toNat) (List.replicate (w.length + 1) ([] : List It))
  obtain ⟨met1, e1, hm1⟩ := start_ok (g := g) (w := w) hwl hby hby2 hg.s1 (S0 := List.replicate (w.length + 1) []) (by simp) hm0 (k := k) (by omega) (hB.of_pre hpre)
  obtain ⟨met2, e2, hm2⟩ := all_ok hg hw hwl hby hbl hby2 (k := k) (f := bound (Rs g w) w.length + 1) (by omega) (by omega) (o6 := (setsE ((byG g g.Start.toNat).foldl (fun S q => addI S 0 ⟨q, 0, 0⟩) (List.replicate (w.length + 1) [])), met1)) (by
    rw [setsE_len, hpre0.len]; simp) (w.length + 1) 0 _ S met1 k e (by omega) hB hm1 (by rw [hpre0.len]; simp) (by omega)
  have hn1 := hg.n1
  have hn2 := hg.n2
  have d1 : decide (0 ≤ g.Nts) = true := decide_eq_true (by omega)
  have d2 : decide (24 * g.Nts.toNat ≤ 140737488355328) = true := decide_eq_true (by omega)
  have d3 : decide (g.Nts.toNat ≤ 9223372036854775807) = true := decide_eq_true (by omega)
  have ew : IntKind.wrap .i64 ((w.length : Int) + 1) = ((w.length + 1 : Nat) : Int) := ix_inc (by omega)
  have d4 : decide (0 ≤ ((w.length + 1 : Nat) : Int)) = true := decide_eq_true (by omega)
  have d5 : decide (24 * (w.length + 1) ≤ 140737488355328) = true := decide_eq_true (by omega)
  have d6 : decide (w.length + 1 ≤ 9223372036854775807) = true := decide_eq_true (by omega)
  have d7 : inR g.Start by_.length = true := inR_iff.2 ⟨hg.s1, by rw [hbl]; have := hg.s2; omega⟩
  refine ⟨⟨g, w, by_, setsE S, met2, default⟩, S, ?_, rfl, hl, hB, hc⟩
  unfold F.earley.open_ F.earley.open__j1
  simp only [d1, d2, d3, ew, d4, Int.toNat_natCast, d5, d6, if_true]
  rw [eb, Option.bind_some, met_ok (k := k) (n := w.length + 1) (by omega) (by omega) (by simp), Option.bind_some, d7, if_pos rfl]
  rw [hS0] at e1
  rw [e1, Option.bind_some]
  rw [show ((0 : Int) = ((0 : Nat) : Int)) from rfl, e2, Option.bind_some]
end
end Go.Vc
