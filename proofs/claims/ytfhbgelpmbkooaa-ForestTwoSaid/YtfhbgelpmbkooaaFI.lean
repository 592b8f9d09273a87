/-
  Where a nonterminal stands; what the grove knows when it is opened.
-/
import Derived.Test.YtfhbgelpmbkooaaFH
set_option linter.unusedVariables false
set_option linter.unusedSimpArgs false
namespace Go.Vc
open Go Ea
def fin (g : Gram) (a : Nat) (y : It) : Bool := match g.Rules[y.rule]? with
  | none => false
  | some r => decide (r.Lhs.toNat = a) && (decide (y.from_ = 0) && decide (y.dot = r.Rhs.length))
section
variable {g : Gram} {w : List Int}
theorem c1_fin (hg : RightG g) {nt : Int} (h0 : 0 ≤ nt) {y : It} (hy : y.rule < g.Rules.length) : F.earley.Spans_c1 (itE y) (Gram.mk g.Nts nt g.Rules) nt = some (fin g nt.toNat y) := by
  have hin : inR (itE y).Rule g.Rules.length = true := inR_iff.2 ⟨by simp [itE], by simp only [itE]; omega⟩
  have hat : at_ g.Rules (itE y).Rule = g.Rules[y.rule] := ix_at hy
  have hl := hg.lhs1 _ (List.getElem_mem hy)
  unfold F.earley.Spans_c1 fin
  rw [List.getElem?_eq_getElem hy]
  simp only [hin, if_true, hat]
  have e1 : (g.Rules[y.rule].Lhs == nt) = decide (g.Rules[y.rule].Lhs.toNat = nt.toNat) := by
    rw [Bool.eq_iff_iff, beq_iff_eq, decide_eq_true_eq]; omega
  have e2 : ((itE y).From == 0) = decide (y.from_ = 0) := by
    rw [Bool.eq_iff_iff, beq_iff_eq, decide_eq_true_eq]; simp only [itE]; omega
  have e3 : ((itE y).Dot == (g.Rules[y.rule].Rhs.length : Int)) = decide (y.dot = g.Rules[y.rule].Rhs.length) := by
    rw [Bool.eq_iff_iff, beq_iff_eq, decide_eq_true_eq]; simp only [itE]; omega
  rw [e1, e2, e3]
  cases decide (g.Rules[y.rule].Lhs.toNat = nt.toNat) <;> cases decide (y.from_ = 0) <;> rfl
theorem contains_ok {k : Nat} (hk : 100000 ≤ k) (hg : RightG g) {nt : Int} (h0 : 0 ≤ nt) {l : List It} (hl : l.length < 100000) (hr : ∀ y ∈ l, y.rule < g.Rules.length) :
    F.slices.ContainsFunc_f73_74 k (l.map itE) (Gram.mk g.Nts nt g.Rules) nt = some (l.any (fin g nt.toNat)) := by
  have key : ∃ r, F.slices.IndexFunc_f84_74_l1 (l.map itE) (Gram.mk g.Nts nt g.Rules) nt k 0 = some r ∧ (if l.any (fin g nt.toNat) then ∃ z : Nat, r = .ret (z : Int) else r = .done ()) := by
    refine loop_inv0 (n := l.length) (σ := Unit) (s := ()) (L := fun j t _ => F.slices.IndexFunc_f84_74_l1 (l.map itE) (Gram.mk g.Nts nt g.Rules) nt j t) (I := fun q _ => (l.take q).any (fin g nt.toNat) = false)
      (Q := fun o => ∃ r, o = some r ∧ (if l.any (fin g nt.toNat) then ∃ z : Nat, r = .ret (z : Int) else r = .done ())) (by omega) (by simp) (fun j q s hq hI => ?_) (fun j s hI => ?_)
    · have hq1 : q < (l.map itE).length := by simpa using hq
      have hat : at_ (l.map itE) (q : Int) = itE l[q] := by rw [ix_at hq1]; simp
      simp only [F.slices.IndexFunc_f84_74_l1, ix_lt hq1, ix_in hq1, if_true, hat]
      rw [c1_fin hg h0 (hr _ (List.getElem_mem hq)), Option.bind_some]
      by_cases hf : fin g nt.toNat l[q] = true
      · right
        rw [hf, if_pos rfl]
        have : l.any (fin g nt.toNat) = true := List.any_eq_true.2 ⟨_, List.getElem_mem hq, hf⟩
        rw [this]
        exact ⟨_, rfl, q, rfl⟩
      · left
        refine ⟨(), ?_, ?_⟩
        · rw [List.take_succ_eq_append_getElem hq, List.any_append, hI]
          simp [Bool.eq_false_iff.2 hf]
        · rw [if_neg hf, ix_inc (by omega)]
    · rw [List.take_length] at hI
      have : decide ((l.length : Int) < ((l.map itE).length : Int)) = false := by simp
      simp only [F.slices.IndexFunc_f84_74_l1, this, Bool.false_eq_true, if_false, hI]
      exact ⟨_, rfl, rfl⟩
  obtain ⟨r, e, hr'⟩ := key
  unfold F.slices.ContainsFunc_f73_74 F.slices.IndexFunc_f84_74
  rw [e, Option.bind_some]
  cases ha : l.any (fin g nt.toNat) with
  | true =>
    rw [ha, if_pos rfl] at hr'
    obtain ⟨z, rfl⟩ := hr'
    have : decide (0 ≤ (z : Int)) = true := decide_eq_true (by omega)
    show some (decide (0 ≤ (z : Int))) = _
    rw [this]
  | false =>
    rw [ha, if_neg (by simp)] at hr'
    subst hr'
    rfl
theorem Rs_drop {lo : Nat} (hlo : lo ≤ w.length) (g' : Gram) (h : g'.Rules = g.Rules) : Rs g' (w.drop lo) = (Rs g w).map (shR lo) := by
  unfold Rs
  rw [h, List.map_map]
  refine List.map_congr_left fun r _ => ?_
  unfold toRu shR
  simp only [Function.comp_def, List.map_map, Ru.mk.injEq, true_and]
  refine List.map_congr_left fun s _ => ?_
  unfold toSy
  show _ = shS lo (if 0 ≤ s.Nt then _ else _)
  by_cases h0 : 0 ≤ s.Nt
  · rw [if_pos h0, if_pos h0]; rfl
  · rw [if_neg h0, if_neg h0]
    simp only [shS, Sy.tm.injEq]
    funext p
    have e1 : decide (p < (w.drop lo).length) = decide (lo + p < w.length) := by
      rw [List.length_drop]
      rw [decide_eq_decide]
      omega
    have e2 : (w.drop lo).getD p 0 = w.getD (lo + p) 0 := by
      rw [List.getD_eq_getElem?_getD, List.getElem?_drop, List.getD_eq_getElem?_getD]
    rw [e1, e2]
theorem sub_drop {lo : Nat} : sub w (lo : Int) (w.length : Int) = w.drop lo := by
  unfold sub
  rw [Int.toNat_natCast, Int.toNat_natCast]
  exact List.take_of_length_le (by simp)
def RunsI (P : Int → Int → Prop) (out : List Run) : Prop := ∀ x, x ∈ out ↔ P x.Lo x.Hi
theorem Spans_l2_ok {k : Nat} (hk : 100000 ≤ k) (hg : RightG g) {nt : Int} (h0 : 0 ≤ nt) {c : Earley_chart} {S : List (List It)} (hcs : c.sets = setsE S) (hS : S.length ≤ 30) {R : List Ru} (hB : Bnd R S) (hBr : ∀ j, ∀ y ∈ at' S j, y.rule < g.Rules.length) {lo : Nat} (hlo : lo ≤ 100) {out : List Run} (hol : out.length ≤ 1000) {P : Int → Int → Prop} (hP : RunsI P out) :
    ∃ out' z, F.earley.Spans_l2 k c g nt (lo : Int) k out 0 = some (out', z) ∧ out'.length ≤ out.length + S.length ∧ RunsI (fun a b => P a b ∨ (a = (lo : Int) ∧ ∃ j : Nat, j < S.length ∧ b = (lo : Int) + j ∧ (at' S j).any (fin g nt.toNat) = true)) out' := by
  refine loop_inv0 (n := S.length) (k := k) (σ := List Run) (s := out) (L := fun j i s => F.earley.Spans_l2 k c g nt (lo : Int) j s i)
    (I := fun q s => s.length ≤ out.length + q ∧ RunsI (fun a b => P a b ∨ (a = (lo : Int) ∧ ∃ j : Nat, j < q ∧ b = (lo : Int) + j ∧ (at' S j).any (fin g nt.toNat) = true)) s)
    (Q := fun o => ∃ out' z, o = some (out', z) ∧ out'.length ≤ out.length + S.length ∧ RunsI (fun a b => P a b ∨ (a = (lo : Int) ∧ ∃ j : Nat, j < S.length ∧ b = (lo : Int) + j ∧ (at' S j).any (fin g nt.toNat) = true)) out') (by omega) ⟨by omega, fun x => by rw [hP x]; simp⟩ (fun j q s hq hI => ?_) (fun j s hI => ?_)
  · left
    have hq1 : q < (setsE S).length := by rw [setsE_len]; exact hq
    have hsz := hB.sz q
    simp only [F.earley.Spans_l2, hcs, ix_lt hq1, ix_in hq1, if_true, setsE_at]
    have hcont := contains_ok hk hg h0 (l := at' S q) (k := k) (by
      have := hB.sz q
      omega) (hBr q)
    rw [hcont, Option.bind_some]
    unfold F.earley.Spans_j4 F.earley.Spans_j3
    have hadd : IntKind.wrap .i64 ((lo : Int) + (q : Int)) = (lo : Int) + q := wrap_i64 (by omega) (by omega)
    have e1 : decide ((s.length + ([(Run.mk (lo : Int) ((lo : Int) + q))] : List Run).length) * 16 ≤ 140737488355328) = true := decide_eq_true (by have := hI.1; simp only [List.length_singleton]; omega)
    have e2 : decide (s.length + ([(Run.mk (lo : Int) ((lo : Int) + q))] : List Run).length ≤ 9223372036854775807) = true := decide_eq_true (by have := hI.1; simp only [List.length_singleton]; omega)
    simp only [hadd, e1, e2, if_true]
    rw [ix_inc (by omega)]
    cases ha : (at' S q).any (fin g nt.toNat) with
    | true =>
      refine ⟨s ++ [Run.mk (lo : Int) ((lo : Int) + q)], ⟨by have := hI.1; simp; omega, fun x => ?_⟩, by rw [if_pos rfl]⟩
      rw [List.mem_append, hI.2 x, List.mem_singleton]
      constructor
      · rintro ((h | ⟨h1, j', h2, h3⟩) | rfl)
        · exact .inl h
        · exact .inr ⟨h1, j', by omega, h3⟩
        · exact .inr ⟨rfl, q, by omega, rfl, ha⟩
      · rintro (h | ⟨h1, j', h2, h3, h4⟩)
        · exact .inl (.inl h)
        · by_cases hj : j' = q
          · subst hj
            right
            cases x
            simp only at h1 h3
            rw [h1, h3]
          · exact .inl (.inr ⟨h1, j', by omega, h3, h4⟩)
    | false =>
      refine ⟨s, ⟨by have := hI.1; omega, fun x => ?_⟩, by rw [if_neg (by simp)]⟩
      rw [hI.2 x]
      constructor
      · rintro (h | ⟨h1, j', h2, h3⟩)
        · exact .inl h
        · exact .inr ⟨h1, j', by omega, h3⟩
      · rintro (h | ⟨h1, j', h2, h3, h4⟩)
        · exact .inl h
        · by_cases hj : j' = q
          · subst hj
            rw [ha] at h4
            cases h4
          · exact .inr ⟨h1, j', by omega, h3, h4⟩
  · have : decide ((S.length : Int) < ((setsE S).length : Int)) = false := decide_eq_false (by rw [setsE_len]; omega)
    simp only [F.earley.Spans_l2, hcs, this, Bool.false_eq_true, if_false]
    exact ⟨_, _, rfl, hI⟩
end
end Go.Vc
