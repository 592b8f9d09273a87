/-
  The laws ForestFirst and ForestSound.
-/
import Derived.Test.YtfhbgelpmbkooaaFW
import Derived.Test.YtfhbgelpmbkooaaFS
import Derived.Test.YtfhbgelpmbkooaaGZ
import Derived.Test.YtfhbgelpmbkooaaA1
set_option linter.unusedVariables false
set_option linter.unusedSimpArgs false
namespace Go.Vc
open Go Ea
theorem SameTree_ok : ∀ (h k : Nat) (a b : Tree), Low h a → h + 200 ≤ k → ∃ r, F.ref08.SameTree k a b = some r ∧ (r = true ↔ a = b)
  | 0, _, _, _, h, _ => by cases h
  | h + 1, 0, _, _, _, hk => by omega
  | h + 1, k + 1, a, b, ⟨h1, h2⟩, hk => by
    show ∃ r, F.ref08.SameTree_B k (F.ref08.SameTree k) a b = some r ∧ _
    unfold F.ref08.SameTree_B
    cases a with | mk ar ab ak =>
    cases b with | mk br bb bk =>
    by_cases c1 : ar = br
    · by_cases c2 : ab = bb
      · by_cases c3 : ak.length = bk.length
        · have d1 : (ar != br) = false := by rw [bne_eq_false_iff_eq]; exact c1
          have d2 : (ab != bb) = false := by rw [bne_eq_false_iff_eq]; exact c2
          have d3 : (((ak.length : Nat) : Int) != ((bk.length : Nat) : Int)) = false := by rw [bne_eq_false_iff_eq]; omega
          simp only [d1, d2, d3, Bool.false_eq_true, if_false]
          have key := loop_inv0 (n := ak.length) (k := k) (σ := Unit) (s := ()) (L := fun j i _ => F.ref08.SameTree_l1 (Tree.mk ar ab ak) (Tree.mk br bb bk) (F.ref08.SameTree k) j i) (I := fun q _ => ak.take q = bk.take q) (Q := fun o => (o = some (.done ()) ∧ ak = bk) ∨ (o = some (.ret false) ∧ ak ≠ bk)) (by simp only at h1; omega) (by simp) (fun j q s hq hI => ?_) (fun j s hI => ?_)
          · rcases key with ⟨e, hk⟩ | ⟨e, hk⟩
            · rw [e, Option.bind_some]
              exact ⟨true, rfl, fun _ => by rw [c1, c2, hk], fun _ => rfl⟩
            · rw [e, Option.bind_some]
              exact ⟨false, rfl, fun e => (by cases e), fun e => absurd (congrArg Tree.Kids e) hk⟩
          · have hqb : q < bk.length := by omega
            obtain ⟨r, e, hr⟩ := SameTree_ok h k ak[q] bk[q] (h2 _ (List.getElem_mem hq)) (by omega)
            simp only [F.ref08.SameTree_l1, ix_lt hq, ix_in hq, ix_at hq, ix_in hqb, ix_at hqb, if_true, e, Option.bind_some]
            cases r with
            | true =>
              left
              refine ⟨(), ?_, ?_⟩
              · rw [List.take_succ_eq_append_getElem hq, List.take_succ_eq_append_getElem hqb, hI, hr.1 rfl]
              · simp only [Bool.not_true, Bool.false_eq_true, if_false]
                rw [ix_inc (by simp only at h1; omega)]
            | false =>
              right
              refine .inr ⟨by simp, fun e => ?_⟩
              have : ak[q] = bk[q] := by simp only [e]
              have := hr.2 this
              cases this
          · simp only [F.ref08.SameTree_l1, ix_ge (Nat.lt_irrefl _), Bool.false_eq_true, if_false]
            rw [List.take_length, c3, List.take_length] at hI
            exact .inl ⟨trivial, hI⟩
        · have d1 : (ar != br) = false := by rw [bne_eq_false_iff_eq]; exact c1
          have d2 : (ab != bb) = false := by rw [bne_eq_false_iff_eq]; exact c2
          have d3 : (((ak.length : Nat) : Int) != ((bk.length : Nat) : Int)) = true := by rw [bne_iff_ne]; omega
          simp only [d1, d2, d3, Bool.false_eq_true, if_false, if_true]
          exact ⟨false, rfl, fun e => (by cases e), fun e => absurd (congrArg (fun t => t.Kids.length) e) c3⟩
      · have d1 : (ar != br) = false := by rw [bne_eq_false_iff_eq]; exact c1
        have d2 : (ab != bb) = true := by rw [bne_iff_ne]; exact c2
        simp only [d1, d2, Bool.false_eq_true, if_false, if_true]
        exact ⟨false, rfl, fun e => (by cases e), fun e => absurd (congrArg Tree.Byte e) c2⟩
    · have d1 : (ar != br) = true := by rw [bne_iff_ne]; exact c1
      simp only [d1, if_true]
      exact ⟨false, rfl, fun e => (by cases e), fun e => absurd (congrArg Tree.Rule e) c1⟩
section
variable {g : Gram} {w : List Int} {ρ : Nat → Nat}
theorem symL_low {h : Nat} {s : Sy} {m j : Nat} {t : Tr} (ih : ∀ a i j t, t ∈ treesL (Rs g w) h a i j → Low (h + 1) (trT w t)) (ht : t ∈ symL (treesL (Rs g w) h) s m j) : Low (h + 1) (trT w t) := by
  cases s with
  | nt a => exact ih a m j t ht
  | tm p =>
    unfold symL at ht
    simp only at ht
    split at ht
    · rw [List.mem_singleton] at ht
      subst ht
      exact ⟨by simp [trT], fun x hx => by simp [trT] at hx⟩
    · cases ht
theorem rowsL_low {h : Nat} (ih : ∀ a i j t, t ∈ treesL (Rs g w) h a i j → Low (h + 1) (trT w t)) : ∀ (α : List Sy) {i j : Nat} {l : List Tr}, l ∈ rowsL (treesL (Rs g w) h) α i j → ∀ t ∈ l, Low (h + 1) (trT w t) := by
  refine list_snoc (fun {i j l} hl => ?_) (fun α s ihα {i j l} hl => ?_)
  · rw [rowsL_nil] at hl
    split at hl
    · rw [List.mem_singleton] at hl
      subst hl
      exact fun t ht => by cases ht
    · cases hl
  · rw [rowsL_snoc] at hl
    obtain ⟨m, _, _, l', hl', t, ht, rfl⟩ := mem_step.1 hl
    intro x hx
    rw [List.mem_append, List.mem_singleton] at hx
    rcases hx with hx | rfl
    · exact ihα hl' x hx
    · exact symL_low ih ht
theorem treesL_low (hg : RightG g) : ∀ (h a i j : Nat) (t : Tr), t ∈ treesL (Rs g w) h a i j → Low (h + 1) (trT w t)
  | 0, _, _, _, _, h => by cases h
  | h + 1, a, i, j, t, ht => by
    unfold treesL at ht
    obtain ⟨x, hx, ht⟩ := List.mem_flatMap.1 ht
    have hxr : (Rs g w)[x.2]? = some x.1 := List.mem_zipIdx_iff_getElem?.1 hx
    obtain ⟨hq, hxe⟩ := Rs_get hxr
    split at ht
    · obtain ⟨l, hl, rfl⟩ := List.mem_map.1 ht
      have hlen := (rowsL_sp (treesL_sp h) _ hl).2
      have h80 := hg.rhs _ (List.getElem_mem hq)
      rw [hxe, toRu_len] at hlen
      show (trTs w l).length ≤ 100 ∧ ∀ x ∈ trTs w l, Low (h + 1) x
      rw [trTs_map]
      refine ⟨by rw [List.length_map]; omega, fun x hx => ?_⟩
      obtain ⟨y, hy, rfl⟩ := List.mem_map.1 hx
      exact rowsL_low (treesL_low hg h) _ hl y hy
    · cases ht
theorem rows_part {L : Nat → Nat → Nat → List Tr} (hs : Spans L) : ∀ (α : List Sy) {i j : Nat} {l : List Tr}, l ∈ rowsL L α i j → ∀ (q : Nat) (hq : q < α.length) (hl : q < l.length), l[q] ∈ symL L α[q] (i + sps (l.take q)) (i + sps (l.take (q + 1))) ∧ i + sps (l.take (q + 1)) ≤ j := by
  refine list_snoc (fun {i j l} hl q hq => by cases hq) (fun α s ihα {i j l} hl q hq hlq => ?_)
  have hsp := rowsL_sp hs _ hl
  rw [rowsL_snoc] at hl
  obtain ⟨m, _, hmj, l', hl', t, ht, rfl⟩ := mem_step.1 hl
  have hsp' := rowsL_sp hs _ hl'
  by_cases h : q < α.length
  · have hq' : q < l'.length := by rw [hsp'.2]; exact h
    obtain ⟨h1, h2⟩ := ihα hl' q h hq'
    rw [List.take_append_of_le_length (by omega), List.take_append_of_le_length (by omega)]
    have e1 : (l' ++ [t])[q] = l'[q] := List.getElem_append_left hq'
    have e2 : (α ++ [s])[q] = α[q] := List.getElem_append_left h
    rw [e1, e2]
    exact ⟨h1, by omega⟩
  · have hqe : q = l'.length := by rw [hsp'.2]; rw [List.length_append, List.length_singleton] at hq; omega
    have e1 : (l' ++ [t])[q] = t := by subst hqe; simp
    have e2 : (α ++ [s])[q] = s := by
      have : q = α.length := by omega
      subst this; simp
    have e3 : (l' ++ [t]).take q = l' := by subst hqe; simp
    have e4 : (l' ++ [t]).take (q + 1) = l' ++ [t] := List.take_of_length_le (by rw [List.length_append, List.length_singleton]; omega)
    rw [e1, e2, e3, e4, ← hsp'.1, ← hsp.1]
    exact ⟨ht, Nat.le_refl _⟩
theorem is_ok (hg : RightG g) (hwd : WordsG g) (hw : Bytes w) (hwl : w.length ≤ 20) : ∀ (h k a i j : Nat) (t : Tr), t ∈ treesL (Rs g w) h a i j → j ≤ w.length → h + 300 ≤ k → F.law08.is k g (a : Int) (trT w t) w (i : Int) = some (j : Int)
  | 0, _, _, _, _, _, h, _, _ => by cases h
  | h + 1, 0, _, _, _, _, _, _, hk => by omega
  | h + 1, k + 1, a, i, j, t, ht, hj, hk => by
    unfold treesL at ht
    obtain ⟨x, hx, ht⟩ := List.mem_flatMap.1 ht
    have hxr : (Rs g w)[x.2]? = some x.1 := List.mem_zipIdx_iff_getElem?.1 hx
    obtain ⟨hq, hxe⟩ := Rs_get hxr
    obtain ⟨r, q⟩ := x
    simp only at hxr hq hxe ht
    subst hxe
    split at ht
    · rename_i hla
      obtain ⟨l, hl, rfl⟩ := List.mem_map.1 ht
      obtain ⟨hsp, hlen⟩ := rowsL_sp (treesL_sp h) _ hl
      have hrm := List.getElem_mem hq
      have h80 := hg.rhs _ hrm
      have hlhs := hg.lhs1 _ hrm
      rw [toRu_len] at hlen
      show F.law08.is_B k (F.law08.is k) g (a : Int) (Tree.mk (q : Int) 0 (trTs w l)) w (i : Int) = _
      unfold F.law08.is_B
      have d1 : decide (((q : Nat) : Int) < 0) = false := decide_eq_false (by omega)
      have d2 : decide ((g.Rules.length : Int) ≤ ((q : Nat) : Int)) = false := decide_eq_false (by omega)
      have hla' : g.Rules[q].Lhs.toNat = a := hla
      have d3 : (g.Rules[q].Lhs != (a : Int)) = false := by rw [bne_eq_false_iff_eq]; omega
      have hkl : (trTs w l).length = g.Rules[q].Rhs.length := by rw [trTs_map, List.length_map, hlen]
      have d4 : ((((trTs w l).length : Nat) : Int) != ((g.Rules[q].Rhs.length : Nat) : Int)) = false := by rw [bne_eq_false_iff_eq]; omega
      have d5 : ((0 : Int) != 0) = false := rfl
      simp only [d1, d2, Bool.false_eq_true, if_false, ix_in hq, if_true, ix_at hq, d3, d4, d5]
      unfold F.law08.is_j1
      rw [if_neg (by simp)]
      have key := loop_inv0 (n := (trTs w l).length) (k := k) (σ := Int) (s := (i : Int)) (L := fun j' q' s => F.law08.is_l2 k (Tree.mk (q : Int) 0 (trTs w l)) g (F.law08.is k) w j' s q') (I := fun e s => s = ((i + sps (l.take e) : Nat) : Int)) (Q := fun o => o = some (.done (j : Int))) (by omega) (by simp [sps]) (fun j' e s he hI => ?_) (fun j' s hI => ?_)
      · rw [key]; rfl
      · left
        subst hI
        refine ⟨_, rfl, ?_⟩
        have hel : e < l.length := by omega
        have her : e < g.Rules[q].Rhs.length := by omega
        have her2 : e < (toRu w g.Rules[q]).rhs.length := by rw [toRu_len]; exact her
        obtain ⟨hmem, hle⟩ := rows_part (treesL_sp h) _ hl e her2 hel
        have hsy : (toRu w g.Rules[q]).rhs[e] = toSy w g.Rules[q].Rhs[e] := by
          have h6 := toRu_get (w := w) her
          rw [List.getElem?_eq_getElem her2] at h6
          exact Option.some.inj h6
        rw [hsy] at hmem
        have hke : (trTs w l)[e] = trT w l[e] := by simp [trTs_map]
        have d6 : decide (0 ≤ ((i + sps (l.take e) : Nat) : Int)) = true := decide_eq_true (by omega)
        simp only [F.law08.is_l2, ix_lt he, if_true]
        unfold F.law08.is_j3
        simp only [d6, if_true, ix_in hq, ix_at hq, ix_in her, ix_at her, ix_in he, ix_at he, hke]
        have hsm := List.getElem_mem her
        by_cases h0 : 0 ≤ g.Rules[q].Rhs[e].Nt
        · have hs : toSy w g.Rules[q].Rhs[e] = .nt g.Rules[q].Rhs[e].Nt.toNat := by unfold toSy; rw [if_pos h0]
          rw [hs] at hmem
          have ih := is_ok hg hwd hw hwl h k _ _ _ _ hmem (by omega) (by omega)
          rw [Int.toNat_of_nonneg h0] at ih
          rw [decide_eq_true h0, if_pos rfl, ih, Option.bind_some]
          unfold F.law08.is_j4
          rw [ix_inc (by omega)]
        · have hs : toSy w g.Rules[q].Rhs[e] = .tm (fun p => decide (p < w.length) && hasB g.Rules[q].Rhs[e].Set (w.getD p 0)) := by unfold toSy; rw [if_neg h0]
          rw [hs] at hmem
          unfold symL at hmem
          simp only at hmem
          split at hmem
          · rename_i hc
            obtain ⟨hc1, hc2⟩ := hc
            rw [List.mem_singleton] at hmem
            simp only [Bool.and_eq_true, decide_eq_true_eq] at hc2
            obtain ⟨hc2, hc3⟩ := hc2
            generalize i + sps (l.take e) = m at *
            rw [hmem, hc1]
            have hb := hw _ (List.getElem_mem hc2)
            have hwd2 : w.getD m 0 = w[m] := by simp [hc2]
            rw [hwd2] at hc3
            have hle2 : decide ((w.length : Int) ≤ (m : Int)) = false := decide_eq_false (by omega)
            have eT : trT w (.leaf m) = Tree.mk (-1) w[m] [] := by rw [trT, hwd2]
            rw [eT]
            have b1 : ((-1 : Int) != -1) = false := rfl
            have b2 : decide (0 < ((([] : List Tree).length : Nat) : Int)) = false := rfl
            have b3 : (w[m] != w[m]) = false := by simp
            rw [decide_eq_false h0, if_neg (by simp)]
            simp only [b1, b2, b3, Bool.false_eq_true, if_false, hle2, ix_in hc2, if_true, ix_at hc2]
            have hwr : IntKind.wrap .i64 w[m] = w[m] := wrap_i64 (by omega) (by omega)
            have hH : F.ref01.Has k (S4.mk g.Rules[q].Rhs[e].Set.w0 g.Rules[q].Rhs[e].Set.w1 g.Rules[q].Rhs[e].Set.w2 g.Rules[q].Rhs[e].Set.w3) w[m] = some (hasB g.Rules[q].Rhs[e].Set w[m]) := RefHas_ok (hwd _ hrm _ hsm) hb.1 hb.2 (by omega)
            rw [hwr, hH, Option.bind_some, hc3]
            unfold F.law08.is_j5 F.law08.is_j4
            simp only [Bool.not_true, Bool.false_eq_true, if_false]
            rw [ix_inc (by omega), ix_inc (by omega)]
          · cases hmem
      · subst hI
        simp only [F.law08.is_l2, ix_ge (Nat.lt_irrefl _), Bool.false_eq_true, if_false]
        unfold F.law08.is_j3
        rw [if_neg (by simp), hkl, ← hlen, List.take_length, ← hsp]
    · cases ht
end
end Go.Vc
