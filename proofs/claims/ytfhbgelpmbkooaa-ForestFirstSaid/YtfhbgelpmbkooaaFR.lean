/-
  The laws ForestFirst and ForestSound.
-/
import Derived.Test.YtfhbgelpmbkooaaFW
import Derived.Test.YtfhbgelpmbkooaaFS
import Derived.Test.YtfhbgelpmbkooaaGZ
import Derived.Test.YtfhbgelpmbkooaaA1
set_option linter.unusedVariables false
set_option linter.unusedSimpArgs false
namespace Go.Vc
open Go Ea
theorem SameTree_ok : ∀ (h k : Nat) (a b : Tree), Low h a → h + 200 ≤ k → ∃ r, F.ref08.SameTree k a b = some r ∧ (r = true ↔ a = b)
  | 0, _, _, _, h, _ => by cases h
  | h + 1, 0, _, _, _, hk => by omega
  | h + 1, k + 1, a, b, ⟨h1, h2⟩, hk => by
    show ∃ r, F.ref08.SameTree_B k (F.ref08.SameTree k) a b = some r ∧ _
    unfold F.ref08.SameTree_B
    cases a with | mk ar ab ak =>
    cases b with | mk br bb bk =>
    by_cases c1 : ar = br
    · by_cases c2 : ab = bb
      · by_cases c3 : ak.length = bk.length
        · have d1 : (ar != br) = false := by rw [bne_eq_false_iff_eq]; exact c1
          have d2 : (ab != bb) = false := by rw [bne_eq_false_iff_eq]; exact c2
          have d3 : (((ak.length : Nat) : Int) != ((bk.length : Nat) : Int)) = false := by rw [bne_eq_false_iff_eq]; omega
          simp only [d1, d2, d3, Bool.false_eq_true, if_false]
          have key := loop_inv0 (n := ak.length) (k := k) (σ := Unit) (s := ()) (L := fun j i _ => F.ref08.SameTree_l1 (Tree.mk ar ab ak) (Tree.mk br bb bk) (F.ref08.SameTree k) j i) (I := fun q _ => ak.take q = bk.take q) (Q := fun o => (o = some (.done ()) ∧ ak = bk) ∨ (o = some (.ret false) ∧ ak ≠ bk)) (by simp only at h1; omega) (by simp) (fun j q s hq hI => ?_) (fun j s hI => ?_)
          · rcases key with ⟨e, hk⟩ | ⟨e, hk⟩
            · rw [e, Option.bind_some]
              exact ⟨true, rfl, fun _ => by rw [c1, c2, hk], fun _ => rfl⟩
            · rw [e, Option.bind_some]
              exact ⟨false, rfl, fun e => (by cases e), fun e => absurd (congrArg Tree.Kids e) hk⟩
          · have hqb : q < bk.length := by omega
            obtain ⟨r, e, hr⟩ := SameTree_ok h k ak[q] bk[q] (h2 _ (List.getElem_mem hq)) (by omega)
            simp only [F.ref08.SameTree_l1, ix_lt hq, ix_in hq, ix_at hq, ix_in hqb, ix_at hqb, if_true, e, Option.bind_some]
            cases r with
            | true =>
              left
              refine ⟨(), ?_, ?_⟩
              · rw [List.take_succ_eq_append_getElem hq, List.take_succ_eq_append_getElem hqb, hI, hr.1 rfl]
              · simp only [Bool.not_true, Bool.false_eq_true, if_false]
                rw [ix_inc (by simp only at h1; omega)]
            | false =>
              right
              refine .inr ⟨by simp, fun e => ?_⟩
              have : ak[q] = bk[q] := by simp only [e]
              have := hr.2 this
              cases this
          · simp only [F.ref08.SameTree_l1, ix_ge (Nat.lt_irrefl _), Bool.false_eq_true, if_false]
            rw [List.take_length, c3, List.take_length] at hI
            exact .inl ⟨trivial, hI⟩
        · have d1 : (ar != br) = false := by rw [bne_eq_false_iff_eq]; exact c1
          have d2 : (ab != bb) = false := by rw [bne_eq_false_iff_eq]; exact c2
          have d3 : (((ak.length : Nat) : Int) != ((bk.length : Nat) : Int)) = true := by rw [bne_iff_ne]; omega
          simp only [d1, d2, d3, Bool.false_eq_true, if_false, if_true]
          exact ⟨false, rfl, fun e => (by cases e), fun e => absurd (congrArg (fun t => t.Kids.length) e) c3⟩
      · have d1 : (ar != br) = false := by rw [bne_eq_false_iff_eq]; exact c1
        have d2 : (ab != bb) = true := by rw [bne_iff_ne]; exact c2
        simp only [d1, d2, Bool.false_eq_true, if_false, if_true]
        exact ⟨false, rfl, fun e => (by cases e), fun e => absurd (congrArg Tree.Byte e) c2⟩
    · have d1 : (ar != br) = true := by rw [bne_iff_ne]; exact c1
      simp only [d1, if_true]
      exact ⟨false, rfl, fun e => (by cases e), fun e => absurd (congrArg Tree.Rule e) c1⟩
theorem SameTrees_refl {h k : Nat} {l : List Tree} (hk : h + 5000 ≤ k) (hl : l.length ≤ 2000) (hx : ∀ t ∈ l, Low h t) : F.ref08.SameTrees k l l = some true := by
  unfold F.ref08.SameTrees
  have d : (((l.length : Nat) : Int) != ((l.length : Nat) : Int)) = false := by simp
  rw [d, if_neg (by simp)]
  have key := loop_inv0 (n := l.length) (k := k) (σ := Unit) (s := ()) (L := fun j i _ => F.ref08.SameTrees_l1 k l l j i) (I := fun _ _ => True) (Q := fun o => o = some (.done ())) (by omega) trivial (fun j q s hq hI => ?_) (fun j s hI => ?_)
  · rw [key]; rfl
  · left
    obtain ⟨r, e, hr⟩ := SameTree_ok h k l[q] l[q] (hx _ (List.getElem_mem hq)) (by omega)
    have : r = true := hr.2 rfl
    subst this
    refine ⟨(), trivial, ?_⟩
    simp only [F.ref08.SameTrees_l1, ix_lt hq, ix_in hq, ix_at hq, if_true, e, Option.bind_some, Bool.not_true, Bool.false_eq_true, if_false]
    rw [ix_inc (by omega)]
  · simp only [F.ref08.SameTrees_l1, ix_ge (Nat.lt_irrefl _), Bool.false_eq_true, if_false]
section
variable {g : Gram} {w : List Int} {ρ : Nat → Nat}
theorem symL_low {h : Nat} {s : Sy} {m j : Nat} {t : Tr} (ih : ∀ a i j t, t ∈ treesL (Rs g w) h a i j → Low (h + 1) (trT w t)) (ht : t ∈ symL (treesL (Rs g w) h) s m j) : Low (h + 1) (trT w t) := by
  cases s with
  | nt a => exact ih a m j t ht
  | tm p =>
    unfold symL at ht
    simp only at ht
    split at ht
    · rw [List.mem_singleton] at ht
      subst ht
      exact ⟨by simp [trT], fun x hx => by simp [trT] at hx⟩
    · cases ht
theorem rowsL_low {h : Nat} (ih : ∀ a i j t, t ∈ treesL (Rs g w) h a i j → Low (h + 1) (trT w t)) : ∀ (α : List Sy) {i j : Nat} {l : List Tr}, l ∈ rowsL (treesL (Rs g w) h) α i j → ∀ t ∈ l, Low (h + 1) (trT w t) := by
  refine list_snoc (fun {i j l} hl => ?_) (fun α s ihα {i j l} hl => ?_)
  · rw [rowsL_nil] at hl
    split at hl
    · rw [List.mem_singleton] at hl
      subst hl
      exact fun t ht => by cases ht
    · cases hl
  · rw [rowsL_snoc] at hl
    obtain ⟨m, _, _, l', hl', t, ht, rfl⟩ := mem_step.1 hl
    intro x hx
    rw [List.mem_append, List.mem_singleton] at hx
    rcases hx with hx | rfl
    · exact ihα hl' x hx
    · exact symL_low ih ht
theorem treesL_low (hg : RightG g) : ∀ (h a i j : Nat) (t : Tr), t ∈ treesL (Rs g w) h a i j → Low (h + 1) (trT w t)
  | 0, _, _, _, _, h => by cases h
  | h + 1, a, i, j, t, ht => by
    unfold treesL at ht
    obtain ⟨x, hx, ht⟩ := List.mem_flatMap.1 ht
    have hxr : (Rs g w)[x.2]? = some x.1 := List.mem_zipIdx_iff_getElem?.1 hx
    obtain ⟨hq, hxe⟩ := Rs_get hxr
    split at ht
    · obtain ⟨l, hl, rfl⟩ := List.mem_map.1 ht
      have hlen := (rowsL_sp (treesL_sp h) _ hl).2
      have h80 := hg.rhs _ (List.getElem_mem hq)
      rw [hxe, toRu_len] at hlen
      show (trTs w l).length ≤ 100 ∧ ∀ x ∈ trTs w l, Low (h + 1) x
      rw [trTs_map]
      refine ⟨by rw [List.length_map]; omega, fun x hx => ?_⟩
      obtain ⟨y, hy, rfl⟩ := List.mem_map.1 hx
      exact rowsL_low (treesL_low hg h) _ hl y hy
    · cases ht
end
end Go.Vc
