/-
  The laws ForestFirst and ForestSound (the laws).
-/
import Derived.Test.YtfhbgelpmbkooaaFR
import Derived.Test.YtfhbgelpmbkooaaFM
set_option linter.unusedVariables false
set_option linter.unusedSimpArgs false
namespace Go.Vc
open Go Ea
section
variable {g : Gram} {w : List Int}
mutual
theorem trT_dress : ∀ (t t' : Tr), trT w t = trT w t' → dress (fun m => w.getD m 0) t = dress (fun m => w.getD m 0) t'
  | .leaf m, .leaf m', h => by
    simp only [trT, Tree.mk.injEq] at h
    simp only [dress, h.2.1]
  | .leaf m, .node q ks, h => by simp only [trT, Tree.mk.injEq] at h; omega
  | .node q ks, .leaf m, h => by simp only [trT, Tree.mk.injEq] at h; omega
  | .node q ks, .node q' ks', h => by
    simp only [trT, Tree.mk.injEq] at h
    have h1 : q = q' := by omega
    rw [dress, dress, h1, trTs_dress ks ks' h.2.2]
theorem trTs_dress : ∀ (l l' : List Tr), trTs w l = trTs w l' → dressS (fun m => w.getD m 0) l = dressS (fun m => w.getD m 0) l'
  | [], [], _ => rfl
  | [], _ :: _, h => by simp [trTs] at h
  | _ :: _, [], h => by simp [trTs] at h
  | x :: l, y :: l', h => by
    simp only [trTs, List.cons.injEq] at h
    rw [dressS, dressS, trT_dress x y h.1, trTs_dress l l' h.2]
end
theorem trT_nodup {ρ : Nat → Nat} (K a i j : Nat) : ((trees (Rs g w) ρ K a i j).map (trT w)).Nodup := by
  have h := dress_nodup (R := Rs g w) (fun m => w.getD m 0) ρ K a i j
  have key : ∀ l : List Tr, (l.map (dress fun m => w.getD m 0)).Nodup → (l.map (trT w)).Nodup := by
    intro l
    induction l with
    | nil => intro _; exact List.nodup_nil
    | cons x l ih =>
      intro h
      rw [List.map_cons, List.nodup_cons] at h ⊢
      refine ⟨fun hm => h.1 ?_, ih h.2⟩
      obtain ⟨y, hy, e⟩ := List.mem_map.1 hm
      exact List.mem_map.2 ⟨y, hy, trT_dress y x e⟩
  exact key _ h
theorem tr_low (hg : RightG g) {ρ : Nat → Nat} (hρ : Falls (Rs g w) ρ g.Nts.toNat) (hn : g.Nts.toNat ≤ 300) (hwl : w.length ≤ 20) : ∀ t ∈ trees (Rs g w) ρ g.Nts.toNat g.Start.toNat 0 w.length, Low 8001 (trT w t) := by
  intro t ht
  rw [trees_h (h := 8000) hρ (by have := rk_le (R := Rs g w) hρ hn (a := g.Start.toNat) (i := 0) (j := w.length) hwl; omega)] at ht
  exact treesL_low hg 8000 _ _ _ t ht
theorem law_Sound {k : Nat} (hk : 1000000 ≤ k) (hal : F.law08.alive k = some true) (hR : ReachG g) (hwd : WordsG g) (hw : Bytes w) (most : Int) : F.law08.ForestSound k g w most = some true := by
  unfold F.law08.ForestSound
  obtain ⟨bb, eb, hb⟩ := Heavy_ok (k := k) (by omega) hR w
  rw [eb, Option.bind_some, hal]
  cases bb with
  | true => rfl
  | false =>
    obtain ⟨hwl, hn, hrl, hsum⟩ := hb rfl
    simp only [Bool.false_eq_true, if_false, Option.bind_some]
    by_cases h1 : 60 < most
    · simp [h1]
    simp only [h1, decide_false, Bool.false_eq_true, if_false]
    have hsm : rightB g = true → SmallG g := small_of hn hsum
    have hwl' : w.length ≤ 20 ∨ 512 < (w.length : Int) := by omega
    obtain ⟨e, he, h0, c1, c2⟩ := Count_all (k := k) hk hsm hw hwl'
    obtain ⟨t1, t2⟩ := Trees_all hk hsm hw hwl' he
    have bad : ∀ (v : Int × Int) (c : Int), F.law08.ForestSound_j1 k ([], c) g w v most true = some true := by
      intro v c
      unfold F.law08.ForestSound_j1
      rw [if_pos rfl, hal]; rfl
    by_cases hee : e = 0
    · obtain ⟨hr, hl, ρ, hρ⟩ := h0.1 hee
      have hw20 : w.length ≤ 20 := by omega
      have hg := rightG hr
      have hs1 := hg.s1
      rw [t2 hee ρ hρ most, c2 hee ρ hρ]
      by_cases hm : most < 0
      · rw [if_pos (.inl hm), Option.bind_some, Option.bind_some]
        have : ((1 : Int) != 0) = true := rfl
        simp only [this, if_true]
        exact bad _ _
      · rw [if_neg (by omega), Option.bind_some, Option.bind_some]
        have : ((0 : Int) != 0) = false := rfl
        simp only [this, Bool.false_eq_true, if_false]
        have hlow := tr_low hg hρ (by have := (hsm hr).nts; omega) hw20
        have hnd := trT_nodup (g := g) (w := w) (ρ := ρ) g.Nts.toNat g.Start.toNat 0 w.length
        have his : ∀ t ∈ trees (Rs g w) ρ g.Nts.toNat g.Start.toNat 0 w.length, F.law08.is k g g.Start (trT w t) w 0 = some (w.length : Int) := by
          intro t ht
          rw [trees_h (h := 8000) hρ (by have := rk_le (R := Rs g w) hρ (show g.Nts.toNat ≤ 300 by omega) (a := g.Start.toNat) (i := 0) (j := w.length) hw20; omega)] at ht
          have h := is_ok hg hwd hw hw20 8000 k g.Start.toNat 0 w.length t ht (Nat.le_refl _) (by omega)
          rw [Int.toNat_of_nonneg hs1] at h
          exact h
        generalize trees (Rs g w) ρ g.Nts.toNat g.Start.toNat 0 w.length = T at hlow hnd his
        have hln : ((T.take most.toNat).map (trT w)).length = min most.toNat T.length := by rw [List.length_map, List.length_take]
        have hx : ∀ t ∈ (T.take most.toNat).map (trT w), Low 8001 t ∧ F.law08.is k g g.Start t w 0 = some (w.length : Int) := by
          intro t ht
          obtain ⟨y, hy, rfl⟩ := List.mem_map.1 ht
          exact ⟨hlow y (List.mem_of_mem_take hy), his y (List.mem_of_mem_take hy)⟩
        have hnd2 : ((T.take most.toNat).map (trT w)).Nodup := by
          rw [List.map_take]
          exact hnd.sublist (List.take_sublist _ _)
        generalize (T.take most.toNat).map (trT w) = X at hln hx hnd2
        unfold F.law08.ForestSound_j1
        rw [if_neg (by simp)]
        have key := loop_inv0 (n := X.length) (k := k) (σ := Unit) (s := ()) (L := fun j i _ => F.law08.ForestSound_l2 k (X, 0) g w j i) (I := fun _ _ => True) (Q := fun o => o = some (.done ())) (by omega) trivial (fun j q s hq hI => ?_) (fun j s hI => ?_)
        · rw [key, Option.bind_some]
          simp only [LR.fin, hal, Option.bind_some, if_true]
          by_cases hT : T.length ≤ most.toNat
          · have e1 : ((X.length : Int) == ((sat T.length : Nat) : Int)) = true := by
              rw [beq_iff_eq, sat_of_le (by unfold top; omega)]; omega
            rw [e1, if_pos rfl]
            rfl
          · have e1 : ((X.length : Int) == most) = true := by rw [beq_iff_eq]; omega
            have e2 : decide (most < ((sat T.length : Nat) : Int)) = true := decide_eq_true (by unfold sat top; omega)
            rw [e1, e2]
            simp only [if_true]
            unfold F.law08.ForestSound_j6
            split <;> rfl
        · left
          refine ⟨(), trivial, ?_⟩
          obtain ⟨hxl, hxi⟩ := hx _ (List.getElem_mem hq)
          have d1 : (((w.length : Nat) : Int) != ((w.length : Nat) : Int)) = false := by simp
          simp only [F.law08.ForestSound_l2, ix_lt hq, ix_in hq, ix_at hq, if_true, hxi, Option.bind_some, d1, Bool.false_eq_true, if_false]
          have inner := loop_inv0 (n := q) (k := k) (σ := Unit) (s := ()) (L := fun j' i _ => F.law08.ForestSound_l3 k (q : Int) (X, 0) j' i) (I := fun _ _ => True) (Q := fun o => o = some (.done (q : Int))) (by omega) trivial (fun j' p s hp hI => ?_) (fun j' s hI => ?_)
          · rw [inner, Option.bind_some]
            simp only [LR.go]
            rw [ix_inc (by omega)]
          · left
            refine ⟨(), trivial, ?_⟩
            have hpX : p < X.length := by omega
            obtain ⟨r, er, hr'⟩ := SameTree_ok 8001 k X[q] X[p] hxl (by omega)
            have hrf : r = false := by
              cases r with
              | false => rfl
              | true =>
                have := hr'.1 rfl
                exact absurd this.symm (List.pairwise_iff_getElem.1 hnd2 p q hpX hq hp)
            subst hrf
            have d2 : decide (((p : Nat) : Int) < ((q : Nat) : Int)) = true := decide_eq_true (by omega)
            simp only [F.law08.ForestSound_l3, d2, if_true, ix_in hpX, ix_at hpX, ix_at hq, er, Option.bind_some]
            unfold F.law08.ForestSound_j5 F.law08.ForestSound_j4
            simp only [Bool.false_eq_true, if_false]
            rw [ix_inc (by omega)]
          · have d2 : decide (((q : Nat) : Int) < ((q : Nat) : Int)) = false := decide_eq_false (by omega)
            simp only [F.law08.ForestSound_l3, d2, Bool.false_eq_true, if_false]
        · simp only [F.law08.ForestSound_l2, ix_ge (Nat.lt_irrefl _), Bool.false_eq_true, if_false]
    · rw [t1 hee most, c1 hee, Option.bind_some, Option.bind_some]
      have : (e != 0) = true := by simpa using hee
      simp only [this, if_true]
      exact bad _ _
end
end Go.Vc
