/-
  The document's table: Fill.
-/
import Derived.Test.YtfhbgelpmbkooaaHX
import Derived.Test.YtfhbgelpmbkooaaFS
import Derived.Test.YtfhbgelpmbkooaaGD
set_option linter.unusedVariables false
set_option linter.unusedSimpArgs false
namespace Go.Vc
open Go Ea
def ixT (n a i j : Nat) : Nat := (a * (n + 1) + i) * (n + 1) + j
theorem base_inj {s u u' j j' : Nat} (hj : j < s) (hj' : j' < s) (h : u * s + j = u' * s + j') : u = u' ∧ j = j' := by
  have h1 : (u * s + j) / s = u := by rw [Nat.add_comm, Nat.add_mul_div_right _ _ (by omega), Nat.div_eq_of_lt hj, Nat.zero_add]
  have h2 : (u' * s + j') / s = u' := by rw [Nat.add_comm, Nat.add_mul_div_right _ _ (by omega), Nat.div_eq_of_lt hj', Nat.zero_add]
  have h3 : u = u' := by rw [← h1, h, h2]
  subst h3
  exact ⟨rfl, by omega⟩
theorem ixT_inj {n a i j a' i' j' : Nat} (hi : i ≤ n) (hj : j ≤ n) (hi' : i' ≤ n) (hj' : j' ≤ n) (h : ixT n a i j = ixT n a' i' j') : a = a' ∧ i = i' ∧ j = j' := by
  obtain ⟨h1, h2⟩ := base_inj (by omega) (by omega) h
  obtain ⟨h3, h4⟩ := base_inj (by omega) (by omega) h1
  exact ⟨h3, h4, h2⟩
theorem ixT_lt {N n a i j : Nat} (ha : a < N) (hi : i ≤ n) (hj : j ≤ n) : ixT n a i j < N * (n + 1) * (n + 1) := by
  have h1 : a * (n + 1) + i + 1 ≤ (a + 1) * (n + 1) := by rw [Nat.add_mul]; omega
  have h2 : (a + 1) * (n + 1) ≤ N * (n + 1) := Nat.mul_le_mul_right _ ha
  have h3 : (a * (n + 1) + i + 1) * (n + 1) ≤ N * (n + 1) * (n + 1) := Nat.mul_le_mul_right _ (by omega)
  rw [Nat.add_mul] at h3
  unfold ixT
  omega
theorem ixT_int {n a i j : Nat} (ha : a ≤ 1000) (hn : n ≤ 100) (hi : i ≤ n) (hj : j ≤ n) :
    IntKind.wrap .i64 ((IntKind.wrap .i64 ((IntKind.wrap .i64 ((IntKind.wrap .i64 ((a : Int) * (IntKind.wrap .i64 ((n : Int) + 1)))) + (i : Int))) * (IntKind.wrap .i64 ((n : Int) + 1)))) + (j : Int)) = ((ixT n a i j : Nat) : Int) := by
  have e0 : IntKind.wrap .i64 ((n : Int) + 1) = ((n + 1 : Nat) : Int) := ix_inc (by omega)
  have b1 : a * (n + 1) ≤ 1000 * 101 := Nat.mul_le_mul ha (by omega)
  have e1 : IntKind.wrap .i64 ((a : Int) * ((n + 1 : Nat) : Int)) = ((a * (n + 1) : Nat) : Int) := by
    rw [← Int.natCast_mul]
    exact wrap_i64 (by omega) (by omega)
  have e2 : IntKind.wrap .i64 (((a * (n + 1) : Nat) : Int) + (i : Int)) = ((a * (n + 1) + i : Nat) : Int) := by rw [wrap_i64 (by omega) (by omega)]; omega
  have b2 : (a * (n + 1) + i) * (n + 1) ≤ 200000 * 101 := Nat.mul_le_mul (by omega) (by omega)
  have e3 : IntKind.wrap .i64 (((a * (n + 1) + i : Nat) : Int) * ((n + 1 : Nat) : Int)) = (((a * (n + 1) + i) * (n + 1) : Nat) : Int) := by
    rw [← Int.natCast_mul]
    exact wrap_i64 (by omega) (by omega)
  rw [e0, e1, e2, e3, wrap_i64 (by omega) (by omega)]
  unfold ixT
  omega
def YesP (N n : Nat) (Y : List Bool) (a i j : Nat) : Prop := a < N ∧ i ≤ n ∧ j ≤ n ∧ Y.getD (ixT n a i j) false = true
section
variable {g : Gram} {w : List Int} {Y : List Bool} {k : Nat}
structure Bd (g : Gram) (w : List Int) : Prop where
  hg : RightG g
  hwd : WordsG g
  hw : Bytes w
  hn : g.Nts ≤ 200
  hl : g.Rules.length ≤ 200
  hwl : w.length ≤ 20
def SymsOk (g : Gram) (α : List KSym) : Prop := ∀ s ∈ α, s.Nt < g.Nts ∧ okS s.Set
theorem Bd.syms (h : Bd g w) {r : Rule} (hr : r ∈ g.Rules) : SymsOk g r.Rhs := fun s hs => ⟨h.hg.nt2 r hr s hs, h.hwd r hr s hs⟩
abbrev tabF (g : Gram) (w : List Int) (Y : List Bool) : Ref07_Table := ⟨g, w, (w.length : Int), Y⟩
abbrev Mx (g : Gram) (w : List Int) : Nat := g.Nts.toNat * (w.length + 1) * (w.length + 1)
theorem has_ok (h : Bd g w) (hY : Y.length = Mx g w) {a i j : Nat} (ha : a < g.Nts.toNat) (hi : i ≤ w.length) (hj : j ≤ w.length) : F.ref07.Table_Has (tabF g w Y) (a : Int) (i : Int) (j : Int) = some (Y.getD (ixT w.length a i j) false) := by
  have h1 := h.hn
  have h2 := h.hwl
  unfold F.ref07.Table_Has F.ref07.Table_at
  simp only [Option.bind_some]
  rw [ixT_int (by omega) (by omega) hi hj]
  have hlt := ixT_lt ha hi hj
  have hin : inR ((ixT w.length a i j : Nat) : Int) Y.length = true := ix_in (by rw [hY]; exact hlt)
  rw [hin, if_pos rfl]
  rfl
theorem sym_ok (h : Bd g w) (hY : Y.length = Mx g w) (hk : 100 ≤ k) {s : KSym} (hs : s.Nt < g.Nts ∧ okS s.Set) {i j : Nat} (hi : i ≤ w.length) (hj : j ≤ w.length) :
    ∃ b, F.ref07.Table_Sym k (tabF g w Y) s (i : Int) (j : Int) = some b ∧ (b = true ↔ symT (YesP g.Nts.toNat w.length Y) (toSy w s) i j) := by
  have h2 := h.hwl
  unfold F.ref07.Table_Sym
  by_cases h0 : 0 ≤ s.Nt
  · have e := has_ok h hY (a := s.Nt.toNat) (by omega) hi hj
    rw [Int.toNat_of_nonneg h0] at e
    rw [decide_eq_true h0, if_pos rfl, e]
    refine ⟨_, rfl, ?_⟩
    unfold toSy
    rw [if_pos h0]
    show _ ↔ YesP g.Nts.toNat w.length Y s.Nt.toNat i j
    unfold YesP
    exact ⟨fun hb => ⟨by omega, hi, hj, hb⟩, fun hb => hb.2.2.2⟩
  · rw [decide_eq_false h0, if_neg (by simp)]
    unfold toSy
    rw [if_neg h0]
    show ∃ b, _ ∧ (b = true ↔ j = i + 1 ∧ (decide (i < w.length) && hasB s.Set (w.getD i 0)) = true)
    by_cases hji : j = i + 1
    · subst hji
      have d : (((i + 1 : Nat) : Int) == IntKind.wrap .i64 ((i : Int) + 1)) = true := by rw [ix_inc (by omega)]; simp
      have hil : i < w.length := by omega
      have hb := h.hw _ (List.getElem_mem hil)
      have hwd2 : w.getD i 0 = w[i] := by simp [hil]
      have hwr : IntKind.wrap .i64 w[i] = w[i] := wrap_i64 (by omega) (by omega)
      rw [d, if_pos rfl]
      simp only [ix_in hil, if_true, ix_at hil, hwr, RefHas_ok hs.2 hb.1 hb.2 hk, Option.bind_some]
      refine ⟨_, rfl, ?_⟩
      rw [decide_eq_true hil, hwd2, Bool.true_and]
      exact ⟨fun h => ⟨trivial, h⟩, fun h => h.2⟩
    · have d : (((j : Nat) : Int) == IntKind.wrap .i64 ((i : Int) + 1)) = false := by rw [ix_inc (by omega), beq_eq_false_iff_ne]; omega
      rw [d, if_neg (by simp)]
      exact ⟨false, rfl, fun h => (by cases h), fun h => absurd h.1 hji⟩
theorem getD_app {α : Type} {s : List α} {x d : α} {j : Nat} : (s ++ [x]).getD j d = if j < s.length then s.getD j d else if j = s.length then x else d := by
  rw [List.getD_eq_getElem?_getD, List.getElem?_append]
  by_cases h : j < s.length
  · rw [if_pos h, if_pos h, List.getD_eq_getElem?_getD]
  · rw [if_neg h, if_neg h]
    by_cases h2 : j = s.length
    · subst h2; simp
    · rw [if_neg h2, List.getElem?_eq_none (by rw [List.length_singleton]; omega)]
      rfl
theorem ends_l4 (h : Bd g w) (hY : Y.length = Mx g w) (hk : 20000 ≤ k) {rhs : List KSym} (hr : SymsOk g rhs) (hrl : rhs.length ≤ 100) {e i j : Nat} (he : e < rhs.length) (hj : j ≤ w.length) {now : List Bool} (hnow : now.length = w.length + 1) :
    ∃ b z, F.ref07.Table_Ends_l4 k (j : Int) now (e : Int) rhs (tabF g w Y) k false (i : Int) = some (b, z) ∧ (b = true ↔ ∃ m, i ≤ m ∧ m ≤ j ∧ now.getD m false = true ∧ symT (YesP g.Nts.toNat w.length Y) (toSy w rhs[e]) m j) := by
  have h2 := h.hwl
  by_cases hij : i ≤ j
  · have key := loop_inv (n := j + 1) (σ := Bool) (L := fun c q s => F.ref07.Table_Ends_l4 k (j : Int) now (e : Int) rhs (tabF g w Y) c s q)
      (I := fun q s => i ≤ q ∧ (s = true → ∃ m, i ≤ m ∧ m ≤ j ∧ now.getD m false = true ∧ symT (YesP g.Nts.toNat w.length Y) (toSy w rhs[e]) m j) ∧ (s = false → ∀ m, i ≤ m → m < q → now.getD m false = true → ¬ symT (YesP g.Nts.toNat w.length Y) (toSy w rhs[e]) m j))
      (Q := fun o => ∃ b z, o = some (b, z) ∧ (b = true ↔ ∃ m, i ≤ m ∧ m ≤ j ∧ now.getD m false = true ∧ symT (YesP g.Nts.toNat w.length Y) (toSy w rhs[e]) m j)) (fun c q s hq hI => ?_) (fun c s hI => ?_) k i false (by omega) (by omega) ⟨Nat.le_refl _, fun h => (by cases h), fun _ m h1 h2 => by omega⟩
    · exact key
    · have d0 : decide ((q : Int) ≤ (j : Int)) = true := decide_eq_true (by omega)
      simp only [F.ref07.Table_Ends_l4, d0, if_true]
      unfold F.ref07.Table_Ends_j5 F.ref07.Table_Ends_j7 F.ref07.Table_Ends_j6
      cases s with
      | true =>
        right
        simp only [Bool.not_true, Bool.false_eq_true, if_false]
        exact ⟨true, _, rfl, fun _ => hI.2.1 rfl, fun _ => rfl⟩
      | false =>
        left
        have hqn : q < now.length := by omega
        have hgd : now.getD q false = now[q] := by simp [hqn]
        simp only [Bool.not_false, if_true, ix_in hqn, ix_at hqn, ix_in he, ix_at he]
        rw [ix_inc (by omega)]
        cases hnq : now[q] with
        | true =>
          obtain ⟨b, eb, hb⟩ := sym_ok h hY (k := k) (by omega) (hr _ (List.getElem_mem he)) (i := q) (j := j) (by omega) hj
          simp only [if_true, eb, Option.bind_some]
          refine ⟨b, ⟨by omega, fun hbt => ⟨q, hI.1, by omega, by rw [hgd, hnq], hb.1 hbt⟩, fun hbf m h1 h3 h4 h5 => ?_⟩, rfl⟩
          · by_cases hmq : m = q
            · subst hmq
              rw [hb.2 h5] at hbf
              cases hbf
            · exact hI.2.2 rfl m h1 (by omega) h4 h5
        | false =>
          simp only [Bool.false_eq_true, if_false]
          refine ⟨false, ⟨by omega, fun h => (by cases h), fun _ m h1 h3 h4 => ?_⟩, rfl⟩
          by_cases hmq : m = q
          · subst hmq
            rw [hgd, hnq] at h4
            cases h4
          · exact hI.2.2 rfl m h1 (by omega) h4
    · have d0 : decide (((j + 1 : Nat) : Int) ≤ (j : Int)) = false := decide_eq_false (by omega)
      simp only [F.ref07.Table_Ends_l4, d0, Bool.false_eq_true, if_false]
      unfold F.ref07.Table_Ends_j5
      rw [if_neg (by simp)]
      refine ⟨s, _, rfl, hI.2.1, fun ⟨m, h1, h3, h4, h5⟩ => ?_⟩
      cases s with
      | true => rfl
      | false => exact absurd h5 (hI.2.2 rfl m h1 (by omega) h4)
  · obtain ⟨k', rfl⟩ : ∃ k', k = k' + 1 := ⟨k - 1, by omega⟩
    have d0 : decide (((i : Nat) : Int) ≤ (j : Int)) = false := decide_eq_false (by omega)
    unfold F.ref07.Table_Ends_l4
    simp only [d0, Bool.false_eq_true, if_false]
    unfold F.ref07.Table_Ends_j5
    rw [if_neg (by simp)]
    exact ⟨false, _, rfl, fun h => (by cases h), fun ⟨m, h1, h3, _⟩ => by omega⟩
theorem push1 {l : List Bool} {x : Bool} (h : l.length ≤ 100000) : decide ((l.length + ([x] : List Bool).length) * 1 ≤ 140737488355328) = true ∧ decide (l.length + ([x] : List Bool).length ≤ 9223372036854775807) = true := by
  constructor <;> exact decide_eq_true (by rw [List.length_singleton]; omega)
theorem ends_ok (h : Bd g w) (hY : Y.length = Mx g w) (hk : 20000 ≤ k) {rhs : List KSym} (hr : SymsOk g rhs) (hrl : rhs.length ≤ 100) {i : Nat} :
    ∃ v, F.ref07.Table_Ends k (tabF g w Y) rhs (i : Int) = some v ∧ v.length = w.length + 1 ∧ ∀ j, j ≤ w.length → (v.getD j false = true ↔ endsT (YesP g.Nts.toNat w.length Y) (rhs.map (toSy w)) i j) := by
  have h2 := h.hwl
  unfold F.ref07.Table_Ends
  have key1 := loop_inv0 (n := w.length + 1) (k := k) (σ := List Bool) (s := []) (L := fun c q s => F.ref07.Table_Ends_l1 (tabF g w Y) (i : Int) c s q)
    (I := fun q s => s.length = q ∧ ∀ j, j < q → (s.getD j false = true ↔ j = i)) (Q := fun o => ∃ v, o = some v ∧ v.length = w.length + 1 ∧ ∀ j, j ≤ w.length → (v.getD j false = true ↔ j = i)) (by omega) ⟨rfl, fun j hj => by omega⟩ (fun c q s hq hI => ?_) (fun c s hI => ?_)
  · obtain ⟨v0, e0, hv0, hv1⟩ := key1
    rw [e0, Option.bind_some]
    have key2 := loop_inv0 (n := rhs.length) (k := k) (σ := List Bool) (s := v0) (L := fun c q s => F.ref07.Table_Ends_l2 k rhs (tabF g w Y) (i : Int) c s q)
      (I := fun q s => s.length = w.length + 1 ∧ ∀ j, j ≤ w.length → (s.getD j false = true ↔ endsT (YesP g.Nts.toNat w.length Y) ((rhs.take q).map (toSy w)) i j)) (Q := fun o => ∃ v, o = some v ∧ v.length = w.length + 1 ∧ ∀ j, j ≤ w.length → (v.getD j false = true ↔ endsT (YesP g.Nts.toNat w.length Y) (rhs.map (toSy w)) i j)) (by omega) ⟨hv0, fun j hj => by rw [hv1 j hj]; exact Iff.rfl⟩ (fun c q s hq hI => ?_) (fun c s hI => ?_)
    · obtain ⟨v, e, hv⟩ := key2
      exact ⟨v, by rw [e]; rfl, hv⟩
    · left
      obtain ⟨hI1, hI2⟩ := hI
      have key3 := loop_inv0 (n := w.length + 1) (k := k) (σ := List Bool) (s := []) (L := fun c q' s' => F.ref07.Table_Ends_l3 k (tabF g w Y) s (q : Int) rhs (i : Int) c s' q')
        (I := fun q' s' => s'.length = q' ∧ ∀ j, j < q' → (s'.getD j false = true ↔ endsT (YesP g.Nts.toNat w.length Y) ((rhs.take (q + 1)).map (toSy w)) i j)) (Q := fun o => ∃ v z, o = some (v, z) ∧ v.length = w.length + 1 ∧ ∀ j, j ≤ w.length → (v.getD j false = true ↔ endsT (YesP g.Nts.toNat w.length Y) ((rhs.take (q + 1)).map (toSy w)) i j)) (by omega) ⟨rfl, fun j hj => by omega⟩ (fun c q' s' hq' hI' => ?_) (fun c s' hI' => ?_)
      · obtain ⟨v, z, e, hv⟩ := key3
        refine ⟨v, hv, ?_⟩
        simp only [F.ref07.Table_Ends_l2, ix_lt hq, if_true]
        rw [e, Option.bind_some, ix_inc (by omega)]
      · left
        obtain ⟨hI1', hI2'⟩ := hI'
        obtain ⟨b, z, eb, hb⟩ := ends_l4 h hY hk hr hrl (i := i) (j := q') hq (by omega) hI1
        have d0 : decide ((q' : Int) ≤ (tabF g w Y).N_) = true := decide_eq_true (show (q' : Int) ≤ (w.length : Int) by omega)
        obtain ⟨p1, p2⟩ := push1 (l := s') (x := b) (by omega)
        refine ⟨s' ++ [b], ⟨by rw [List.length_append, List.length_singleton, hI1'], fun j hj => ?_⟩, ?_⟩
        · rw [getD_app]
          by_cases hjq : j < s'.length
          · rw [if_pos hjq]
            exact hI2' j (by omega)
          · have : j = q' := by omega
            subst this
            rw [if_neg hjq, if_pos hI1'.symm, hb, List.take_succ_eq_append_getElem hq, List.map_append]
            refine Iff.trans ?_ (endsT_snoc _ _ _ _ _).symm
            constructor
            · rintro ⟨m, h1, h3, h4, h5⟩
              exact ⟨m, h1, h3, (hI2 m (by omega)).1 h4, h5⟩
            · rintro ⟨m, h1, h3, h4, h5⟩
              exact ⟨m, h1, h3, (hI2 m (by omega)).2 h4, h5⟩
        · simp only [F.ref07.Table_Ends_l3, d0, if_true, eb, Option.bind_some, p1, p2]
          rw [ix_inc (by omega)]
      · have d0 : decide (((w.length + 1 : Nat) : Int) ≤ (tabF g w Y).N_) = false := decide_eq_false (show ¬ ((w.length + 1 : Nat) : Int) ≤ (w.length : Int) by omega)
        simp only [F.ref07.Table_Ends_l3, d0, Bool.false_eq_true, if_false]
        exact ⟨s', _, rfl, hI'.1, fun j hj => hI'.2 j (by omega)⟩
    · simp only [F.ref07.Table_Ends_l2, ix_ge (Nat.lt_irrefl _), Bool.false_eq_true, if_false]
      rw [List.take_length] at hI
      exact ⟨s, rfl, hI⟩
  · left
    obtain ⟨hI1, hI2⟩ := hI
    have d0 : decide ((q : Int) ≤ (tabF g w Y).N_) = true := decide_eq_true (show (q : Int) ≤ (w.length : Int) by omega)
    obtain ⟨p1, p2⟩ := push1 (l := s) (x := ((q : Int) == (i : Int))) (by omega)
    refine ⟨s ++ [((q : Int) == (i : Int))], ⟨by rw [List.length_append, List.length_singleton, hI1], fun j hj => ?_⟩, ?_⟩
    · rw [getD_app]
      by_cases hjq : j < s.length
      · rw [if_pos hjq]
        exact hI2 j (by omega)
      · have : j = q := by omega
        subst this
        rw [if_neg hjq, if_pos hI1.symm, beq_iff_eq]
        omega
    · simp only [F.ref07.Table_Ends_l1, d0, if_true, p1, p2]
      rw [ix_inc (by omega)]
  · have d0 : decide (((w.length + 1 : Nat) : Int) ≤ (tabF g w Y).N_) = false := decide_eq_false (show ¬ ((w.length + 1 : Nat) : Int) ≤ (w.length : Int) by omega)
    simp only [F.ref07.Table_Ends_l1, d0, Bool.false_eq_true, if_false]
    exact ⟨s, rfl, hI.1, fun j hj => hI.2 j (by omega)⟩
end
end Go.Vc
