/-
  The document's table is sound and closed.
-/
import Derived.Test.YtfhbgelpmbkooaaHC
set_option linter.unusedVariables false
set_option linter.unusedSimpArgs false
namespace Go.Vc
open Go Ea
section
variable {g : Gram} {w : List Int} {k : Nat}
structure RI (g : Gram) (w : List Int) (Y0 : List Bool) (more : Bool) (Y : List Bool) : Prop where
  len : Y.length = Mx g w
  sound : ∀ a i j, YesP g.Nts.toNat w.length Y a i j → DerY (Rs g w) (.nt a) i j
  ch : (more = true ∧ Y.count false < Y0.count false) ∨ (more = false ∧ Y = Y0)
theorem Mx_le (h : Bd g w) : Mx g w ≤ 100000 := by
  have h1 := h.hn
  have h2 := h.hwl
  have b1 : g.Nts.toNat * (w.length + 1) ≤ 200 * 21 := Nat.mul_le_mul (by omega) (by omega)
  have b2 : g.Nts.toNat * (w.length + 1) * (w.length + 1) ≤ 200 * 21 * 21 := Nat.mul_le_mul b1 (by omega)
  show g.Nts.toNat * (w.length + 1) * (w.length + 1) ≤ 100000
  omega
theorem fill_l5 (h : Bd g w) (hk : 20000 ≤ k) {Y0 Y3 : List Bool} {m3 : Bool} (h3 : RI g w Y0 m3 Y3) {r : Nat} (hr : r < g.Rules.length) {i : Nat} (hi : i ≤ w.length) {v : List Bool} (hvl : v.length = w.length + 1)
    (hv : ∀ j, j ≤ w.length → (v.getD j false = true ↔ endsT (YesP g.Nts.toNat w.length Y3) ((toRu w g.Rules[r]).rhs) i j)) :
    ∃ m z Y, F.ref07.Fill_l5 w g (r : Int) (i : Int) v k m3 (i : Int) Y3 = some (m, z, Y) ∧ RI g w Y0 m Y ∧ (m3 = true → m = true) ∧ (m = false → ∀ j, i ≤ j → j ≤ w.length → endsT (YesP g.Nts.toNat w.length Y0) ((toRu w g.Rules[r]).rhs) i j → YesP g.Nts.toNat w.length Y0 (toRu w g.Rules[r]).lhs i j) := by
  have h2 := h.hwl
  have hn := h.hn
  have hrm := List.getElem_mem hr
  have hl1 := h.hg.lhs1 _ hrm
  have hl2 := h.hg.lhs2 _ hrm
  have har : at_ g.Rules (r : Int) = g.Rules[r] := ix_at hr
  have hlhs : (toRu w g.Rules[r]).lhs = g.Rules[r].Lhs.toNat := rfl
  refine loop_inv (n := w.length + 1) (σ := Bool × List Bool) (L := fun c q s => F.ref07.Fill_l5 w g (r : Int) (i : Int) v c s.1 q s.2)
    (I := fun q s => i ≤ q ∧ RI g w Y0 s.1 s.2 ∧ (m3 = true → s.1 = true) ∧ (s.1 = false → ∀ j, i ≤ j → j < q → endsT (YesP g.Nts.toNat w.length Y0) ((toRu w g.Rules[r]).rhs) i j → YesP g.Nts.toNat w.length Y0 (toRu w g.Rules[r]).lhs i j))
    (Q := fun o => ∃ m z Y, o = some (m, z, Y) ∧ RI g w Y0 m Y ∧ (m3 = true → m = true) ∧ (m = false → ∀ j, i ≤ j → j ≤ w.length → endsT (YesP g.Nts.toNat w.length Y0) ((toRu w g.Rules[r]).rhs) i j → YesP g.Nts.toNat w.length Y0 (toRu w g.Rules[r]).lhs i j)) (fun c q s hq hI => ?_) (fun c s hI => ?_) k i (m3, Y3) (by omega) (by omega) ⟨Nat.le_refl _, h3, id, fun _ j h1 h2 => by omega⟩
  · left
    obtain ⟨s1, s2⟩ := s
    obtain ⟨hiq, hR, hm3, hc⟩ := hI
    simp only at hR hm3 hc
    have d0 : decide ((q : Int) ≤ (w.length : Int)) = true := decide_eq_true (by omega)
    have hat : F.ref07.Table_at (Ref07_Table.mk g w (w.length : Int) s2) g.Rules[r].Lhs (i : Int) (q : Int) = some ((ixT w.length g.Rules[r].Lhs.toNat i q : Nat) : Int) := by
      unfold F.ref07.Table_at
      have e := ixT_int (a := g.Rules[r].Lhs.toNat) (n := w.length) (i := i) (j := q) (by omega) (by omega) hi (by omega)
      rw [Int.toNat_of_nonneg hl1] at e
      rw [← e]
    have hqv : q < v.length := by omega
    have hvg : v.getD q false = v[q] := by simp [hqv]
    have hx : ixT w.length g.Rules[r].Lhs.toNat i q < s2.length := by rw [hR.len]; exact ixT_lt (by omega) hi (by omega)
    have hsg : s2.getD (ixT w.length g.Rules[r].Lhs.toNat i q) false = s2[ixT w.length g.Rules[r].Lhs.toNat i q] := by simp [hx]
    have hsnd := hv q (by omega)
    simp only [F.ref07.Fill_l5, d0, if_true, har, hat, Option.bind_some, ix_in hqv, ix_at hqv, ix_in hx, ix_at hx]
    unfold F.ref07.Fill_j7 F.ref07.Fill_j8 F.ref07.Fill_j6
    rw [ix_inc (by omega)]
    cases hvq : v[q] with
    | true =>
      simp only [if_true]
      cases hsq : s2[ixT w.length g.Rules[r].Lhs.toNat i q] with
      | true =>
        simp only [Bool.not_true, Bool.false_eq_true, if_false]
        refine ⟨(s1, s2), ⟨by omega, hR, hm3, fun hf j h1 h4 h5 => ?_⟩, rfl⟩
        by_cases hjq : j = q
        · subst hjq
          rcases hR.ch with ⟨e, _⟩ | ⟨_, e⟩
          · simp only at hf; rw [hf] at e; cases e
          · rw [hlhs, ← e]
            exact ⟨by omega, hi, by omega, by rw [hsg, hsq]⟩
        · exact hc hf j h1 (by omega) h5
      | false =>
        have hin := ix_in (ks := s2) hx
        simp only [Bool.not_false, if_true, hin]
        have hset : set_ s2 ((ixT w.length g.Rules[r].Lhs.toNat i q : Nat) : Int) true = s2.set (ixT w.length g.Rules[r].Lhs.toNat i q) true := rfl
        have hcnt := count_false_set (m := s2) hx (by rw [hsg, hsq])
        refine ⟨(true, s2.set (ixT w.length g.Rules[r].Lhs.toNat i q) true), ⟨by omega, ⟨by rw [List.length_set]; exact hR.len, fun a i' j hy => ?_, .inl ⟨rfl, ?_⟩⟩, fun _ => rfl, fun hf => (by cases hf)⟩, by rw [hset]⟩
        · obtain ⟨y1, y2, y3, y4⟩ := hy
          rw [getD_set hx] at y4
          split at y4
          · rename_i he
            obtain ⟨rfl, rfl, rfl⟩ := ixT_inj y2 y3 hi (by omega) he
            have hE := hsnd.1 (by rw [hvg, hvq])
            exact derY_nt.2 ⟨_, mem_Rs hrm, rfl, endsT_sound h3.sound _ hE⟩
          · exact hR.sound a i' j ⟨y1, y2, y3, y4⟩
        · rcases hR.ch with ⟨_, e⟩ | ⟨_, e⟩
          · show (s2.set _ true).count false < _
            omega
          · show (s2.set _ true).count false < _
            rw [← e]
            omega
    | false =>
      simp only [Bool.false_eq_true, if_false]
      refine ⟨(s1, s2), ⟨by omega, hR, hm3, fun hf j h1 h4 h5 => ?_⟩, rfl⟩
      by_cases hjq : j = q
      · subst hjq
        have hm3f : m3 = false := by
          cases m3 with
          | false => rfl
          | true => have := hm3 rfl; simp only at hf; rw [hf] at this; cases this
        rcases h3.ch with ⟨e, _⟩ | ⟨_, e⟩
        · rw [hm3f] at e; cases e
        · have := hsnd.2 (by rw [e]; exact h5)
          rw [hvg, hvq] at this
          cases this
      · exact hc hf j h1 (by omega) h5
  · obtain ⟨s1, s2⟩ := s
    obtain ⟨hiq, hR, hm3, hc⟩ := hI
    have d0 : decide (((w.length + 1 : Nat) : Int) ≤ (w.length : Int)) = false := decide_eq_false (by omega)
    simp only [F.ref07.Fill_l5, d0, Bool.false_eq_true, if_false]
    exact ⟨s1, _, s2, rfl, hR, hm3, fun hf j h1 h4 => hc hf j h1 (by omega)⟩
theorem fill_l4 (h : Bd g w) (hk : 20000 ≤ k) {Y0 Y2 : List Bool} {m2 : Bool} (hR2 : RI g w Y0 m2 Y2) {r : Nat} (hr : r < g.Rules.length) :
    ∃ m z Y, F.ref07.Fill_l4 k w (r : Int) g k m2 0 Y2 = some (m, z, Y) ∧ RI g w Y0 m Y ∧ (m2 = true → m = true) ∧ (m = false → ∀ i j, i ≤ j → j ≤ w.length → endsT (YesP g.Nts.toNat w.length Y0) ((toRu w g.Rules[r]).rhs) i j → YesP g.Nts.toNat w.length Y0 (toRu w g.Rules[r]).lhs i j) := by
  have h2 := h.hwl
  have hrm := List.getElem_mem hr
  have h80 := h.hg.rhs _ hrm
  refine loop_inv0 (n := w.length + 1) (k := k) (σ := Bool × List Bool) (s := (m2, Y2)) (L := fun c q s => F.ref07.Fill_l4 k w (r : Int) g c s.1 q s.2)
    (I := fun q s => RI g w Y0 s.1 s.2 ∧ (m2 = true → s.1 = true) ∧ (s.1 = false → ∀ i j, i < q → i ≤ j → j ≤ w.length → endsT (YesP g.Nts.toNat w.length Y0) ((toRu w g.Rules[r]).rhs) i j → YesP g.Nts.toNat w.length Y0 (toRu w g.Rules[r]).lhs i j))
    (Q := fun o => ∃ m z Y, o = some (m, z, Y) ∧ RI g w Y0 m Y ∧ (m2 = true → m = true) ∧ (m = false → ∀ i j, i ≤ j → j ≤ w.length → endsT (YesP g.Nts.toNat w.length Y0) ((toRu w g.Rules[r]).rhs) i j → YesP g.Nts.toNat w.length Y0 (toRu w g.Rules[r]).lhs i j)) (by omega) ⟨hR2, id, fun _ i j h1 => by omega⟩ (fun c q s hq hI => ?_) (fun c s hI => ?_)
  · left
    obtain ⟨s1, s2⟩ := s
    obtain ⟨hR, hm, hc⟩ := hI
    simp only at hR hm hc
    have d0 : decide ((q : Int) ≤ (w.length : Int)) = true := decide_eq_true (by omega)
    obtain ⟨v, ev, hvl, hv⟩ := ends_ok h hR.len hk (h.syms hrm) (by omega) (i := q)
    obtain ⟨m, z, Y, e, hR', hm', hc'⟩ := fill_l5 h hk hR hr (i := q) (by omega) hvl hv
    refine ⟨(m, Y), ⟨hR', fun e => hm' (hm e), fun hf i j h1 h4 h5 h6 => ?_⟩, ?_⟩
    · by_cases hiq : i = q
      · subst hiq; exact hc' hf j h4 h5 h6
      · have hs1 : s1 = false := by
          cases s1 with
          | false => rfl
          | true => have := hm' rfl; simp only at hf; rw [hf] at this; cases this
        exact hc hs1 i j (by omega) h4 h5 h6
    · have ev' : F.ref07.Table_Ends k (Ref07_Table.mk g w (w.length : Int) s2) g.Rules[r].Rhs (q : Int) = some v := ev
      simp only [F.ref07.Fill_l4, d0, if_true, ix_in hr, ix_at hr, ev', Option.bind_some, e]
      rw [ix_inc (by omega)]
  · obtain ⟨s1, s2⟩ := s
    obtain ⟨hR, hm, hc⟩ := hI
    have d0 : decide (((w.length + 1 : Nat) : Int) ≤ (w.length : Int)) = false := decide_eq_false (by omega)
    simp only [F.ref07.Fill_l4, d0, Bool.false_eq_true, if_false]
    exact ⟨s1, _, s2, rfl, hR, hm, fun hf i j h1 h4 => hc hf i j (by omega) h1 h4⟩
theorem fill_l3 (h : Bd g w) (hk : 20000 ≤ k) {Y0 : List Bool} (hl0 : Y0.length = Mx g w) (hs0 : ∀ a i j, YesP g.Nts.toNat w.length Y0 a i j → DerY (Rs g w) (.nt a) i j) :
    ∃ m z Y, F.ref07.Fill_l3 k g w k false 0 Y0 = some (m, z, Y) ∧ RI g w Y0 m Y ∧ (m = false → ∀ r ∈ Rs g w, ∀ i j, i ≤ j → j ≤ w.length → endsT (YesP g.Nts.toNat w.length Y0) r.rhs i j → YesP g.Nts.toNat w.length Y0 r.lhs i j) := by
  have hl := h.hl
  refine loop_inv0 (n := g.Rules.length) (k := k) (σ := Bool × List Bool) (s := (false, Y0)) (L := fun c q s => F.ref07.Fill_l3 k g w c s.1 q s.2)
    (I := fun q s => RI g w Y0 s.1 s.2 ∧ (s.1 = false → ∀ r, (hr : r < g.Rules.length) → r < q → ∀ i j, i ≤ j → j ≤ w.length → endsT (YesP g.Nts.toNat w.length Y0) (toRu w g.Rules[r]).rhs i j → YesP g.Nts.toNat w.length Y0 (toRu w g.Rules[r]).lhs i j))
    (Q := fun o => ∃ m z Y, o = some (m, z, Y) ∧ RI g w Y0 m Y ∧ (m = false → ∀ r ∈ Rs g w, ∀ i j, i ≤ j → j ≤ w.length → endsT (YesP g.Nts.toNat w.length Y0) r.rhs i j → YesP g.Nts.toNat w.length Y0 r.lhs i j)) (by omega) ⟨⟨hl0, hs0, .inr ⟨rfl, rfl⟩⟩, fun _ r hr h1 => by omega⟩ (fun c q s hq hI => ?_) (fun c s hI => ?_)
  · left
    obtain ⟨s1, s2⟩ := s
    obtain ⟨hR, hc⟩ := hI
    simp only at hR hc
    obtain ⟨m, z, Y, e, hR', hm', hc'⟩ := fill_l4 h hk hR hq
    refine ⟨(m, Y), ⟨hR', fun hf r hr h1 i j h4 h5 h6 => ?_⟩, ?_⟩
    · by_cases hrq : r = q
      · subst hrq; exact hc' hf i j h4 h5 h6
      · have hs1 : s1 = false := by
          cases s1 with
          | false => rfl
          | true => have := hm' rfl; simp only at hf; rw [hf] at this; cases this
        exact hc hs1 r hr (by omega) i j h4 h5 h6
    · simp only [F.ref07.Fill_l3, ix_lt hq, if_true, e, Option.bind_some]
      rw [ix_inc (by omega)]
  · obtain ⟨s1, s2⟩ := s
    obtain ⟨hR, hc⟩ := hI
    simp only [F.ref07.Fill_l3, ix_ge (Nat.lt_irrefl _), Bool.false_eq_true, if_false]
    refine ⟨s1, _, s2, rfl, hR, fun hf r hr i j => ?_⟩
    obtain ⟨q, hq⟩ := List.mem_iff_getElem?.1 hr
    obtain ⟨hql, rfl⟩ := Rs_get hq
    exact hc hf q hql hql i j
theorem fill_l2 (h : Bd g w) (hk : 20000 ≤ k) : ∀ (c : Nat) (Y0 : List Bool), Y0.length = Mx g w → (∀ a i j, YesP g.Nts.toNat w.length Y0 a i j → DerY (Rs g w) (.nt a) i j) → Y0.count false + 1 < c →
    ∃ Y, F.ref07.Fill_l2 k g w c true Y0 = some Y ∧ Y.length = Mx g w ∧ Table (Rs g w) w.length (YesP g.Nts.toNat w.length Y)
  | 0, _, _, _, h => by omega
  | c + 1, Y0, hl0, hs0, hc => by
    obtain ⟨m, z, Y, e, hR, hcl⟩ := fill_l3 h hk hl0 hs0
    unfold F.ref07.Fill_l2
    rw [if_pos rfl, e, Option.bind_some]
    rcases hR.ch with ⟨hm, hlt⟩ | ⟨hm, he⟩
    · subst hm
      exact fill_l2 h hk c Y hR.len hR.sound (by omega)
    · subst hm he
      obtain ⟨c', rfl⟩ : ∃ c', c = c' + 1 := ⟨c - 1, by omega⟩
      unfold F.ref07.Fill_l2
      simp only [Bool.false_eq_true, if_false]
      exact ⟨Y, rfl, hl0, hs0, hcl rfl⟩
theorem Fill_ok (h : Bd g w) (hk : 200000 ≤ k) : ∃ Y, F.ref07.Fill k g w = some (tabF g w Y) ∧ Y.length = Mx g w ∧ Table (Rs g w) w.length (YesP g.Nts.toNat w.length Y) := by
  have h2 := h.hwl
  have hn := h.hn
  have h1 := h.hg.n1
  have hM := Mx_le h
  unfold F.ref07.Fill
  have eN : IntKind.wrap .i64 ((IntKind.wrap .i64 (g.Nts * (IntKind.wrap .i64 ((w.length : Int) + 1)))) * (IntKind.wrap .i64 ((w.length : Int) + 1))) = ((Mx g w : Nat) : Int) := by
    have b1 : g.Nts.toNat * (w.length + 1) ≤ 200 * 21 := Nat.mul_le_mul (by omega) (by omega)
    have e1 : g.Nts * ((w.length + 1 : Nat) : Int) = ((g.Nts.toNat * (w.length + 1) : Nat) : Int) := by rw [Int.natCast_mul, Int.toNat_of_nonneg (by omega)]
    rw [ix_inc (by omega), e1, wrap_i64 (n := ((g.Nts.toNat * (w.length + 1) : Nat) : Int)) (by omega) (by omega), ← Int.natCast_mul]
    exact wrap_i64 (by omega) (by show ((Mx g w : Nat) : Int) < _; omega)
  have key := loop_inv0 (n := Mx g w) (k := k) (σ := List Bool) (s := []) (L := fun c q s => F.ref07.Fill_l1 g w c q s) (I := fun q s => s = List.replicate q false) (Q := fun o => o = some (List.replicate (Mx g w) false)) (by omega) (by simp) (fun c q s hq hI => ?_) (fun c s hI => ?_)
  · rw [key, Option.bind_some]
    obtain ⟨Y, e, hY⟩ := fill_l2 h (k := k) (by omega) k (List.replicate (Mx g w) false) (by simp) (fun a i j hy => by
      obtain ⟨_, _, _, h4⟩ := hy
      rw [List.getD_eq_getElem?_getD, List.getElem?_replicate] at h4
      split at h4 <;> cases h4) (by rw [List.count_replicate_self]; omega)
    rw [e, Option.bind_some]
    exact ⟨Y, rfl, hY⟩
  · left
    subst hI
    have d0 : decide ((q : Int) < ((Mx g w : Nat) : Int)) = true := decide_eq_true (by omega)
    obtain ⟨p1, p2⟩ := push1 (l := List.replicate q false) (x := false) (by rw [List.length_replicate]; omega)
    refine ⟨_, rfl, ?_⟩
    simp only [F.ref07.Fill_l1, eN, d0, if_true, p1, p2]
    rw [ix_inc (by omega), List.replicate_succ']
  · subst hI
    have d0 : decide (((Mx g w : Nat) : Int) < ((Mx g w : Nat) : Int)) = false := decide_eq_false (by omega)
    simp only [F.ref07.Fill_l1, eN, d0, Bool.false_eq_true, if_false]
end
end Go.Vc
