/-
  Count: as many as there are trees; which work is too much; a copy.
-/
import Derived.Test.YtfhbgelpmbkooaaFK
set_option linter.unusedVariables false
set_option linter.unusedSimpArgs false
namespace Go.Vc
open Go Ea
section
variable {g : Gram} {w : List Int}
theorem Count_ok {k : Nat} (hk : 1000000 ≤ k) (hr : rightB g = true) (hsm : SmallG g) (hw : Bytes w) (hwl : w.length ≤ 20) {ρ : Nat → Nat} (hρ : Falls (Rs g w) ρ g.Nts.toNat) :
    ∃ v, F.forest.open_ k g w = some v ∧ Grove g w v ∧ v.counts = [] ∧ v.rows = [] ∧ ∃ v', F.forest.grove_count k v (spn g.Start.toNat 0 w.length) = some (((sat (trees (Rs g w) ρ g.Nts.toNat g.Start.toNat 0 w.length).length : Nat) : Int), v') ∧ ∃ st, KnOk (Rs g w) ρ g.Nts.toNat st ∧ GR g w v st v' := by
  have hg := rightG hr
  obtain ⟨v, e, hv, hc, hrw⟩ := forest_open_ok (k := k) (by omega) hr hsm hw hwl
  refine ⟨v, e, hv, hc, hrw, ?_⟩
  have hs1 := hg.s1
  have hs2 := hg.s2
  have hn := hsm.nts
  have hhas : ∀ a i j, j ≤ w.length → (hasW v a i j = true ↔ DerY (Rs g w) (.nt a) i j) := by
    intro a i j hj
    unfold hasW
    rw [decide_eq_true_eq]
    rcases hv.whole (spn a i j) with ⟨h1, a', i', j', h2, h3, h4, h5⟩ | ⟨h1, h2⟩
    · rw [h1]
      obtain ⟨rfl, rfl, rfl⟩ := spn_inj (show spn a i j = spn a' i' j' from h2)
      exact ⟨fun _ => h5, fun _ => by omega⟩
    · rw [h1]
      refine ⟨fun h => by omega, fun h => absurd ⟨a, i, j, rfl, ?_, hj, h⟩ h2⟩
      obtain ⟨r, hr', hl, _⟩ := derY_nt.1 h
      obtain ⟨x, hx, rfl⟩ := List.mem_map.1 hr'
      have := hg.lhs1 x hx
      have := hg.lhs2 x hx
      have hl' : x.Lhs.toNat = a := hl
      omega
  have hW : ∀ r ∈ Rs g w, r.rhs.length + 2 ≤ 82 := by
    intro r hr'
    obtain ⟨x, hx, rfl⟩ := List.mem_map.1 hr'
    rw [toRu_len]
    have := hg.rhs x hx
    omega
  have hrk : rk ρ g.Nts.toNat g.Start.toNat 0 w.length ≤ 4220 := by
    unfold rk
    have h1 := hρ.le g.Start.toNat
    have h2 : (w.length - 0) * (g.Nts.toNat + 1) ≤ 20 * 201 := Nat.mul_le_mul (by omega) (by omega)
    omega
  have hfits : Fits (Rs g w) ρ g.Nts.toNat 82 w.length 400000 (.c g.Start.toNat 0 w.length) := ⟨by omega, by omega, by omega⟩
  obtain ⟨st, ha, hkn⟩ := ask_ok (R := Rs g w) (by_ := byG g) (has := hasW v) (ρ := ρ) (K := g.Nts.toNat) (W := 82) (n := w.length) hρ (fun a => byG_Rs g w a) hhas hW 400001 400000 (.c g.Start.toNat 0 w.length) [] (by omega) hfits (fun p hp => by cases hp)
  have hgr0 : GR g w v [] v := ⟨hv.gr, hv.tx, rfl, rfl, fun a i j => by rw [hc]; rfl, fun q d i j => by rw [hrw]; rfl, fun x n h => by cases h⟩
  obtain ⟨v', e', hgr', _⟩ := ask_F hg hsm hw hwl hv 400001 k _ _ _ _ v (by omega) ha hgr0 ⟨by omega, by omega, by omega⟩
  exact ⟨v', e', st, hkn, hgr'⟩
theorem Count_all {k : Nat} (hk : 1000000 ≤ k) (hsm : rightB g = true → SmallG g) (hw : Bytes w) (hwl : w.length ≤ 20 ∨ 512 < (w.length : Int)) :
    ∃ e, F.forest.fit k g w = some e ∧ (e = 0 ↔ rightB g = true ∧ (w.length : Int) ≤ 512 ∧ Acyc g w) ∧ (e ≠ 0 → F.forest.Count k g w = some (0, e)) ∧
      (e = 0 → ∀ ρ, Falls (Rs g w) ρ g.Nts.toNat → F.forest.Count k g w = some (((sat (trees (Rs g w) ρ g.Nts.toNat g.Start.toNat 0 w.length).length : Nat) : Int), 0)) := by
  obtain ⟨e, he, h0, _⟩ := fit_ok (k := k) (by omega) hsm w
  refine ⟨e, he, h0, fun hne => ?_, fun h ρ hρ => ?_⟩
  · unfold F.forest.Count
    rw [he, Option.bind_some]
    have : (e != 0) = true := by simpa using hne
    rw [this, if_pos rfl]
  · obtain ⟨hr, hl, _⟩ := h0.1 h
    obtain ⟨v, e1, hv, _, _, v', e2, _⟩ := Count_ok hk hr (hsm hr) hw (by omega) hρ
    have hs1 := (rightG hr).s1
    unfold F.forest.Count
    rw [he, h, Option.bind_some]
    simp only [bne_self_eq_false, Bool.false_eq_true, if_false]
    rw [e1, Option.bind_some]
    have e3 : F.forest.grove_count k v (Forest_span.mk g.Start 0 (w.length : Int)) = some (((sat (trees (Rs g w) ρ g.Nts.toNat g.Start.toNat 0 w.length).length : Nat) : Int), v') := by
      have e4 : F.forest.grove_count k v (Forest_span.mk (g.Start.toNat : Int) 0 (w.length : Int)) = some (((sat (trees (Rs g w) ρ g.Nts.toNat g.Start.toNat 0 w.length).length : Nat) : Int), v') := e2
      rw [Int.toNat_of_nonneg hs1] at e4
      exact e4
    rw [e3, Option.bind_some]
end
structure ReachG (g : Gram) : Prop where
  nts : -9223372036854775808 ≤ g.Nts
  rules : g.Rules.length * 32 ≤ 140737488351232
  rhs : ∀ r ∈ g.Rules, r.Rhs.length * 40 ≤ 140737488351232
theorem Heavy6_ok {k : Nat} (hk : 20000 ≤ k) {g : Gram} (h : ReachG g) : ∃ b, F.ref06.Heavy k g 120 = some b ∧ (b = false → g.Nts ≤ 120 ∧ g.Rules.length ≤ 120 ∧ g.Nts + ((g.Rules.map fun r => r.Rhs.length + 1).sum : Nat) ≤ 120) := by
  unfold F.ref06.Heavy
  have hn := h.nts
  by_cases h1 : 120 < g.Nts
  · refine ⟨true, by simp [h1], fun h => (by cases h)⟩
  by_cases h2 : 120 < (g.Rules.length : Int)
  · refine ⟨true, by simp [h1, h2], fun h => (by cases h)⟩
  simp only [h1, h2, decide_false, Bool.false_eq_true, if_false]
  have key := loop_inv0 (n := g.Rules.length) (k := k) (σ := Int) (s := g.Nts) (L := fun j i s => F.ref06.Heavy_l1 g 120 j s i) (I := fun q s => s ≤ 120 ∧ s = g.Nts + (((g.Rules.take q).map fun r => r.Rhs.length + 1).sum : Nat))
    (Q := fun o => (∃ r, o = some r ∧ (r = .ret true ∨ (r = .done () ∧ g.Nts + ((g.Rules.map fun r => r.Rhs.length + 1).sum : Nat) ≤ 120)))) (by omega) ⟨by omega, by simp⟩ (fun j q s hq hI => ?_) (fun j s hI => ?_)
  · obtain ⟨r, e, hr⟩ := key
    rw [e, Option.bind_some]
    rcases hr with rfl | ⟨rfl, hs⟩
    · exact ⟨true, rfl, fun h => (by cases h)⟩
    · exact ⟨false, rfl, fun _ => ⟨by omega, by omega, hs⟩⟩
  · have hb := h.rhs _ (List.getElem_mem hq)
    obtain ⟨hI1, hI2⟩ := hI
    have e1 : IntKind.wrap .i64 (s + 1) = s + 1 := wrap_i64 (by omega) (by omega)
    have e2 : IntKind.wrap .i64 (s + 1 + (g.Rules[q].Rhs.length : Int)) = s + 1 + (g.Rules[q].Rhs.length : Int) := wrap_i64 (by omega) (by omega)
    simp only [F.ref06.Heavy_l1, ix_lt hq, ix_in hq, ix_at hq, if_true, e1, e2]
    by_cases h3 : 120 < s + 1 + (g.Rules[q].Rhs.length : Int)
    · right
      refine ⟨.ret true, by simp [h3], .inl rfl⟩
    · left
      refine ⟨s + 1 + (g.Rules[q].Rhs.length : Int), ⟨by omega, ?_⟩, by
        simp only [h3, decide_false, Bool.false_eq_true, if_false]
        rw [ix_inc (by omega)]⟩
      rw [sum_take_succ _ hq]
      omega
  · rw [List.take_length] at hI
    simp only [F.ref06.Heavy_l1, ix_ge (Nat.lt_irrefl _), Bool.false_eq_true, if_false]
    exact ⟨_, rfl, .inr ⟨rfl, by omega⟩⟩
theorem Heavy_ok {k : Nat} (hk : 20000 ≤ k) {g : Gram} (h : ReachG g) (w : List Int) : ∃ b, F.ref08.Heavy k g w = some b ∧ (b = false → (w.length ≤ 9 ∨ 512 < (w.length : Int)) ∧ g.Nts ≤ 120 ∧ g.Rules.length ≤ 120 ∧ g.Nts + ((g.Rules.map fun r => r.Rhs.length + 1).sum : Nat) ≤ 120) := by
  obtain ⟨b, e, hb⟩ := Heavy6_ok hk h
  unfold F.ref08.Heavy
  by_cases h1 : 9 < (w.length : Int)
  · by_cases h2 : (w.length : Int) ≤ 512
    · exact ⟨true, by simp [h1, h2], fun h => (by cases h)⟩
    · refine ⟨b, by simp [h1, h2, e], fun hb' => ⟨.inr (by omega), hb hb'⟩⟩
  · refine ⟨b, by simp [h1, e], fun hb' => ⟨.inl (by omega), hb hb'⟩⟩
theorem small_of {g : Gram} (h1 : g.Nts ≤ 120) (h2 : g.Nts + ((g.Rules.map fun r => r.Rhs.length + 1).sum : Nat) ≤ 120) (hr : rightB g = true) : SmallG g := by
  have := (rightG hr).n1
  exact ⟨by omega, by omega⟩
theorem CopyGram_ok {k : Nat} (hk : 20000 ≤ k) {g : Gram} (h : ReachG g) (hl : g.Rules.length ≤ 120) : F.ref05.CopyGram k g = some g := by
  unfold F.ref05.CopyGram
  have key := loop_inv0 (n := g.Rules.length) (k := k) (σ := List Rule) (s := []) (L := fun j i s => F.ref05.CopyGram_l1 g j i s) (I := fun q s => s = g.Rules.take q) (Q := fun o => o = some g.Rules) (by omega) (by simp) (fun j q s hq hI => ?_) (fun j s hI => ?_)
  · rw [key, Option.bind_some]
  · left
    subst hI
    have hb := h.rhs _ (List.getElem_mem hq)
    have e1 : decide ((([] : List KSym).length + g.Rules[q].Rhs.length) * 40 ≤ 140737488355328) = true := decide_eq_true (by simp only [List.length_nil]; omega)
    have e2 : decide (([] : List KSym).length + g.Rules[q].Rhs.length ≤ 9223372036854775807) = true := decide_eq_true (by simp only [List.length_nil]; omega)
    have e3 : decide (((g.Rules.take q).length + ([(Rule.mk g.Rules[q].Lhs (([] : List KSym) ++ g.Rules[q].Rhs))] : List Rule).length) * 32 ≤ 140737488355328) = true := decide_eq_true (by simp only [List.length_singleton, List.length_take]; omega)
    have e4 : decide ((g.Rules.take q).length + ([(Rule.mk g.Rules[q].Lhs (([] : List KSym) ++ g.Rules[q].Rhs))] : List Rule).length ≤ 9223372036854775807) = true := decide_eq_true (by simp only [List.length_singleton, List.length_take]; omega)
    refine ⟨_, rfl, ?_⟩
    simp only [F.ref05.CopyGram_l1, ix_lt hq, ix_in hq, ix_at hq, if_true, e1, e2, e3, e4]
    rw [ix_inc (by omega), List.take_succ_eq_append_getElem hq, List.nil_append]
  · subst hI
    simp only [F.ref05.CopyGram_l1, ix_ge (Nat.lt_irrefl _), Bool.false_eq_true, if_false, List.take_length]
end Go.Vc
