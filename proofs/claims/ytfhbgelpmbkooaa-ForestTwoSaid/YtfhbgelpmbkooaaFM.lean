/-
  The law ForestTwo.
-/
import Derived.Test.YtfhbgelpmbkooaaFL
import Derived.Test.YtfhbgelpmbkooaaA1
set_option linter.unusedVariables false
set_option linter.unusedSimpArgs false
namespace Go.Vc
open Go Ea
section
variable {g : Gram} {w : List Int}
theorem Rs_gram (g : Gram) (w : List Int) : Rs g w = gram (fun r : Rule => r.Lhs.toNat) (fun r => r.Rhs) (toSy w) g.Rules := rfl
theorem like_take {i : Nat} (hi : i ≤ w.length) (s : KSym) : Like 0 i (toSy w s) (toSy (w.take i) s) := by
  unfold toSy
  by_cases h0 : 0 ≤ s.Nt
  · rw [if_pos h0, if_pos h0]; rfl
  · rw [if_neg h0, if_neg h0]
    intro m hm
    have e1 : decide (m < (w.take i).length) = true := decide_eq_true (by rw [List.length_take]; omega)
    have e2 : decide (0 + m < w.length) = true := decide_eq_true (by omega)
    have e3 : (w.take i).getD m 0 = w.getD (0 + m) 0 := by
      rw [List.getD_eq_getElem?_getD, List.getElem?_take, if_pos hm, List.getD_eq_getElem?_getD, Nat.zero_add]
    simp only [e1, e2, e3]
theorem like_drop {i : Nat} (hi : i ≤ w.length) (s : KSym) : Like i (w.length - i) (toSy w s) (toSy (w.drop i) s) := by
  unfold toSy
  by_cases h0 : 0 ≤ s.Nt
  · rw [if_pos h0, if_pos h0]; rfl
  · rw [if_neg h0, if_neg h0]
    intro m hm
    have e1 : decide (m < (w.drop i).length) = true := decide_eq_true (by rw [List.length_drop]; omega)
    have e2 : decide (i + m < w.length) = true := decide_eq_true (by omega)
    have e3 : (w.drop i).getD m 0 = w.getD (i + m) 0 := by
      rw [List.getD_eq_getElem?_getD, List.getElem?_drop, List.getD_eq_getElem?_getD]
    simp only [e1, e2, e3]
theorem trees_h {R : List Ru} {ρ : Nat → Nat} {K : Nat} (hρ : Falls R ρ K) {a i j h : Nat} (hh : rk ρ K a i j < h) : trees R ρ K a i j = treesL R h a i j :=
  treesL_stable hρ _ a i j _ h rfl (by omega) hh
theorem rk_le {ρ : Nat → Nat} {K : Nat} {R : List Ru} (hρ : Falls R ρ K) (hK : K ≤ 300) {a i j : Nat} (hj : j ≤ 20) : rk ρ K a i j ≤ 7000 := by
  unfold rk
  have h1 := hρ.le a
  have h2 : (j - i) * (K + 1) ≤ 20 * 301 := Nat.mul_le_mul (by omega) (by omega)
  omega
def twoG (g : Gram) : Gram := ⟨g.Nts + 1, g.Nts, g.Rules ++ [⟨g.Nts, [⟨g.Start, ⟨0, 0, 0, 0⟩⟩, ⟨g.Start, ⟨0, 0, 0, 0⟩⟩]⟩]⟩
theorem Rs_two (hs : 0 ≤ g.Start) : Rs (twoG g) w = Rs g w ++ [⟨g.Nts.toNat, [.nt g.Start.toNat, .nt g.Start.toNat]⟩] := by
  unfold Rs twoG
  rw [List.map_append]
  congr 1
  simp only [List.map_cons, List.map_nil, toRu, toSy, if_pos hs]
theorem below (hg : RightG g) : Below (Rs g w) g.Nts.toNat := by
  intro r hr
  obtain ⟨x, hx, rfl⟩ := List.mem_map.1 hr
  have h1 := hg.lhs1 x hx
  have h2 := hg.lhs2 x hx
  refine ⟨show x.Lhs.toNat < _ by omega, fun b hb => ?_⟩
  obtain ⟨s, hs, e⟩ := List.mem_map.1 (show Sy.nt b ∈ x.Rhs.map (toSy w) from hb)
  have h3 := hg.nt2 x hx s hs
  unfold toSy at e
  by_cases h0 : 0 ≤ s.Nt
  · rw [if_pos h0] at e
    cases e
    omega
  · rw [if_neg h0] at e
    cases e
def cutN (g : Gram) (w : List Int) (h i : Nat) : Nat := (treesL (Rs g w) h g.Start.toNat 0 i).length * (treesL (Rs g w) h g.Start.toNat i w.length).length
theorem acyc_any {k : Nat} (hk : 100000 ≤ k) (hr : rightB g = true) (hsm : SmallG g) {w w' : List Int} (h : Acyc g w) : Acyc g w' := by
  obtain ⟨b, e, hb⟩ := Cyclic_ok hk hr hsm w
  obtain ⟨b', e', hb'⟩ := Cyclic_ok hk hr hsm w'
  rw [e] at e'
  simp only [Option.some.injEq, Prod.mk.injEq, and_true] at e'
  subst e'
  exact hb'.1 (hb.2 h)
theorem law_Two {k : Nat} (hk : 1000000 ≤ k) (hal : F.law08.alive k = some true) (hR : ReachG g) (hw : Bytes w) : F.law08.ForestTwo k g w = some true := by
  unfold F.law08.ForestTwo
  obtain ⟨b, eb, hb⟩ := Heavy_ok (k := k) (by omega) hR w
  rw [eb, Option.bind_some, hal]
  cases b with
  | true => rfl
  | false =>
    obtain ⟨hwl, hn, hrl, hsum⟩ := hb rfl
    simp only [Bool.false_eq_true, if_false, Option.bind_some]
    by_cases h1 : 100 ≤ g.Nts
    · simp [h1]
    by_cases h2 : 7 < (w.length : Int)
    · simp [h1, h2]
    simp only [h1, h2, decide_false, Bool.false_eq_true, if_false]
    rw [CopyGram_ok (by omega) hR hrl, Option.bind_some]
    have e1 : decide ((g.Rules.length + ([(Rule.mk g.Nts ([(KSym.mk g.Start (S4.mk 0 0 0 0)), (KSym.mk g.Start (S4.mk 0 0 0 0))] : List KSym))] : List Rule).length) * 32 ≤ 140737488355328) = true := decide_eq_true (by simp only [List.length_singleton]; omega)
    have e2 : decide (g.Rules.length + ([(Rule.mk g.Nts ([(KSym.mk g.Start (S4.mk 0 0 0 0)), (KSym.mk g.Start (S4.mk 0 0 0 0))] : List KSym))] : List Rule).length ≤ 9223372036854775807) = true := decide_eq_true (by simp only [List.length_singleton]; omega)
    have hnts := hR.nts
    have e3 : IntKind.wrap .i64 (g.Nts + 1) = g.Nts + 1 := wrap_i64 (by omega) (by omega)
    simp only [e1, e2, if_true, e3]
    rw [show (Gram.mk (g.Nts + 1) g.Nts (g.Rules ++ ([(Rule.mk g.Nts ([(KSym.mk g.Start (S4.mk 0 0 0 0)), (KSym.mk g.Start (S4.mk 0 0 0 0))] : List KSym))] : List Rule))) = twoG g from rfl]
    have hsmx : rightB (twoG g) = true → SmallG (twoG g) := by
      intro hx
      have hgx := rightG hx
      have hx1 := hgx.n1
      have : (twoG g).Nts = g.Nts + 1 := rfl
      refine ⟨by omega, ?_⟩
      have : ((twoG g).Rules.map fun r => r.Rhs.length + 1).sum = (g.Rules.map fun r => r.Rhs.length + 1).sum + 3 := by
        show ((g.Rules ++ [_]).map fun r : Rule => r.Rhs.length + 1).sum = _
        rw [List.map_append, List.sum_append]
        rfl
      omega
    have hsm : rightB g = true → SmallG g := small_of hn hsum
    obtain ⟨ex, hfx, hx0, hxn, hxc⟩ := Count_all hk hsmx hw (.inl (by omega))
    obtain ⟨eg, hfg, hg0, hgn, hgc⟩ := Count_all hk hsm hw (.inl (by omega))
    have hcx : ∃ n : Int, F.forest.Count k (twoG g) w = some (n, ex) ∧ (ex = 0 → ∀ ρ, Falls (Rs (twoG g) w) ρ (twoG g).Nts.toNat → n = ((sat (trees (Rs (twoG g) w) ρ (twoG g).Nts.toNat (twoG g).Start.toNat 0 w.length).length : Nat) : Int)) := by
      by_cases h : ex = 0
      · obtain ⟨ρ, hρ⟩ := (hx0.1 h).2.2
        refine ⟨_, by rw [h]; exact hxc h ρ hρ, fun _ ρ' hρ' => ?_⟩
        have a1 := hxc h ρ hρ
        rw [hxc h ρ' hρ'] at a1
        simp only [Option.some.injEq, Prod.mk.injEq, and_true] at a1
        exact a1.symm
      · exact ⟨0, hxn h, fun h' => absurd h' h⟩
    obtain ⟨nx, ecx, hnx⟩ := hcx
    have hcg : ∃ n : Int, F.forest.Count k g w = some (n, eg) := by
      by_cases h : eg = 0
      · obtain ⟨ρ, hρ⟩ := (hg0.1 h).2.2
        exact ⟨_, by rw [h]; exact hgc h ρ hρ⟩
      · exact ⟨0, hgn h⟩
    obtain ⟨ng, ecg⟩ := hcg
    rw [ecx, Option.bind_some, ecg, Option.bind_some]
    by_cases hex : ex = 0
    · have d1 : (ex != 0) = false := by rw [hex]; rfl
      by_cases heg : eg = 0
      · have d2 : (eg != 0) = false := by rw [heg]; rfl
        simp only [d1, d2, Bool.false_eq_true, if_false]
        obtain ⟨hrg, _, hag⟩ := hg0.1 heg
        obtain ⟨hrx, _, hax⟩ := hx0.1 hex
        have hgr := rightG hrg
        have hsmg := hsm hrg
        have hN1 := hgr.n1
        have hs1 := hgr.s1
        have hs2 := hgr.s2
        have hpart : ∀ i, i ≤ w.length → F.forest.Count k g (w.take i) = some (((sat (treesL (Rs g w) 8000 g.Start.toNat 0 i).length : Nat) : Int), 0) ∧ F.forest.Count k g (w.drop i) = some (((sat (treesL (Rs g w) 8000 g.Start.toNat i w.length).length : Nat) : Int), 0) := by
          intro i hi
          constructor
          · obtain ⟨ρ, hρ⟩ := acyc_any (k := k) (by omega) hrg hsmg (w' := w.take i) hag
            obtain ⟨e, he, h0, _, hc⟩ := Count_all hk hsm (w := w.take i) (fun b hb => hw b (List.mem_of_mem_take hb)) (.inl (by rw [List.length_take]; omega))
            have hlen : (w.take i).length = i := by rw [List.length_take]; omega
            have he0 : e = 0 := h0.2 ⟨hrg, by rw [hlen]; omega, ρ, hρ⟩
            rw [hc he0 ρ hρ, trees_h hρ (h := 8000) (by have := rk_le hρ (by omega) (a := g.Start.toNat) (i := 0) (j := (w.take i).length) (by omega); omega), hlen]
            have := treesL_like (lhs := fun r : Rule => r.Lhs.toNat) (rhs := fun r => r.Rhs) (like_take hi) g.Rules 8000 g.Start.toNat 0 i (Nat.le_refl _)
            rw [← Rs_gram, ← Rs_gram, Nat.add_zero, Nat.zero_add] at this
            rw [this]
          · obtain ⟨ρ, hρ⟩ := acyc_any (k := k) (by omega) hrg hsmg (w' := w.drop i) hag
            obtain ⟨e, he, h0, _, hc⟩ := Count_all hk hsm (w := w.drop i) (fun b hb => hw b (List.mem_of_mem_drop hb)) (.inl (by rw [List.length_drop]; omega))
            have hlen : (w.drop i).length = w.length - i := List.length_drop
            have he0 : e = 0 := h0.2 ⟨hrg, by rw [hlen]; omega, ρ, hρ⟩
            rw [hc he0 ρ hρ, trees_h hρ (h := 8000) (by have := rk_le hρ (by omega) (a := g.Start.toNat) (i := 0) (j := (w.drop i).length) (by omega); omega), hlen]
            have := treesL_like (lhs := fun r : Rule => r.Lhs.toNat) (rhs := fun r => r.Rhs) (like_drop hi) g.Rules 8000 g.Start.toNat 0 (w.length - i) (Nat.le_refl _)
            rw [← Rs_gram, ← Rs_gram, Nat.add_zero, show i + (w.length - i) = w.length by omega] at this
            rw [this]
        have hloop := loop_inv0 (n := w.length + 1) (k := k) (σ := Int) (s := 0) (L := fun j i s => F.law08.ForestTwo_l1 k w g j s i)
          (I := fun q s => (∀ i, i < q → (treesL (Rs g w) 8000 g.Start.toNat 0 i).length ≤ 1000000 ∧ (treesL (Rs g w) 8000 g.Start.toNat i w.length).length ≤ 1000000) ∧ s = ((((List.range q).map (cutN g w 8000)).sum : Nat) : Int) ∧ s ≤ q * 1000000000000)
          (Q := fun o => o = some (.ret true) ∨ ∃ s : Int, o = some (.done s) ∧ (s = ((((List.range (w.length + 1)).map (cutN g w 8000)).sum : Nat) : Int) ∧ s ≤ 10000000000000)) (by omega) ⟨fun i hi => by omega, by simp, by omega⟩ (fun j q s hq hI => ?_) (fun j s hI => ?_)
        · have hfin : nx = ((((List.range (w.length + 1)).map (cutN g w 8000)).sum : Nat) : Int) ∨ (10000000000000 : Int) < ((((List.range (w.length + 1)).map (cutN g w 8000)).sum : Nat) : Int) := by
            obtain ⟨ρ, hρ⟩ := hax
            have e := hnx hex ρ hρ
            rw [trees_h hρ (h := 8001) (by have := rk_le hρ (by show (g.Nts + 1).toNat ≤ 300; omega) (a := (twoG g).Start.toNat) (i := 0) (j := w.length) (by omega); omega)] at e
            have hRs := Rs_two (g := g) (w := w) hs1
            have hst : (twoG g).Start.toNat = g.Nts.toNat := rfl
            have h2 := treesL_two (R := Rs g w) (below hgr) (S := g.Start.toNat) (by omega) 8000 0 w.length
            rw [hRs, hst, h2] at e
            have h3 : ((List.range' 0 (w.length + 1 - 0)).map fun m => (treesL (Rs g w) 8000 g.Start.toNat 0 m).length * (treesL (Rs g w) 8000 g.Start.toNat m w.length).length).sum = ((List.range (w.length + 1)).map (cutN g w 8000)).sum := by
              rw [Nat.sub_zero, ← List.range_eq_range']; rfl
            rw [h3] at e
            generalize ((List.range (w.length + 1)).map (cutN g w 8000)).sum = T at e ⊢
            by_cases hT : T ≤ top
            · left; rw [e, sat_of_le hT]
            · right
              have : top = 4611686018427387904 := rfl
              omega
          rcases hloop with e | ⟨s, e, hs, hle⟩
          · rw [e]; rfl
          · rw [e]
            have hnx' : nx = s := by
              rcases hfin with h | h
              · rw [h, hs]
              · omega
            show (if true = true then some (nx == s) else some false) = some true
            rw [if_pos rfl, hnx']
            simp
        · obtain ⟨hI1, hI2, hI3⟩ := hI
          have hlt : decide ((q : Int) ≤ (w.length : Int)) = true := decide_eq_true (by omega)
          have ok1 : okSub 0 (q : Int) w.length = true := okSub_iff.2 ⟨⟨by omega, by omega⟩, by omega⟩
          have ok2 : okSub (q : Int) (w.length : Int) w.length = true := okSub_iff.2 ⟨⟨by omega, by omega⟩, by omega⟩
          have s1 : sub w 0 (q : Int) = w.take q := by unfold sub; simp
          obtain ⟨c1, c2⟩ := hpart q (by omega)
          simp only [F.law08.ForestTwo_l1, hlt, ok1, ok2, if_true, s1, sub_drop, c1, c2, Option.bind_some]
          unfold F.law08.ForestTwo_j2
          generalize hA : (treesL (Rs g w) 8000 g.Start.toNat 0 q).length = A
          generalize hB : (treesL (Rs g w) 8000 g.Start.toNat q w.length).length = B
          have htop : top = 4611686018427387904 := rfl
          have hsA : 1000000 < sat A ↔ 1000000 < A := by unfold sat; omega
          have hsB : 1000000 < sat B ↔ 1000000 < B := by unfold sat; omega
          by_cases ha : 1000000 < A
          · right; left
            have : decide ((1000000 : Int) < ((sat A : Nat) : Int)) = true := decide_eq_true (by have := hsA.2 ha; omega)
            rw [this, if_pos rfl, if_pos rfl, hal]; rfl
          · have : decide ((1000000 : Int) < ((sat A : Nat) : Int)) = false := decide_eq_false (by have := fun h => ha (hsA.1 h); omega)
            rw [this, if_neg (by simp)]
            by_cases hbb : 1000000 < B
            · right; left
              have : decide ((1000000 : Int) < ((sat B : Nat) : Int)) = true := decide_eq_true (by have := hsB.2 hbb; omega)
              rw [this, if_pos rfl, hal]; rfl
            · left
              have : decide ((1000000 : Int) < ((sat B : Nat) : Int)) = false := decide_eq_false (by have := fun h => hbb (hsB.1 h); omega)
              rw [this, if_neg (by simp), sat_of_le (by omega), sat_of_le (by omega)]
              have hAB : A * B ≤ 1000000 * 1000000 := Nat.mul_le_mul (by omega) (by omega)
              have em : ((A : Int) * (B : Int)) = ((A * B : Nat) : Int) := by simp
              have e4 : IntKind.wrap .i64 ((A : Int) * (B : Int)) = ((A * B : Nat) : Int) := by rw [em]; exact wrap_i64 (by omega) (by omega)
              have e5 : IntKind.wrap .i64 (s + ((A * B : Nat) : Int)) = s + ((A * B : Nat) : Int) := wrap_i64 (by omega) (by omega)
              refine ⟨s + ((A * B : Nat) : Int), ⟨fun i hi => ?_, ?_, by omega⟩, ?_⟩
              · by_cases hiq : i = q
                · subst hiq
                  rw [hA, hB]
                  omega
                · exact hI1 i (by omega)
              · rw [List.range_succ, List.map_append, List.sum_append, hI2]
                have : cutN g w 8000 q = A * B := by unfold cutN; rw [hA, hB]
                simp [this]
              · rw [e4, e5, ix_inc (by omega)]
        · right
          have hlt : decide (((w.length + 1 : Nat) : Int) ≤ (w.length : Int)) = false := decide_eq_false (by omega)
          simp only [F.law08.ForestTwo_l1, hlt, Bool.false_eq_true, if_false]
          exact ⟨s, rfl, hI.2.1, by have := hI.2.2; omega⟩
      · have d2 : (eg != 0) = true := by simpa using heg
        simp [d1, d2]
    · have d1 : (ex != 0) = true := by simpa using hex
      simp [d1]
end
end Go.Vc
