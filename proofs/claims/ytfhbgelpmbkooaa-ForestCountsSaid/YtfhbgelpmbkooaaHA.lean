/-
 The document's Nullable: rounds, as many as there are nonterminals.
-/
import Derived.Test.YtfhbgelpmbkooaaFY
set_option linter.unusedVariables false
set_option linter.unusedSimpArgs false
namespace Go.Vc
open Go Ea
theorem none_ok {k n : Nat} (hk : n < k) (hn : n <= 100000) : F.ref06.none_ k (n : Int) = some (List.replicate n false) := by
 unfold F.ref06.none_
 have key := loop_inv0 (n := n) (k := k) (σ := List Bool) (s := []) (L := fun j i s => F.ref06.none__l1 (n : Int) j s i) (I := fun q s => s = List.replicate q false) (Q := fun o => o = some (List.replicate n false)) hk (by simp) (fun j q s hq hI => ?_) (fun j s hI => ?_)
 ·rw [key]; rfl
 ·left
  subst hI
  have d0 : decide ((q : Int) < (n : Int)) = true := decide_eq_true (by omega)
  have e1 : decide (((List.replicate q false).length + ([false] : List Bool).length) * 1 <= 140737488355328) = true := decide_eq_true (by rw [List.length_replicate, List.length_singleton]; omega)
  have e2 : decide ((List.replicate q false).length + ([false] : List Bool).length <= 9223372036854775807) = true := decide_eq_true (by rw [List.length_replicate, List.length_singleton]; omega)
  refine ⟨_, rfl, ?_⟩
  simp only [F.ref06.none__l1, d0, if_true]
  rw [e1, if_pos rfl, e2, if_pos rfl, ix_inc (by omega), List.replicate_succ']
 ·subst hI
  have d0 : decide ((n : Int) < (n : Int)) = false := decide_eq_false (by omega)
  simp only [F.ref06.none__l1, d0, Bool.false_eq_true, if_false]
theorem so_ok {m : List Bool} {s : KSym} : F.ref06.so s m true = some (mkS m s) := by
 unfold F.ref06.so F.ref06.so_j1 mkS
 by_cases h0 : 0 <= s.Nt
 ·simp only [h0, decide_true, if_true, Bool.true_and]
  by_cases h1 : s.Nt < (m.length : Int)
  ·have hin : inR s.Nt m.length = true := inR_iff.2 ⟨h0, h1⟩
   simp only [h1, decide_true, if_true, hin]
   rfl
  ·have : m.getD s.Nt.toNat false = false := by rw [List.getD_eq_getElem?_getD, List.getElem?_eq_none (by omega)]; rfl
   rw [this]
   simp [h1]
 ·simp [h0]
theorem rall_ok {k : Nat} {m : List Bool} {r : Rule} (hr : r.Rhs.length <= 1000) (hk : 2000 <= k) : F.ref06.all k r m true = some (r.Rhs.all (mkS m)) := by
 unfold F.ref06.all
 have key := loop_all (xs := r.Rhs) (p := mkS m) (z := ()) (bad := false) (k := k) (L := F.ref06.all_l1 r m true) (by omega) (fun j i h => by
  simp only [F.ref06.all_l1, ix_lt h, ix_in h, ix_at h, if_true, so_ok, Option.bind_some]
  rw [ix_inc (by omega)]
  cases mkS m r.Rhs[i] <;> rfl) (fun j => by
  simp only [F.ref06.all_l1, ix_ge (Nat.lt_irrefl _), Bool.false_eq_true, if_false])
 rw [key, Option.bind_some]
 cases r.Rhs.all (mkS m) <;> rfl
def Rnd (g : Gram) (m m' : List Bool) : Prop := m'.length = g.Nts.toNat /\ ∀ a, m'.getD a false = true ↔ ∃ r ∈ g.Rules, r.Lhs.toNat = a /\ r.Rhs.all (mkS m) = true
theorem round_ok {k : Nat} (hk : 20000 <= k) {g : Gram} (hg : RightG g) (hn : g.Nts <= 1000) (hl : g.Rules.length <= 1000) (m : List Bool) : ∃ m', F.ref06.round k g m true = some m' /\ Rnd g m m' := by
 unfold F.ref06.round
 have h1 := hg.n1
 have e0 : F.ref06.none_ k g.Nts = some (List.replicate g.Nts.toNat false) := by
  have := none_ok (k := k) (n := g.Nts.toNat) (by omega) (by omega)
  rwa [Int.toNat_of_nonneg (by omega)] at this
 rw [e0, Option.bind_some]
 have key := loop_inv0 (n := g.Rules.length) (k := k) (σ := List Bool) (s := List.replicate g.Nts.toNat false) (L := fun j i s => F.ref06.round_l1 k g m true j s i)
  (I := fun q s => s.length = g.Nts.toNat /\ ∀ a, s.getD a false = true ↔ ∃ r ∈ g.Rules.take q, r.Lhs.toNat = a /\ r.Rhs.all (mkS m) = true) (Q := fun o => ∃ m', o = some m' /\ Rnd g m m') (by omega) (by
   refine ⟨by simp, fun a => ?_⟩
   constructor
   ·intro ha
    rw [List.getD_eq_getElem?_getD, List.getElem?_replicate] at ha
    split at ha <;> cases ha
   ·rintro ⟨r, hr, _⟩
    cases hr) (fun j q s hq hI => ?_) (fun j s hI => ?_)
 ·obtain ⟨m', e, hm⟩ := key
  exact ⟨m', by rw [e]; rfl, hm⟩
 ·left
  obtain ⟨hI1, hI2⟩ := hI
  have hrm := List.getElem_mem hq
  have hl1 := hg.lhs1 _ hrm
  have hl2 := hg.lhs2 _ hrm
  have h80 := hg.rhs _ hrm
  simp only [F.ref06.round_l1, ix_lt hq, ix_in hq, ix_at hq, if_true, rall_ok (m := m) (show g.Rules[q].Rhs.length <= 1000 by omega) (show 2000 <= k by omega), Option.bind_some]
  unfold F.ref06.round_j3 F.ref06.round_j2
  rw [ix_inc (by omega)]
  cases hall : g.Rules[q].Rhs.all (mkS m) with
  | true =>
   have hin : inR g.Rules[q].Lhs s.length = true := inR_iff.2 ⟨hl1, by omega⟩
   simp only [if_true, hin]
   refine ⟨_, ⟨?_, fun a => ?_⟩, rfl⟩
   ·show (s.set _ true).length = _
    rw [List.length_set, hI1]
   ·show (s.set g.Rules[q].Lhs.toNat true).getD a false = true ↔ _
    rw [getD_set (by omega), List.take_succ_eq_append_getElem hq]
    by_cases ha : a = g.Rules[q].Lhs.toNat
    ·rw [if_pos ha]
     exact ⟨fun _ => ⟨g.Rules[q], List.mem_append_right _ (List.mem_singleton.2 rfl), ha.symm, hall⟩, fun _ => rfl⟩
    ·rw [if_neg ha, hI2]
     constructor
     ·rintro ⟨r, hr, h3⟩
      exact ⟨r, List.mem_append_left _ hr, h3⟩
     ·rintro ⟨r, hr, h3, h4⟩
      rcases List.mem_append.1 hr with hr | hr
      ·exact ⟨r, hr, h3, h4⟩
      ·rw [List.mem_singleton] at hr
       subst hr
       exact absurd h3.symm ha
  | false =>
   simp only [Bool.false_eq_true, if_false]
   refine ⟨_, ⟨hI1, fun a => ?_⟩, rfl⟩
   rw [hI2, List.take_succ_eq_append_getElem hq]
   constructor
   ·rintro ⟨r, hr, h3⟩
    exact ⟨r, List.mem_append_left _ hr, h3⟩
   ·rintro ⟨r, hr, h3, h4⟩
    rcases List.mem_append.1 hr with hr | hr
    ·exact ⟨r, hr, h3, h4⟩
    ·rw [List.mem_singleton] at hr
     subst hr
     rw [hall] at h4
     cases h4
 ·simp only [F.ref06.round_l1, ix_ge (Nat.lt_irrefl _), Bool.false_eq_true, if_false]
  rw [List.take_length] at hI
  exact ⟨s, rfl, hI⟩
theorem bools_le : ∀ (a b : List Bool), a.length = b.length -> (∀ i, a.getD i false = true -> b.getD i false = true) -> a.count true < b.count true \/ a = b
 | [], [], _, _ => .inr rfl
 | [], _ :: _, h, _ => by simp at h
 | _ :: _, [], h, _ => by simp at h
 | x :: a, y :: b, h, hi => by
  have ih := bools_le a b (by simpa using h) fun i hi' => by
   have := hi (i + 1)
   simpa using this (by simpa using hi')
  have h0 : x = true -> y = true := by simpa using hi 0
  rw [List.count_cons, List.count_cons]
  cases x <;> cases y
  ·rcases ih with ih | ih
   ·exact .inl (by simpa using ih)
   ·exact .inr (by rw [ih])
  ·rcases ih with ih | ih
   ·exact .inl (by simp; omega)
   ·exact .inl (by simp [ih])
  ·exact absurd (h0 rfl) (by simp)
  ·rcases ih with ih | ih
   ·exact .inl (by simp; omega)
   ·exact .inr (by rw [ih])
theorem mkS_mono {a b : List Bool} (h : ∀ i, a.getD i false = true -> b.getD i false = true) {s : KSym} (hs : mkS a s = true) : mkS b s = true := by
 unfold mkS at hs ⊢
 simp only [Bool.and_eq_true] at hs ⊢
 exact ⟨hs.1, h _ hs.2⟩
theorem count_all_true {m : List Bool} (h : m.length <= m.count true) {a : Nat} (ha : a < m.length) : m.getD a false = true := by
 have h2 := List.count_eq_length.1 (Nat.le_antisymm (List.count_le_length (a := true) (l := m)) h)
 have h3 := h2 _ (List.getElem_mem ha)
 rw [List.getD_eq_getElem?_getD, List.getElem?_eq_getElem ha]
 exact h3.symm
theorem marks_ok {k : Nat} (hk : 20000 <= k) {g : Gram} (hg : RightG g) (hn : g.Nts <= 1000) (hl : g.Rules.length <= 1000) (w : List Int) : ∃ m, F.ref06.marks k g true = some m /\ NulM g w m := by
 unfold F.ref06.marks
 have h1 := hg.n1
 have e0 : F.ref06.none_ k g.Nts = some (List.replicate g.Nts.toNat false) := by
  have := none_ok (k := k) (n := g.Nts.toNat) (by omega) (by omega)
  rwa [Int.toNat_of_nonneg (by omega)] at this
 rw [e0, Option.bind_some]
 have hrep : ∀ a, (List.replicate g.Nts.toNat false).getD a false = true -> False := by
  intro a ha
  rw [List.getD_eq_getElem?_getD, List.getElem?_replicate] at ha
  split at ha <;> cases ha
 have key := loop_inv0 (n := g.Nts.toNat) (k := k) (σ := List Bool) (s := List.replicate g.Nts.toNat false) (L := fun j i s => F.ref06.marks_l1 k g true j s i)
  (I := fun q s => s.length = g.Nts.toNat /\ (∀ a, s.getD a false = true -> Null (Rs g w) (.nt a)) /\ (∀ m', Rnd g s m' -> ∀ a, s.getD a false = true -> m'.getD a false = true) /\ (Rnd g s s \/ q <= s.count true))
  (Q := fun o => ∃ m, o = some m /\ NulM g w m) (by omega) (by
   refine ⟨by simp, fun a ha => (hrep a ha).elim, fun m' _ a ha => (hrep a ha).elim, .inr (Nat.zero_le _)⟩) (fun j q s hq hI => ?_) (fun j s hI => ?_)
 ·obtain ⟨m, e, hm⟩ := key
  exact ⟨m, by rw [e]; rfl, hm⟩
 ·left
  obtain ⟨hI1, hI2, hI3, hI4⟩ := hI
  obtain ⟨m', e, hm⟩ := round_ok hk hg hn hl s
  have d0 : decide ((q : Int) < g.Nts) = true := decide_eq_true (by omega)
  refine ⟨m', ⟨hm.1, fun a ha => ?_, fun m2 hm2 a ha => ?_, ?_⟩, ?_⟩
  ·obtain ⟨r, hr, rfl, hall⟩ := (hm.2 a).1 ha
   refine null_closed (R := Rs g w) (mem_Rs hr) fun y hy => ?_
   obtain ⟨x, hx, rfl⟩ := List.mem_map.1 (show y ∈ r.Rhs.map (toSy w) from hy)
   exact toSy_null hI2 (List.all_eq_true.1 hall x hx)
  ·obtain ⟨r, hr, h3, hall⟩ := (hm.2 a).1 ha
   refine (hm2.2 a).2 ⟨r, hr, h3, ?_⟩
   rw [List.all_eq_true] at hall ⊢
   exact fun x hx => mkS_mono (hI3 m' hm) (hall x hx)
  ·rcases bools_le s m' (by rw [hI1, hm.1]) (hI3 m' hm) with h | h
   ·rcases hI4 with h4 | h4
    ·left
     have : s = m' := by
      have h5 : ∀ i, m'.getD i false = true -> s.getD i false = true := fun i hi => (h4.2 i).2 ((hm.2 i).1 hi)
      rcases bools_le m' s (by rw [hI1, hm.1]) h5 with h6 | h6
      ·omega
      ·exact h6.symm
     rw [<- this]
     exact h4
    ·right; omega
   ·left
    rw [h] at hm
    exact hm
  ·simp only [F.ref06.marks_l1, d0, if_true]
   rw [e, Option.bind_some, ix_inc (by omega)]
 ·obtain ⟨hI1, hI2, hI3, hI4⟩ := hI
  have d0 : decide ((g.Nts.toNat : Int) < g.Nts) = false := decide_eq_false (by omega)
  simp only [F.ref06.marks_l1, d0, Bool.false_eq_true, if_false]
  refine ⟨s, rfl, closed_nulM hg hI1 hI2 fun x hx => ?_⟩
  rcases hI4 with h4 | h4
  ·cases hall : x.Rhs.all (mkS s) with
   | false => exact .inr rfl
   | true => exact .inl ((h4.2 _).2 ⟨x, hx, rfl, hall⟩)
  ·have := hg.lhs1 x hx
   have := hg.lhs2 x hx
   exact .inl (count_all_true (by omega) (by omega))
end Go.Vc
