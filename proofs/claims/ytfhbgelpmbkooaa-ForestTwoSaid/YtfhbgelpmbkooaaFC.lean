/-
  What leads to what; a way back is found just if no rank falls.
-/
import Derived.Test.YtfhbgelpmbkooaaFB
set_option linter.unusedVariables false
set_option linter.unusedSimpArgs false
namespace Go.Vc
open Go Ea
structure SmallG (g : Gram) : Prop where
  nts : g.Nts ≤ 200
  sum : (g.Rules.map fun r => r.Rhs.length + 1).sum ≤ 200
theorem len_le_sum {α : Type} (f : α → Nat) : ∀ (l : List α), l.length ≤ (l.map fun x => f x + 1).sum
  | [] => by simp
  | x :: l => by have := len_le_sum f l; simp only [List.length_cons, List.map_cons, List.sum_cons]; omega
theorem mem_le_sum {α : Type} (f : α → Nat) : ∀ {l : List α} {x : α}, x ∈ l → f x ≤ (l.map f).sum
  | y :: l, x, h => by
    rcases List.mem_cons.1 h with rfl | h
    · simp only [List.map_cons, List.sum_cons]; omega
    · have := mem_le_sum f h; simp only [List.map_cons, List.sum_cons]; omega
theorem SmallG.rules {g : Gram} (h : SmallG g) : g.Rules.length ≤ 200 := by have := len_le_sum (fun r : Rule => r.Rhs.length) g.Rules; have := h.sum; omega
theorem SmallG.rhs {g : Gram} (h : SmallG g) {r : Rule} (hr : r ∈ g.Rules) : r.Rhs.length < 200 := by have := mem_le_sum (fun r : Rule => r.Rhs.length + 1) hr; have := h.sum; omega
def badN (m : List Bool) (r : Rule) : Nat := r.Rhs.countP fun s => !mkS m s
def goS (m : List Bool) (r : Rule) (s : KSym) : Bool := decide (0 ≤ s.Nt) && (decide (badN m r = 0) || (decide (badN m r = 1) && !mkS m s))
section
variable {g : Gram} {w : List Int} {m : List Bool}
theorem mkS_nt {s : KSym} (h0 : 0 ≤ s.Nt) : mkS m s = at_ m s.Nt := by
  unfold mkS
  rw [decide_eq_true h0]; rfl
theorem steps_l2_ok {k : Nat} (hk : 20000 ≤ k) (hg : RightG g) (hm : m.length = g.Nts.toNat) {i : Nat} (hi : i < g.Rules.length) : ∃ z, F.facts.steps_l2 g (i : Int) m k 0 0 = some (((badN m g.Rules[i] : Nat) : Int), z) := by
  have hr : g.Rules[i] ∈ g.Rules := List.getElem_mem hi
  have hlen := hg.rhs _ hr
  refine loop_inv0 (n := g.Rules[i].Rhs.length) (σ := Int) (s := 0) (L := fun j t s => F.facts.steps_l2 g (i : Int) m j s t) (I := fun q s => s = (((g.Rules[i].Rhs.take q).countP fun s => !mkS m s : Nat) : Int))
    (Q := fun o => ∃ z, o = some (((badN m g.Rules[i] : Nat) : Int), z)) (by omega) (by simp) (fun j q s hq hI => ?_) (fun j s hI => ?_)
  · have hs : g.Rules[i].Rhs[q] ∈ g.Rules[i].Rhs := List.getElem_mem hq
    have hb := hg.nt2 _ hr _ hs
    left
    simp only [F.facts.steps_l2, ix_at hi, ix_lt hq, ix_in hq, ix_at hq, if_true]
    unfold F.facts.steps_j4 F.facts.steps_j5 F.facts.steps_j3
    rw [ix_inc (by omega)]
    have hcl : (g.Rules[i].Rhs.take q).countP (fun s => !mkS m s) ≤ q := by
      have := List.countP_le_length (p := fun s => !mkS m s) (l := g.Rules[i].Rhs.take q)
      simp only [List.length_take] at this
      omega
    have htk : (g.Rules[i].Rhs.take (q + 1)).countP (fun s => !mkS m s) = (g.Rules[i].Rhs.take q).countP (fun s => !mkS m s) + if mkS m g.Rules[i].Rhs[q] then 0 else 1 := by
      rw [List.take_succ_eq_append_getElem hq, List.countP_append, List.countP_singleton]
      cases mkS m g.Rules[i].Rhs[q] <;> rfl
    have key : (if decide (g.Rules[i].Rhs[q].Nt < 0) = true then (if true = true then F.facts.steps_l2 g (i : Int) m j (IntKind.wrap .i64 (s + 1)) ((q + 1 : Nat) : Int) else F.facts.steps_l2 g (i : Int) m j s ((q + 1 : Nat) : Int)) else if inR g.Rules[i].Rhs[q].Nt m.length = true then (if (!at_ m g.Rules[i].Rhs[q].Nt) = true then F.facts.steps_l2 g (i : Int) m j (IntKind.wrap .i64 (s + 1)) ((q + 1 : Nat) : Int) else F.facts.steps_l2 g (i : Int) m j s ((q + 1 : Nat) : Int)) else none) = if mkS m g.Rules[i].Rhs[q] = true then F.facts.steps_l2 g (i : Int) m j s ((q + 1 : Nat) : Int) else F.facts.steps_l2 g (i : Int) m j (IntKind.wrap .i64 (s + 1)) ((q + 1 : Nat) : Int) := by
      by_cases h0 : g.Rules[i].Rhs[q].Nt < 0
      · have : mkS m g.Rules[i].Rhs[q] = false := by unfold mkS; rw [decide_eq_false (by omega)]; rfl
        simp [h0, this]
      · have hin : inR g.Rules[i].Rhs[q].Nt m.length = true := inR_iff.2 ⟨by omega, by rw [hm]; omega⟩
        rw [mkS_nt (by omega), hin]
        simp only [h0, decide_false, Bool.false_eq_true, if_false, if_true]
        cases at_ m g.Rules[i].Rhs[q].Nt <;> rfl
    refine ⟨if mkS m g.Rules[i].Rhs[q] = true then s else s + 1, ?_, key.trans ?_⟩
    · rw [htk, hI]
      cases mkS m g.Rules[i].Rhs[q] <;> simp
    · cases mkS m g.Rules[i].Rhs[q] with
      | true => rfl
      | false =>
        simp only [Bool.false_eq_true, if_false]
        rw [hI, wrap_i64 (by omega) (by omega)]
  · rw [List.take_length] at hI
    simp only [F.facts.steps_l2, ix_at hi, ix_ge (Nat.lt_irrefl _), Bool.false_eq_true, if_false]
    exact ⟨_, by rw [hI]; rfl⟩
structure StI (g : Gram) (m : List Bool) (out : List (List Int)) (P : Nat → Int → Prop) (c : Nat) : Prop where
  len : out.length = g.Nts.toNat
  mem : ∀ a x, x ∈ out.getD a [] ↔ P a x
  sz : ∀ a, (out.getD a []).length ≤ c
theorem set_get {α : Type} {xs : List (List α)} {i : Int} (h0 : 0 ≤ i) (hi : i < (xs.length : Int)) (x : List α) (a : Nat) : (set_ xs i x).getD a [] = if a = i.toNat then x else xs.getD a [] := by
  unfold set_
  rw [List.getD_eq_getElem?_getD, List.getElem?_set]
  by_cases h : i.toNat = a
  · subst h
    have : i.toNat < xs.length := by omega
    simp [this]
  · rw [if_neg h, if_neg (fun e => h e.symm), List.getD_eq_getElem?_getD]
theorem steps_l6_ok {k : Nat} (hk : 20000 ≤ k) (hg : RightG g) (hm : m.length = g.Nts.toNat) {i : Nat} (hi : i < g.Rules.length) {z : Int} {out : List (List Int)} {P : Nat → Int → Prop} {c : Nat} (hc : c < 100000) (hI0 : StI g m out P c) :
    ∃ out' z', F.facts.steps_l6 g (i : Int) (((badN m g.Rules[i] : Nat) : Int), z) m k out 0 = some (out', z') ∧ StI g m out' (fun a x => P a x ∨ (a = g.Rules[i].Lhs.toNat ∧ ∃ s ∈ g.Rules[i].Rhs, goS m g.Rules[i] s = true ∧ x = s.Nt)) (c + g.Rules[i].Rhs.length) := by
  have hr : g.Rules[i] ∈ g.Rules := List.getElem_mem hi
  have hlen := hg.rhs _ hr
  have hl1 := hg.lhs1 _ hr
  have hl2 := hg.lhs2 _ hr
  refine loop_inv0 (n := g.Rules[i].Rhs.length) (σ := List (List Int)) (s := out) (L := fun j t s => F.facts.steps_l6 g (i : Int) (((badN m g.Rules[i] : Nat) : Int), z) m j s t)
    (I := fun q s => StI g m s (fun a x => P a x ∨ (a = g.Rules[i].Lhs.toNat ∧ ∃ s ∈ g.Rules[i].Rhs.take q, goS m g.Rules[i] s = true ∧ x = s.Nt)) (c + q))
    (Q := fun o => ∃ out' z', o = some (out', z') ∧ StI g m out' (fun a x => P a x ∨ (a = g.Rules[i].Lhs.toNat ∧ ∃ s ∈ g.Rules[i].Rhs, goS m g.Rules[i] s = true ∧ x = s.Nt)) (c + g.Rules[i].Rhs.length)) (by omega) ?_ (fun j q s hq hI => ?_) (fun j s hI => ?_)
  · refine ⟨hI0.len, fun a x => ?_, fun a => by have := hI0.sz a; omega⟩
    rw [hI0.mem]
    simp
  · have hs : g.Rules[i].Rhs[q] ∈ g.Rules[i].Rhs := List.getElem_mem hq
    have hb := hg.nt2 _ hr _ hs
    left
    have hin : inR g.Rules[i].Lhs s.length = true := inR_iff.2 ⟨hl1, by rw [hI.len]; omega⟩
    have hszb := hI.sz g.Rules[i].Lhs.toNat
    have hat : at_ s g.Rules[i].Lhs = s.getD g.Rules[i].Lhs.toNat [] := rfl
    have e1 : decide (((at_ s g.Rules[i].Lhs).length + ([g.Rules[i].Rhs[q].Nt] : List Int).length) * 8 ≤ 140737488355328) = true := decide_eq_true (by rw [hat]; simp only [List.length_singleton]; omega)
    have e2 : decide ((at_ s g.Rules[i].Lhs).length + ([g.Rules[i].Rhs[q].Nt] : List Int).length ≤ 9223372036854775807) = true := decide_eq_true (by rw [hat]; simp only [List.length_singleton]; omega)
    have key : F.facts.steps_l6 g (i : Int) (((badN m g.Rules[i] : Nat) : Int), z) m (j + 1) s (q : Int) = F.facts.steps_l6 g (i : Int) (((badN m g.Rules[i] : Nat) : Int), z) m j (if goS m g.Rules[i] g.Rules[i].Rhs[q] = true then set_ s g.Rules[i].Lhs (at_ s g.Rules[i].Lhs ++ [g.Rules[i].Rhs[q].Nt]) else s) ((q + 1 : Nat) : Int) := by
      simp only [F.facts.steps_l6, ix_at hi, ix_lt hq, ix_in hq, ix_at hq, if_true]
      unfold F.facts.steps_j8 F.facts.steps_j10 F.facts.steps_j9 F.facts.steps_j7 goS
      rw [ix_inc (by omega)]
      simp only [ix_at hi, ix_at hq, hin, e1, e2, if_true]
      by_cases h0 : 0 ≤ g.Rules[i].Rhs[q].Nt
      · have hin2 : inR g.Rules[i].Rhs[q].Nt m.length = true := inR_iff.2 ⟨by omega, by rw [hm]; omega⟩
        simp only [h0, decide_true, if_true, Bool.true_and, hin2, mkS_nt h0]
        by_cases hb0 : badN m g.Rules[i] = 0
        · have : (((badN m g.Rules[i] : Nat) : Int) == 0) = true := by rw [hb0]; rfl
          simp [this, hb0]
        · have : (((badN m g.Rules[i] : Nat) : Int) == 0) = false := by rw [beq_eq_false_iff_ne]; omega
          by_cases hb1 : badN m g.Rules[i] = 1
          · have h1 : (((badN m g.Rules[i] : Nat) : Int) == 1) = true := by rw [hb1]; rfl
            simp only [this, h1, hb0, hb1, decide_false, decide_true, Bool.false_eq_true, if_false, if_true, Bool.false_or, Bool.true_and]
            cases at_ m g.Rules[i].Rhs[q].Nt <;> rfl
          · have h1 : (((badN m g.Rules[i] : Nat) : Int) == 1) = false := by rw [beq_eq_false_iff_ne]; omega
            simp [this, h1, hb0, hb1]
      · simp [h0]
    refine ⟨_, ?_, key⟩
    by_cases hgo : goS m g.Rules[i] g.Rules[i].Rhs[q] = true
    · rw [if_pos hgo]
      refine ⟨by rw [set_len]; exact hI.len, fun a x => ?_, fun a => ?_⟩
      · rw [set_get hl1 (by rw [hI.len]; omega), List.take_succ_eq_append_getElem hq]
        by_cases ha : a = g.Rules[i].Lhs.toNat
        · subst ha
          rw [if_pos rfl, List.mem_append, hat, hI.mem, List.mem_singleton]
          constructor
          · rintro ((h | ⟨_, s', h1, h2⟩) | rfl)
            · exact .inl h
            · exact .inr ⟨rfl, s', List.mem_append.2 (.inl h1), h2⟩
            · exact .inr ⟨rfl, _, List.mem_append.2 (.inr (List.mem_singleton.2 rfl)), hgo, rfl⟩
          · rintro (h | ⟨_, s', h1, h2, h3⟩)
            · exact .inl (.inl h)
            · rw [List.mem_append, List.mem_singleton] at h1
              rcases h1 with h1 | rfl
              · exact .inl (.inr ⟨rfl, s', h1, h2, h3⟩)
              · exact .inr h3
        · rw [if_neg ha, hI.mem]
          simp [ha]
      · rw [set_get hl1 (by rw [hI.len]; omega)]
        by_cases ha : a = g.Rules[i].Lhs.toNat
        · rw [if_pos ha, List.length_append, hat]
          have := hI.sz g.Rules[i].Lhs.toNat
          simp only [List.length_singleton]
          omega
        · rw [if_neg ha]
          have := hI.sz a
          omega
    · rw [if_neg hgo]
      refine ⟨hI.len, fun a x => ?_, fun a => by have := hI.sz a; omega⟩
      rw [hI.mem, List.take_succ_eq_append_getElem hq]
      constructor
      · rintro (h | ⟨h0, s', h1, h2⟩)
        · exact .inl h
        · exact .inr ⟨h0, s', List.mem_append.2 (.inl h1), h2⟩
      · rintro (h | ⟨h0, s', h1, h2, h3⟩)
        · exact .inl h
        · rw [List.mem_append, List.mem_singleton] at h1
          rcases h1 with h1 | rfl
          · exact .inr ⟨h0, s', h1, h2, h3⟩
          · exact absurd h2 hgo
  · rw [List.take_length] at hI
    simp only [F.facts.steps_l6, ix_at hi, ix_ge (Nat.lt_irrefl _), Bool.false_eq_true, if_false]
    exact ⟨_, _, rfl, hI⟩
theorem sum_take_succ {α : Type} (f : α → Nat) {l : List α} {q : Nat} (hq : q < l.length) : ((l.take (q + 1)).map f).sum = ((l.take q).map f).sum + f l[q] := by
  rw [List.take_succ_eq_append_getElem hq, List.map_append, List.sum_append]; simp
theorem sum_take_le {α : Type} (f : α → Nat) (l : List α) (q : Nat) : ((l.take q).map f).sum ≤ (l.map f).sum := by
  have := congrArg (fun l => (l.map f).sum) (List.take_append_drop q l)
  simp only [List.map_append, List.sum_append] at this
  omega
theorem steps_ok {k : Nat} (hk : 20000 ≤ k) (hg : RightG g) (hsm : SmallG g) (hm : m.length = g.Nts.toNat) :
    ∃ out, F.facts.steps k g m = some out ∧ StI g m out (fun a x => ∃ r ∈ g.Rules, a = r.Lhs.toNat ∧ ∃ s ∈ r.Rhs, goS m r s = true ∧ x = s.Nt) 200 := by
  unfold F.facts.steps
  have h1 := hg.n1
  have h2 := hg.n2
  have e1 : decide (0 ≤ g.Nts) = true := decide_eq_true (by omega)
  have e2 : decide (24 * g.Nts.toNat ≤ 140737488355328) = true := decide_eq_true (by omega)
  have e3 : decide (g.Nts.toNat ≤ 9223372036854775807) = true := decide_eq_true (by omega)
  simp only [e1, e2, e3, if_true]
  have hlr := hsm.rules
  have hsum := hsm.sum
  have hle : (g.Rules.map fun r => r.Rhs.length).sum ≤ (g.Rules.map fun r => r.Rhs.length + 1).sum := by
    have : ∀ l : List Rule, (l.map fun r => r.Rhs.length).sum ≤ (l.map fun r => r.Rhs.length + 1).sum := by
      intro l
      induction l with
      | nil => simp
      | cons x l ih => simp only [List.map_cons, List.sum_cons]; omega
    exact this _
  have key := loop_inv0 (n := g.Rules.length) (k := k) (σ := List (List Int)) (s := List.replicate g.Nts.toNat ([] : List Int)) (L := fun j t s => F.facts.steps_l1 k g m j s t)
    (I := fun q s => StI g m s (fun a x => ∃ r ∈ g.Rules.take q, a = r.Lhs.toNat ∧ ∃ s ∈ r.Rhs, goS m r s = true ∧ x = s.Nt) ((g.Rules.take q).map fun r => r.Rhs.length).sum)
    (Q := fun o => ∃ out, o = some out ∧ StI g m out (fun a x => ∃ r ∈ g.Rules, a = r.Lhs.toNat ∧ ∃ s ∈ r.Rhs, goS m r s = true ∧ x = s.Nt) 200) (by omega) ?_ (fun j q s hq hI => ?_) (fun j s hI => ?_)
  · obtain ⟨out, e, hout⟩ := key
    exact ⟨out, by rw [e]; rfl, hout⟩
  · refine ⟨by simp, fun a x => ?_, fun a => ?_⟩
    · simp only [List.take_zero, List.not_mem_nil, false_and, exists_false, iff_false]
      rw [List.getD_eq_getElem?_getD, List.getElem?_replicate]
      split <;> simp
    · rw [List.getD_eq_getElem?_getD, List.getElem?_replicate]
      split <;> simp
  · left
    obtain ⟨z, ez⟩ := steps_l2_ok hk hg hm hq
    have hcb := sum_take_le (fun r : Rule => r.Rhs.length) g.Rules q
    obtain ⟨out', z', e6, hI'⟩ := steps_l6_ok hk hg hm hq (z := z) (by omega) hI
    refine ⟨out', ?_, ?_⟩
    · rw [sum_take_succ _ hq]
      refine ⟨hI'.len, fun a x => ?_, hI'.sz⟩
      rw [hI'.mem, List.take_succ_eq_append_getElem hq]
      constructor
      · rintro (⟨r, h1, h2⟩ | ⟨h1, h2⟩)
        · exact ⟨r, List.mem_append.2 (.inl h1), h2⟩
        · exact ⟨_, List.mem_append.2 (.inr (List.mem_singleton.2 rfl)), h1, h2⟩
      · rintro ⟨r, h1, h2⟩
        rw [List.mem_append, List.mem_singleton] at h1
        rcases h1 with h1 | rfl
        · exact .inl ⟨r, h1, h2⟩
        · exact .inr h2
    · simp only [F.facts.steps_l1, ix_lt hq, ix_in hq, if_true]
      rw [ez, Option.bind_some, e6, Option.bind_some, ix_inc (by omega)]
  · rw [List.take_length] at hI
    simp only [F.facts.steps_l1, ix_ge (Nat.lt_irrefl _), Bool.false_eq_true, if_false]
    exact ⟨_, rfl, hI.len, hI.mem, fun a => Nat.le_trans (hI.sz a) (by omega)⟩
end
end Go.Vc
