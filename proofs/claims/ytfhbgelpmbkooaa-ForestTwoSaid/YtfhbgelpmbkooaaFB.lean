/-
  Which nonterminals may be empty: the program's closure tells just these.
-/
import Derived.Test.YtfhbgelpmbkooaaFA
import Derived.Test.YtfhbgelpmbkooaaGZ
set_option linter.unusedVariables false
set_option linter.unusedSimpArgs false
namespace Go.Vc
open Go Ea
def hasB (s : S4) (b : Int) : Bool := (F.charset.Has s b).getD false
def toSy (w : List Int) (s : KSym) : Sy := if 0 ≤ s.Nt then .nt s.Nt.toNat else .tm fun p => decide (p < w.length) && hasB s.Set (w.getD p 0)
def toRu (w : List Int) (r : Rule) : Ru := ⟨r.Lhs.toNat, r.Rhs.map (toSy w)⟩
def Rs (g : Gram) (w : List Int) : List Ru := g.Rules.map (toRu w)
structure RightG (g : Gram) : Prop where
  n1 : 1 ≤ g.Nts
  n2 : g.Nts ≤ 4096
  s1 : 0 ≤ g.Start
  s2 : g.Start < g.Nts
  len : (g.Rules.length : Int) ≤ 8192
  lhs1 : ∀ r ∈ g.Rules, 0 ≤ r.Lhs
  lhs2 : ∀ r ∈ g.Rules, r.Lhs < g.Nts
  rhs : ∀ r ∈ g.Rules, (r.Rhs.length : Int) ≤ 80
  nt1 : ∀ r ∈ g.Rules, ∀ s ∈ r.Rhs, -1 ≤ s.Nt
  nt2 : ∀ r ∈ g.Rules, ∀ s ∈ r.Rhs, s.Nt < g.Nts
theorem rightG {g : Gram} (h : rightB g = true) : RightG g := by
  unfold rightB at h
  simp only [Bool.and_eq_true, decide_eq_true_eq, List.all_eq_true] at h
  obtain ⟨h1, h2⟩ := h
  have key : ∀ r ∈ g.Rules, (0 ≤ r.Lhs ∧ r.Lhs < g.Nts ∧ (r.Rhs.length : Int) ≤ 80) ∧ ∀ s ∈ r.Rhs, -1 ≤ s.Nt ∧ s.Nt < g.Nts := by
    intro r hr
    have := h2 r hr
    unfold ruleOk at this
    simp only [Bool.and_eq_true, decide_eq_true_eq, List.all_eq_true] at this
    refine ⟨this.1, fun s hs => ?_⟩
    have h3 := this.2 s hs
    unfold symOk at h3
    simp only [Bool.and_eq_true, decide_eq_true_eq] at h3
    exact h3.1
  exact ⟨h1.1, h1.2.1, h1.2.2.1, h1.2.2.2.1, h1.2.2.2.2, fun r hr => (key r hr).1.1, fun r hr => (key r hr).1.2.1, fun r hr => (key r hr).1.2.2, fun r hr s hs => ((key r hr).2 s hs).1, fun r hr s hs => ((key r hr).2 s hs).2⟩
def mkS (m : List Bool) (s : KSym) : Bool := decide (0 ≤ s.Nt) && m.getD s.Nt.toNat false
theorem mkS_ok {m : List Bool} {s : KSym} (h : 0 ≤ s.Nt → s.Nt < (m.length : Int)) : F.facts.Nullable_c1 s m = some (mkS m s) := by
  unfold F.facts.Nullable_c1 mkS
  by_cases h0 : 0 ≤ s.Nt
  · have hin : inR s.Nt m.length = true := inR_iff.2 ⟨h0, h h0⟩
    simp only [h0, decide_true, if_true, hin, Bool.true_and]
    rfl
  · simp [h0]
theorem closure_l4 {k : Nat} (hk : 20000 ≤ k) {g : Gram} (hg : RightG g) {m : List Bool} (hm : m.length = g.Nts.toNat) {i : Nat} (hi : i < g.Rules.length) :
    ∃ r, F.facts.closure_83_l4 g (i : Int) m k 0 = some r ∧ (if g.Rules[i].Rhs.all (mkS m) then ∃ z, r = .done z else ∃ z, r = .out z) := by
  have hr : g.Rules[i] ∈ g.Rules := List.getElem_mem hi
  have hlen := hg.rhs _ hr
  refine loop_inv0 (n := g.Rules[i].Rhs.length) (σ := Unit) (s := ()) (L := fun j t _ => F.facts.closure_83_l4 g (i : Int) m j t) (I := fun q _ => (g.Rules[i].Rhs.take q).all (mkS m) = true)
    (Q := fun o => ∃ r, o = some r ∧ (if g.Rules[i].Rhs.all (mkS m) then ∃ z, r = .done z else ∃ z, r = .out z)) (by omega) (by simp) (fun j q s hq hI => ?_) (fun j s hI => ?_)
  · have hs : g.Rules[i].Rhs[q] ∈ g.Rules[i].Rhs := List.getElem_mem hq
    have hb := hg.nt2 _ hr _ hs
    simp only [F.facts.closure_83_l4, ix_at hi, ix_lt hq, ix_in hq, ix_at hq, if_true]
    rw [mkS_ok (fun h => by rw [hm]; omega), Option.bind_some]
    by_cases hp : mkS m g.Rules[i].Rhs[q] = true
    · refine .inl ⟨(), ?_, ?_⟩
      · rw [List.take_succ_eq_append_getElem hq, List.all_append, hI]; simp [hp]
      · rw [hp]
        simp only [Bool.not_true, Bool.false_eq_true, if_false]
        rw [ix_inc (by omega)]
    · refine .inr ?_
      have : g.Rules[i].Rhs.all (mkS m) = false := by
        rw [Bool.eq_false_iff]
        intro ha
        exact hp (List.all_eq_true.1 ha _ hs)
      rw [Bool.eq_false_iff.2 hp]
      simp only [Bool.not_false, if_true, this, Bool.false_eq_true, if_false]
      exact ⟨_, rfl, _, rfl⟩
  · rw [List.take_length] at hI
    simp only [F.facts.closure_83_l4, ix_at hi, ix_ge (Nat.lt_irrefl _), Bool.false_eq_true, if_false, hI, if_true]
    exact ⟨_, rfl, _, rfl⟩
theorem closure_l2 {k : Nat} (hk : 20000 ≤ k) {g : Gram} (hg : RightG g) {m : List Bool} (hm : m.length = g.Nts.toNat) :
    ∃ r, F.facts.closure_83_l2 k g m k 0 = some r ∧ ((∃ z, r = .done z ∧ ∀ x ∈ g.Rules, m.getD x.Lhs.toNat false = true ∨ x.Rhs.all (mkS m) = false) ∨
      ∃ x ∈ g.Rules, m.getD x.Lhs.toNat false = false ∧ x.Rhs.all (mkS m) = true ∧ ∃ z, r = .out z ∧ z.1 = set_ m x.Lhs true) := by
  have hlen := hg.len
  refine loop_inv0 (n := g.Rules.length) (σ := Unit) (s := ()) (L := fun j t _ => F.facts.closure_83_l2 k g m j t) (I := fun q _ => ∀ x ∈ g.Rules.take q, m.getD x.Lhs.toNat false = true ∨ x.Rhs.all (mkS m) = false)
    (Q := fun o => ∃ r, o = some r ∧ ((∃ z, r = .done z ∧ ∀ x ∈ g.Rules, m.getD x.Lhs.toNat false = true ∨ x.Rhs.all (mkS m) = false) ∨
      ∃ x ∈ g.Rules, m.getD x.Lhs.toNat false = false ∧ x.Rhs.all (mkS m) = true ∧ ∃ z, r = .out z ∧ z.1 = set_ m x.Lhs true)) (by omega) (by simp) (fun j q s hq hI => ?_) (fun j s hI => ?_)
  · have hr : g.Rules[q] ∈ g.Rules := List.getElem_mem hq
    have h1 := hg.lhs1 _ hr
    have h2 := hg.lhs2 _ hr
    have hin : inR g.Rules[q].Lhs m.length = true := inR_iff.2 ⟨h1, by rw [hm]; omega⟩
    simp only [F.facts.closure_83_l2, ix_lt hq, ix_in hq, ix_at hq, hin, if_true]
    unfold F.facts.closure_83_j3
    rw [ix_inc (by omega)]
    have hat : at_ m g.Rules[q].Lhs = m.getD g.Rules[q].Lhs.toNat false := rfl
    have hnext : (m.getD g.Rules[q].Lhs.toNat false = true ∨ g.Rules[q].Rhs.all (mkS m) = false) → ∀ x ∈ g.Rules.take (q + 1), m.getD x.Lhs.toNat false = true ∨ x.Rhs.all (mkS m) = false := by
      intro h x hx
      rw [List.take_succ_eq_append_getElem hq, List.mem_append, List.mem_singleton] at hx
      rcases hx with hx | rfl
      · exact hI x hx
      · exact h
    rw [hat]
    by_cases hmk : m.getD g.Rules[q].Lhs.toNat false = true
    · rw [if_pos hmk]
      exact .inl ⟨(), hnext (.inl hmk), rfl⟩
    · rw [if_neg hmk]
      obtain ⟨r, e, hr'⟩ := closure_l4 hk hg hm hq
      rw [e, Option.bind_some]
      by_cases ha : g.Rules[q].Rhs.all (mkS m) = true
      · rw [if_pos ha] at hr'
        obtain ⟨z, rfl⟩ := hr'
        exact .inr ⟨_, rfl, .inr ⟨_, hr, Bool.eq_false_iff.2 hmk, ha, _, rfl, rfl⟩⟩
      · rw [if_neg ha] at hr'
        obtain ⟨z, rfl⟩ := hr'
        exact .inl ⟨(), hnext (.inr (Bool.eq_false_iff.2 ha)), rfl⟩
  · simp only [F.facts.closure_83_l2, ix_ge (Nat.lt_irrefl _), Bool.false_eq_true, if_false]
    rw [List.take_length] at hI
    exact ⟨_, rfl, .inl ⟨_, rfl, hI⟩⟩
def NulM (g : Gram) (w : List Int) (m : List Bool) : Prop := m.length = g.Nts.toNat ∧ ∀ a, m.getD a false = true ↔ a < g.Nts.toNat ∧ Null (Rs g w) (.nt a)
theorem toSy_null {g : Gram} {w : List Int} {m : List Bool} (h : ∀ a, m.getD a false = true → Null (Rs g w) (.nt a)) {s : KSym} (hs : mkS m s = true) : Null (Rs g w) (toSy w s) := by
  unfold mkS at hs
  simp only [Bool.and_eq_true, decide_eq_true_eq] at hs
  unfold toSy
  rw [if_pos hs.1]
  exact h _ hs.2
theorem mem_Rs {g : Gram} {w : List Int} {r : Rule} (h : r ∈ g.Rules) : toRu w r ∈ Rs g w := List.mem_map_of_mem h
theorem closed_nulM {g : Gram} (hg : RightG g) {w : List Int} {m : List Bool} (hm : m.length = g.Nts.toNat) (h1 : ∀ a, m.getD a false = true → Null (Rs g w) (.nt a))
    (h2 : ∀ x ∈ g.Rules, m.getD x.Lhs.toNat false = true ∨ x.Rhs.all (mkS m) = false) : NulM g w m := by
  refine ⟨hm, fun a => ⟨fun h => ⟨?_, h1 a h⟩, fun h => ?_⟩⟩
  · apply Decidable.byContradiction
    intro hn
    have : m.getD a false = false := by rw [List.getD_eq_getElem?_getD, List.getElem?_eq_none (by omega)]; rfl
    rw [this] at h
    cases h
  · refine null_least (R := Rs g w) (P := fun a => m.getD a false = true) (fun r hr hs => ?_) h.2
    obtain ⟨x, hx, rfl⟩ := List.mem_map.1 hr
    rcases h2 x hx with h3 | h3
    · exact h3
    · exfalso
      have : x.Rhs.all (mkS m) = true := by
        rw [List.all_eq_true]
        intro s hs'
        obtain ⟨b, e, hb⟩ := hs (toSy w s) (List.mem_map_of_mem hs')
        unfold toSy at e
        by_cases h0 : 0 ≤ s.Nt
        · rw [if_pos h0] at e
          cases e
          unfold mkS
          rw [hb, decide_eq_true h0]; rfl
        · rw [if_neg h0] at e
          cases e
      rw [this] at h3
      cases h3
theorem count_false_set {m : List Bool} {a : Nat} (ha : a < m.length) (h : m.getD a false = false) : (m.set a true).count false + 1 = m.count false := by
  have hm : m[a] = false := by
    have := h
    simp [ha] at this
    exact this
  have hp : 0 < m.count false := List.count_pos_iff.2 (by rw [← hm]; exact List.getElem_mem ha)
  rw [List.count_set ha, hm]
  simp
  omega
theorem getD_set {m : List Bool} {a b : Nat} (ha : a < m.length) : (m.set a true).getD b false = if b = a then true else m.getD b false := by
  rw [List.getD_eq_getElem?_getD, List.getElem?_set]
  by_cases h : a = b
  · subst h; simp [ha]
  · rw [if_neg h, if_neg (fun e => h e.symm), List.getD_eq_getElem?_getD]
theorem closure_l1 {k : Nat} (hk : 20000 ≤ k) {g : Gram} (hg : RightG g) (w : List Int) : ∀ (j : Nat) (m : List Bool), m.length = g.Nts.toNat → (∀ a, m.getD a false = true → Null (Rs g w) (.nt a)) → m.count false < j →
    ∃ m', F.facts.closure_83_l1 k g j m = some (.ret m') ∧ NulM g w m'
  | 0, _, _, _, h => by omega
  | j + 1, m, hm, h1, hj => by
    obtain ⟨r, e, hr⟩ := closure_l2 hk hg hm
    simp only [F.facts.closure_83_l1, e, Option.bind_some]
    rcases hr with ⟨z, rfl, h2⟩ | ⟨x, hx, h2, h3, z, rfl, hz⟩
    · exact ⟨m, rfl, closed_nulM hg hm h1 h2⟩
    · have hl1 := hg.lhs1 _ hx
      have hl2 := hg.lhs2 _ hx
      have hlt : x.Lhs.toNat < m.length := by rw [hm]; omega
      have hs : set_ m x.Lhs true = m.set x.Lhs.toNat true := rfl
      have hc := count_false_set hlt h2
      obtain ⟨m', e', hm'⟩ := closure_l1 hk hg w j (m.set x.Lhs.toNat true) (by rw [List.length_set, hm]) (fun a ha => by
        rw [getD_set hlt] at ha
        by_cases hax : a = x.Lhs.toNat
        · subst hax
          exact null_closed (mem_Rs hx) fun s hs' => by
            obtain ⟨y, hy, rfl⟩ := List.mem_map.1 hs'
            exact toSy_null h1 (List.all_eq_true.1 h3 y hy)
        · rw [if_neg hax] at ha
          exact h1 a ha) (by omega)
      refine ⟨m', ?_, hm'⟩
      rw [← e']
      show F.facts.closure_83_l1 k g j z.1 = _
      rw [hz, hs]
theorem Nullable_ok {k : Nat} (hk : 20000 ≤ k) {g : Gram} (h : rightB g = true) (w : List Int) : ∃ m, F.facts.Nullable k g = some (m, 0) ∧ NulM g w m := by
  have hg := rightG h
  unfold F.facts.Nullable F.facts.closure_83
  rw [Right_ok hk, h, if_pos rfl, Option.bind_some]
  have h1 := hg.n1
  have h2 := hg.n2
  have e1 : decide (0 ≤ g.Nts) = true := decide_eq_true (by omega)
  have e2 : decide (1 * g.Nts.toNat ≤ 140737488355328) = true := decide_eq_true (by omega)
  have e3 : decide (g.Nts.toNat ≤ 9223372036854775807) = true := decide_eq_true (by omega)
  obtain ⟨m, e, hm⟩ := closure_l1 hk hg w k (List.replicate g.Nts.toNat false) (by simp) (fun a ha => by
    exfalso
    rw [List.getD_eq_getElem?_getD, List.getElem?_replicate] at ha
    split at ha <;> cases ha) (by
    have := List.count_le_length (a := false) (l := List.replicate g.Nts.toNat false)
    simp at this ⊢
    omega)
  refine ⟨m, ?_, hm⟩
  simp only [e1, e2, e3, if_true, e, Option.bind_some]
  rfl
end Go.Vc
