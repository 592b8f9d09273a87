import Derived.Test.YtfhbgelpmbkooaaFA
import Derived.Test.YtfhbgelpmbkooaaGZ
set_option linter.unusedVariables false
set_option linter.unusedSimpArgs false
namespace Go.Vc
open Go Ea
def hasB (s : S4) (b : Int) : Bool := (F.charset.Has s b).getD false
def toSy (w : List Int) (s : KSym) : Sy := if 0 ≤ s.Nt then .nt s.Nt.toNat else .tm fun p => decide (p < w.length) && hasB s.Set (w.getD p 0)
def toRu (w : List Int) (r : Rule) : Ru := ⟨r.Lhs.toNat, r.Rhs.map (toSy w)⟩
def Rs (g : Gram) (w : List Int) : List Ru := g.Rules.map (toRu w)
structure RightG (g : Gram) : Prop where
  n1 : 1 ≤ g.Nts
  n2 : g.Nts ≤ 4096
  s1 : 0 ≤ g.Start
  s2 : g.Start < g.Nts
  len : (g.Rules.length : Int) ≤ 8192
  lhs1 : ∀ r ∈ g.Rules, 0 ≤ r.Lhs
  lhs2 : ∀ r ∈ g.Rules, r.Lhs < g.Nts
  rhs : ∀ r ∈ g.Rules, (r.Rhs.length : Int) ≤ 80
  nt1 : ∀ r ∈ g.Rules, ∀ s ∈ r.Rhs, -1 ≤ s.Nt
  nt2 : ∀ r ∈ g.Rules, ∀ s ∈ r.Rhs, s.Nt < g.Nts
theorem rightG {g : Gram} (h : rightB g = true) : RightG g := by
  unfold rightB at h
  simp only [Bool.and_eq_true, decide_eq_true_eq, List.all_eq_true] at h
  obtain ⟨h1, h2⟩ := h
  have key : ∀ r ∈ g.Rules, (0 ≤ r.Lhs ∧ r.Lhs < g.Nts ∧ (r.Rhs.length : Int) ≤ 80) ∧ ∀ s ∈ r.Rhs, -1 ≤ s.Nt ∧ s.Nt < g.Nts := by
    intro r hr
    have := h2 r hr
    unfold ruleOk at this
    simp only [Bool.and_eq_true, decide_eq_true_eq, List.all_eq_true] at this
    refine ⟨this.1, fun s hs => ?_⟩
    have h3 := this.2 s hs
    unfold symOk at h3
    simp only [Bool.and_eq_true, decide_eq_true_eq] at h3
    exact h3.1
  exact ⟨h1.1, h1.2.1, h1.2.2.1, h1.2.2.2.1, h1.2.2.2.2, fun r hr => (key r hr).1.1, fun r hr => (key r hr).1.2.1, fun r hr => (key r hr).1.2.2, fun r hr s hs => ((key r hr).2 s hs).1, fun r hr s hs => ((key r hr).2 s hs).2⟩
def mkS (m : List Bool) (s : KSym) : Bool := decide (0 ≤ s.Nt) && m.getD s.Nt.toNat false
theorem mkS_ok {m : List Bool} {s : KSym} (h : 0 ≤ s.Nt → s.Nt < (m.length : Int)) : F.facts.Nullable_c1 s m = some (mkS m s) := by
  unfold F.facts.Nullable_c1 mkS
  by_cases h0 : 0 ≤ s.Nt
  · have hin : inR s.Nt m.length = true := inR_iff.2 ⟨h0, h h0⟩
    simp only [h0, decide_true, if_true, hin, Bool.true_and]
    rfl
  · simp [h0]
theorem closure_l4 {k : Nat} (hk : 20000 ≤ k) {g : Gram} (hg : RightG g) {m : List Bool} (hm : m.length = g.Nts.toNat) {i : Nat} (hi : i < g.Rules.length) :
    ∃ r, F.facts.closure_83_l4 g (i : Int) m k 0 = some r ∧ (if g.Rules[i].Rhs.all (mkS m) then ∃ z, r = .done z else ∃ z, r = .out z) := by
  have hr : g.Rules[i] ∈ g.Rules := List.getElem_mem hi
  have hlen := hg.rhs _ hr
  refine loop_inv0 (n := g.Rules[i].Rhs.length) (σ := Unit) (s := ()) (L := fun j t _ => F.facts.closure_83_l4 g (i : Int) m j t) (I := fun q _ => (g.Rules[i].Rhs.take q).all (mkS m) = true)
    (Q := fun o => ∃ r, o = some r ∧ (if g.Rules[i].Rhs.all (mkS m) then ∃ z, r = .done z else ∃ z, r = .out z)) (by omega) (by simp) (fun j q s hq hI => ?_) (fun j s hI => ?_)
  · have hs : g.Rules[i].Rhs[q] ∈ g.Rules[i].Rhs := List.getElem_mem hq
    have hb := hg.nt2 _ hr _ hs
    simp only [F.facts.closure_83_l4, ix_at hi, ix_lt hq, ix_in hq, ix_at hq, if_true]
    rw [mkS_ok (fun h => by rw [hm]; omega), Option.bind_some]
    by_cases hp : mkS m g.Rules[i].Rhs[q] = true
    · refine .inl ⟨(), ?_, ?_⟩
      · rw [List.take_succ_eq_append_getElem hq, List.all_append, hI]; simp [hp]
      · rw [hp]
        simp only [Bool.not_true, Bool.false_eq_true, if_false]
        rw [ix_inc (by omega)]
    · refine .inr ?_
      have : g.Rules[i].Rhs.all (mkS m) = false := by
        rw [Bool.eq_false_iff]
        intro ha
        exact hp (List.all_eq_true.1 ha _ hs)
      rw [Bool.eq_false_iff.2 hp]
      simp only [Bool.not_false, if_true, this, Bool.false_eq_true, if_false]
      exact ⟨_, rfl, _, rfl⟩
  · rw [List.take_length] at hI
    simp only [F.facts.closure_83_l4, ix_at hi, ix_ge (Nat.lt_irrefl _), Bool.false_eq_true, if_false, hI, if_true]
    exact ⟨_, rfl, _, rfl⟩
theorem closure_l2 {k : Nat} (hk : 20000 ≤ k) {g : Gram} (hg : RightG g) {m : List Bool} (hm : m.length = g.Nts.toNat) :
    ∃ r, F.facts.closure_83_l2 k g m k 0 = some r ∧ ((∃ z, r = .done z ∧ ∀ x ∈ g.Rules, m.getD x.Lhs.toNat false = true ∨ x.Rhs.all (mkS m) = false) ∨
      ∃ x ∈ g.Rules, m.getD x.Lhs.toNat false = false ∧ x.Rhs.all (mkS m) = true ∧ ∃ z, r = .out z ∧ z.1 = set_ m x.Lhs true) := by
  have hlen := hg.len
  refine loop_inv0 (n := g.Rules.length) (σ := Unit) (s := ()) (L := fun j t _ => F.facts.closure_83_l2 k g m j t) (I := fun q _ => ∀ x ∈ g.Rules.take q, m.getD x.Lhs.toNat false = true ∨ x.Rhs.all (mkS m) = false)
    (Q := fun o => ∃ r, o = some r ∧ ((∃ z, r = .done z ∧ ∀ x ∈ g.Rules, m.getD x.Lhs.toNat false = true ∨ x.Rhs.all (mkS m) = false) ∨
      ∃ x ∈ g.Rules, m.getD x.Lhs.toNat false = false ∧ x.Rhs.all (mkS m) = true ∧ ∃ z, r = .out z ∧ z.1 = set_ m x.Lhs true)) (by omega) (by simp) (fun j q s hq hI => ?_) (fun j s hI => ?_)
  · have hr : g.Rules[q] ∈ g.Rules := List.getElem_mem hq
    have h1 := hg.lhs1 _ hr
    have h2 := hg.lhs2 _ hr
    have hin : inR g.Rules[q].Lhs m.length = true := inR_iff.2 ⟨h1, by rw [hm]; omega⟩
    simp only [F.facts.closure_83_l2, ix_lt hq, ix_in hq, ix_at hq, hin, if_true]
    unfold F.facts.closure_83_j3
    rw [ix_inc (by omega)]
    have hat : at_ m g.Rules[q].Lhs = m.getD g.Rules[q].Lhs.toNat false := rfl
    have hnext : (m.getD g.Rules[q].Lhs.toNat false = true ∨ g.Rules[q].Rhs.all (mkS m) = false) → ∀ x ∈ g.Rules.take (q + 1), m.getD x.Lhs.toNat false = true ∨ x.Rhs.all (mkS m) = false := by
      intro h x hx
      rw [List.take_succ_eq_append_getElem hq, List.mem_append, List.mem_singleton] at hx
      rcases hx with hx | rfl
      · exact hI x hx
      · exact h
    rw [hat]
    by_cases hmk : m.getD g.Rules[q].Lhs.toNat false = true
    · rw [if_pos hmk]
      exact .inl ⟨(), hnext (.inl hmk), rfl⟩
    · rw [if_neg hmk]
      obtain ⟨r, e, hr'⟩ := closure_l4 hk hg hm hq
      rw [e, Option.bind_some]
      by_cases ha : g.Rules[q].Rhs.all (mkS m) = true
      · rw [if_pos ha] at hr'
        obtain ⟨z, rfl⟩ := hr'
        exact .inr ⟨_, rfl, .inr ⟨_, hr, Bool.eq_false_iff.2 hmk, ha, _, rfl, rfl⟩⟩
      · rw [if_neg ha] at hr'
        obtain ⟨z, rfl⟩ := hr'
        exact .inl ⟨(), hnext (.inr (Bool.eq_false_iff.2 ha)), rfl⟩
  · simp only [F.facts.closure_83_l2, ix_ge (Nat.lt_irrefl _), Bool.false_eq_true, if_false]
    rw [List.take_length] at hI
    exact ⟨_, rfl, .inl ⟨_, rfl, hI⟩⟩
def NulM (g : Gram) (w : List Int) (m : List Bool) : Prop := m.length = g.Nts.toNat ∧ ∀ a, m.getD a false = true ↔ a < g.Nts.toNat ∧ Null (Rs g w) (.nt a)
theorem toSy_null {g : Gram} {w : List Int} {m : List Bool} (h : ∀ a, m.getD a false = true → Null (Rs g w) (.nt a)) {s : KSym} (hs : mkS m s = true) : Null (Rs g w) (toSy w s) := by
  unfold mkS at hs
  simp only [Bool.and_eq_true, decide_eq_true_eq] at hs
  unfold toSy
  rw [if_pos hs.1]
  exact h _ hs.2
theorem mem_Rs {g : Gram} {w : List Int} {r : Rule} (h : r ∈ g.Rules) : toRu w r ∈ Rs g w := List.mem_map_of_mem h
theorem closed_nulM {g : Gram} (hg : RightG g) {w : List Int} {m : List Bool} (hm : m.length = g.Nts.toNat) (h1 : ∀ a, m.getD a false = true → Null (Rs g w) (.nt a))
    (h2 : ∀ x ∈ g.Rules, m.getD x.Lhs.toNat false = true ∨ x.Rhs.all (mkS m) = false) : NulM g w m := by
  refine ⟨hm, fun a => ⟨fun h => ⟨?_, h1 a h⟩, fun h => ?_⟩⟩
  · apply Decidable.byContradiction
    intro hn
    have : m.getD a false = false := by rw [List.getD_eq_getElem?_getD, List.getElem?_eq_none (by omega)]; rfl
    rw [this] at h
    cases h
  · refine null_least (R := Rs g w) (P := fun a => m.getD a false = true) (fun r hr hs => ?_) h.2
    obtain ⟨x, hx, rfl⟩ := List.mem_map.1 hr
    rcases h2 x hx with h3 | h3
    · exact h3
    · exfalso
      have : x.Rhs.all (mkS m) = true := by
        rw [List.all_eq_true]
        intro s hs'
        obtain ⟨b, e, hb⟩ := hs (toSy w s) (List.mem_map_of_mem hs')
        unfold toSy at e
        by_cases h0 : 0 ≤ s.Nt
        · rw [if_pos h0] at e
          cases e
          unfold mkS
          rw [hb, decide_eq_true h0]; rfl
        · rw [if_neg h0] at e
          cases e
      rw [this] at h3
      cases h3
theorem count_false_set {m : List Bool} {a : Nat} (ha : a < m.length) (h : m.getD a false = false) : (m.set a true).count false + 1 = m.count false := by
  have hm : m[a] = false := by
    have := h
    simp [ha] at this
    exact this
  have hp : 0 < m.count false := List.count_pos_iff.2 (by rw [← hm]; exact List.getElem_mem ha)
  rw [List.count_set ha, hm]
  simp
  omega
theorem getD_set {m : List Bool} {a b : Nat} (ha : a < m.length) : (m.set a true).getD b false = if b = a then true else m.getD b false := by
  rw [List.getD_eq_getElem?_getD, List.getElem?_set]
  by_cases h : a = b
  · subst h; simp [ha]
  · rw [if_neg h, if_neg (fun e => h e.symm), List.getD_eq_getElem?_getD]
theorem closure_l1 {k : Nat} (hk : 20000 ≤ k) {g : Gram} (hg : RightG g) (w : List Int) : ∀ (j : Nat) (m : List Bool), m.length = g.Nts.toNat → (∀ a, m.getD a false = true → Null (Rs g w) (.nt a)) → m.count false < j →
    ∃ m', F.facts.closure_83_l1 k g j m = some (.ret m') ∧ NulM g w m'
  | 0, _, _, _, h => by omega
  | j + 1, m, hm, h1, hj => by
    obtain ⟨r, e, hr⟩ := closure_l2 hk hg hm
    simp only [F.facts.closure_83_l1, e, Option.bind_some]
    rcases hr with ⟨z, rfl, h2⟩ | ⟨x, hx, h2, h3, z, rfl, hz⟩
    · exact ⟨m, rfl, closed_nulM hg hm h1 h2⟩
    · have hl1 := hg.lhs1 _ hx
      have hl2 := hg.lhs2 _ hx
      have hlt : x.Lhs.toNat < m.length := by rw [hm]; omega
      have hs : set_ m x.Lhs true = m.set x.Lhs.toNat true := rfl
      have hc := count_false_set hlt h2
      obtain ⟨m', e', hm'⟩ := closure_l1 hk hg w j (m.set x.Lhs.toNat true) (by rw [List.length_set, hm]) (fun a ha => by
        rw [getD_set hlt] at ha
        by_cases hax : a = x.Lhs.toNat
        · subst hax
          exact null_closed (mem_Rs hx) fun s hs' => by
            obtain ⟨y, hy, rfl⟩ := List.mem_map.1 hs'
            exact toSy_null h1 (List.all_eq_true.1 h3 y hy)
        · rw [if_neg hax] at ha
          exact h1 a ha) (by omega)
      refine ⟨m', ?_, hm'⟩
      rw [← e']
      show F.facts.closure_83_l1 k g j z.1 = _
      rw [hz, hs]
theorem Nullable_ok {k : Nat} (hk : 20000 ≤ k) {g : Gram} (h : rightB g = true) (w : List Int) : ∃ m, F.facts.Nullable k g = some (m, 0) ∧ NulM g w m := by
  have hg := rightG h
  unfold F.facts.Nullable F.facts.closure_83
  rw [Right_ok hk, h, if_pos rfl, Option.bind_some]
  have h1 := hg.n1
  have h2 := hg.n2
  have e1 : decide (0 ≤ g.Nts) = true := decide_eq_true (by omega)
  have e2 : decide (1 * g.Nts.toNat ≤ 140737488355328) = true := decide_eq_true (by omega)
  have e3 : decide (g.Nts.toNat ≤ 9223372036854775807) = true := decide_eq_true (by omega)
  obtain ⟨m, e, hm⟩ := closure_l1 hk hg w k (List.replicate g.Nts.toNat false) (by simp) (fun a ha => by
    exfalso
    rw [List.getD_eq_getElem?_getD, List.getElem?_replicate] at ha
    split at ha <;> cases ha) (by
    have := List.count_le_length (a := false) (l := List.replicate g.Nts.toNat false)
    simp at this ⊢
    omega)
  refine ⟨m, ?_, hm⟩
  simp only [e1, e2, e3, if_true, e, Option.bind_some]
  rfl
end Go.Vc
namespace Go.Vc
open Go Ea
structure SmallG (g : Gram) : Prop where
  nts : g.Nts ≤ 200
  sum : (g.Rules.map fun r => r.Rhs.length + 1).sum ≤ 200
theorem len_le_sum {α : Type} (f : α → Nat) : ∀ (l : List α), l.length ≤ (l.map fun x => f x + 1).sum
  | [] => by simp
  | x :: l => by have := len_le_sum f l; simp only [List.length_cons, List.map_cons, List.sum_cons]; omega
theorem mem_le_sum {α : Type} (f : α → Nat) : ∀ {l : List α} {x : α}, x ∈ l → f x ≤ (l.map f).sum
  | y :: l, x, h => by
    rcases List.mem_cons.1 h with rfl | h
    · simp only [List.map_cons, List.sum_cons]; omega
    · have := mem_le_sum f h; simp only [List.map_cons, List.sum_cons]; omega
theorem SmallG.rules {g : Gram} (h : SmallG g) : g.Rules.length ≤ 200 := by have := len_le_sum (fun r : Rule => r.Rhs.length) g.Rules; have := h.sum; omega
theorem SmallG.rhs {g : Gram} (h : SmallG g) {r : Rule} (hr : r ∈ g.Rules) : r.Rhs.length < 200 := by have := mem_le_sum (fun r : Rule => r.Rhs.length + 1) hr; have := h.sum; omega
def badN (m : List Bool) (r : Rule) : Nat := r.Rhs.countP fun s => !mkS m s
def goS (m : List Bool) (r : Rule) (s : KSym) : Bool := decide (0 ≤ s.Nt) && (decide (badN m r = 0) || (decide (badN m r = 1) && !mkS m s))
section
variable {g : Gram} {w : List Int} {m : List Bool}
theorem mkS_nt {s : KSym} (h0 : 0 ≤ s.Nt) : mkS m s = at_ m s.Nt := by
  unfold mkS
  rw [decide_eq_true h0]; rfl
theorem steps_l2_ok {k : Nat} (hk : 20000 ≤ k) (hg : RightG g) (hm : m.length = g.Nts.toNat) {i : Nat} (hi : i < g.Rules.length) : ∃ z, F.facts.steps_l2 g (i : Int) m k 0 0 = some (((badN m g.Rules[i] : Nat) : Int), z) := by
  have hr : g.Rules[i] ∈ g.Rules := List.getElem_mem hi
  have hlen := hg.rhs _ hr
  refine loop_inv0 (n := g.Rules[i].Rhs.length) (σ := Int) (s := 0) (L := fun j t s => F.facts.steps_l2 g (i : Int) m j s t) (I := fun q s => s = (((g.Rules[i].Rhs.take q).countP fun s => !mkS m s : Nat) : Int))
    (Q := fun o => ∃ z, o = some (((badN m g.Rules[i] : Nat) : Int), z)) (by omega) (by simp) (fun j q s hq hI => ?_) (fun j s hI => ?_)
  · have hs : g.Rules[i].Rhs[q] ∈ g.Rules[i].Rhs := List.getElem_mem hq
    have hb := hg.nt2 _ hr _ hs
    left
    simp only [F.facts.steps_l2, ix_at hi, ix_lt hq, ix_in hq, ix_at hq, if_true]
    unfold F.facts.steps_j4 F.facts.steps_j5 F.facts.steps_j3
    rw [ix_inc (by omega)]
    have hcl : (g.Rules[i].Rhs.take q).countP (fun s => !mkS m s) ≤ q := by
      have := List.countP_le_length (p := fun s => !mkS m s) (l := g.Rules[i].Rhs.take q)
      simp only [List.length_take] at this
      omega
    have htk : (g.Rules[i].Rhs.take (q + 1)).countP (fun s => !mkS m s) = (g.Rules[i].Rhs.take q).countP (fun s => !mkS m s) + if mkS m g.Rules[i].Rhs[q] then 0 else 1 := by
      rw [List.take_succ_eq_append_getElem hq, List.countP_append, List.countP_singleton]
      cases mkS m g.Rules[i].Rhs[q] <;> rfl
    have key : (if decide (g.Rules[i].Rhs[q].Nt < 0) = true then (if true = true then F.facts.steps_l2 g (i : Int) m j (IntKind.wrap .i64 (s + 1)) ((q + 1 : Nat) : Int) else F.facts.steps_l2 g (i : Int) m j s ((q + 1 : Nat) : Int)) else if inR g.Rules[i].Rhs[q].Nt m.length = true then (if (!at_ m g.Rules[i].Rhs[q].Nt) = true then F.facts.steps_l2 g (i : Int) m j (IntKind.wrap .i64 (s + 1)) ((q + 1 : Nat) : Int) else F.facts.steps_l2 g (i : Int) m j s ((q + 1 : Nat) : Int)) else none) = if mkS m g.Rules[i].Rhs[q] = true then F.facts.steps_l2 g (i : Int) m j s ((q + 1 : Nat) : Int) else F.facts.steps_l2 g (i : Int) m j (IntKind.wrap .i64 (s + 1)) ((q + 1 : Nat) : Int) := by
      by_cases h0 : g.Rules[i].Rhs[q].Nt < 0
      · have : mkS m g.Rules[i].Rhs[q] = false := by unfold mkS; rw [decide_eq_false (by omega)]; rfl
        simp [h0, this]
      · have hin : inR g.Rules[i].Rhs[q].Nt m.length = true := inR_iff.2 ⟨by omega, by rw [hm]; omega⟩
        rw [mkS_nt (by omega), hin]
        simp only [h0, decide_false, Bool.false_eq_true, if_false, if_true]
        cases at_ m g.Rules[i].Rhs[q].Nt <;> rfl
    refine ⟨if mkS m g.Rules[i].Rhs[q] = true then s else s + 1, ?_, key.trans ?_⟩
    · rw [htk, hI]
      cases mkS m g.Rules[i].Rhs[q] <;> simp
    · cases mkS m g.Rules[i].Rhs[q] with
      | true => rfl
      | false =>
        simp only [Bool.false_eq_true, if_false]
        rw [hI, wrap_i64 (by omega) (by omega)]
  · rw [List.take_length] at hI
    simp only [F.facts.steps_l2, ix_at hi, ix_ge (Nat.lt_irrefl _), Bool.false_eq_true, if_false]
    exact ⟨_, by rw [hI]; rfl⟩
structure StI (g : Gram) (m : List Bool) (out : List (List Int)) (P : Nat → Int → Prop) (c : Nat) : Prop where
  len : out.length = g.Nts.toNat
  mem : ∀ a x, x ∈ out.getD a [] ↔ P a x
  sz : ∀ a, (out.getD a []).length ≤ c
theorem set_get {α : Type} {xs : List (List α)} {i : Int} (h0 : 0 ≤ i) (hi : i < (xs.length : Int)) (x : List α) (a : Nat) : (set_ xs i x).getD a [] = if a = i.toNat then x else xs.getD a [] := by
  unfold set_
  rw [List.getD_eq_getElem?_getD, List.getElem?_set]
  by_cases h : i.toNat = a
  · subst h
    have : i.toNat < xs.length := by omega
    simp [this]
  · rw [if_neg h, if_neg (fun e => h e.symm), List.getD_eq_getElem?_getD]
theorem steps_l6_ok {k : Nat} (hk : 20000 ≤ k) (hg : RightG g) (hm : m.length = g.Nts.toNat) {i : Nat} (hi : i < g.Rules.length) {z : Int} {out : List (List Int)} {P : Nat → Int → Prop} {c : Nat} (hc : c < 100000) (hI0 : StI g m out P c) :
    ∃ out' z', F.facts.steps_l6 g (i : Int) (((badN m g.Rules[i] : Nat) : Int), z) m k out 0 = some (out', z') ∧ StI g m out' (fun a x => P a x ∨ (a = g.Rules[i].Lhs.toNat ∧ ∃ s ∈ g.Rules[i].Rhs, goS m g.Rules[i] s = true ∧ x = s.Nt)) (c + g.Rules[i].Rhs.length) := by
  have hr : g.Rules[i] ∈ g.Rules := List.getElem_mem hi
  have hlen := hg.rhs _ hr
  have hl1 := hg.lhs1 _ hr
  have hl2 := hg.lhs2 _ hr
  refine loop_inv0 (n := g.Rules[i].Rhs.length) (σ := List (List Int)) (s := out) (L := fun j t s => F.facts.steps_l6 g (i : Int) (((badN m g.Rules[i] : Nat) : Int), z) m j s t)
    (I := fun q s => StI g m s (fun a x => P a x ∨ (a = g.Rules[i].Lhs.toNat ∧ ∃ s ∈ g.Rules[i].Rhs.take q, goS m g.Rules[i] s = true ∧ x = s.Nt)) (c + q))
    (Q := fun o => ∃ out' z', o = some (out', z') ∧ StI g m out' (fun a x => P a x ∨ (a = g.Rules[i].Lhs.toNat ∧ ∃ s ∈ g.Rules[i].Rhs, goS m g.Rules[i] s = true ∧ x = s.Nt)) (c + g.Rules[i].Rhs.length)) (by omega) ?_ (fun j q s hq hI => ?_) (fun j s hI => ?_)
  · refine ⟨hI0.len, fun a x => ?_, fun a => by have := hI0.sz a; omega⟩
    rw [hI0.mem]
    simp
  · have hs : g.Rules[i].Rhs[q] ∈ g.Rules[i].Rhs := List.getElem_mem hq
    have hb := hg.nt2 _ hr _ hs
    left
    have hin : inR g.Rules[i].Lhs s.length = true := inR_iff.2 ⟨hl1, by rw [hI.len]; omega⟩
    have hszb := hI.sz g.Rules[i].Lhs.toNat
    have hat : at_ s g.Rules[i].Lhs = s.getD g.Rules[i].Lhs.toNat [] := rfl
    have e1 : decide (((at_ s g.Rules[i].Lhs).length + ([g.Rules[i].Rhs[q].Nt] : List Int).length) * 8 ≤ 140737488355328) = true := decide_eq_true (by rw [hat]; simp only [List.length_singleton]; omega)
    have e2 : decide ((at_ s g.Rules[i].Lhs).length + ([g.Rules[i].Rhs[q].Nt] : List Int).length ≤ 9223372036854775807) = true := decide_eq_true (by rw [hat]; simp only [List.length_singleton]; omega)
    have key : F.facts.steps_l6 g (i : Int) (((badN m g.Rules[i] : Nat) : Int), z) m (j + 1) s (q : Int) = F.facts.steps_l6 g (i : Int) (((badN m g.Rules[i] : Nat) : Int), z) m j (if goS m g.Rules[i] g.Rules[i].Rhs[q] = true then set_ s g.Rules[i].Lhs (at_ s g.Rules[i].Lhs ++ [g.Rules[i].Rhs[q].Nt]) else s) ((q + 1 : Nat) : Int) := by
      simp only [F.facts.steps_l6, ix_at hi, ix_lt hq, ix_in hq, ix_at hq, if_true]
      unfold F.facts.steps_j8 F.facts.steps_j10 F.facts.steps_j9 F.facts.steps_j7 goS
      rw [ix_inc (by omega)]
      simp only [ix_at hi, ix_at hq, hin, e1, e2, if_true]
      by_cases h0 : 0 ≤ g.Rules[i].Rhs[q].Nt
      · have hin2 : inR g.Rules[i].Rhs[q].Nt m.length = true := inR_iff.2 ⟨by omega, by rw [hm]; omega⟩
        simp only [h0, decide_true, if_true, Bool.true_and, hin2, mkS_nt h0]
        by_cases hb0 : badN m g.Rules[i] = 0
        · have : (((badN m g.Rules[i] : Nat) : Int) == 0) = true := by rw [hb0]; rfl
          simp [this, hb0]
        · have : (((badN m g.Rules[i] : Nat) : Int) == 0) = false := by rw [beq_eq_false_iff_ne]; omega
          by_cases hb1 : badN m g.Rules[i] = 1
          · have h1 : (((badN m g.Rules[i] : Nat) : Int) == 1) = true := by rw [hb1]; rfl
            simp only [this, h1, hb0, hb1, decide_false, decide_true, Bool.false_eq_true, if_false, if_true, Bool.false_or, Bool.true_and]
            cases at_ m g.Rules[i].Rhs[q].Nt <;> rfl
          · have h1 : (((badN m g.Rules[i] : Nat) : Int) == 1) = false := by rw [beq_eq_false_iff_ne]; omega
            simp [this, h1, hb0, hb1]
      · simp [h0]
    refine ⟨_, ?_, key⟩
    by_cases hgo : goS m g.Rules[i] g.Rules[i].Rhs[q] = true
    · rw [if_pos hgo]
      refine ⟨by rw [set_len]; exact hI.len, fun a x => ?_, fun a => ?_⟩
      · rw [set_get hl1 (by rw [hI.len]; omega), List.take_succ_eq_append_getElem hq]
        by_cases ha : a = g.Rules[i].Lhs.toNat
        · subst ha
          rw [if_pos rfl, List.mem_append, hat, hI.mem, List.mem_singleton]
          constructor
          · rintro ((h | ⟨_, s', h1, h2⟩) | rfl)
            · exact .inl h
            · exact .inr ⟨rfl, s', List.mem_append.2 (.inl h1), h2⟩
            · exact .inr ⟨rfl, _, List.mem_append.2 (.inr (List.mem_singleton.2 rfl)), hgo, rfl⟩
          · rintro (h | ⟨_, s', h1, h2, h3⟩)
            · exact .inl (.inl h)
            · rw [List.mem_append, List.mem_singleton] at h1
              rcases h1 with h1 | rfl
              · exact .inl (.inr ⟨rfl, s', h1, h2, h3⟩)
              · exact .inr h3
        · rw [if_neg ha, hI.mem]
          simp [ha]
      · rw [set_get hl1 (by rw [hI.len]; omega)]
        by_cases ha : a = g.Rules[i].Lhs.toNat
        · rw [if_pos ha, List.length_append, hat]
          have := hI.sz g.Rules[i].Lhs.toNat
          simp only [List.length_singleton]
          omega
        · rw [if_neg ha]
          have := hI.sz a
          omega
    · rw [if_neg hgo]
      refine ⟨hI.len, fun a x => ?_, fun a => by have := hI.sz a; omega⟩
      rw [hI.mem, List.take_succ_eq_append_getElem hq]
      constructor
      · rintro (h | ⟨h0, s', h1, h2⟩)
        · exact .inl h
        · exact .inr ⟨h0, s', List.mem_append.2 (.inl h1), h2⟩
      · rintro (h | ⟨h0, s', h1, h2, h3⟩)
        · exact .inl h
        · rw [List.mem_append, List.mem_singleton] at h1
          rcases h1 with h1 | rfl
          · exact .inr ⟨h0, s', h1, h2, h3⟩
          · exact absurd h2 hgo
  · rw [List.take_length] at hI
    simp only [F.facts.steps_l6, ix_at hi, ix_ge (Nat.lt_irrefl _), Bool.false_eq_true, if_false]
    exact ⟨_, _, rfl, hI⟩
theorem sum_take_succ {α : Type} (f : α → Nat) {l : List α} {q : Nat} (hq : q < l.length) : ((l.take (q + 1)).map f).sum = ((l.take q).map f).sum + f l[q] := by
  rw [List.take_succ_eq_append_getElem hq, List.map_append, List.sum_append]; simp
theorem sum_take_le {α : Type} (f : α → Nat) (l : List α) (q : Nat) : ((l.take q).map f).sum ≤ (l.map f).sum := by
  have := congrArg (fun l => (l.map f).sum) (List.take_append_drop q l)
  simp only [List.map_append, List.sum_append] at this
  omega
theorem steps_ok {k : Nat} (hk : 20000 ≤ k) (hg : RightG g) (hsm : SmallG g) (hm : m.length = g.Nts.toNat) :
    ∃ out, F.facts.steps k g m = some out ∧ StI g m out (fun a x => ∃ r ∈ g.Rules, a = r.Lhs.toNat ∧ ∃ s ∈ r.Rhs, goS m r s = true ∧ x = s.Nt) 200 := by
  unfold F.facts.steps
  have h1 := hg.n1
  have h2 := hg.n2
  have e1 : decide (0 ≤ g.Nts) = true := decide_eq_true (by omega)
  have e2 : decide (24 * g.Nts.toNat ≤ 140737488355328) = true := decide_eq_true (by omega)
  have e3 : decide (g.Nts.toNat ≤ 9223372036854775807) = true := decide_eq_true (by omega)
  simp only [e1, e2, e3, if_true]
  have hlr := hsm.rules
  have hsum := hsm.sum
  have hle : (g.Rules.map fun r => r.Rhs.length).sum ≤ (g.Rules.map fun r => r.Rhs.length + 1).sum := by
    have : ∀ l : List Rule, (l.map fun r => r.Rhs.length).sum ≤ (l.map fun r => r.Rhs.length + 1).sum := by
      intro l
      induction l with
      | nil => simp
      | cons x l ih => simp only [List.map_cons, List.sum_cons]; omega
    exact this _
  have key := loop_inv0 (n := g.Rules.length) (k := k) (σ := List (List Int)) (s := List.replicate g.Nts.toNat ([] : List Int)) (L := fun j t s => F.facts.steps_l1 k g m j s t)
    (I := fun q s => StI g m s (fun a x => ∃ r ∈ g.Rules.take q, a = r.Lhs.toNat ∧ ∃ s ∈ r.Rhs, goS m r s = true ∧ x = s.Nt) ((g.Rules.take q).map fun r => r.Rhs.length).sum)
    (Q := fun o => ∃ out, o = some out ∧ StI g m out (fun a x => ∃ r ∈ g.Rules, a = r.Lhs.toNat ∧ ∃ s ∈ r.Rhs, goS m r s = true ∧ x = s.Nt) 200) (by omega) ?_ (fun j q s hq hI => ?_) (fun j s hI => ?_)
  · obtain ⟨out, e, hout⟩ := key
    exact ⟨out, by rw [e]; rfl, hout⟩
  · refine ⟨by simp, fun a x => ?_, fun a => ?_⟩
    · simp only [List.take_zero, List.not_mem_nil, false_and, exists_false, iff_false]
      rw [List.getD_eq_getElem?_getD, List.getElem?_replicate]
      split <;> simp
    · rw [List.getD_eq_getElem?_getD, List.getElem?_replicate]
      split <;> simp
  · left
    obtain ⟨z, ez⟩ := steps_l2_ok hk hg hm hq
    have hcb := sum_take_le (fun r : Rule => r.Rhs.length) g.Rules q
    obtain ⟨out', z', e6, hI'⟩ := steps_l6_ok hk hg hm hq (z := z) (by omega) hI
    refine ⟨out', ?_, ?_⟩
    · rw [sum_take_succ _ hq]
      refine ⟨hI'.len, fun a x => ?_, hI'.sz⟩
      rw [hI'.mem, List.take_succ_eq_append_getElem hq]
      constructor
      · rintro (⟨r, h1, h2⟩ | ⟨h1, h2⟩)
        · exact ⟨r, List.mem_append.2 (.inl h1), h2⟩
        · exact ⟨_, List.mem_append.2 (.inr (List.mem_singleton.2 rfl)), h1, h2⟩
      · rintro ⟨r, h1, h2⟩
        rw [List.mem_append, List.mem_singleton] at h1
        rcases h1 with h1 | rfl
        · exact .inl ⟨r, h1, h2⟩
        · exact .inr h2
    · simp only [F.facts.steps_l1, ix_lt hq, ix_in hq, if_true]
      rw [ez, Option.bind_some, e6, Option.bind_some, ix_inc (by omega)]
  · rw [List.take_length] at hI
    simp only [F.facts.steps_l1, ix_ge (Nat.lt_irrefl _), Bool.false_eq_true, if_false]
    exact ⟨_, rfl, hI.len, hI.mem, fun a => Nat.le_trans (hI.sz a) (by omega)⟩
end
end Go.Vc
namespace Go.Vc
open Go Ea
theorem badN_split {m : List Bool} {r : Rule} {α β : List KSym} {s : KSym} (h : r.Rhs = α ++ s :: β) : badN m r = (α.countP fun s => !mkS m s) + ((if mkS m s then 0 else 1) + (β.countP fun s => !mkS m s)) := by
  unfold badN
  rw [h, List.countP_append, List.countP_cons]
  cases mkS m s <;> simp <;> omega
theorem all_mk {m : List Bool} {l : List KSym} : (l.countP fun s => !mkS m s) = 0 ↔ ∀ s ∈ l, mkS m s = true := by
  rw [List.countP_eq_zero]
  simp
section
variable {g : Gram} {w : List Int} {m : List Bool}
theorem mkS_of_null (hg : RightG g) (hm : NulM g w m) {r : Rule} (hr : r ∈ g.Rules) {s : KSym} (hs : s ∈ r.Rhs) (h : Null (Rs g w) (toSy w s)) : mkS m s = true := by
  unfold toSy at h
  by_cases h0 : 0 ≤ s.Nt
  · rw [if_pos h0] at h
    unfold mkS
    rw [decide_eq_true h0, Bool.true_and]
    have := hg.nt2 r hr s hs
    exact (hm.2 _).2 ⟨by omega, h⟩
  · rw [if_neg h0] at h
    exact h.elim
theorem leads_iff (hg : RightG g) (hm : NulM g w m) {a b : Nat} : (∃ r ∈ g.Rules, a = r.Lhs.toNat ∧ ∃ s ∈ r.Rhs, goS m r s = true ∧ b = s.Nt.toNat) ↔ Leads (Rs g w) a b := by
  constructor
  · rintro ⟨r, hr, rfl, s, hs, hgo, rfl⟩
    obtain ⟨α, β, e⟩ := List.append_of_mem hs
    unfold goS at hgo
    simp only [Bool.and_eq_true, Bool.or_eq_true, decide_eq_true_eq] at hgo
    have hb := badN_split (m := m) e
    have h2 : (α.countP fun s => !mkS m s) = 0 ∧ (β.countP fun s => !mkS m s) = 0 := by
      rcases hgo.2 with h | ⟨h, h3⟩
      · omega
      · have : mkS m s = false := by simpa using h3
        rw [this] at hb
        simp only [Bool.false_eq_true, if_false] at hb
        omega
    have hn : ∀ l : List KSym, (l.countP fun s => !mkS m s) = 0 → ∀ y ∈ l.map (toSy w), Null (Rs g w) y := by
      intro l hl y hy
      obtain ⟨x, hx, rfl⟩ := List.mem_map.1 hy
      exact toSy_null (fun a h => ((hm.2 a).1 h).2) (all_mk.1 hl x hx)
    refine ⟨toRu w r, mem_Rs hr, rfl, α.map (toSy w), β.map (toSy w), ?_, hn α h2.1, hn β h2.2⟩
    show r.Rhs.map (toSy w) = _
    rw [e, List.map_append, List.map_cons]
    have : toSy w s = .nt s.Nt.toNat := by unfold toSy; rw [if_pos hgo.1]
    rw [this]
  · rintro ⟨r', hr', rfl, α, β, e, hα, hβ⟩
    obtain ⟨r, hr, rfl⟩ := List.mem_map.1 hr'
    obtain ⟨l1, l2, e1, e2, e3⟩ := List.map_eq_append_iff.1 e
    obtain ⟨s, l3, rfl, e4, e5⟩ := List.map_eq_cons_iff.1 e3
    have hs : s ∈ r.Rhs := by rw [e1]; simp
    have h0 : 0 ≤ s.Nt ∧ b = s.Nt.toNat := by
      unfold toSy at e4
      by_cases h0 : 0 ≤ s.Nt
      · rw [if_pos h0] at e4
        cases e4
        exact ⟨h0, rfl⟩
      · rw [if_neg h0] at e4
        cases e4
    refine ⟨r, hr, rfl, s, hs, ?_, h0.2⟩
    have hb := badN_split (m := m) e1
    have c1 : (l1.countP fun s => !mkS m s) = 0 := all_mk.2 fun y hy => mkS_of_null hg hm hr (by rw [e1]; simp [hy]) (hα _ (by rw [← e2]; exact List.mem_map_of_mem hy))
    have c2 : (l3.countP fun s => !mkS m s) = 0 := all_mk.2 fun y hy => mkS_of_null hg hm hr (by rw [e1]; simp [hy]) (hβ _ (by rw [← e5]; exact List.mem_map_of_mem hy))
    unfold goS
    rw [decide_eq_true h0.1, Bool.true_and, hb, c1, c2]
    cases mkS m s <;> rfl
end
def zI (st : List Nat) : List Int := st.map fun x : Nat => (x : Int)
theorem zI_len (st : List Nat) : (zI st).length = st.length := by simp [zI]
theorem zI_at {st : List Nat} {x : Int} (h0 : 0 ≤ x) (hx : x < (st.length : Int)) : ∃ v, st[x.toNat]? = some v ∧ at_ (zI st) x = (v : Int) := by
  have h : x.toNat < st.length := by omega
  refine ⟨st[x.toNat], List.getElem?_eq_getElem h, ?_⟩
  simp [at_, zI, h]
theorem zI_set (st : List Nat) (n v : Nat) : set_ (zI st) (n : Int) (v : Int) = zI (st.set n v) := by
  unfold set_ zI
  rw [List.map_set, Int.toNat_natCast]
def nextF (out : List (List Int)) (a : Nat) : List Nat := (out.getD a []).map Int.toNat
theorem goL_ok {N k : Nat} {out : List (List Int)} (hx : ∀ a x, x ∈ out.getD a [] → 0 ≤ x ∧ x < (N : Int)) (hsz : ∀ a, (out.getD a []).length ≤ 200) (hk : 20000 ≤ k) {v : List Nat → Nat → Option (Bool × List Nat)} {gg : Int → List Int → List (List Int) → Option (Bool × List Int)}
    (hv : ∀ st n r, n < N → st.length = N → v st n = some r → gg (n : Int) (zI st) out = some (r.1, zI r.2) ∧ r.2.length = N) {n : Nat} (hn : n < out.length) {st0 : List Nat} (hst : st0.length = N) :
    ∀ r, goL v st0 (nextF out n) = some r → F.facts.Cyclic_c1_l1 out (n : Int) gg k 0 (zI st0) = some (if r.1 then .ret (true, zI r.2) else .done (zI r.2)) ∧ r.2.length = N := by
  intro r hr
  have hat : at_ out (n : Int) = out.getD n [] := rfl
  have hl : (nextF out n).length = (out.getD n []).length := by simp [nextF]
  have hs := hsz n
  refine loop_inv0 (n := (out.getD n []).length) (σ := List Int) (s := zI st0) (L := fun j i s => F.facts.Cyclic_c1_l1 out (n : Int) gg j i s)
    (I := fun i s => ∃ st, s = zI st ∧ st.length = N ∧ goL v st ((nextF out n).drop i) = some r) (Q := fun o => o = some (if r.1 then .ret (true, zI r.2) else .done (zI r.2)) ∧ r.2.length = N) (by omega) ⟨st0, rfl, hst, hr⟩ (fun j i s hi hI => ?_) (fun j s hI => ?_)
  · obtain ⟨st, rfl, hl1, hg⟩ := hI
    have hi2 : i < (nextF out n).length := by omega
    have hxe : (nextF out n)[i] = ((out.getD n [])[i]).toNat := by simp [nextF]
    have hxb := hx n _ (List.getElem_mem hi)
    obtain ⟨val, e1, e2⟩ := zI_at (st := st) hxb.1 (by omega)
    have hin : inR (out.getD n [])[i] (zI st).length = true := inR_iff.2 ⟨hxb.1, by rw [zI_len]; omega⟩
    rw [List.drop_eq_getElem_cons hi2, hxe, goL, e1] at hg
    simp only [F.facts.Cyclic_c1_l1, hat, ix_lt hi, ix_in hi, ix_at hi, hin, if_true, e2]
    unfold F.facts.Cyclic_c1_j2
    rw [ix_inc (by omega)]
    by_cases h1 : val = 1
    · subst h1
      right
      rw [if_pos rfl] at hg
      cases hg
      exact ⟨rfl, hl1⟩
    · have b1 : ((val : Int) == 1) = false := by rw [beq_eq_false_iff_ne]; omega
      rw [if_neg (by simpa using h1)] at hg
      rw [b1]
      by_cases h0 : val = 0
      · subst h0
        rw [if_pos rfl] at hg
        cases hvv : v st (out.getD n [])[i].toNat with
        | none => rw [hvv] at hg; cases hg
        | some q =>
          rw [hvv] at hg
          obtain ⟨h3, h4⟩ := hv st _ q (by omega) hl1 hvv
          rw [Int.toNat_of_nonneg hxb.1] at h3
          simp only [Bool.false_eq_true, if_false, h3, Option.bind_some]
          obtain ⟨b, st'⟩ := q
          cases b with
          | true =>
            right
            cases hg
            exact ⟨rfl, h4⟩
          | false => exact .inl ⟨zI st', ⟨st', rfl, h4, hg⟩, rfl⟩
      · have b0 : ((val : Int) == 0) = false := by rw [beq_eq_false_iff_ne]; omega
        rw [if_neg (by simpa using h0)] at hg
        left
        rw [b0]
        exact ⟨zI st, ⟨st, rfl, hl1, hg⟩, rfl⟩
  · obtain ⟨st, rfl, hl1, hg⟩ := hI
    rw [List.drop_eq_nil_of_le (by omega), goL] at hg
    cases hg
    simp only [F.facts.Cyclic_c1_l1, hat, ix_ge (Nat.lt_irrefl _), Bool.false_eq_true, if_false]
    exact ⟨trivial, hl1⟩
theorem c1_ok {N : Nat} {out : List (List Int)} (hlen : out.length = N) (hx : ∀ a x, x ∈ out.getD a [] → 0 ≤ x ∧ x < (N : Int)) (hsz : ∀ a, (out.getD a []).length ≤ 200) : ∀ (d k : Nat) (st : List Nat) (n : Nat) (r : Bool × List Nat), d + 20000 ≤ k → n < N → st.length = N →
    visit (nextF out) d st n = some r → F.facts.Cyclic_c1 k (n : Int) (zI st) out = some (r.1, zI r.2) ∧ r.2.length = N
  | 0, _, _, _, _, _, _, _, h => by cases h
  | d + 1, 0, _, _, _, hk, _, _, _ => by omega
  | d + 1, k + 1, st, n, r, hk, hn, hst, h => by
    have hin : inR (n : Int) (zI st).length = true := inR_iff.2 ⟨by omega, by rw [zI_len]; omega⟩
    have hin2 : inR (n : Int) out.length = true := inR_iff.2 ⟨by omega, by omega⟩
    have hs1 : set_ (zI st) (n : Int) 1 = zI (st.set n 1) := zI_set st n 1
    simp only [F.facts.Cyclic_c1, F.facts.Cyclic_c1_B, hin, hin2, if_true, hs1]
    unfold visit at h
    cases hg : goL (visit (nextF out) d) (st.set n 1) (nextF out n) with
    | none => rw [hg] at h; cases h
    | some q =>
      rw [hg] at h
      obtain ⟨e, hl⟩ := goL_ok hx hsz (k := k) (by omega) (gg := F.facts.Cyclic_c1 k) (fun st n r h1 h2 h3 => c1_ok hlen hx hsz d k st n r (by omega) h1 h2 h3) (n := n) (by omega) (st0 := st.set n 1) (by rw [List.length_set]; exact hst) q hg
      rw [e, Option.bind_some]
      obtain ⟨b, st'⟩ := q
      cases b with
      | true => cases h; exact ⟨rfl, hl⟩
      | false =>
        cases h
        have hin3 : inR (n : Int) (zI st').length = true := inR_iff.2 ⟨by omega, by simp only [zI, List.length_map]; simp only at hl; omega⟩
        refine ⟨?_, by rw [List.length_set]; exact hl⟩
        show (if inR (n : Int) (zI st').length = true then some (false, set_ (zI st') (n : Int) 2) else none) = _
        rw [if_pos hin3, show ((2 : Int) = ((2 : Nat) : Int)) from rfl, zI_set]
theorem cycL_F {N k : Nat} {g : Gram} {out : List (List Int)} (hN : (N : Int) = g.Nts) (hN2 : N ≤ 200) (hlen : out.length = N) (hx : ∀ a x, x ∈ out.getD a [] → 0 ≤ x ∧ x < (N : Int)) (hsz : ∀ a, (out.getD a []).length ≤ 200) {d : Nat} (hk : d + 20000 ≤ k) {st0 : List Nat} (hst : st0.length = N) :
    ∀ r, cycL (nextF out) d st0 (List.range N) = some r → (r = true → F.facts.Cyclic_l1 k g out k 0 (zI st0) = some (.ret (true, 0))) ∧ (r = false → ∃ z, F.facts.Cyclic_l1 k g out k 0 (zI st0) = some (.done z)) := by
  intro r hr
  refine loop_inv0 (n := N) (σ := List Int) (s := zI st0) (L := fun j i s => F.facts.Cyclic_l1 k g out j i s) (I := fun i s => ∃ st, s = zI st ∧ st.length = N ∧ cycL (nextF out) d st ((List.range N).drop i) = some r)
    (Q := fun o => (r = true → o = some (.ret (true, 0))) ∧ (r = false → ∃ z, o = some (.done z))) (by omega) ⟨st0, rfl, hst, hr⟩ (fun j i s hi hI => ?_) (fun j s hI => ?_)
  · obtain ⟨st, rfl, hl1, hg⟩ := hI
    have hi2 : i < (List.range N).length := by simpa using hi
    have e1 : st[i]? = some st[i] := List.getElem?_eq_getElem (by omega)
    have hin : inR (i : Int) (zI st).length = true := inR_iff.2 ⟨by omega, by rw [zI_len]; omega⟩
    have hlt : decide ((i : Int) < g.Nts) = true := decide_eq_true (by omega)
    have hat : at_ (zI st) (i : Int) = ((st[i] : Nat) : Int) := by simp [at_, zI, hl1, hi]
    rw [List.drop_eq_getElem_cons hi2, List.getElem_range, cycL, e1] at hg
    simp only [F.facts.Cyclic_l1, hlt, hin, hat, if_true]
    unfold F.facts.Cyclic_j3 F.facts.Cyclic_j2
    rw [ix_inc (by omega)]
    by_cases h0 : st[i] = 0
    · have b0 : (((st[i] : Nat) : Int) == 0) = true := by rw [h0]; rfl
      rw [h0, if_pos rfl] at hg
      rw [b0]
      cases hv : visit (nextF out) d st i with
      | none => rw [hv] at hg; cases hg
      | some q =>
        rw [hv] at hg
        obtain ⟨e, hl⟩ := c1_ok hlen hx hsz d k st i q hk hi hl1 hv
        simp only [if_true, e, Option.bind_some]
        obtain ⟨b, st'⟩ := q
        cases b with
        | true =>
          cases hg
          exact .inr ⟨fun _ => rfl, fun h => (by cases h)⟩
        | false => exact .inl ⟨zI st', ⟨st', rfl, hl, hg⟩, rfl⟩
    · have b0 : (((st[i] : Nat) : Int) == 0) = false := by rw [beq_eq_false_iff_ne]; omega
      rw [if_neg (by simpa using h0)] at hg
      rw [b0]
      exact .inl ⟨zI st, ⟨st, rfl, hl1, hg⟩, rfl⟩
  · obtain ⟨st, rfl, hl1, hg⟩ := hI
    rw [List.drop_eq_nil_of_le (by simp), cycL] at hg
    cases hg
    have hlt : decide ((N : Int) < g.Nts) = false := decide_eq_false (by omega)
    simp only [F.facts.Cyclic_l1, hlt, Bool.false_eq_true, if_false]
    exact ⟨fun h => (by cases h), fun _ => ⟨_, rfl⟩⟩
def Acyc (g : Gram) (w : List Int) : Prop := ∃ ρ, Falls (Rs g w) ρ g.Nts.toNat
theorem Cyclic_ok {k : Nat} (hk : 100000 ≤ k) {g : Gram} (h : rightB g = true) (hsm : SmallG g) (w : List Int) : ∃ b, F.facts.Cyclic k g = some (b, 0) ∧ (b = false ↔ Acyc g w) := by
  have hg := rightG h
  have h1 := hg.n1
  have h2 := hsm.nts
  obtain ⟨m, em, hm⟩ := Nullable_ok (k := k) (by omega) h w
  obtain ⟨out, eo, ho⟩ := steps_ok (k := k) (by omega) hg hsm hm.1
  have hx : ∀ a x, x ∈ out.getD a [] → 0 ≤ x ∧ x < (g.Nts.toNat : Int) := by
    intro a x hx
    obtain ⟨r, hr, _, s, hs, hgo, rfl⟩ := (ho.mem a x).1 hx
    unfold goS at hgo
    simp only [Bool.and_eq_true, decide_eq_true_eq] at hgo
    have := hg.nt2 r hr s hs
    exact ⟨hgo.1, by omega⟩
  have hnx : ∀ a, a < g.Nts.toNat → ∀ b ∈ nextF out a, b < g.Nts.toNat := by
    intro a _ b hb
    obtain ⟨x, hx', rfl⟩ := List.mem_map.1 hb
    have := hx a x hx'
    omega
  have hnl : ∀ a b, b ∈ nextF out a ↔ Leads (Rs g w) a b := by
    intro a b
    rw [← leads_iff hg hm]
    constructor
    · intro hb
      obtain ⟨x, hx', rfl⟩ := List.mem_map.1 hb
      obtain ⟨r, hr, e, s, hs, hgo, rfl⟩ := (ho.mem a x).1 hx'
      exact ⟨r, hr, e, s, hs, hgo, rfl⟩
    · rintro ⟨r, hr, e, s, hs, hgo, rfl⟩
      exact List.mem_map.2 ⟨s.Nt, (ho.mem a _).2 ⟨r, hr, e, s, hs, hgo, rfl⟩, rfl⟩
  obtain ⟨r, er, hr⟩ := cyc_ok (N := g.Nts.toNat) (k := g.Nts.toNat) hnx (Nat.le_refl _)
  have hF := cycL_F (k := k) (g := g) (N := g.Nts.toNat) (by omega) (by omega) ho.len hx ho.sz (d := g.Nts.toNat) (by omega) (st0 := List.replicate g.Nts.toNat 0) (by simp) r er
  have hz : zI (List.replicate g.Nts.toNat 0) = List.replicate g.Nts.toNat 0 := by simp [zI]
  rw [hz] at hF
  have e1 : decide (0 ≤ g.Nts) = true := decide_eq_true (by omega)
  have e2 : decide (8 * g.Nts.toNat ≤ 140737488355328) = true := decide_eq_true (by omega)
  have e3 : decide (g.Nts.toNat ≤ 9223372036854775807) = true := decide_eq_true (by omega)
  unfold F.facts.Cyclic
  rw [em, Option.bind_some]
  simp only [eo, Option.bind_some, e1, e2, e3, if_true]
  rcases hr with ⟨rfl, a, ha, hw⟩ | ⟨rfl, ρ, hρ⟩
  · refine ⟨true, ?_, ⟨fun h => (by cases h), ?_⟩⟩
    · rw [hF.1 rfl]; rfl
    · rintro ⟨ρ, hf⟩
      exact absurd (way_falls (E := fun a b => b ∈ nextF out a) (ρ := ρ) (fun a b hab => hf.lt a b ((hnl a b).1 hab)) hw) (Nat.lt_irrefl _)
  · obtain ⟨z, hz'⟩ := hF.2 rfl
    refine ⟨false, ?_, ⟨fun _ => ?_, fun _ => rfl⟩⟩
    · rw [hz']; rfl
    · refine ⟨fun a => if a < g.Nts.toNat then ρ a else 0, fun a => ?_, fun a b hab => ?_⟩
      · by_cases ha : a < g.Nts.toNat
        · simp only [if_pos ha]
          exact Nat.le_of_lt (hρ a ha).1
        · simp only [if_neg ha]
          omega
      · have hb := (hnl a b).2 hab
        have ha : a < g.Nts.toNat := by
          obtain ⟨x, hx', _⟩ := List.mem_map.1 hb
          obtain ⟨r, hr, e, _⟩ := (ho.mem a x).1 hx'
          have := hg.lhs2 r hr
          have := hg.lhs1 r hr
          omega
        have hb2 := hnx a ha b hb
        simp only [if_pos ha, if_pos hb2]
        exact (hρ a ha).2 b hb
theorem fit_ok {k : Nat} (hk : 100000 ≤ k) {g : Gram} (hsm : rightB g = true → SmallG g) (w : List Int) : ∃ e, F.forest.fit k g w = some e ∧ (e = 0 ↔ rightB g = true ∧ (w.length : Int) ≤ 512 ∧ Acyc g w) ∧ (rightB g = false → e = 3) ∧ (rightB g = true → 512 < (w.length : Int) → e = 2) ∧ (rightB g = true → (w.length : Int) ≤ 512 → ¬ Acyc g w → e = 48) := by
  unfold F.forest.fit
  rw [Right_ok (by omega), Option.bind_some]
  cases hr : rightB g with
  | false =>
    refine ⟨3, rfl, ⟨(by omega), fun h => (by cases h.1)⟩, fun _ => rfl, fun h => (by cases h), fun h => (by cases h)⟩
  | true =>
    by_cases hl : 512 < (w.length : Int)
    · refine ⟨2, ?_, ⟨(by omega), fun h => (by omega)⟩, fun h => (by cases h), fun _ _ => rfl, fun _ h => (by omega)⟩
      simp [hl]
    · obtain ⟨b, e, hb⟩ := Cyclic_ok hk hr (hsm hr) w
      have hl' : ¬ (512 < (w.length : Int)) := hl
      cases b with
      | true =>
        have hna : ¬ Acyc g w := fun h => (by have := hb.2 h; cases this)
        refine ⟨48, ?_, ⟨(by omega), fun h => absurd h.2.2 hna⟩, fun h => (by cases h), fun _ h => absurd h hl, fun _ _ _ => rfl⟩
        simp [hl', e]
      | false =>
        have hac : Acyc g w := hb.1 rfl
        refine ⟨0, ?_, ⟨fun _ => ⟨rfl, by omega, hac⟩, fun _ => rfl⟩, fun h => (by cases h), fun _ h => absurd h hl, fun _ _ h => absurd hac h⟩
        simp [hl', e]
end Go.Vc
