import Derived.Test.YtfhbgelpmbkooaaFY
set_option linter.unusedVariables false
set_option linter.unusedSimpArgs false
namespace Go.Vc
open Go Ea
theorem none_ok {k n : Nat} (hk : n < k) (hn : n ≤ 100000) : F.ref06.none_ k (n : Int) = some (List.replicate n false) := by
  unfold F.ref06.none_
  have key := loop_inv0 (n := n) (k := k) (σ := List Bool) (s := []) (L := fun j i s => F.ref06.none__l1 (n : Int) j s i) (I := fun q s => s = List.replicate q false) (Q := fun o => o = some (List.replicate n false)) hk (by simp) (fun j q s hq hI => ?_) (fun j s hI => ?_)
  · rw [key]; rfl
  · left
    subst hI
    have d0 : decide ((q : Int) < (n : Int)) = true := decide_eq_true (by omega)
    have e1 : decide (((List.replicate q false).length + ([false] : List Bool).length) * 1 ≤ 140737488355328) = true := decide_eq_true (by rw [List.length_replicate, List.length_singleton]; omega)
    have e2 : decide ((List.replicate q false).length + ([false] : List Bool).length ≤ 9223372036854775807) = true := decide_eq_true (by rw [List.length_replicate, List.length_singleton]; omega)
    refine ⟨_, rfl, ?_⟩
    simp only [F.ref06.none__l1, d0, if_true]
    rw [e1, if_pos rfl, e2, if_pos rfl, ix_inc (by omega), List.replicate_succ']
  · subst hI
    have d0 : decide ((n : Int) < (n : Int)) = false := decide_eq_false (by omega)
    simp only [F.ref06.none__l1, d0, Bool.false_eq_true, if_false]
theorem so_ok {m : List Bool} {s : KSym} : F.ref06.so s m true = some (mkS m s) := by
  unfold F.ref06.so F.ref06.so_j1 mkS
  by_cases h0 : 0 ≤ s.Nt
  · simp only [h0, decide_true, if_true, Bool.true_and]
    by_cases h1 : s.Nt < (m.length : Int)
    · have hin : inR s.Nt m.length = true := inR_iff.2 ⟨h0, h1⟩
      simp only [h1, decide_true, if_true, hin]
      rfl
    · have : m.getD s.Nt.toNat false = false := by rw [List.getD_eq_getElem?_getD, List.getElem?_eq_none (by omega)]; rfl
      rw [this]
      simp [h1]
  · simp [h0]
theorem rall_ok {k : Nat} {m : List Bool} {r : Rule} (hr : r.Rhs.length ≤ 1000) (hk : 2000 ≤ k) : F.ref06.all k r m true = some (r.Rhs.all (mkS m)) := by
  unfold F.ref06.all
  have key := loop_all (xs := r.Rhs) (p := mkS m) (z := ()) (bad := false) (k := k) (L := F.ref06.all_l1 r m true) (by omega) (fun j i h => by
    simp only [F.ref06.all_l1, ix_lt h, ix_in h, ix_at h, if_true, so_ok, Option.bind_some]
    rw [ix_inc (by omega)]
    cases mkS m r.Rhs[i] <;> rfl) (fun j => by
    simp only [F.ref06.all_l1, ix_ge (Nat.lt_irrefl _), Bool.false_eq_true, if_false])
  rw [key, Option.bind_some]
  cases r.Rhs.all (mkS m) <;> rfl
def Rnd (g : Gram) (m m' : List Bool) : Prop := m'.length = g.Nts.toNat ∧ ∀ a, m'.getD a false = true ↔ ∃ r ∈ g.Rules, r.Lhs.toNat = a ∧ r.Rhs.all (mkS m) = true
theorem round_ok {k : Nat} (hk : 20000 ≤ k) {g : Gram} (hg : RightG g) (hn : g.Nts ≤ 1000) (hl : g.Rules.length ≤ 1000) (m : List Bool) : ∃ m', F.ref06.round k g m true = some m' ∧ Rnd g m m' := by
  unfold F.ref06.round
  have h1 := hg.n1
  have e0 : F.ref06.none_ k g.Nts = some (List.replicate g.Nts.toNat false) := by
    have := none_ok (k := k) (n := g.Nts.toNat) (by omega) (by omega)
    rwa [Int.toNat_of_nonneg (by omega)] at this
  rw [e0, Option.bind_some]
  have key := loop_inv0 (n := g.Rules.length) (k := k) (σ := List Bool) (s := List.replicate g.Nts.toNat false) (L := fun j i s => F.ref06.round_l1 k g m true j s i)
    (I := fun q s => s.length = g.Nts.toNat ∧ ∀ a, s.getD a false = true ↔ ∃ r ∈ g.Rules.take q, r.Lhs.toNat = a ∧ r.Rhs.all (mkS m) = true) (Q := fun o => ∃ m', o = some m' ∧ Rnd g m m') (by omega) (by
      refine ⟨by simp, fun a => ?_⟩
      constructor
      · intro ha
        rw [List.getD_eq_getElem?_getD, List.getElem?_replicate] at ha
        split at ha <;> cases ha
      · rintro ⟨r, hr, _⟩
        cases hr) (fun j q s hq hI => ?_) (fun j s hI => ?_)
  · obtain ⟨m', e, hm⟩ := key
    exact ⟨m', by rw [e]; rfl, hm⟩
  · left
    obtain ⟨hI1, hI2⟩ := hI
    have hrm := List.getElem_mem hq
    have hl1 := hg.lhs1 _ hrm
    have hl2 := hg.lhs2 _ hrm
    have h80 := hg.rhs _ hrm
    simp only [F.ref06.round_l1, ix_lt hq, ix_in hq, ix_at hq, if_true, rall_ok (m := m) (show g.Rules[q].Rhs.length ≤ 1000 by omega) (show 2000 ≤ k by omega), Option.bind_some]
    unfold F.ref06.round_j3 F.ref06.round_j2
    rw [ix_inc (by omega)]
    cases hall : g.Rules[q].Rhs.all (mkS m) with
    | true =>
      have hin : inR g.Rules[q].Lhs s.length = true := inR_iff.2 ⟨hl1, by omega⟩
      simp only [if_true, hin]
      refine ⟨_, ⟨?_, fun a => ?_⟩, rfl⟩
      · show (s.set _ true).length = _
        rw [List.length_set, hI1]
      · show (s.set g.Rules[q].Lhs.toNat true).getD a false = true ↔ _
        rw [getD_set (by omega), List.take_succ_eq_append_getElem hq]
        by_cases ha : a = g.Rules[q].Lhs.toNat
        · rw [if_pos ha]
          exact ⟨fun _ => ⟨g.Rules[q], List.mem_append_right _ (List.mem_singleton.2 rfl), ha.symm, hall⟩, fun _ => rfl⟩
        · rw [if_neg ha, hI2]
          constructor
          · rintro ⟨r, hr, h3⟩
            exact ⟨r, List.mem_append_left _ hr, h3⟩
          · rintro ⟨r, hr, h3, h4⟩
            rcases List.mem_append.1 hr with hr | hr
            · exact ⟨r, hr, h3, h4⟩
            · rw [List.mem_singleton] at hr
              subst hr
              exact absurd h3.symm ha
    | false =>
      simp only [Bool.false_eq_true, if_false]
      refine ⟨_, ⟨hI1, fun a => ?_⟩, rfl⟩
      rw [hI2, List.take_succ_eq_append_getElem hq]
      constructor
      · rintro ⟨r, hr, h3⟩
        exact ⟨r, List.mem_append_left _ hr, h3⟩
      · rintro ⟨r, hr, h3, h4⟩
        rcases List.mem_append.1 hr with hr | hr
        · exact ⟨r, hr, h3, h4⟩
        · rw [List.mem_singleton] at hr
          subst hr
          rw [hall] at h4
          cases h4
  · simp only [F.ref06.round_l1, ix_ge (Nat.lt_irrefl _), Bool.false_eq_true, if_false]
    rw [List.take_length] at hI
    exact ⟨s, rfl, hI⟩
theorem bools_le : ∀ (a b : List Bool), a.length = b.length → (∀ i, a.getD i false = true → b.getD i false = true) → a.count true < b.count true ∨ a = b
  | [], [], _, _ => .inr rfl
  | [], _ :: _, h, _ => by simp at h
  | _ :: _, [], h, _ => by simp at h
  | x :: a, y :: b, h, hi => by
    have ih := bools_le a b (by simpa using h) fun i hi' => by
      have := hi (i + 1)
      simpa using this (by simpa using hi')
    have h0 : x = true → y = true := by simpa using hi 0
    rw [List.count_cons, List.count_cons]
    cases x <;> cases y
    · rcases ih with ih | ih
      · exact .inl (by simpa using ih)
      · exact .inr (by rw [ih])
    · rcases ih with ih | ih
      · exact .inl (by simp; omega)
      · exact .inl (by simp [ih])
    · exact absurd (h0 rfl) (by simp)
    · rcases ih with ih | ih
      · exact .inl (by simp; omega)
      · exact .inr (by rw [ih])
theorem mkS_mono {a b : List Bool} (h : ∀ i, a.getD i false = true → b.getD i false = true) {s : KSym} (hs : mkS a s = true) : mkS b s = true := by
  unfold mkS at hs ⊢
  simp only [Bool.and_eq_true] at hs ⊢
  exact ⟨hs.1, h _ hs.2⟩
theorem count_all_true {m : List Bool} (h : m.length ≤ m.count true) {a : Nat} (ha : a < m.length) : m.getD a false = true := by
  have h2 := List.count_eq_length.1 (Nat.le_antisymm (List.count_le_length (a := true) (l := m)) h)
  have h3 := h2 _ (List.getElem_mem ha)
  rw [List.getD_eq_getElem?_getD, List.getElem?_eq_getElem ha]
  exact h3.symm
theorem marks_ok {k : Nat} (hk : 20000 ≤ k) {g : Gram} (hg : RightG g) (hn : g.Nts ≤ 1000) (hl : g.Rules.length ≤ 1000) (w : List Int) : ∃ m, F.ref06.marks k g true = some m ∧ NulM g w m := by
  unfold F.ref06.marks
  have h1 := hg.n1
  have e0 : F.ref06.none_ k g.Nts = some (List.replicate g.Nts.toNat false) := by
    have := none_ok (k := k) (n := g.Nts.toNat) (by omega) (by omega)
    rwa [Int.toNat_of_nonneg (by omega)] at this
  rw [e0, Option.bind_some]
  have hrep : ∀ a, (List.replicate g.Nts.toNat false).getD a false = true → False := by
    intro a ha
    rw [List.getD_eq_getElem?_getD, List.getElem?_replicate] at ha
    split at ha <;> cases ha
  have key := loop_inv0 (n := g.Nts.toNat) (k := k) (σ := List Bool) (s := List.replicate g.Nts.toNat false) (L := fun j i s => F.ref06.marks_l1 k g true j s i)
    (I := fun q s => s.length = g.Nts.toNat ∧ (∀ a, s.getD a false = true → Null (Rs g w) (.nt a)) ∧ (∀ m', Rnd g s m' → ∀ a, s.getD a false = true → m'.getD a false = true) ∧ (Rnd g s s ∨ q ≤ s.count true))
    (Q := fun o => ∃ m, o = some m ∧ NulM g w m) (by omega) (by
      refine ⟨by simp, fun a ha => (hrep a ha).elim, fun m' _ a ha => (hrep a ha).elim, .inr (Nat.zero_le _)⟩) (fun j q s hq hI => ?_) (fun j s hI => ?_)
  · obtain ⟨m, e, hm⟩ := key
    exact ⟨m, by rw [e]; rfl, hm⟩
  · left
    obtain ⟨hI1, hI2, hI3, hI4⟩ := hI
    obtain ⟨m', e, hm⟩ := round_ok hk hg hn hl s
    have d0 : decide ((q : Int) < g.Nts) = true := decide_eq_true (by omega)
    refine ⟨m', ⟨hm.1, fun a ha => ?_, fun m2 hm2 a ha => ?_, ?_⟩, ?_⟩
    · obtain ⟨r, hr, rfl, hall⟩ := (hm.2 a).1 ha
      refine null_closed (R := Rs g w) (mem_Rs hr) fun y hy => ?_
      obtain ⟨x, hx, rfl⟩ := List.mem_map.1 (show y ∈ r.Rhs.map (toSy w) from hy)
      exact toSy_null hI2 (List.all_eq_true.1 hall x hx)
    · obtain ⟨r, hr, h3, hall⟩ := (hm.2 a).1 ha
      refine (hm2.2 a).2 ⟨r, hr, h3, ?_⟩
      rw [List.all_eq_true] at hall ⊢
      exact fun x hx => mkS_mono (hI3 m' hm) (hall x hx)
    · rcases bools_le s m' (by rw [hI1, hm.1]) (hI3 m' hm) with h | h
      · rcases hI4 with h4 | h4
        · left
          have : s = m' := by
            have h5 : ∀ i, m'.getD i false = true → s.getD i false = true := fun i hi => (h4.2 i).2 ((hm.2 i).1 hi)
            rcases bools_le m' s (by rw [hI1, hm.1]) h5 with h6 | h6
            · omega
            · exact h6.symm
          rw [← this]
          exact h4
        · right; omega
      · left
        rw [h] at hm
        exact hm
    · simp only [F.ref06.marks_l1, d0, if_true]
      rw [e, Option.bind_some, ix_inc (by omega)]
  · obtain ⟨hI1, hI2, hI3, hI4⟩ := hI
    have d0 : decide ((g.Nts.toNat : Int) < g.Nts) = false := decide_eq_false (by omega)
    simp only [F.ref06.marks_l1, d0, Bool.false_eq_true, if_false]
    refine ⟨s, rfl, closed_nulM hg hI1 hI2 fun x hx => ?_⟩
    rcases hI4 with h4 | h4
    · cases hall : x.Rhs.all (mkS s) with
      | false => exact .inr rfl
      | true => exact .inl ((h4.2 _).2 ⟨x, hx, rfl, hall⟩)
    · have := hg.lhs1 x hx
      have := hg.lhs2 x hx
      exact .inl (count_all_true (by omega) (by omega))
end Go.Vc
namespace Go.Vc
open Go Ea
theorem leads_ok {k : Nat} {m : List Bool} {r : Rule} {e : Nat} (he : e < r.Rhs.length) (hr : r.Rhs.length ≤ 1000) (hk : 2000 ≤ k) : F.ref06.leads k r (e : Int) m = some (goS m r r.Rhs[e]) := by
  unfold F.ref06.leads
  have key := loop_inv0 (n := r.Rhs.length) (k := k) (σ := Unit) (s := ()) (L := fun j i _ => F.ref06.leads_l1 r (e : Int) m j i) (I := fun q _ => ∀ i, (h : i < r.Rhs.length) → i < q → i ≠ e → mkS m r.Rhs[i] = true)
    (Q := fun o => (o = some (.done ()) ∧ ∀ i, (h : i < r.Rhs.length) → i ≠ e → mkS m r.Rhs[i] = true) ∨ (o = some (.ret false) ∧ ∃ i, ∃ h : i < r.Rhs.length, i ≠ e ∧ mkS m r.Rhs[i] = false)) (by omega) (fun i h h0 => by omega) (fun j q s hq hI => ?_) (fun j s hI => ?_)
  · have hsplit : r.Rhs = r.Rhs.take e ++ r.Rhs[e] :: r.Rhs.drop (e + 1) := by rw [← List.drop_eq_getElem_cons he, List.take_append_drop]
    have hb := badN_split (m := m) hsplit
    have hin : inR (e : Int) r.Rhs.length = true := ix_in he
    have hgo : ∀ i, (h : i < r.Rhs.length) → i ≠ e → r.Rhs[i] ∈ r.Rhs.take e ∨ r.Rhs[i] ∈ r.Rhs.drop (e + 1) := by
      intro i h hne
      by_cases hlt : i < e
      · left
        refine List.mem_iff_getElem.2 ⟨i, by rw [List.length_take]; omega, ?_⟩
        rw [List.getElem_take]
      · right
        refine List.mem_iff_getElem.2 ⟨i - (e + 1), by rw [List.length_drop]; omega, ?_⟩
        rw [List.getElem_drop]
        congr 1
        omega
    rcases key with ⟨e1, hall⟩ | ⟨e1, i, hi, hne, hf⟩
    · rw [e1, Option.bind_some]
      simp only [LR.fin, hin, if_true, ix_at he]
      congr 1
      have c1 : (r.Rhs.take e).countP (fun s => !mkS m s) = 0 := all_mk.2 fun s hs => by
        obtain ⟨i, hi, rfl⟩ := List.mem_iff_getElem.1 hs
        rw [List.length_take] at hi
        rw [List.getElem_take]
        exact hall i (by omega) (by omega)
      have c2 : (r.Rhs.drop (e + 1)).countP (fun s => !mkS m s) = 0 := all_mk.2 fun s hs => by
        obtain ⟨i, hi, rfl⟩ := List.mem_iff_getElem.1 hs
        rw [List.length_drop] at hi
        rw [List.getElem_drop]
        exact hall _ (by omega) (by omega)
      unfold goS
      rw [hb, c1, c2]
      cases mkS m r.Rhs[e] <;> simp
    · rw [e1, Option.bind_some]
      simp only [LR.fin]
      congr 1
      symm
      have h2 : 0 < (r.Rhs.take e).countP (fun s => !mkS m s) + (r.Rhs.drop (e + 1)).countP (fun s => !mkS m s) := by
        rcases hgo i hi hne with h | h
        · have : 0 < (r.Rhs.take e).countP (fun s => !mkS m s) := List.countP_pos_iff.2 ⟨_, h, by rw [hf]; rfl⟩
          omega
        · have : 0 < (r.Rhs.drop (e + 1)).countP (fun s => !mkS m s) := List.countP_pos_iff.2 ⟨_, h, by rw [hf]; rfl⟩
          omega
      unfold goS
      rw [hb]
      cases mkS m r.Rhs[e]
      · simp only [Bool.false_eq_true, if_false]
        have a1 : decide ((r.Rhs.take e).countP (fun s => !mkS m s) + (1 + (r.Rhs.drop (e + 1)).countP (fun s => !mkS m s)) = 0) = false := decide_eq_false (by omega)
        have a2 : decide ((r.Rhs.take e).countP (fun s => !mkS m s) + (1 + (r.Rhs.drop (e + 1)).countP (fun s => !mkS m s)) = 1) = false := decide_eq_false (by omega)
        rw [a1, a2]
        simp
      · simp only [if_true, Bool.not_true, Bool.and_false, Bool.or_false]
        have a1 : decide ((r.Rhs.take e).countP (fun s => !mkS m s) + (0 + (r.Rhs.drop (e + 1)).countP (fun s => !mkS m s)) = 0) = false := decide_eq_false (by omega)
        rw [a1]
        simp
  · simp only [F.ref06.leads_l1, ix_lt hq, if_true]
    unfold F.ref06.leads_j3 F.ref06.leads_j2
    by_cases hqe : q = e
    · left
      subst hqe
      have d : (((q : Nat) : Int) != ((q : Nat) : Int)) = false := by simp
      refine ⟨(), fun i h h1 h2 => hI i h (by omega) h2, ?_⟩
      simp only [d, Bool.false_eq_true, if_false]
      rw [ix_inc (by omega)]
    · have d : (((q : Nat) : Int) != ((e : Nat) : Int)) = true := by rw [bne_iff_ne]; omega
      simp only [d, if_true, ix_in hq, ix_at hq, so_ok, Option.bind_some]
      cases hm : mkS m r.Rhs[q] with
      | true =>
        left
        refine ⟨(), fun i h h1 h2 => ?_, ?_⟩
        · by_cases hiq : i = q
          · subst hiq; exact hm
          · exact hI i h (by omega) h2
        · simp only [Bool.not_true, Bool.false_eq_true, if_false]
          rw [ix_inc (by omega)]
      | false =>
        right; right
        exact ⟨by simp, q, hq, hqe, hm⟩
  · simp only [F.ref06.leads_l1, ix_ge (Nat.lt_irrefl _), Bool.false_eq_true, if_false]
    exact .inl ⟨trivial, fun i h hne => hI i h h hne⟩
def nextD (g : Gram) (m : List Bool) (a : Nat) : List Nat := g.Rules.flatMap fun r => if r.Lhs.toNat = a then (r.Rhs.filter (goS m r)).map fun s => s.Nt.toNat else []
theorem mem_nextD {g : Gram} {m : List Bool} {a b : Nat} : b ∈ nextD g m a ↔ ∃ r ∈ g.Rules, a = r.Lhs.toNat ∧ ∃ s ∈ r.Rhs, goS m r s = true ∧ b = s.Nt.toNat := by
  unfold nextD
  rw [List.mem_flatMap]
  constructor
  · rintro ⟨r, hr, hb⟩
    split at hb
    · rename_i h
      obtain ⟨s, hs, rfl⟩ := List.mem_map.1 hb
      rw [List.mem_filter] at hs
      exact ⟨r, hr, h.symm, s, hs.1, hs.2, rfl⟩
    · cases hb
  · rintro ⟨r, hr, rfl, s, hs, hgo, rfl⟩
    refine ⟨r, hr, ?_⟩
    rw [if_pos rfl]
    exact List.mem_map.2 ⟨s, List.mem_filter.2 ⟨hs, hgo⟩, rfl⟩
section
variable {g : Gram} {m st : List Bool} {k : Nat}
theorem goS_nt {r : Rule} {s : KSym} (h : goS m r s = true) : 0 ≤ s.Nt := by
  unfold goS at h
  simp only [Bool.and_eq_true, decide_eq_true_eq] at h
  exact h.1
theorem cyc_l6 (hk : 20000 ≤ k) (hg : RightG g) (hst : st.length = g.Nts.toNat) {a i : Nat} (hi : i < g.Rules.length) (v : List Bool × Int) (hv : v.1 = m) (f0 : Bool) :
    ∃ z, F.ref06.Cyclic_l6 k g (i : Int) v st (a : Int) k f0 0 = some (f0 && (if g.Rules[i].Lhs.toNat = a then g.Rules[i].Rhs.all (fun s => !goS m g.Rules[i] s || st.getD s.Nt.toNat false) else true), z) := by
  have hrm := List.getElem_mem hi
  have h80 := hg.rhs _ hrm
  have hl1 := hg.lhs1 _ hrm
  have har : at_ g.Rules (i : Int) = g.Rules[i] := ix_at hi
  by_cases hla : g.Rules[i].Lhs.toNat = a
  · rw [if_pos hla]
    have db : (g.Rules[i].Lhs == (a : Int)) = true := by rw [beq_iff_eq]; omega
    refine loop_inv0 (n := g.Rules[i].Rhs.length) (k := k) (σ := Bool) (s := f0) (L := fun j q s => F.ref06.Cyclic_l6 k g (i : Int) v st (a : Int) j s q) (I := fun q s => s = (f0 && (g.Rules[i].Rhs.take q).all (fun s => !goS m g.Rules[i] s || st.getD s.Nt.toNat false)))
      (Q := fun o => ∃ z, o = some (f0 && g.Rules[i].Rhs.all (fun s => !goS m g.Rules[i] s || st.getD s.Nt.toNat false), z)) (by omega) (by simp) (fun j q s hq hI => ?_) (fun j s hI => ?_)
    · left
      refine ⟨_, rfl, ?_⟩
      simp only [F.ref06.Cyclic_l6, har, ix_lt hq, if_true, db]
      unfold F.ref06.Cyclic_j7
      simp only [if_true, har, hv, leads_ok hq (show g.Rules[i].Rhs.length ≤ 1000 by omega) (show 2000 ≤ k by omega), Option.bind_some]
      unfold F.ref06.Cyclic_j9 F.ref06.Cyclic_j10 F.ref06.Cyclic_j8
      rw [ix_inc (by omega), List.take_succ_eq_append_getElem hq, List.all_append]
      simp only [List.all_cons, List.all_nil, Bool.and_true]
      cases hgo : goS m g.Rules[i] g.Rules[i].Rhs[q] with
      | true =>
        have h0 := goS_nt hgo
        have h2 := hg.nt2 _ hrm _ (List.getElem_mem hq)
        have hin : inR g.Rules[i].Rhs[q].Nt st.length = true := inR_iff.2 ⟨h0, by omega⟩
        have hat : at_ st g.Rules[i].Rhs[q].Nt = st.getD g.Rules[i].Rhs[q].Nt.toNat false := rfl
        simp only [if_true, ix_in hq, ix_at hq, hin, hat, Bool.not_true, Bool.false_or]
        cases st.getD g.Rules[i].Rhs[q].Nt.toNat false with
        | true => simp only [Bool.not_true, Bool.false_eq_true, if_false, Bool.and_true, hI]
        | false => simp only [Bool.not_false, if_true, Bool.and_false]
      | false => simp only [Bool.false_eq_true, if_false, Bool.not_false, Bool.true_or, Bool.and_true, hI]
    · subst hI
      simp only [F.ref06.Cyclic_l6, har, ix_ge (Nat.lt_irrefl _), Bool.false_eq_true, if_false]
      unfold F.ref06.Cyclic_j7
      rw [if_neg (by simp), List.take_length]
      exact ⟨_, rfl⟩
  · rw [if_neg hla, Bool.and_true]
    have db : (g.Rules[i].Lhs == (a : Int)) = false := by rw [beq_eq_false_iff_ne]; omega
    obtain ⟨k', rfl⟩ : ∃ k', k = k' + 1 := ⟨k - 1, by omega⟩
    unfold F.ref06.Cyclic_l6
    simp only [har, db]
    unfold F.ref06.Cyclic_j7
    simp only [Bool.false_eq_true, if_false]
    split <;> exact ⟨_, rfl⟩
theorem cyc_l4 (hk : 20000 ≤ k) (hg : RightG g) (hl : g.Rules.length ≤ 1000) (hst : st.length = g.Nts.toNat) {a : Nat} (v : List Bool × Int) (hv : v.1 = m) :
    ∃ b z, F.ref06.Cyclic_l4 k g v st (a : Int) k true 0 = some (b, z) ∧ (b = true ↔ ∀ x ∈ nextD g m a, st[x]? = some true) := by
  have hP : ∀ b : Bool, b = (g.Rules.all fun r => if r.Lhs.toNat = a then r.Rhs.all (fun s => !goS m r s || st.getD s.Nt.toNat false) else true) → (b = true ↔ ∀ x ∈ nextD g m a, st[x]? = some true) := by
    rintro b rfl
    rw [List.all_eq_true]
    have hget : ∀ x, st.getD x false = true ↔ st[x]? = some true := by
      intro x
      rw [List.getD_eq_getElem?_getD]
      cases st[x]? with
      | none => simp
      | some y => simp
    constructor
    · intro h x hx
      obtain ⟨r, hr, rfl, s, hs, hgo, rfl⟩ := mem_nextD.1 hx
      have h2 := h r hr
      rw [if_pos rfl, List.all_eq_true] at h2
      have h3 := h2 s hs
      rw [hgo] at h3
      exact (hget _).1 (by simpa using h3)
    · intro h r hr
      split
      · rename_i hla
        rw [List.all_eq_true]
        intro s hs
        cases hgo : goS m r s with
        | false => rfl
        | true =>
          rw [(hget _).2 (h _ (mem_nextD.2 ⟨r, hr, hla.symm, s, hs, hgo, rfl⟩))]
          rfl
      · rfl
  have key := loop_inv0 (n := g.Rules.length) (k := k) (σ := Bool) (s := true) (L := fun j q s => F.ref06.Cyclic_l4 k g v st (a : Int) j s q) (I := fun q s => s = ((g.Rules.take q).all fun r => if r.Lhs.toNat = a then r.Rhs.all (fun s => !goS m r s || st.getD s.Nt.toNat false) else true))
    (Q := fun o => ∃ z, o = some ((g.Rules.all fun r => if r.Lhs.toNat = a then r.Rhs.all (fun s => !goS m r s || st.getD s.Nt.toNat false) else true), z)) (by omega) (by simp) (fun j q s hq hI => ?_) (fun j s hI => ?_)
  · obtain ⟨z, e⟩ := key
    exact ⟨_, z, e, hP _ rfl⟩
  · simp only [F.ref06.Cyclic_l4, ix_lt hq, if_true]
    unfold F.ref06.Cyclic_j5
    cases s with
    | true =>
      left
      obtain ⟨z, e⟩ := cyc_l6 (m := m) (st := st) (a := a) hk hg hst hq v hv true
      refine ⟨_, rfl, ?_⟩
      simp only [if_true, ix_in hq]
      rw [e, Option.bind_some, ix_inc (by omega), List.take_succ_eq_append_getElem hq, List.all_append, ← hI]
      simp only [List.all_cons, List.all_nil, Bool.and_true]
    | false =>
      right
      simp only [Bool.false_eq_true, if_false]
      refine ⟨(q : Int), ?_⟩
      have : (g.Rules.all fun r => if r.Lhs.toNat = a then r.Rhs.all (fun s => !goS m r s || st.getD s.Nt.toNat false) else true) = false := by
        have h2 : g.Rules = g.Rules.take q ++ g.Rules.drop q := (List.take_append_drop q _).symm
        rw [h2, List.all_append, ← hI]
        rfl
      rw [this]
  · subst hI
    simp only [F.ref06.Cyclic_l4, ix_ge (Nat.lt_irrefl _), Bool.false_eq_true, if_false]
    unfold F.ref06.Cyclic_j5
    rw [if_neg (by simp), List.take_length]
    exact ⟨_, rfl⟩
theorem peel1_len {next : Nat → List Nat} {st : List Bool} {a : Nat} : (peel1 next st a).length = st.length := by
  unfold peel1
  split
  · rw [List.length_set]
  · rfl
theorem peelL_len {next : Nat → List Nat} : ∀ (l : List Nat) (st : List Bool), (l.foldl (peel1 next) st).length = st.length
  | [], _ => rfl
  | a :: l, st => by rw [List.foldl_cons, peelL_len l, peel1_len]
theorem cyc_l2 (hk : 20000 ≤ k) (hg : RightG g) (hn : g.Nts ≤ 1000) (hl : g.Rules.length ≤ 1000) (hst : st.length = g.Nts.toNat) (v : List Bool × Int) (hv : v.1 = m) :
    ∃ z, F.ref06.Cyclic_l2 k g v k st ((st.count false : Nat) : Int) 0 = some (peelR (nextD g m) g.Nts.toNat st, (((peelR (nextD g m) g.Nts.toNat st).count false : Nat) : Int), z) := by
  have h1 := hg.n1
  refine loop_inv0 (n := g.Nts.toNat) (k := k) (σ := List Bool × Int) (s := (st, ((st.count false : Nat) : Int))) (L := fun j q s => F.ref06.Cyclic_l2 k g v j s.1 s.2 q)
    (I := fun q s => s.1 = (List.range q).foldl (peel1 (nextD g m)) st ∧ s.2 = ((s.1.count false : Nat) : Int)) (Q := fun o => ∃ z, o = some (peelR (nextD g m) g.Nts.toNat st, (((peelR (nextD g m) g.Nts.toNat st).count false : Nat) : Int), z)) (by omega) ⟨rfl, rfl⟩ (fun j q s hq hI => ?_) (fun j s hI => ?_)
  · left
    obtain ⟨s1, s2⟩ := s
    obtain ⟨hI1, hI2⟩ := hI
    simp only at hI1 hI2
    have hsl : s1.length = g.Nts.toNat := by rw [hI1, peelL_len, hst]
    have d0 : decide ((q : Int) < g.Nts) = true := decide_eq_true (by omega)
    have hq' : q < s1.length := by omega
    have hcnt := List.count_le_length (a := false) (l := s1)
    rw [List.range_succ, List.foldl_append, ← hI1]
    simp only [List.foldl_cons, List.foldl_nil]
    simp only [F.ref06.Cyclic_l2, d0, if_true, ix_in hq', ix_at hq']
    unfold F.ref06.Cyclic_j11 F.ref06.Cyclic_j3
    rw [ix_inc (by omega)]
    have hget : s1[q]? = some s1[q] := List.getElem?_eq_getElem hq'
    cases hb : s1[q] with
    | true =>
      refine ⟨(s1, s2), ⟨?_, hI2⟩, by simp⟩
      unfold peel1
      rw [hget, hb, if_neg (by simp)]
    | false =>
      obtain ⟨b, z, e, hbz⟩ := cyc_l4 (m := m) (st := s1) (a := q) hk hg hl hsl v hv
      rw [e]
      cases b with
      | true =>
        have hc := count_false_set (m := s1) (a := q) hq' (by rw [List.getD_eq_getElem?_getD, hget, hb]; rfl)
        have hw : IntKind.wrap .i64 (s2 - 1) = (((s1.set q true).count false : Nat) : Int) := by rw [hI2, wrap_i64 (by omega) (by omega)]; omega
        have hset : set_ s1 (q : Int) true = s1.set q true := rfl
        refine ⟨(s1.set q true, IntKind.wrap .i64 (s2 - 1)), ⟨?_, hw⟩, ?_⟩
        · unfold peel1
          rw [hget, hb, if_pos ⟨rfl, hbz.1 rfl⟩]
        · simp [hset]
      | false =>
        refine ⟨(s1, s2), ⟨?_, hI2⟩, by simp⟩
        unfold peel1
        rw [if_neg (fun h => by have := hbz.2 h.2; cases this)]
  · obtain ⟨s1, s2⟩ := s
    obtain ⟨hI1, hI2⟩ := hI
    simp only at hI1 hI2
    subst hI1 hI2
    have d0 : decide ((g.Nts.toNat : Int) < g.Nts) = false := decide_eq_false (by omega)
    simp only [F.ref06.Cyclic_l2, d0, Bool.false_eq_true, if_false]
    exact ⟨_, rfl⟩
theorem peelN_succ {next : Nat → List Nat} {N : Nat} : ∀ (r : Nat) (st : List Bool), peelN next N (r + 1) st = peelR next N (peelN next N r st)
  | 0, _ => rfl
  | r + 1, st => by
    show peelN next N (r + 1) (peelR next N st) = _
    rw [peelN_succ r]
    rfl
theorem peelN_len {next : Nat → List Nat} {N : Nat} : ∀ (r : Nat) (st : List Bool), (peelN next N r st).length = st.length
  | 0, _ => rfl
  | r + 1, st => by
    show (peelN next N r (peelR next N st)).length = _
    rw [peelN_len r]
    exact peelL_len _ _
theorem cyc_l1 (hk : 20000 ≤ k) (hg : RightG g) (hn : g.Nts ≤ 1000) (hl : g.Rules.length ≤ 1000) (v : List Bool × Int) (hv : v.1 = m) :
    F.ref06.Cyclic_l1 k g v k (List.replicate g.Nts.toNat false) g.Nts 0 = some (((peelN (nextD g m) g.Nts.toNat g.Nts.toNat (List.replicate g.Nts.toNat false)).count false : Nat) : Int) := by
  have h1 := hg.n1
  have hc0 : (List.replicate g.Nts.toNat false).count false = g.Nts.toNat := List.count_replicate_self
  refine loop_inv0 (n := g.Nts.toNat) (k := k) (σ := List Bool × Int) (s := (List.replicate g.Nts.toNat false, g.Nts)) (L := fun j q s => F.ref06.Cyclic_l1 k g v j s.1 s.2 q)
    (I := fun q s => s.1 = peelN (nextD g m) g.Nts.toNat q (List.replicate g.Nts.toNat false) ∧ s.2 = ((s.1.count false : Nat) : Int)) (Q := fun o => o = some (((peelN (nextD g m) g.Nts.toNat g.Nts.toNat (List.replicate g.Nts.toNat false)).count false : Nat) : Int)) (by omega) ⟨rfl, by show g.Nts = _; rw [hc0]; omega⟩ (fun j q s hq hI => ?_) (fun j s hI => ?_)
  · left
    obtain ⟨s1, s2⟩ := s
    obtain ⟨hI1, hI2⟩ := hI
    simp only at hI1 hI2
    have d0 : decide ((q : Int) < g.Nts) = true := decide_eq_true (by omega)
    have hsl : s1.length = g.Nts.toNat := by rw [hI1, peelN_len, List.length_replicate]
    obtain ⟨z, e⟩ := cyc_l2 (m := m) (st := s1) hk hg hn hl hsl v hv
    refine ⟨(peelR (nextD g m) g.Nts.toNat s1, (((peelR (nextD g m) g.Nts.toNat s1).count false : Nat) : Int)), ⟨?_, rfl⟩, ?_⟩
    · rw [peelN_succ, ← hI1]
    · simp only [F.ref06.Cyclic_l1, d0, if_true]
      rw [hI2, e, Option.bind_some, ix_inc (by omega)]
  · obtain ⟨s1, s2⟩ := s
    obtain ⟨hI1, hI2⟩ := hI
    simp only at hI1 hI2
    have d0 : decide ((g.Nts.toNat : Int) < g.Nts) = false := decide_eq_false (by omega)
    simp only [F.ref06.Cyclic_l1, d0, Bool.false_eq_true, if_false]
    rw [hI2, hI1]
theorem RefCyclic_ok (hk : 20000 ≤ k) (hr : rightB g = true) (hsm : SmallG g) (w : List Int) : ∃ b, F.ref06.Cyclic k g = some (b, 0) ∧ (b = false ↔ Acyc g w) := by
  have hg := rightG hr
  have h1 := hg.n1
  have h2 := hsm.nts
  have h3 := hsm.rules
  obtain ⟨m, em, hm⟩ := marks_ok hk hg (by omega) (by omega) w
  have hR : F.ref06.Right k g = some 0 := by
    have := Right_ok6 (k := k) (g := g) (by omega)
    rw [this, hr]
    rfl
  unfold F.ref06.Cyclic F.ref06.Nullable
  have e0 : F.ref06.none_ k g.Nts = some (List.replicate g.Nts.toNat false) := by
    have := none_ok (k := k) (n := g.Nts.toNat) (by omega) (by omega)
    rwa [Int.toNat_of_nonneg (by omega)] at this
  rw [hR, Option.bind_some]
  simp only [bne_self_eq_false, Bool.false_eq_true, if_false, em, Option.bind_some, e0]
  rw [cyc_l1 (m := m) hk hg (by omega) (by omega) (m, 0) rfl, Option.bind_some]
  have hnl : ∀ a b, b ∈ nextD g m a ↔ Leads (Rs g w) a b := fun a b => mem_nextD.trans (leads_iff hg hm)
  have hnx : ∀ a, a < g.Nts.toNat → ∀ b ∈ nextD g m a, b < g.Nts.toNat := by
    intro a _ b hb
    obtain ⟨r, hr, _, s, hs, hgo, rfl⟩ := mem_nextD.1 hb
    have := hg.nt2 r hr s hs
    have := goS_nt hgo
    omega
  refine ⟨_, rfl, ?_⟩
  rcases peel_ok hnx with ⟨hc, ρ, hρ⟩ | ⟨hc, hno⟩
  · rw [hc]
    refine ⟨fun _ => ?_, fun _ => rfl⟩
    refine ⟨fun a => if a < g.Nts.toNat then ρ a else 0, fun a => ?_, fun a b hab => ?_⟩
    · by_cases ha : a < g.Nts.toNat
      · simp only [if_pos ha]
        exact Nat.le_of_lt (hρ a ha).1
      · simp only [if_neg ha]
        omega
    · have hb := (hnl a b).2 hab
      have ha : a < g.Nts.toNat := by
        obtain ⟨r, hr, e, _⟩ := mem_nextD.1 hb
        have := hg.lhs2 r hr
        have := hg.lhs1 r hr
        omega
      have hb2 := hnx a ha b hb
      simp only [if_pos ha, if_pos hb2]
      exact (hρ a ha).2 b hb
  · have hd : decide (0 < (((peelN (nextD g m) g.Nts.toNat g.Nts.toNat (List.replicate g.Nts.toNat false)).count false : Nat) : Int)) = true := decide_eq_true (by omega)
    rw [hd]
    refine ⟨fun h => (by cases h), fun ⟨ρ, hf⟩ => ?_⟩
    exfalso
    obtain ⟨r, _, hr'⟩ := cyc_ok (N := g.Nts.toNat) (k := g.Nts.toNat) hnx (Nat.le_refl _)
    rcases hr' with ⟨_, a, ha, hw⟩ | ⟨_, h⟩
    · exact absurd (way_falls (E := fun a b => b ∈ nextD g m a) (ρ := ρ) (fun a b hab => hf.lt a b ((hnl a b).1 hab)) hw) (Nat.lt_irrefl _)
    · exact hno h
end
theorem RefFit_ok {k : Nat} (hk : 100000 ≤ k) {g : Gram} (hsm : rightB g = true → SmallG g) (w : List Int) {e : Int} (he : F.forest.fit k g w = some e) : F.ref08.Fit k g w = some e := by
  obtain ⟨e', he', h0, h3, h2, h48⟩ := fit_ok (k := k) hk hsm w
  rw [he] at he'
  cases he'
  unfold F.ref08.Fit F.ref07.Fit
  have hR := Right_ok6 (k := k) (g := g) (by omega)
  cases hr : rightB g with
  | false =>
    rw [hr] at hR
    rw [h3 hr, hR]
    rfl
  | true =>
    rw [hr] at hR
    rw [hR, Option.bind_some]
    obtain ⟨b, eb, hb⟩ := RefCyclic_ok (k := k) (by omega) hr (hsm hr) w
    by_cases hl : 512 < (w.length : Int)
    · rw [h2 hr hl]
      unfold F.ref07.Fit_j1
      simp [hl]
    · unfold F.ref07.Fit_j1
      simp only [if_true, bne_self_eq_false, Bool.false_eq_true, if_false, hl, decide_false, Option.bind_some, eb]
      cases b with
      | true =>
        rw [h48 hr (by omega) (fun h => by have := hb.2 h; cases this)]
        rfl
      | false =>
        rw [h0.2 ⟨hr, by omega, hb.1 rfl⟩]
        rfl
end Go.Vc
