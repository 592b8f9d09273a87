/-
  Which symbols may be empty, by closure; a walk in depth that finds a way back just if no rank falls; striking what leads nowhere.
-/
import Derived.Test.YtfhbgelpmbkooaaGA
set_option linter.unusedVariables false
set_option linter.unusedSimpArgs false
namespace Go.Vc.Ea
variable {R : List Ru}
theorem null_closed {r : Ru} (hr : r ∈ R) (h : ∀ s ∈ r.rhs, Null R s) : Null R (.nt r.lhs) := by
  have key : ∀ (α : List Sy), (∀ s ∈ α, Null R s) → Der R α 0 0 := by
    refine list_snoc (fun _ => .nil 0) (fun α s ih hs => ?_)
    have h1 := ih (fun x hx => hs x (List.mem_append_left _ hx))
    have h2 := hs s (by simp)
    cases s with
    | tm p => exact h2.elim
    | nt a => exact der_snoc.2 ⟨0, h1, h2⟩
  exact derY_nt.2 ⟨r, hr, rfl, key _ h⟩
theorem null_least {P : Nat → Prop} (hP : ∀ r ∈ R, (∀ s ∈ r.rhs, ∃ b, s = .nt b ∧ P b) → P r.lhs) {a : Nat} (h : Null R (.nt a)) : P a := by
  have key : ∀ {α : List Sy} {i j : Nat}, Der R α i j → i = j → ∀ s ∈ α, ∃ b, s = Sy.nt b ∧ P b := by
    intro α i j hd
    induction hd with
    | nil => exact fun _ s hs => by cases hs
    | @tm α i m p h hp ih =>
      intro e
      have := h.le
      omega
    | @nt α i m j r h hr hd ih ih2 =>
      intro e s hs
      have h1 := h.le
      have h2 := hd.le
      rcases List.mem_append.1 hs with hs | hs
      · exact ih (by omega) s hs
      · rw [List.mem_singleton] at hs
        exact ⟨r.lhs, hs, hP r hr (ih2 (by omega))⟩
  obtain ⟨b, e, hb⟩ := key h rfl (.nt a) (by simp)
  cases e
  exact hb
inductive Way (E : Nat → Nat → Prop) : Nat → Nat → Prop
  | one {a b : Nat} (h : E a b) : Way E a b
  | more {a b c : Nat} (h : Way E a b) (h2 : E b c) : Way E a c
theorem Way.trans {E : Nat → Nat → Prop} {a b c : Nat} (h : Way E a b) (h2 : Way E b c) : Way E a c := by
  induction h2 with
  | one h2 => exact .more h h2
  | more _ h3 ih => exact .more ih h3
theorem way_falls {E : Nat → Nat → Prop} {ρ : Nat → Nat} (h : ∀ a b, E a b → ρ b < ρ a) {a b : Nat} (hw : Way E a b) : ρ b < ρ a := by
  induction hw with
  | one h2 => exact h _ _ h2
  | more _ h2 ih => exact Nat.lt_trans (h _ _ h2) ih
structure BI (next : Nat → List Nat) (st : List Nat) (ρ : Nat → Nat) : Prop where
  lt : ∀ a : Nat, st[a]? = some 2 → ρ a < st.count 2
  fall : ∀ a : Nat, st[a]? = some 2 → ∀ b ∈ next a, st[b]? = some 2 ∧ ρ b < ρ a
section dfs
variable (next : Nat → List Nat)
def goL (v : List Nat → Nat → Option (Bool × List Nat)) : List Nat → List Nat → Option (Bool × List Nat)
  | st, [] => some (false, st)
  | st, m :: ms => if st[m]? = some 1 then some (true, st) else if st[m]? = some 0 then (match v st m with
      | none => none
      | some (true, st') => some (true, st')
      | some (false, st') => goL v st' ms) else goL v st ms
def visit : Nat → List Nat → Nat → Option (Bool × List Nat)
  | 0, _, _ => none
  | k + 1, st, n => match goL (visit k) (st.set n 1) (next n) with
    | none => none
    | some (true, st') => some (true, st')
    | some (false, st') => some (false, st'.set n 2)
end dfs
theorem count_set_ne {l : List Nat} {n v c x : Nat} (h : l[n]? = some c) (h1 : c ≠ x) (h2 : v ≠ x) : (l.set n v).count x = l.count x := by
  have hn : n < l.length := (List.getElem?_eq_some_iff.1 h).1
  have hc := (List.getElem?_eq_some_iff.1 h).2
  rw [List.count_set hn, hc]
  simp [h1, h2]
theorem count_set_new {l : List Nat} {n c x : Nat} (h : l[n]? = some c) (h1 : c ≠ x) : (l.set n x).count x = l.count x + 1 := by
  have hn : n < l.length := (List.getElem?_eq_some_iff.1 h).1
  have hc := (List.getElem?_eq_some_iff.1 h).2
  rw [List.count_set hn, hc]
  simp [h1]
theorem count_set_old {l : List Nat} {n v x : Nat} (h : l[n]? = some x) (h1 : v ≠ x) : (l.set n v).count x + 1 = l.count x := by
  have hn : n < l.length := (List.getElem?_eq_some_iff.1 h).1
  have hc := (List.getElem?_eq_some_iff.1 h).2
  have hp : 0 < l.count x := List.count_pos_iff.2 (List.mem_of_getElem? h)
  rw [List.count_set hn, hc]
  simp [h1]
  omega
theorem get_set {l : List Nat} {n v x : Nat} (hn : n < l.length) : (l.set n v)[x]? = if x = n then some v else l[x]? := by
  rw [List.getElem?_set]
  by_cases h : x = n
  · subst h; simp [hn]
  · rw [if_neg (fun e => h e.symm), if_neg h]
structure Vok (next : Nat → List Nat) (st st' : List Nat) : Prop where
  len : st'.length = st.length
  one : ∀ x : Nat, st'[x]? = some 1 ↔ st[x]? = some 1
  two : ∀ x : Nat, st[x]? = some 2 → st'[x]? = some 2
  zero : st'.count 0 ≤ st.count 0
  bi : ∃ ρ, BI next st' ρ
theorem Vok.trans {next : Nat → List Nat} {a b c : List Nat} (h : Vok next a b) (h2 : Vok next b c) : Vok next a c :=
  ⟨h2.len.trans h.len, fun x => (h2.one x).trans (h.one x), fun x hx => h2.two x (h.two x hx), Nat.le_trans h2.zero h.zero, h2.bi⟩
theorem visit_ok {next : Nat → List Nat} {N : Nat} (hnx : ∀ a, a < N → ∀ b ∈ next a, b < N) : ∀ (k : Nat) (st : List Nat) (n : Nat), st.length = N → (∀ x ∈ st, x ≤ 2) → st[n]? = some 0 → st.count 0 ≤ k → (∀ g : Nat, st[g]? = some 1 → Way (fun a b => b ∈ next a) g n) → (∃ ρ, BI next st ρ) →
    ∃ r, visit next k st n = some r ∧ ((r.1 = true ∧ ∃ a, a < N ∧ Way (fun a b => b ∈ next a) a a) ∨ (r.1 = false ∧ Vok next st r.2 ∧ r.2[n]? = some 2 ∧ ∀ x ∈ r.2, x ≤ 2)) := by
  intro k
  induction k with
  | zero =>
    intro st n _ _ hn hc _ _
    have := List.count_pos_iff.2 (List.mem_of_getElem? hn)
    omega
  | succ k ih =>
    intro st n hl h2 hn hc hg hb
    have hnlt : n < st.length := (List.getElem?_eq_some_iff.1 hn).1
    have hgo : ∀ (ms : List Nat) (s : List Nat), (∀ m ∈ ms, m ∈ next n) → Vok next (st.set n 1) s → (∀ x ∈ s, x ≤ 2) → s.count 0 ≤ k → ∃ r, goL (visit next k) s ms = some r ∧ ((r.1 = true ∧ ∃ a, a < N ∧ Way (fun a b => b ∈ next a) a a) ∨ (r.1 = false ∧ Vok next (st.set n 1) r.2 ∧ (∀ x ∈ r.2, x ≤ 2) ∧ (∀ x : Nat, s[x]? = some 2 → r.2[x]? = some 2) ∧ ∀ m ∈ ms, r.2[m]? = some 2)) := by
      intro ms
      induction ms with
      | nil => intro s _ hv hs _; exact ⟨_, rfl, .inr ⟨rfl, hv, hs, fun _ h => h, fun m hm => by cases hm⟩⟩
      | cons m ms ihm =>
        intro s hms hv hs hk
        have hm := hms m List.mem_cons_self
        have hmN : m < s.length := by rw [hv.len, List.length_set, hl]; exact hnx n (hl ▸ hnlt) m hm
        have hgray : ∀ g : Nat, s[g]? = some 1 → g = n ∨ Way (fun a b => b ∈ next a) g n := by
          intro g h1
          have := (hv.one g).1 h1
          rw [get_set hnlt] at this
          by_cases e : g = n
          · exact .inl e
          · rw [if_neg e] at this; exact .inr (hg g this)
        unfold goL
        have hsm : s[m]? = some s[m] := List.getElem?_eq_getElem hmN
        have hle := hs _ (List.getElem_mem hmN)
        by_cases h1 : s[m]? = some 1
        · rw [if_pos h1]
          refine ⟨_, rfl, .inl ⟨rfl, m, hnx n (hl ▸ hnlt) m hm, ?_⟩⟩
          rcases hgray m h1 with e | hw
          · subst e; exact .one hm
          · exact .more hw hm
        rw [if_neg h1]
        by_cases h0 : s[m]? = some 0
        · rw [if_pos h0]
          obtain ⟨r, e, hr⟩ := ih s m (hv.len.trans (by rw [List.length_set, hl])) hs h0 hk (fun g h1 => by
            rcases hgray g h1 with e | hw
            · subst e; exact .one hm
            · exact .more hw hm) hv.bi
          rw [e]
          obtain ⟨b, s'⟩ := r
          rcases hr with ⟨hb1, hw⟩ | ⟨hb1, hv', hm2, hs'⟩
          · cases hb1
            exact ⟨_, rfl, .inl ⟨rfl, hw⟩⟩
          · cases hb1
            simp only at hv' hm2 hs' ⊢
            obtain ⟨r2, e2, hr2⟩ := ihm s' (fun x hx => hms x (List.mem_cons_of_mem _ hx)) (hv.trans hv') hs' (Nat.le_trans hv'.zero hk)
            refine ⟨r2, e2, hr2.imp id (fun ⟨a, b, c, g, d⟩ => ⟨a, b, c, fun x hx => g x (hv'.two x hx), fun x hx => ?_⟩)⟩
            rcases List.mem_cons.1 hx with rfl | hx
            · exact g _ hm2
            · exact d x hx
        · rw [if_neg h0]
          obtain ⟨r2, e2, hr2⟩ := ihm s (fun x hx => hms x (List.mem_cons_of_mem _ hx)) hv hs hk
          refine ⟨r2, e2, hr2.imp id (fun ⟨a, b, c, g, d⟩ => ⟨a, b, c, g, fun x hx => ?_⟩)⟩
          rcases List.mem_cons.1 hx with rfl | hx
          · refine g _ ?_
            rw [hsm] at h0 h1 ⊢
            simp only [Option.some.injEq] at h0 h1 ⊢
            omega
          · exact d x hx
    obtain ⟨ρ, hρ⟩ := hb
    have hset : ∀ x : Nat, (st.set n 1)[x]? = some 2 ↔ st[x]? = some 2 := by
      intro x
      rw [get_set hnlt]
      by_cases e : x = n
      · subst e; rw [if_pos rfl, hn]; simp
      · rw [if_neg e]
    have hv0 : Vok next (st.set n 1) (st.set n 1) := by
      refine ⟨rfl, fun _ => Iff.rfl, fun _ h => h, Nat.le_refl _, ρ, ⟨fun a ha => ?_, fun a ha b hb => ?_⟩⟩
      · rw [count_set_ne hn (by decide) (by decide)]
        exact hρ.lt a ((hset a).1 ha)
      · obtain ⟨h1, h3⟩ := hρ.fall a ((hset a).1 ha) b hb
        exact ⟨(hset b).2 h1, h3⟩
    have h02 : ∀ x ∈ st.set n 1, x ≤ 2 := by
      intro x hx
      rcases List.mem_or_eq_of_mem_set hx with h | h
      · exact h2 x h
      · omega
    have hcz := count_set_old (v := 1) hn (by decide)
    obtain ⟨r, e, hr⟩ := hgo (next n) (st.set n 1) (fun _ h => h) hv0 h02 (by omega)
    unfold visit
    rw [e]
    obtain ⟨b, s'⟩ := r
    rcases hr with ⟨hb1, hw⟩ | ⟨hb1, hv, hs, _, hall⟩
    · cases hb1
      exact ⟨_, rfl, .inl ⟨rfl, hw⟩⟩
    · cases hb1
      simp only at hv hs hall ⊢
      have hlen : s'.length = st.length := by rw [hv.len, List.length_set]
      have hn1 : s'[n]? = some 1 := (hv.one n).2 (by rw [get_set hnlt, if_pos rfl])
      have hnl : n < s'.length := by omega
      obtain ⟨ρ', hρ'⟩ := hv.bi
      refine ⟨_, rfl, .inr ⟨rfl, ⟨?_, ?_, ?_, ?_, fun x => if x = n then s'.count 2 else ρ' x, ?_, ?_⟩, by rw [get_set hnl, if_pos rfl], ?_⟩⟩
      · rw [List.length_set, hlen]
      · intro x
        rw [get_set hnl]
        by_cases e : x = n
        · subst e; rw [if_pos rfl, hn]; simp
        · rw [if_neg e, hv.one x, get_set hnlt, if_neg e]
      · intro x hx
        rw [get_set hnl]
        by_cases e : x = n
        · rw [if_pos e]
        · rw [if_neg e]
          exact hv.two x ((hset x).2 hx)
      · rw [count_set_ne hn1 (by decide) (by decide)]
        have := hv.zero
        omega
      · intro a ha
        rw [count_set_new hn1 (by decide)]
        rw [get_set hnl] at ha
        by_cases e : a = n
        · simp only [if_pos e]; omega
        · rw [if_neg e] at ha
          simp only [if_neg e]
          have := hρ'.lt a ha
          omega
      · intro a ha b hb
        rw [get_set hnl] at ha ⊢
        have hb2 : s'[b]? = some 2 ∧ b ≠ n ∧ ρ' b < s'.count 2 ∧ (a ≠ n → ρ' b < ρ' a) := by
          by_cases e : a = n
          · subst e
            have h1 := hall b hb
            refine ⟨h1, fun e => ?_, hρ'.lt b h1, fun h => absurd rfl h⟩
            rw [e, hn1] at h1
            cases h1
          · rw [if_neg e] at ha
            obtain ⟨h1, h3⟩ := hρ'.fall a ha b hb
            refine ⟨h1, fun e => ?_, hρ'.lt b h1, fun _ => h3⟩
            rw [e, hn1] at h1
            cases h1
        obtain ⟨q1, q2, q3, q4⟩ := hb2
        rw [if_neg q2]
        refine ⟨q1, ?_⟩
        simp only [if_neg q2]
        by_cases e : a = n
        · rw [if_pos e]; exact q3
        · rw [if_neg e]; exact q4 e
      · intro x hx
        rcases List.mem_or_eq_of_mem_set hx with h | h
        · exact hs x h
        · omega
def cycL (next : Nat → List Nat) (k : Nat) : List Nat → List Nat → Option Bool
  | _, [] => some false
  | st, n :: ns => if st[n]? = some 0 then (match visit next k st n with
      | none => none
      | some (true, _) => some true
      | some (false, st') => cycL next k st' ns) else cycL next k st ns
def Rank (next : Nat → List Nat) (N : Nat) (ρ : Nat → Nat) : Prop := ∀ a, a < N → ρ a < N ∧ ∀ b ∈ next a, ρ b < ρ a
theorem cycL_ok {next : Nat → List Nat} {N k : Nat} (hnx : ∀ a, a < N → ∀ b ∈ next a, b < N) (hk : N ≤ k) : ∀ (ns st : List Nat), st.length = N → (∀ x ∈ st, x ≤ 2) → (∀ g : Nat, st[g]? ≠ some 1) → (∃ ρ, BI next st ρ) → (∀ n ∈ ns, n < N) → (∀ n, n < N → n ∉ ns → st[n]? = some 2) →
    ∃ r, cycL next k st ns = some r ∧ ((r = true ∧ ∃ a, a < N ∧ Way (fun a b => b ∈ next a) a a) ∨ (r = false ∧ ∃ ρ, Rank next N ρ)) := by
  intro ns
  induction ns with
  | nil =>
    intro st hl _ _ hb _ hd
    obtain ⟨ρ, hρ⟩ := hb
    refine ⟨false, rfl, .inr ⟨rfl, ρ, fun a ha => ?_⟩⟩
    have h2 := hd a ha (by simp)
    have h3 := hρ.lt a h2
    have h4 := List.count_le_length (a := 2) (l := st)
    exact ⟨by omega, fun b hb => (hρ.fall a h2 b hb).2⟩
  | cons n ns ih =>
    intro st hl h2 hg hb hns hd
    have hnN := hns n List.mem_cons_self
    have hn : n < st.length := by omega
    have hsn : st[n]? = some st[n] := List.getElem?_eq_getElem hn
    unfold cycL
    by_cases h0 : st[n]? = some 0
    · rw [if_pos h0]
      have hc0 := List.count_le_length (a := 0) (l := st)
      obtain ⟨r, e, hr⟩ := visit_ok hnx k st n hl h2 h0 (by omega) (fun g h => absurd h (hg g)) hb
      rw [e]
      obtain ⟨b, s'⟩ := r
      rcases hr with ⟨hb1, hw⟩ | ⟨hb1, hv, hn2, hs'⟩
      · cases hb1
        exact ⟨true, rfl, .inl ⟨rfl, hw⟩⟩
      · cases hb1
        simp only at hv hn2 hs' ⊢
        refine ih s' (by rw [hv.len, hl]) hs' (fun g h => hg g ((hv.one g).1 h)) hv.bi (fun x hx => hns x (List.mem_cons_of_mem _ hx)) (fun x hx hxs => ?_)
        by_cases e : x = n
        · rw [e]; exact hn2
        · exact hv.two x (hd x hx (by simp [e, hxs]))
    · rw [if_neg h0]
      refine ih st hl h2 hg hb (fun x hx => hns x (List.mem_cons_of_mem _ hx)) (fun x hx hxs => ?_)
      by_cases e : x = n
      · subst e
        have := h2 _ (List.getElem_mem hn)
        have hg' := hg x
        rw [hsn] at h0 hg' ⊢
        simp only [Option.some.injEq, ne_eq] at h0 hg' ⊢
        omega
      · exact hd x hx (by simp [e, hxs])
theorem cyc_ok {next : Nat → List Nat} {N k : Nat} (hnx : ∀ a, a < N → ∀ b ∈ next a, b < N) (hk : N ≤ k) : ∃ r, cycL next k (List.replicate N 0) (List.range N) = some r ∧ ((r = true ∧ ∃ a, a < N ∧ Way (fun a b => b ∈ next a) a a) ∨ (r = false ∧ ∃ ρ, Rank next N ρ)) := by
  refine cycL_ok hnx hk _ _ (by simp) (fun x hx => by rw [List.eq_of_mem_replicate hx]; omega) (fun g h => ?_) ⟨fun _ => 0, ⟨fun a ha => ?_, fun a ha => ?_⟩⟩ (fun n hn => List.mem_range.1 hn) (fun n hn h => absurd (List.mem_range.2 hn) h)
  · have := List.eq_of_mem_replicate (List.mem_of_getElem? h)
    omega
  · have := List.eq_of_mem_replicate (List.mem_of_getElem? ha)
    omega
  · have := List.eq_of_mem_replicate (List.mem_of_getElem? ha)
    omega
def peel1 (next : Nat → List Nat) (st : List Bool) (a : Nat) : List Bool := if st[a]? = some false ∧ (∀ b ∈ next a, st[b]? = some true) then st.set a true else st
def peelR (next : Nat → List Nat) (N : Nat) (st : List Bool) : List Bool := (List.range N).foldl (peel1 next) st
def peelN (next : Nat → List Nat) (N : Nat) : Nat → List Bool → List Bool
  | 0, st => st
  | r + 1, st => peelN next N r (peelR next N st)
structure PI (next : Nat → List Nat) (N : Nat) (st : List Bool) : Prop where
  len : st.length = N
  rank : ∃ ρ : Nat → Nat, (∀ a : Nat, st[a]? = some true → ρ a < st.count true ∧ ∀ b ∈ next a, st[b]? = some true ∧ ρ b < ρ a)
theorem peel1_ok {next : Nat → List Nat} {N : Nat} {st : List Bool} (h : PI next N st) (a : Nat) : PI next N (peel1 next st a) ∧ (peel1 next st a = st ∨ (peel1 next st a).count false + 1 = st.count false) := by
  unfold peel1
  split
  · rename_i hc
    obtain ⟨h0, hall⟩ := hc
    have ha : a < st.length := (List.getElem?_eq_some_iff.1 h0).1
    have hv := (List.getElem?_eq_some_iff.1 h0).2
    have hp : 0 < st.count false := List.count_pos_iff.2 (List.mem_of_getElem? h0)
    refine ⟨⟨by rw [List.length_set, h.len], ?_⟩, .inr ?_⟩
    · obtain ⟨ρ, hρ⟩ := h.rank
      have hct : (st.set a true).count true = st.count true + 1 := by
        rw [List.count_set ha, hv]
        simp
      have hg : ∀ x : Nat, (st.set a true)[x]? = if x = a then some true else st[x]? := by
        intro x
        rw [List.getElem?_set]
        by_cases e : x = a
        · subst e; simp [ha]
        · rw [if_neg (fun h => e h.symm), if_neg e]
      refine ⟨fun x => if x = a then st.count true else ρ x, fun x hx => ?_⟩
      rw [hg] at hx
      rw [hct]
      have hb : ∀ b ∈ next x, st[b]? = some true := by
        intro b hb
        by_cases e : x = a
        · subst e; exact hall b hb
        · rw [if_neg e] at hx; exact ((hρ x hx).2 b hb).1
      have hne : ∀ b ∈ next x, b ≠ a := by
        intro b hb' e
        have := hb b hb'
        rw [e, h0] at this
        cases this
      by_cases e : x = a
      · simp only [if_pos e]
        refine ⟨by omega, fun b hb' => ?_⟩
        rw [hg, if_neg (hne b hb'), if_neg (hne b hb')]
        exact ⟨hb b hb', (hρ b (hb b hb')).1⟩
      · rw [if_neg e] at hx
        simp only [if_neg e]
        have h1 := hρ x hx
        refine ⟨by omega, fun b hb' => ?_⟩
        rw [hg, if_neg (hne b hb'), if_neg (hne b hb')]
        exact h1.2 b hb'
    · rw [List.count_set ha, hv]
      simp
      omega
  · exact ⟨h, .inl rfl⟩
theorem peelL_ok {next : Nat → List Nat} {N : Nat} : ∀ (ns : List Nat) {st : List Bool}, PI next N st → PI next N (ns.foldl (peel1 next) st) ∧ ((ns.foldl (peel1 next) st).count false < st.count false ∨ (ns.foldl (peel1 next) st = st ∧ ∀ a ∈ ns, peel1 next st a = st))
  | [], st, h => ⟨h, .inr ⟨rfl, fun a ha => by cases ha⟩⟩
  | a :: ns, st, h => by
    obtain ⟨h1, h2⟩ := peel1_ok h a
    obtain ⟨h3, h4⟩ := peelL_ok ns h1
    rw [List.foldl_cons]
    refine ⟨h3, ?_⟩
    rcases h2 with h2 | h2
    · rw [h2] at h4 ⊢
      refine h4.imp id (fun ⟨x, y⟩ => ⟨x, fun b hb => ?_⟩)
      rcases List.mem_cons.1 hb with rfl | hb
      · exact h2
      · exact y b hb
    · refine .inl ?_
      rcases h4 with h4 | ⟨h4, _⟩
      · omega
      · rw [h4]; omega
theorem peelN_ok {next : Nat → List Nat} {N : Nat} : ∀ (r : Nat) {st : List Bool}, PI next N st → PI next N (peelN next N r st) ∧ ((peelN next N r st).count false + r ≤ st.count false ∨ ∀ a ∈ List.range N, peel1 next (peelN next N r st) a = peelN next N r st)
  | 0, st, h => ⟨h, .inl (Nat.le_refl _)⟩
  | r + 1, st, h => by
    obtain ⟨h1, h2⟩ := peelL_ok (List.range N) h
    unfold peelN
    rcases h2 with h2 | ⟨h2, h3⟩
    · obtain ⟨h4, h5⟩ := peelN_ok r h1
      refine ⟨h4, h5.imp (fun h => ?_) id⟩
      have : (peelR next N st).count false < st.count false := h2
      have h' : (peelN next N r (peelR next N st)).count false + r ≤ (peelR next N st).count false := h
      omega
    · have hst : ∀ q, peelN next N q st = st := by
        intro q
        induction q with
        | zero => rfl
        | succ q ih => unfold peelN; rw [show peelR next N st = st from h2, ih]
      rw [show peelR next N st = st from h2, hst r]
      exact ⟨h, .inr h3⟩
theorem peel_ok {next : Nat → List Nat} {N : Nat} (hnx : ∀ a, a < N → ∀ b ∈ next a, b < N) : ((peelN next N N (List.replicate N false)).count false = 0 ∧ ∃ ρ, Rank next N ρ) ∨ (0 < (peelN next N N (List.replicate N false)).count false ∧ ¬ ∃ ρ, Rank next N ρ) := by
  have h0 : PI next N (List.replicate N false) := ⟨by simp, fun _ => 0, fun a ha => by
    have := List.eq_of_mem_replicate (List.mem_of_getElem? ha)
    cases this⟩
  obtain ⟨h1, h2⟩ := peelN_ok N h0
  generalize peelN next N N (List.replicate N false) = st at *
  by_cases hc : st.count false = 0
  · refine .inl ⟨hc, ?_⟩
    obtain ⟨ρ, hρ⟩ := h1.rank
    have hall : ∀ a, a < N → st[a]? = some true := by
      intro a ha
      have hl : a < st.length := by rw [h1.len]; exact ha
      rw [List.getElem?_eq_getElem hl]
      cases hb : st[a] with
      | true => rfl
      | false =>
        have : false ∈ st := hb ▸ List.getElem_mem hl
        have := List.count_pos_iff.2 this
        omega
    refine ⟨ρ, fun a ha => ?_⟩
    obtain ⟨q1, q2⟩ := hρ a (hall a ha)
    have h4 := List.count_le_length (a := true) (l := st)
    have := h1.len
    exact ⟨by omega, fun b hb => (q2 b hb).2⟩
  · refine .inr ⟨by omega, ?_⟩
    rintro ⟨ρ, hρ⟩
    have hst : ∀ a ∈ List.range N, peel1 next st a = st := by
      rcases h2 with h2 | h2
      · rw [List.count_replicate_self] at h2
        omega
      · exact h2
    have key : ∀ (n a : Nat), a < N → st[a]? = some false → ρ a = n → False := by
      intro n
      induction n using Nat.strongRecOn with
      | _ n ih =>
        intro a ha hf hn
        have h3 := hst a (List.mem_range.2 ha)
        unfold peel1 at h3
        have hex : ∃ b ∈ next a, st[b]? ≠ some true := by
          refine Classical.byContradiction fun hno => ?_
          have hall : ∀ b ∈ next a, st[b]? = some true := fun b hb => Classical.byContradiction fun h => hno ⟨b, hb, h⟩
          rw [if_pos ⟨hf, hall⟩] at h3
          have hl : a < st.length := by rw [h1.len]; exact ha
          have := congrArg (fun l => l[a]?) h3
          simp only [List.getElem?_set_self hl, hf] at this
          cases this
        obtain ⟨b, hb, hne⟩ := hex
        have hbN := hnx a ha b hb
        have hl : b < st.length := by rw [h1.len]; exact hbN
        have hlt := (hρ a ha).2 b hb
        refine ih (ρ b) (by omega) b hbN ?_ rfl
        rw [List.getElem?_eq_getElem hl] at hne ⊢
        cases hv : st[b] with
        | true => rw [hv] at hne; exact absurd rfl hne
        | false => rfl
    obtain ⟨a, ha⟩ := List.mem_iff_getElem?.1 (List.count_pos_iff.1 (show 0 < st.count false by omega))
    have hl := (List.getElem?_eq_some_iff.1 ha).1
    exact key _ a (by rw [← h1.len]; exact hl) ha rfl
end Go.Vc.Ea
