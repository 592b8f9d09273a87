/-
  Cyclic: true just if no rank falls.
-/
import Derived.Test.YtfhbgelpmbkooaaFC
set_option linter.unusedVariables false
set_option linter.unusedSimpArgs false
namespace Go.Vc
open Go Ea
theorem badN_split {m : List Bool} {r : Rule} {α β : List KSym} {s : KSym} (h : r.Rhs = α ++ s :: β) : badN m r = (α.countP fun s => !mkS m s) + ((if mkS m s then 0 else 1) + (β.countP fun s => !mkS m s)) := by
  unfold badN
  rw [h, List.countP_append, List.countP_cons]
  cases mkS m s <;> simp <;> omega
theorem all_mk {m : List Bool} {l : List KSym} : (l.countP fun s => !mkS m s) = 0 ↔ ∀ s ∈ l, mkS m s = true := by
  rw [List.countP_eq_zero]
  simp
section
variable {g : Gram} {w : List Int} {m : List Bool}
theorem mkS_of_null (hg : RightG g) (hm : NulM g w m) {r : Rule} (hr : r ∈ g.Rules) {s : KSym} (hs : s ∈ r.Rhs) (h : Null (Rs g w) (toSy w s)) : mkS m s = true := by
  unfold toSy at h
  by_cases h0 : 0 ≤ s.Nt
  · rw [if_pos h0] at h
    unfold mkS
    rw [decide_eq_true h0, Bool.true_and]
    have := hg.nt2 r hr s hs
    exact (hm.2 _).2 ⟨by omega, h⟩
  · rw [if_neg h0] at h
    exact h.elim
theorem leads_iff (hg : RightG g) (hm : NulM g w m) {a b : Nat} : (∃ r ∈ g.Rules, a = r.Lhs.toNat ∧ ∃ s ∈ r.Rhs, goS m r s = true ∧ b = s.Nt.toNat) ↔ Leads (Rs g w) a b := by
  constructor
  · rintro ⟨r, hr, rfl, s, hs, hgo, rfl⟩
    obtain ⟨α, β, e⟩ := List.append_of_mem hs
    unfold goS at hgo
    simp only [Bool.and_eq_true, Bool.or_eq_true, decide_eq_true_eq] at hgo
    have hb := badN_split (m := m) e
    have h2 : (α.countP fun s => !mkS m s) = 0 ∧ (β.countP fun s => !mkS m s) = 0 := by
      rcases hgo.2 with h | ⟨h, h3⟩
      · omega
      · have : mkS m s = false := by simpa using h3
        rw [this] at hb
        simp only [Bool.false_eq_true, if_false] at hb
        omega
    have hn : ∀ l : List KSym, (l.countP fun s => !mkS m s) = 0 → ∀ y ∈ l.map (toSy w), Null (Rs g w) y := by
      intro l hl y hy
      obtain ⟨x, hx, rfl⟩ := List.mem_map.1 hy
      exact toSy_null (fun a h => ((hm.2 a).1 h).2) (all_mk.1 hl x hx)
    refine ⟨toRu w r, mem_Rs hr, rfl, α.map (toSy w), β.map (toSy w), ?_, hn α h2.1, hn β h2.2⟩
    show r.Rhs.map (toSy w) = _
    rw [e, List.map_append, List.map_cons]
    have : toSy w s = .nt s.Nt.toNat := by unfold toSy; rw [if_pos hgo.1]
    rw [this]
  · rintro ⟨r', hr', rfl, α, β, e, hα, hβ⟩
    obtain ⟨r, hr, rfl⟩ := List.mem_map.1 hr'
    obtain ⟨l1, l2, e1, e2, e3⟩ := List.map_eq_append_iff.1 e
    obtain ⟨s, l3, rfl, e4, e5⟩ := List.map_eq_cons_iff.1 e3
    have hs : s ∈ r.Rhs := by rw [e1]; simp
    have h0 : 0 ≤ s.Nt ∧ b = s.Nt.toNat := by
      unfold toSy at e4
      by_cases h0 : 0 ≤ s.Nt
      · rw [if_pos h0] at e4
        cases e4
        exact ⟨h0, rfl⟩
      · rw [if_neg h0] at e4
        cases e4
    refine ⟨r, hr, rfl, s, hs, ?_, h0.2⟩
    have hb := badN_split (m := m) e1
    have c1 : (l1.countP fun s => !mkS m s) = 0 := all_mk.2 fun y hy => mkS_of_null hg hm hr (by rw [e1]; simp [hy]) (hα _ (by rw [← e2]; exact List.mem_map_of_mem hy))
    have c2 : (l3.countP fun s => !mkS m s) = 0 := all_mk.2 fun y hy => mkS_of_null hg hm hr (by rw [e1]; simp [hy]) (hβ _ (by rw [← e5]; exact List.mem_map_of_mem hy))
    unfold goS
    rw [decide_eq_true h0.1, Bool.true_and, hb, c1, c2]
    cases mkS m s <;> rfl
end
def zI (st : List Nat) : List Int := st.map fun x : Nat => (x : Int)
theorem zI_len (st : List Nat) : (zI st).length = st.length := by simp [zI]
theorem zI_at {st : List Nat} {x : Int} (h0 : 0 ≤ x) (hx : x < (st.length : Int)) : ∃ v, st[x.toNat]? = some v ∧ at_ (zI st) x = (v : Int) := by
  have h : x.toNat < st.length := by omega
  refine ⟨st[x.toNat], List.getElem?_eq_getElem h, ?_⟩
  simp [at_, zI, h]
theorem zI_set (st : List Nat) (n v : Nat) : set_ (zI st) (n : Int) (v : Int) = zI (st.set n v) := by
  unfold set_ zI
  rw [List.map_set, Int.toNat_natCast]
def nextF (out : List (List Int)) (a : Nat) : List Nat := (out.getD a []).map Int.toNat
theorem goL_ok {N k : Nat} {out : List (List Int)} (hx : ∀ a x, x ∈ out.getD a [] → 0 ≤ x ∧ x < (N : Int)) (hsz : ∀ a, (out.getD a []).length ≤ 200) (hk : 20000 ≤ k) {v : List Nat → Nat → Option (Bool × List Nat)} {gg : Int → List Int → List (List Int) → Option (Bool × List Int)}
    (hv : ∀ st n r, n < N → st.length = N → v st n = some r → gg (n : Int) (zI st) out = some (r.1, zI r.2) ∧ r.2.length = N) {n : Nat} (hn : n < out.length) {st0 : List Nat} (hst : st0.length = N) :
    ∀ r, goL v st0 (nextF out n) = some r → F.facts.Cyclic_c1_l1 out (n : Int) gg k 0 (zI st0) = some (if r.1 then .ret (true, zI r.2) else .done (zI r.2)) ∧ r.2.length = N := by
  intro r hr
  have hat : at_ out (n : Int) = out.getD n [] := rfl
  have hl : (nextF out n).length = (out.getD n []).length := by simp [nextF]
  have hs := hsz n
  refine loop_inv0 (n := (out.getD n []).length) (σ := List Int) (s := zI st0) (L := fun j i s => F.facts.Cyclic_c1_l1 out (n : Int) gg j i s)
    (I := fun i s => ∃ st, s = zI st ∧ st.length = N ∧ goL v st ((nextF out n).drop i) = some r) (Q := fun o => o = some (if r.1 then .ret (true, zI r.2) else .done (zI r.2)) ∧ r.2.length = N) (by omega) ⟨st0, rfl, hst, hr⟩ (fun j i s hi hI => ?_) (fun j s hI => ?_)
  · obtain ⟨st, rfl, hl1, hg⟩ := hI
    have hi2 : i < (nextF out n).length := by omega
    have hxe : (nextF out n)[i] = ((out.getD n [])[i]).toNat := by simp [nextF]
    have hxb := hx n _ (List.getElem_mem hi)
    obtain ⟨val, e1, e2⟩ := zI_at (st := st) hxb.1 (by omega)
    have hin : inR (out.getD n [])[i] (zI st).length = true := inR_iff.2 ⟨hxb.1, by rw [zI_len]; omega⟩
    rw [List.drop_eq_getElem_cons hi2, hxe, goL, e1] at hg
    simp only [F.facts.Cyclic_c1_l1, hat, ix_lt hi, ix_in hi, ix_at hi, hin, if_true, e2]
    unfold F.facts.Cyclic_c1_j2
    rw [ix_inc (by omega)]
    by_cases h1 : val = 1
    · subst h1
      right
      rw [if_pos rfl] at hg
      cases hg
      exact ⟨rfl, hl1⟩
    · have b1 : ((val : Int) == 1) = false := by rw [beq_eq_false_iff_ne]; omega
      rw [if_neg (by simpa using h1)] at hg
      rw [b1]
      by_cases h0 : val = 0
      · subst h0
        rw [if_pos rfl] at hg
        cases hvv : v st (out.getD n [])[i].toNat with
        | none => rw [hvv] at hg; cases hg
        | some q =>
          rw [hvv] at hg
          obtain ⟨h3, h4⟩ := hv st _ q (by omega) hl1 hvv
          rw [Int.toNat_of_nonneg hxb.1] at h3
          simp only [Bool.false_eq_true, if_false, h3, Option.bind_some]
          obtain ⟨b, st'⟩ := q
          cases b with
          | true =>
            right
            cases hg
            exact ⟨rfl, h4⟩
          | false => exact .inl ⟨zI st', ⟨st', rfl, h4, hg⟩, rfl⟩
      · have b0 : ((val : Int) == 0) = false := by rw [beq_eq_false_iff_ne]; omega
        rw [if_neg (by simpa using h0)] at hg
        left
        rw [b0]
        exact ⟨zI st, ⟨st, rfl, hl1, hg⟩, rfl⟩
  · obtain ⟨st, rfl, hl1, hg⟩ := hI
    rw [List.drop_eq_nil_of_le (by omega), goL] at hg
    cases hg
    simp only [F.facts.Cyclic_c1_l1, hat, ix_ge (Nat.lt_irrefl _), Bool.false_eq_true, if_false]
    exact ⟨trivial, hl1⟩
theorem c1_ok {N : Nat} {out : List (List Int)} (hlen : out.length = N) (hx : ∀ a x, x ∈ out.getD a [] → 0 ≤ x ∧ x < (N : Int)) (hsz : ∀ a, (out.getD a []).length ≤ 200) : ∀ (d k : Nat) (st : List Nat) (n : Nat) (r : Bool × List Nat), d + 20000 ≤ k → n < N → st.length = N →
    visit (nextF out) d st n = some r → F.facts.Cyclic_c1 k (n : Int) (zI st) out = some (r.1, zI r.2) ∧ r.2.length = N
  | 0, _, _, _, _, _, _, _, h => by cases h
  | d + 1, 0, _, _, _, hk, _, _, _ => by omega
  | d + 1, k + 1, st, n, r, hk, hn, hst, h => by
    have hin : inR (n : Int) (zI st).length = true := inR_iff.2 ⟨by omega, by rw [zI_len]; omega⟩
    have hin2 : inR (n : Int) out.length = true := inR_iff.2 ⟨by omega, by omega⟩
    have hs1 : set_ (zI st) (n : Int) 1 = zI (st.set n 1) := zI_set st n 1
    simp only [F.facts.Cyclic_c1, F.facts.Cyclic_c1_B, hin, hin2, if_true, hs1]
    unfold visit at h
    cases hg : goL (visit (nextF out) d) (st.set n 1) (nextF out n) with
    | none => rw [hg] at h; cases h
    | some q =>
      rw [hg] at h
      obtain ⟨e, hl⟩ := goL_ok hx hsz (k := k) (by omega) (gg := F.facts.Cyclic_c1 k) (fun st n r h1 h2 h3 => c1_ok hlen hx hsz d k st n r (by omega) h1 h2 h3) (n := n) (by omega) (st0 := st.set n 1) (by rw [List.length_set]; exact hst) q hg
      rw [e, Option.bind_some]
      obtain ⟨b, st'⟩ := q
      cases b with
      | true => cases h; exact ⟨rfl, hl⟩
      | false =>
        cases h
        have hin3 : inR (n : Int) (zI st').length = true := inR_iff.2 ⟨by omega, by simp only [zI, List.length_map]; simp only at hl; omega⟩
        refine ⟨?_, by rw [List.length_set]; exact hl⟩
        show (if inR (n : Int) (zI st').length = true then some (false, set_ (zI st') (n : Int) 2) else none) = _
        rw [if_pos hin3, show ((2 : Int) = ((2 : Nat) : Int)) from rfl, zI_set]
theorem cycL_F {N k : Nat} {g : Gram} {out : List (List Int)} (hN : (N : Int) = g.Nts) (hN2 : N ≤ 200) (hlen : out.length = N) (hx : ∀ a x, x ∈ out.getD a [] → 0 ≤ x ∧ x < (N : Int)) (hsz : ∀ a, (out.getD a []).length ≤ 200) {d : Nat} (hk : d + 20000 ≤ k) {st0 : List Nat} (hst : st0.length = N) :
    ∀ r, cycL (nextF out) d st0 (List.range N) = some r → (r = true → F.facts.Cyclic_l1 k g out k 0 (zI st0) = some (.ret (true, 0))) ∧ (r = false → ∃ z, F.facts.Cyclic_l1 k g out k 0 (zI st0) = some (.done z)) := by
  intro r hr
  refine loop_inv0 (n := N) (σ := List Int) (s := zI st0) (L := fun j i s => F.facts.Cyclic_l1 k g out j i s) (I := fun i s => ∃ st, s = zI st ∧ st.length = N ∧ cycL (nextF out) d st ((List.range N).drop i) = some r)
    (Q := fun o => (r = true → o = some (.ret (true, 0))) ∧ (r = false → ∃ z, o = some (.done z))) (by omega) ⟨st0, rfl, hst, hr⟩ (fun j i s hi hI => ?_) (fun j s hI => ?_)
  · obtain ⟨st, rfl, hl1, hg⟩ := hI
    have hi2 : i < (List.range N).length := by simpa using hi
    have e1 : st[i]? = some st[i] := List.getElem?_eq_getElem (by omega)
    have hin : inR (i : Int) (zI st).length = true := inR_iff.2 ⟨by omega, by rw [zI_len]; omega⟩
    have hlt : decide ((i : Int) < g.Nts) = true := decide_eq_true (by omega)
    have hat : at_ (zI st) (i : Int) = ((st[i] : Nat) : Int) := by simp [at_, zI, hl1, hi]
    rw [List.drop_eq_getElem_cons hi2, List.getElem_range, cycL, e1] at hg
    simp only [F.facts.Cyclic_l1, hlt, hin, hat, if_true]
    unfold F.facts.Cyclic_j3 F.facts.Cyclic_j2
    rw [ix_inc (by omega)]
    by_cases h0 : st[i] = 0
    · have b0 : (((st[i] : Nat) : Int) == 0) = true := by rw [h0]; rfl
      rw [h0, if_pos rfl] at hg
      rw [b0]
      cases hv : visit (nextF out) d st i with
      | none => rw [hv] at hg; cases hg
      | some q =>
        rw [hv] at hg
        obtain ⟨e, hl⟩ := c1_ok hlen hx hsz d k st i q hk hi hl1 hv
        simp only [if_true, e, Option.bind_some]
        obtain ⟨b, st'⟩ := q
        cases b with
        | true =>
          cases hg
          exact .inr ⟨fun _ => rfl, fun h => (by cases h)⟩
        | false => exact .inl ⟨zI st', ⟨st', rfl, hl, hg⟩, rfl⟩
    · have b0 : (((st[i] : Nat) : Int) == 0) = false := by rw [beq_eq_false_iff_ne]; omega
      rw [if_neg (by simpa using h0)] at hg
      rw [b0]
      exact .inl ⟨zI st, ⟨st, rfl, hl1, hg⟩, rfl⟩
  · obtain ⟨st, rfl, hl1, hg⟩ := hI
    rw [List.drop_eq_nil_of_le (by simp), cycL] at hg
    cases hg
    have hlt : decide ((N : Int) < g.Nts) = false := decide_eq_false (by omega)
    simp only [F.facts.Cyclic_l1, hlt, Bool.false_eq_true, if_false]
    exact ⟨fun h => (by cases h), fun _ => ⟨_, rfl⟩⟩
def Acyc (g : Gram) (w : List Int) : Prop := ∃ ρ, Falls (Rs g w) ρ g.Nts.toNat
theorem Cyclic_ok {k : Nat} (hk : 100000 ≤ k) {g : Gram} (h : rightB g = true) (hsm : SmallG g) (w : List Int) : ∃ b, F.facts.Cyclic k g = some (b, 0) ∧ (b = false ↔ Acyc g w) := by
  have hg := rightG h
  have h1 := hg.n1
  have h2 := hsm.nts
  obtain ⟨m, em, hm⟩ := Nullable_ok (k := k) (by omega) h w
  obtain ⟨out, eo, ho⟩ := steps_ok (k := k) (by omega) hg hsm hm.1
  have hx : ∀ a x, x ∈ out.getD a [] → 0 ≤ x ∧ x < (g.Nts.toNat : Int) := by
    intro a x hx
    obtain ⟨r, hr, _, s, hs, hgo, rfl⟩ := (ho.mem a x).1 hx
    unfold goS at hgo
    simp only [Bool.and_eq_true, decide_eq_true_eq] at hgo
    have := hg.nt2 r hr s hs
    exact ⟨hgo.1, by omega⟩
  have hnx : ∀ a, a < g.Nts.toNat → ∀ b ∈ nextF out a, b < g.Nts.toNat := by
    intro a _ b hb
    obtain ⟨x, hx', rfl⟩ := List.mem_map.1 hb
    have := hx a x hx'
    omega
  have hnl : ∀ a b, b ∈ nextF out a ↔ Leads (Rs g w) a b := by
    intro a b
    rw [← leads_iff hg hm]
    constructor
    · intro hb
      obtain ⟨x, hx', rfl⟩ := List.mem_map.1 hb
      obtain ⟨r, hr, e, s, hs, hgo, rfl⟩ := (ho.mem a x).1 hx'
      exact ⟨r, hr, e, s, hs, hgo, rfl⟩
    · rintro ⟨r, hr, e, s, hs, hgo, rfl⟩
      exact List.mem_map.2 ⟨s.Nt, (ho.mem a _).2 ⟨r, hr, e, s, hs, hgo, rfl⟩, rfl⟩
  obtain ⟨r, er, hr⟩ := cyc_ok (N := g.Nts.toNat) (k := g.Nts.toNat) hnx (Nat.le_refl _)
  have hF := cycL_F (k := k) (g := g) (N := g.Nts.toNat) (by omega) (by omega) ho.len hx ho.sz (d := g.Nts.toNat) (by omega) (st0 := List.replicate g.Nts.toNat 0) (by simp) r er
  have hz : zI (List.replicate g.Nts.toNat 0) = List.replicate g.Nts.toNat 0 := by simp [zI]
  rw [hz] at hF
  have e1 : decide (0 ≤ g.Nts) = true := decide_eq_true (by omega)
  have e2 : decide (8 * g.Nts.toNat ≤ 140737488355328) = true := decide_eq_true (by omega)
  have e3 : decide (g.Nts.toNat ≤ 9223372036854775807) = true := decide_eq_true (by omega)
  unfold F.facts.Cyclic
  rw [em, Option.bind_some]
  simp only [eo, Option.bind_some, e1, e2, e3, if_true]
  rcases hr with ⟨rfl, a, ha, hw⟩ | ⟨rfl, ρ, hρ⟩
  · refine ⟨true, ?_, ⟨fun h => (by cases h), ?_⟩⟩
    · rw [hF.1 rfl]; rfl
    · rintro ⟨ρ, hf⟩
      exact absurd (way_falls (E := fun a b => b ∈ nextF out a) (ρ := ρ) (fun a b hab => hf.lt a b ((hnl a b).1 hab)) hw) (Nat.lt_irrefl _)
  · obtain ⟨z, hz'⟩ := hF.2 rfl
    refine ⟨false, ?_, ⟨fun _ => ?_, fun _ => rfl⟩⟩
    · rw [hz']; rfl
    · refine ⟨fun a => if a < g.Nts.toNat then ρ a else 0, fun a => ?_, fun a b hab => ?_⟩
      · by_cases ha : a < g.Nts.toNat
        · simp only [if_pos ha]
          exact Nat.le_of_lt (hρ a ha).1
        · simp only [if_neg ha]
          omega
      · have hb := (hnl a b).2 hab
        have ha : a < g.Nts.toNat := by
          obtain ⟨x, hx', _⟩ := List.mem_map.1 hb
          obtain ⟨r, hr, e, _⟩ := (ho.mem a x).1 hx'
          have := hg.lhs2 r hr
          have := hg.lhs1 r hr
          omega
        have hb2 := hnx a ha b hb
        simp only [if_pos ha, if_pos hb2]
        exact (hρ a ha).2 b hb
theorem fit_ok {k : Nat} (hk : 100000 ≤ k) {g : Gram} (hsm : rightB g = true → SmallG g) (w : List Int) : ∃ e, F.forest.fit k g w = some e ∧ (e = 0 ↔ rightB g = true ∧ (w.length : Int) ≤ 512 ∧ Acyc g w) ∧ (rightB g = false → e = 3) ∧ (rightB g = true → 512 < (w.length : Int) → e = 2) ∧ (rightB g = true → (w.length : Int) ≤ 512 → ¬ Acyc g w → e = 48) := by
  unfold F.forest.fit
  rw [Right_ok (by omega), Option.bind_some]
  cases hr : rightB g with
  | false =>
    refine ⟨3, rfl, ⟨(by omega), fun h => (by cases h.1)⟩, fun _ => rfl, fun h => (by cases h), fun h => (by cases h)⟩
  | true =>
    by_cases hl : 512 < (w.length : Int)
    · refine ⟨2, ?_, ⟨(by omega), fun h => (by omega)⟩, fun h => (by cases h), fun _ _ => rfl, fun _ h => (by omega)⟩
      simp [hl]
    · obtain ⟨b, e, hb⟩ := Cyclic_ok hk hr (hsm hr) w
      have hl' : ¬ (512 < (w.length : Int)) := hl
      cases b with
      | true =>
        have hna : ¬ Acyc g w := fun h => (by have := hb.2 h; cases this)
        refine ⟨48, ?_, ⟨(by omega), fun h => absurd h.2.2 hna⟩, fun h => (by cases h), fun _ h => absurd h hl, fun _ _ _ => rfl⟩
        simp [hl', e]
      | false =>
        have hac : Acyc g w := hb.1 rfl
        refine ⟨0, ?_, ⟨fun _ => ⟨rfl, by omega, hac⟩, fun _ => rfl⟩, fun h => (by cases h), fun _ h => absurd h hl, fun _ _ h => absurd hac h⟩
        simp [hl', e]
end Go.Vc
