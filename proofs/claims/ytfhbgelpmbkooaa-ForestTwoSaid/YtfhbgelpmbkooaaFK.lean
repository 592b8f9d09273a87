/-
  Counting: the program's way is the plain one.
-/
import Derived.Test.YtfhbgelpmbkooaaFJ
set_option linter.unusedVariables false
set_option linter.unusedSimpArgs false
namespace Go.Vc
open Go Ea
def spn (a i j : Nat) : Forest_span := ⟨(a : Int), (i : Int), (j : Int)⟩
def prt (q d i j : Nat) : Forest_part := ⟨(q : Int), (d : Int), (i : Int), (j : Int)⟩
theorem spn_inj {a i j a' i' j' : Nat} (h : spn a i j = spn a' i' j') : a = a' ∧ i = i' ∧ j = j' := by
  simp only [spn, Forest_span.mk.injEq, Int.natCast_inj] at h
  exact h
theorem prt_inj {q d i j q' d' i' j' : Nat} (h : prt q d i j = prt q' d' i' j') : q = q' ∧ d = d' ∧ i = i' ∧ j = j' := by
  simp only [prt, Forest_part.mk.injEq, Int.natCast_inj] at h
  exact h
def hasW (v : Forest_grove) (a i j : Nat) : Bool := decide (0 < (tget qForest_span (spn a i j) v.whole).getD 0)
structure GR (g : Gram) (w : List Int) (v0 : Forest_grove) (st : Kn) (v : Forest_grove) : Prop where
  gr : v.g = g
  tx : v.w_ = w
  by_ : v.by_ = v0.by_
  wh : v.whole = v0.whole
  c : ∀ a i j, tget qForest_span (spn a i j) v.counts = (known st (.c a i j)).map fun n : Nat => (n : Int)
  r : ∀ q d i j, tget qForest_part (prt q d i j) v.rows = (known st (.r q d i j)).map fun n : Nat => (n : Int)
  le : ∀ x n, known st x = some n → n ≤ top
theorem known_cons {x y : Qu} {n : Nat} {st : Kn} : known ((x, n) :: st) y = if x = y then some n else known st y := by
  unfold known
  rw [List.find?_cons]
  by_cases h : x = y
  · subst h; simp
  · have : (x == y) = false := by simpa using h
    rw [this, if_neg h]
theorem add_F {a b : Nat} (ha : a ≤ top) (hb : b ≤ top) : F.forest.add (a : Int) (b : Int) = some ((sat (a + b) : Nat) : Int) := by
  have ht : (top : Int) = 4611686018427387904 := rfl
  have := @add_sat a b
  unfold top at ha hb
  unfold F.forest.add
  rw [wrap_i64 (by omega) (by omega)]
  rw [ht] at this
  rw [← this]
  by_cases h : (4611686018427387904 : Int) - (b : Int) < (a : Int)
  · simp [h]
  · simp only [h, decide_false, Bool.false_eq_true, if_false]
    rw [wrap_i64 (by omega) (by omega)]
theorem mul_F {a b : Nat} (ha : a ≤ top) (hb : b ≤ top) : F.forest.mul (a : Int) (b : Int) = some ((sat (a * b) : Nat) : Int) := by
  have hT : top = 4611686018427387904 := rfl
  unfold F.forest.mul F.forest.mul_j1
  rcases Nat.eq_zero_or_pos a with h0 | h0
  · subst h0
    simp [sat, wrap_i64]
  · have d1 : decide ((0 : Int) < (a : Int)) = true := decide_eq_true (by omega)
    have d2 : ((a : Int) == 0) = false := by rw [beq_eq_false_iff_ne]; omega
    simp only [d1, d2, if_true, Bool.false_eq_true, if_false]
    have hq : gquo .i64 4611686018427387904 (a : Int) = ((top / a : Nat) : Int) := by
      unfold gquo
      rw [Int.tdiv_eq_ediv_of_nonneg (by omega), hT]
      have : (4611686018427387904 : Int) / (a : Int) = ((4611686018427387904 / a : Nat) : Int) := by rw [Int.natCast_ediv]; rfl
      rw [this]
      have h2 : 4611686018427387904 / a ≤ 4611686018427387904 := Nat.div_le_self _ _
      generalize 4611686018427387904 / a = t at *
      exact wrap_i64 (by omega) (by omega)
    rw [hq]
    by_cases h : top / a < b
    · have := (mul_gt (b := b) h0).1 h
      have e : sat (a * b) = top := sat_ge (by omega)
      have d3 : decide (((top / a : Nat) : Int) < (b : Int)) = true := decide_eq_true (by omega)
      rw [d3, if_pos rfl, e, hT]; rfl
    · have h3 : a * b ≤ top := by
        rcases Nat.lt_or_ge top (a * b) with h4 | h4
        · exact absurd ((mul_gt h0).2 h4) h
        · exact h4
      have d3 : decide (((top / a : Nat) : Int) < (b : Int)) = false := decide_eq_false (by omega)
      rw [d3, if_neg (by simp), sat_of_le h3]
      have e : ((a : Int) * (b : Int)) = ((a * b : Nat) : Int) := by simp
      rw [e, wrap_i64 (by omega) (by omega)]
section
variable {g : Gram} {w : List Int} {v0 : Forest_grove}
theorem GR.mk_eq {st : Kn} {v vv : Forest_grove} (h : GR g w v0 st v) (h1 : vv.g = g) (h2 : vv.w_ = w) (h3 : vv.by_ = v0.by_) : Forest_grove.mk vv.g vv.w_ vv.by_ v.whole v.counts v.rows = v := by
  cases v; cases vv
  have := h.gr; have := h.tx; have := h.by_
  simp_all
theorem sym_F {v : Forest_grove} (hw : Bytes w) (h1 : v.w_ = w) (h2 : v.whole = v0.whole) {s : KSym} {m j : Nat} (hmj : m ≤ j) (hj : j ≤ w.length) (hwl : w.length ≤ 20) : F.forest.grove_sym v s (m : Int) (j : Int) = some (symB (hasW v0) (toSy w s) m j) := by
  unfold F.forest.grove_sym toSy
  by_cases h0 : 0 ≤ s.Nt
  · have d : decide (s.Nt < 0) = false := decide_eq_false (by omega)
    rw [d, if_neg (by simp), if_pos h0, h2]
    show some (decide (0 < (tget qForest_span ⟨s.Nt, (m : Int), (j : Int)⟩ v0.whole).getD 0)) = some (decide (0 < (tget qForest_span ⟨(s.Nt.toNat : Int), (m : Int), (j : Int)⟩ v0.whole).getD 0))
    rw [Int.toNat_of_nonneg h0]
  · have d : decide (s.Nt < 0) = true := decide_eq_true (by omega)
    rw [d, if_pos rfl, if_neg h0]
    unfold symB
    simp only
    by_cases hjm : j = m + 1
    · subst hjm
      have e : (((m + 1 : Nat) : Int) == IntKind.wrap .i64 ((m : Int) + 1)) = true := by rw [ix_inc (by omega)]; simp
      have hm : m < w.length := by omega
      have hb := hw _ (List.getElem_mem hm)
      rw [e, if_pos rfl, h1, ix_in hm, if_pos rfl, ix_at hm, Has_ok hb.1 hb.2, Option.bind_some]
      simp [hm]
    · have e : ((j : Int) == IntKind.wrap .i64 ((m : Int) + 1)) = false := by
        rw [ix_inc (by omega), beq_eq_false_iff_ne]; omega
      rw [e, if_neg (by simp)]
      simp [hjm]
def askF (k : Nat) (v : Forest_grove) : Qu → Option (Int × Forest_grove)
  | .c a i j => F.forest.grove_count k v (spn a i j)
  | .r q d i j => F.forest.grove_row k v (prt q d i j)
def InR (g : Gram) (w : List Int) : Qu → Prop
  | .c a i j => a < g.Nts.toNat ∧ i ≤ 100 ∧ j ≤ w.length
  | .r q d i j => (∃ h : q < g.Rules.length, d ≤ g.Rules[q].Rhs.length) ∧ i ≤ 100 ∧ j ≤ w.length
theorem sumC_F {d k : Nat} (hg : RightG g) (hk : 20000 ≤ k) (hby : ByR v0.by_ (byG g)) (hlr : g.Rules.length ≤ 200) {a i j : Nat} (ha : a < g.Nts.toNat) (hi : i ≤ 100) (hj : j ≤ w.length) {vv : Forest_grove} (h1 : vv.g = g) (h2 : vv.w_ = w) (h3 : vv.by_ = v0.by_)
    (ih : ∀ x st n st' v, Ea.ask (Rs g w) (byG g) (hasW v0) d x st = some (n, st') → GR g w v0 st v → InR g w x → ∃ v', askF k v x = some ((n : Int), v') ∧ GR g w v0 st' v' ∧ n ≤ top) :
    ∀ (c t n : Nat) (st : Kn) (v : Forest_grove) (m : Nat) (st' : Kn) (ff : Nat), t + c = (byG g a).length → c < ff → n ≤ top → sumC (Ea.ask (Rs g w) (byG g) (hasW v0) d) (Rs g w) i j ((byG g a).drop t) n st = some (m, st') → GR g w v0 st v →
    ∃ v', F.forest.grove_count_l1 vv (spn a i j) (F.forest.grove_row k) ff (n : Int) (t : Int) v.whole v.counts v.rows = some ((m : Int), v'.whole, v'.counts, v'.rows) ∧ GR g w v0 st' v' ∧ m ≤ top
  | _, _, _, _, _, _, _, 0, _, h, _, _, _ => by omega
  | 0, t, n, st, v, m, st', ff + 1, htc, _, hn, h, hgr => by
    rw [List.drop_eq_nil_of_le (by omega)] at h
    cases h
    have hat : at_ vv.by_ (spn a i j).nt = (byG g a).map fun q : Nat => (q : Int) := by rw [h3]; exact hby a
    have : decide ((t : Int) < (((byG g a).map fun q : Nat => (q : Int)).length : Int)) = false := ix_ge (by simp; omega)
    simp only [F.forest.grove_count_l1, hat, this, Bool.false_eq_true, if_false]
    exact ⟨v, rfl, hgr, hn⟩
  | c + 1, t, n, st, v, m, st', ff + 1, htc, hff, hn, h, hgr => by
    have ht : t < (byG g a).length := by omega
    have hbl := byG_len g a
    have ht1 : t < ((byG g a).map fun q : Nat => (q : Int)).length := by simpa using ht
    have hat : at_ vv.by_ (spn a i j).nt = (byG g a).map fun q : Nat => (q : Int) := by rw [h3]; exact hby a
    have hqi : at_ ((byG g a).map fun q : Nat => (q : Int)) (t : Int) = (((byG g a)[t] : Nat) : Int) := by rw [ix_at ht1]; simp
    obtain ⟨r, hr, _⟩ := (byG_Bys g w a _).1 (List.getElem_mem ht)
    obtain ⟨hq, rfl⟩ := Rs_get hr
    have hin : inR (((byG g a)[t] : Nat) : Int) vv.g.Rules.length = true := by rw [h1]; exact ix_in hq
    have har : at_ vv.g.Rules (((byG g a)[t] : Nat) : Int) = g.Rules[(byG g a)[t]] := by rw [h1]; exact ix_at hq
    rw [List.drop_eq_getElem_cons ht] at h
    unfold sumC at h
    simp only [hr, Option.map_some, Option.getD_some, toRu_len] at h
    cases hask : Ea.ask (Rs g w) (byG g) (hasW v0) d (.r (byG g a)[t] g.Rules[(byG g a)[t]].Rhs.length i j) st with
    | none => rw [hask] at h; cases h
    | some p =>
      obtain ⟨x, st1⟩ := p
      rw [hask] at h
      simp only at h
      obtain ⟨v1, e1, hgr1, hx⟩ := ih _ _ _ _ v hask hgr ⟨⟨hq, Nat.le_refl _⟩, hi, hj⟩
      simp only [F.forest.grove_count_l1, hat, ix_lt ht1, ix_in ht1, if_true, hqi, hin, har]
      rw [hgr.mk_eq h1 h2 h3]
      have e2 : F.forest.grove_row k v (Forest_part.mk (((byG g a)[t] : Nat) : Int) (g.Rules[(byG g a)[t]].Rhs.length : Int) (spn a i j).from_ (spn a i j).to) = some ((x : Int), v1) := e1
      rw [e2, Option.bind_some, add_F hn hx, Option.bind_some, ix_inc (by omega)]
      exact sumC_F hg hk hby hlr ha hi hj h1 h2 h3 ih c (t + 1) _ st1 v1 m st' ff (by omega) (by omega) (sat_le _) h hgr1
theorem sumR_F {d k : Nat} (hg : RightG g) (hw : Bytes w) (hwl : w.length ≤ 20) {q e i j : Nat} (hq : q < g.Rules.length) (he : e < g.Rules[q].Rhs.length) (hi : i ≤ 100) (hj : j ≤ w.length) {vv : Forest_grove} (h1 : vv.g = g) (h2 : vv.w_ = w) (h3 : vv.by_ = v0.by_)
    (ih : ∀ x st n st' v, Ea.ask (Rs g w) (byG g) (hasW v0) d x st = some (n, st') → GR g w v0 st v → InR g w x → ∃ v', askF k v x = some ((n : Int), v') ∧ GR g w v0 st' v' ∧ n ≤ top) :
    ∀ (c m0 n : Nat) (st : Kn) (v : Forest_grove) (m : Nat) (st' : Kn) (ff : Nat), m0 + c = j + 1 ∨ (c = 0 ∧ j < m0 ∧ m0 ≤ 100) → c < ff → n ≤ top → sumR (Ea.ask (Rs g w) (byG g) (hasW v0) d) (hasW v0) (toSy w g.Rules[q].Rhs[e]) q e i j (List.range' m0 c) n st = some (m, st') → GR g w v0 st v →
    ∃ v', F.forest.grove_row_l1 (prt q (e + 1) i j) vv (F.forest.grove_row k) (F.forest.grove_count k) ff (n : Int) (m0 : Int) v.whole v.counts v.rows = some ((m : Int), v'.whole, v'.counts, v'.rows) ∧ GR g w v0 st' v' ∧ m ≤ top
  | _, _, _, _, _, _, _, 0, _, h, _, _, _ => by omega
  | 0, m0, n, st, v, m, st', ff + 1, hmc, _, hn, h, hgr => by
    simp only [List.range'_zero] at h
    cases h
    have : decide ((m0 : Int) ≤ (prt q (e + 1) i j).to) = false := decide_eq_false (by simp only [prt]; omega)
    simp only [F.forest.grove_row_l1, this, Bool.false_eq_true, if_false]
    exact ⟨v, rfl, hgr, hn⟩
  | c + 1, m0, n, st, v, m, st', ff + 1, hmc, hff, hn, h, hgr => by
    have hmj : m0 ≤ j := by omega
    have hd : decide ((m0 : Int) ≤ (j : Int)) = true := decide_eq_true (by omega)
    have hrm : g.Rules[q] ∈ g.Rules := List.getElem_mem hq
    have h80 := hg.rhs _ hrm
    have hsm : g.Rules[q].Rhs[e] ∈ g.Rules[q].Rhs := List.getElem_mem he
    have hdot : IntKind.wrap .i64 ((prt q (e + 1) i j).dot - 1) = (e : Int) := by
      show IntKind.wrap .i64 (((e + 1 : Nat) : Int) - 1) = _
      rw [wrap_i64 (by omega) (by omega)]; omega
    have har : at_ vv.g.Rules (prt q (e + 1) i j).rule = g.Rules[q] := by rw [h1]; exact ix_at hq
    have hae : at_ g.Rules[q].Rhs (e : Int) = g.Rules[q].Rhs[e] := ix_at he
    have hto : (prt q (e + 1) i j).to = (j : Int) := rfl
    rw [List.range'_succ] at h
    unfold sumR at h
    simp only [F.forest.grove_row_l1, hd, if_true, hdot, har, hae, hto]
    rw [hgr.mk_eq h1 h2 h3, sym_F hw hgr.tx hgr.wh hmj hj hwl, Option.bind_some]
    unfold F.forest.grove_row_j3 F.forest.grove_row_j2
    rw [ix_inc (by omega)]
    by_cases hsb : symB (hasW v0) (toSy w g.Rules[q].Rhs[e]) m0 j = false
    · rw [if_pos hsb] at h
      rw [hsb]
      simp only [Bool.not_false, if_true]
      exact sumR_F hg hw hwl hq he hi hj h1 h2 h3 ih c (m0 + 1) n st v m st' ff (by omega) (by omega) hn h hgr
    · rw [if_neg hsb] at h
      have hsb' : symB (hasW v0) (toSy w g.Rules[q].Rhs[e]) m0 j = true := by simpa using hsb
      rw [hsb']
      simp only [Bool.not_true, Bool.false_eq_true, if_false]
      cases hask : Ea.ask (Rs g w) (byG g) (hasW v0) d (.r q e i m0) st with
      | none => rw [hask] at h; cases h
      | some p =>
        obtain ⟨left, st1⟩ := p
        rw [hask] at h
        simp only at h
        obtain ⟨v1, e1, hgr1, hle⟩ := ih _ _ _ _ v hask hgr ⟨⟨hq, by omega⟩, hi, by omega⟩
        have e2 : F.forest.grove_row k v (Forest_part.mk (prt q (e + 1) i j).rule (e : Int) (prt q (e + 1) i j).from_ (m0 : Int)) = some ((left : Int), v1) := e1
        rw [e2, Option.bind_some]
        by_cases hl0 : left = 0
        · rw [if_pos hl0] at h
          have : ((left : Int) == 0) = true := by rw [hl0]; rfl
          simp only [this, if_true]
          exact sumR_F hg hw hwl hq he hi hj h1 h2 h3 ih c (m0 + 1) n st1 v1 m st' ff (by omega) (by omega) hn h hgr1
        · rw [if_neg hl0] at h
          have : ((left : Int) == 0) = false := by rw [beq_eq_false_iff_ne]; omega
          simp only [this, Bool.false_eq_true, if_false]
          unfold toSy at h
          by_cases h0 : 0 ≤ g.Rules[q].Rhs[e].Nt
          · rw [if_pos h0] at h
            simp only at h
            have hnt2 := hg.nt2 _ hrm _ hsm
            cases hask2 : Ea.ask (Rs g w) (byG g) (hasW v0) d (.c g.Rules[q].Rhs[e].Nt.toNat m0 j) st1 with
            | none => rw [hask2] at h; cases h
            | some p2 =>
              obtain ⟨kid, st2⟩ := p2
              rw [hask2] at h
              simp only at h
              obtain ⟨v2, e3, hgr2, hle2⟩ := ih _ _ _ _ v1 hask2 hgr1 ⟨by omega, by omega, hj⟩
              have d0 : decide (0 ≤ g.Rules[q].Rhs[e].Nt) = true := decide_eq_true h0
              rw [d0, if_pos rfl, hgr1.mk_eq h1 h2 h3]
              have e4 : F.forest.grove_count k v1 (Forest_span.mk g.Rules[q].Rhs[e].Nt (m0 : Int) (j : Int)) = some ((kid : Int), v2) := by
                have e5 : F.forest.grove_count k v1 (Forest_span.mk (g.Rules[q].Rhs[e].Nt.toNat : Int) (m0 : Int) (j : Int)) = some ((kid : Int), v2) := e3
                rw [Int.toNat_of_nonneg h0] at e5
                exact e5
              rw [e4, Option.bind_some]
              simp only
              rw [mul_F hle hle2, Option.bind_some, add_F hn (sat_le _), Option.bind_some]
              have hs : toSy w g.Rules[q].Rhs[e] = .nt g.Rules[q].Rhs[e].Nt.toNat := by unfold toSy; rw [if_pos h0]
              rw [← hs] at h
              exact sumR_F hg hw hwl hq he hi hj h1 h2 h3 ih c (m0 + 1) _ st2 v2 m st' ff (by omega) (by omega) (sat_le _) h hgr2
          · rw [if_neg h0] at h
            simp only at h
            have d0 : decide (0 ≤ g.Rules[q].Rhs[e].Nt) = false := decide_eq_false h0
            rw [d0, if_neg (by simp)]
            rw [show ((1 : Int) = ((1 : Nat) : Int)) from rfl, mul_F hle (by unfold top; omega), Option.bind_some, add_F hn (sat_le _), Option.bind_some]
            have hs : toSy w g.Rules[q].Rhs[e] = .tm (fun p => decide (p < w.length) && hasB g.Rules[q].Rhs[e].Set (w.getD p 0)) := by unfold toSy; rw [if_neg h0]
            rw [← hs] at h
            exact sumR_F hg hw hwl hq he hi hj h1 h2 h3 ih c (m0 + 1) _ st1 v1 m st' ff (by omega) (by omega) (sat_le _) h hgr1
theorem ask_F (hg : RightG g) (hsm : SmallG g) (hw : Bytes w) (hwl : w.length ≤ 20) (hv0 : Grove g w v0) : ∀ (d k : Nat) (x : Qu) (st : Kn) (n : Nat) (st' : Kn) (v : Forest_grove), d + 20000 ≤ k → Ea.ask (Rs g w) (byG g) (hasW v0) d x st = some (n, st') → GR g w v0 st v → InR g w x →
    ∃ v', askF k v x = some ((n : Int), v') ∧ GR g w v0 st' v' ∧ n ≤ top
  | 0, _, _, _, _, _, _, _, h, _, _ => by cases h
  | d + 1, 0, _, _, _, _, _, h, _, _, _ => by omega
  | d + 1, k + 1, .c a i j, st, n, st', v, hk, h, hgr, hx => by
    have ih := fun x st n st' v => ask_F hg hsm hw hwl hv0 d k x st n st' v (by omega)
    obtain ⟨ha, hi, hj⟩ := hx
    unfold Ea.ask at h
    show ∃ v', F.forest.grove_count_B k (F.forest.grove_row k) v (spn a i j) = some ((n : Int), v') ∧ _
    unfold F.forest.grove_count_B
    have hh : (((tget qForest_span (spn a i j) v.whole).getD 0) == 0) = !hasW v0 a i j := by
      unfold hasW
      rw [hgr.wh]
      rcases hv0.whole (spn a i j) with ⟨h1, _⟩ | ⟨h1, _⟩ <;> rw [h1] <;> rfl
    rw [hh]
    by_cases hb : hasW v0 a i j = false
    · rw [if_pos hb] at h
      cases h
      rw [hb]
      exact ⟨v, rfl, hgr, by unfold top; omega⟩
    · rw [if_neg hb] at h
      have hb' : hasW v0 a i j = true := by simpa using hb
      rw [hb']
      simp only [Bool.not_true, Bool.false_eq_true, if_false, hgr.c]
      cases hkn : known st (.c a i j) with
      | some m =>
        rw [hkn] at h
        cases h
        exact ⟨v, rfl, hgr, hgr.le _ _ hkn⟩
      | none =>
        rw [hkn] at h
        simp only at h
        cases hs : sumC (Ea.ask (Rs g w) (byG g) (hasW v0) d) (Rs g w) i j (byG g a) 0 st with
        | none => rw [hs] at h; cases h
        | some p =>
          obtain ⟨m, st1⟩ := p
          rw [hs] at h
          simp only [Option.some.injEq, Prod.mk.injEq] at h
          obtain ⟨rfl, rfl⟩ := h
          have hlr := hsm.rules
          have hbl := byG_len g a
          obtain ⟨v1, e1, hgr1, hle⟩ := sumC_F (w := w) (k := k) hg (by omega) hv0.by_ hlr ha hi hj hgr.gr hgr.tx hgr.by_ ih (byG g a).length 0 0 st v m st1 k (by omega) (by omega) (by unfold top; omega) hs hgr
          have hin : inR (spn a i j).nt v.by_.length = true := by rw [hgr.by_]; exact inR_iff.2 ⟨by simp [spn], by rw [hv0.byl]; simp only [spn]; omega⟩
          simp only [Option.map_none, Option.isSome_none, Bool.false_eq_true, if_false, hin, if_true]
          rw [show ((0 : Int) = ((0 : Nat) : Int)) from rfl, e1, Option.bind_some]
          refine ⟨_, rfl, ⟨hgr.gr, hgr.tx, hgr.by_, hgr1.wh, fun a' i' j' => ?_, fun q' d' i' j' => ?_, fun x n hx => ?_⟩, hle⟩
          · show tget qForest_span (spn a' i' j') (tput qForest_span (spn a i j) (m : Int) v1.counts) = _
            rw [tget_tput (fun a b => qS_iff), known_cons]
            by_cases he : spn a' i' j' = spn a i j
            · obtain ⟨rfl, rfl, rfl⟩ := spn_inj he
              rw [if_pos rfl, if_pos rfl]; rfl
            · rw [if_neg he, if_neg (fun e => he (by cases e; rfl)), hgr1.c]
          · show tget qForest_part (prt q' d' i' j') v1.rows = _
            rw [known_cons, if_neg (by simp), hgr1.r]
          · rw [known_cons] at hx
            split at hx
            · cases hx; exact hle
            · exact hgr1.le _ _ hx
  | d + 1, k + 1, .r q e i j, st, n, st', v, hk, h, hgr, hx => by
    have ih := fun x st n st' v => ask_F hg hsm hw hwl hv0 d k x st n st' v (by omega)
    obtain ⟨⟨hq, hel⟩, hi, hj⟩ := hx
    unfold Ea.ask at h
    show ∃ v', F.forest.grove_row_B k (F.forest.grove_count k) (F.forest.grove_row k) v (prt q e i j) = some ((n : Int), v') ∧ _
    unfold F.forest.grove_row_B
    by_cases h0 : e = 0
    · subst h0
      rw [if_pos rfl] at h
      cases h
      have b1 : ((prt q 0 i j).dot == 0) = true := rfl
      have b2 : ((prt q 0 i j).from_ == (prt q 0 i j).to) = decide (i = j) := by
        rw [Bool.eq_iff_iff, beq_iff_eq, decide_eq_true_eq]; simp only [prt]; omega
      rw [b1, if_pos rfl, b2]
      by_cases hij : i = j
      · rw [decide_eq_true hij, if_pos rfl, if_pos hij]
        exact ⟨v, rfl, hgr, by unfold top; omega⟩
      · rw [decide_eq_false hij, if_neg (by simp), if_neg hij]
        exact ⟨v, rfl, hgr, by unfold top; omega⟩
    · rw [if_neg h0] at h
      have b1 : ((prt q e i j).dot == 0) = false := by rw [beq_eq_false_iff_ne]; simp only [prt]; omega
      rw [b1, if_neg (by simp)]
      simp only [hgr.r]
      cases hkn : known st (.r q e i j) with
      | some m =>
        rw [hkn] at h
        cases h
        exact ⟨v, rfl, hgr, hgr.le _ _ hkn⟩
      | none =>
        rw [hkn] at h
        simp only at h
        have hr : (Rs g w)[q]? = some (toRu w g.Rules[q]) := by simp [Rs, hq]
        have hrm : g.Rules[q] ∈ g.Rules := List.getElem_mem hq
        have h80 := hg.rhs _ hrm
        have he1 : e - 1 < g.Rules[q].Rhs.length := by omega
        rw [hr] at h
        simp only [toRu_get he1] at h
        cases hs : sumR (Ea.ask (Rs g w) (byG g) (hasW v0) d) (hasW v0) (toSy w g.Rules[q].Rhs[e - 1]) q (e - 1) i j (List.range' i (j + 1 - i)) 0 st with
        | none => rw [hs] at h; cases h
        | some p =>
          obtain ⟨m, st1⟩ := p
          rw [hs] at h
          simp only [Option.some.injEq, Prod.mk.injEq] at h
          obtain ⟨rfl, rfl⟩ := h
          obtain ⟨v1, e1, hgr1, hle⟩ := sumR_F (k := k) hg hw hwl hq he1 hi hj hgr.gr hgr.tx hgr.by_ ih (j + 1 - i) i 0 st v m st1 k (by omega) (by omega) (by unfold top; omega) hs hgr
          rw [show e - 1 + 1 = e by omega] at e1
          have hin : inR (prt q e i j).rule v.g.Rules.length = true := by rw [hgr.gr]; exact ix_in hq
          have har : at_ v.g.Rules (prt q e i j).rule = g.Rules[q] := by rw [hgr.gr]; exact ix_at hq
          have hdot : IntKind.wrap .i64 ((prt q e i j).dot - 1) = ((e - 1 : Nat) : Int) := by
            show IntKind.wrap .i64 ((e : Int) - 1) = _
            rw [wrap_i64 (by omega) (by omega)]; omega
          have hin2 : inR ((e - 1 : Nat) : Int) g.Rules[q].Rhs.length = true := ix_in he1
          have hfr : (prt q e i j).from_ = (i : Int) := rfl
          simp only [Option.map_none, Option.isSome_none, Bool.false_eq_true, if_false, hin, if_true, hdot, har, hin2, hfr]
          rw [show ((0 : Int) = ((0 : Nat) : Int)) from rfl, e1, Option.bind_some]
          refine ⟨_, rfl, ⟨hgr.gr, hgr.tx, hgr.by_, hgr1.wh, fun a' i' j' => ?_, fun q' d' i' j' => ?_, fun x n hx => ?_⟩, hle⟩
          · show tget qForest_span (spn a' i' j') v1.counts = _
            rw [known_cons, if_neg (by simp), hgr1.c]
          · show tget qForest_part (prt q' d' i' j') (tput qForest_part (prt q e i j) (m : Int) v1.rows) = _
            rw [tget_tput (fun a b => qP_iff), known_cons]
            by_cases he : prt q' d' i' j' = prt q e i j
            · obtain ⟨rfl, rfl, rfl, rfl⟩ := prt_inj he
              rw [if_pos rfl, if_pos rfl]; rfl
            · rw [if_neg he, if_neg (fun e => he (by cases e; rfl)), hgr1.r]
          · rw [known_cons] at hx
            split at hx
            · cases hx; exact hle
            · exact hgr1.le _ _ hx
end
end Go.Vc
