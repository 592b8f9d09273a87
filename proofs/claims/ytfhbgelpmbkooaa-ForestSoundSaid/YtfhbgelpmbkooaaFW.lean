import Derived.Test.YtfhbgelpmbkooaaFV
import Derived.Test.YtfhbgelpmbkooaaGZ
set_option linter.unusedVariables false
set_option linter.unusedSimpArgs false
namespace Go.Vc
open Go Ea
mutual
def trT (w : List Int) : Tr → Tree
  | .leaf m => ⟨-1, w.getD m 0, []⟩
  | .node q ks => ⟨(q : Int), 0, trTs w ks⟩
def trTs (w : List Int) : List Tr → List Tree
  | [] => []
  | t :: ts => trT w t :: trTs w ts
end
theorem trTs_map (w : List Int) : ∀ l : List Tr, trTs w l = l.map (trT w)
  | [] => rfl
  | t :: ts => by rw [trTs, trTs_map w ts]; rfl
def Low : Nat → Tree → Prop
  | 0, _ => False
  | h + 1, t => t.Kids.length ≤ 100 ∧ ∀ x ∈ t.Kids, Low h x
theorem Low.up : ∀ {h h' : Nat} {t : Tree}, Low h t → h ≤ h' → Low h' t
  | 0, _, _, h, _ => by cases h
  | h + 1, 0, _, _, hh => by omega
  | h + 1, h' + 1, _, ⟨h1, h2⟩, hh => ⟨h1, fun x hx => (h2 x hx).up (by omega)⟩
theorem clone_row {k h : Nat} {l : List Tree} (hk : 200 ≤ k) (hl : l.length ≤ 100) (hx : ∀ x ∈ l, Low h x) (ih : ∀ t, Low h t → F.forest.copied k t = some t) : F.forest.clone (k + 1) l = some l := by
  show F.forest.clone_B k (F.forest.copied k) l = some l
  unfold F.forest.clone_B
  have e0 : IntKind.wrap .i64 ((l.length : Int) + 1) = ((l.length + 1 : Nat) : Int) := ix_inc (by omega)
  have d1 : decide (0 ≤ ((l.length + 1 : Nat) : Int)) = true := decide_eq_true (by omega)
  have d2 : decide (40 * (Int.toNat ((l.length + 1 : Nat) : Int)) ≤ 140737488355328) = true := decide_eq_true (by omega)
  have d3 : decide (Int.toNat ((l.length + 1 : Nat) : Int) ≤ 9223372036854775807) = true := decide_eq_true (by omega)
  rw [e0, d1, if_pos rfl, d2, if_pos rfl, d3, if_pos rfl]
  have key := loop_inv0 (n := l.length) (k := k) (σ := List Tree) (s := []) (L := fun j i s => F.forest.clone_l1 l (F.forest.copied k) j s i) (I := fun q s => s = l.take q) (Q := fun o => o = some l) (by omega) (by simp) (fun j q s hq hI => ?_) (fun j s hI => ?_)
  · rw [key]; rfl
  · left
    subst hI
    have hlow := hx _ (List.getElem_mem hq)
    have e1 : decide (((l.take q).length + ([l[q]] : List Tree).length) * 40 ≤ 140737488355328) = true := decide_eq_true (by rw [List.length_take, List.length_singleton]; omega)
    have e2 : decide ((l.take q).length + ([l[q]] : List Tree).length ≤ 9223372036854775807) = true := decide_eq_true (by rw [List.length_take, List.length_singleton]; omega)
    refine ⟨_, rfl, ?_⟩
    simp only [F.forest.clone_l1, ix_lt hq, ix_in hq, ix_at hq, if_true]
    rw [ih _ hlow, Option.bind_some, e1, if_pos rfl, e2, if_pos rfl, ix_inc (by omega), List.take_succ_eq_append_getElem hq]
  · subst hI
    simp only [F.forest.clone_l1, ix_ge (Nat.lt_irrefl _), Bool.false_eq_true, if_false, List.take_length]
theorem copied_ok : ∀ (h k : Nat) (t : Tree), 2 * h + 300 ≤ k → Low h t → F.forest.copied k t = some t
  | 0, _, _, _, h => by cases h
  | h + 1, k, t, hk, ⟨h1, h2⟩ => by
    obtain ⟨k, rfl⟩ : ∃ k', k = k' + 2 := ⟨k - 2, by omega⟩
    show F.forest.copied_B (k + 1) (F.forest.clone (k + 1)) t = some t
    unfold F.forest.copied_B
    by_cases h0 : 0 < (t.Kids.length : Int)
    · rw [decide_eq_true h0, if_pos rfl, clone_row (by omega) h1 h2 (fun t ht => copied_ok h k t (by omega) ht)]
      cases t; rfl
    · rw [decide_eq_false h0, if_neg (by simp)]
theorem clone_ok {h k : Nat} {l : List Tree} (hk : 2 * h + 301 ≤ k) (hl : l.length ≤ 100) (hx : ∀ x ∈ l, Low h x) : F.forest.clone k l = some l := by
  obtain ⟨k, rfl⟩ : ∃ k', k = k' + 1 := ⟨k - 1, by omega⟩
  exact clone_row (by omega) hl hx fun t ht => copied_ok h k t (by omega) ht
theorem pairs7 {k h : Nat} {most t7 : Nat} {last : List Tree} {v : List (List Tree) × Forest_grove} (hk : 2 * h + 301 ≤ k) (ht : t7 < v.1.length) (hL : v.1[t7].length ≤ 90) (hLx : ∀ x ∈ v.1[t7], Low h x) (hlx : ∀ x ∈ last, Low h x) (hm : most ≤ 2000) (hll : last.length ≤ 2000) :
    ∀ (c t : Nat) (out : List (List Tree)) (ff : Nat), t + c = last.length → c < ff → out.length ≤ most →
      F.forest.Trees_c1_l7 k last (most : Int) v (t7 : Int) ff out (t : Int) = some (out ++ ((last.drop t).map fun x => v.1[t7] ++ [x]).take (most - out.length), (last.length : Int))
  | _, _, _, 0, _, h, _ => by omega
  | 0, t, out, ff + 1, htc, _, ho => by
    have : t = last.length := by omega
    subst this
    simp only [F.forest.Trees_c1_l7, ix_ge (Nat.lt_irrefl _), Bool.false_eq_true, if_false]
    rw [List.drop_length, List.map_nil, List.take_nil, List.append_nil]
  | c + 1, t, out, ff + 1, htc, hff, ho => by
    have h1 : t < last.length := by omega
    simp only [F.forest.Trees_c1_l7, ix_lt h1, ix_in h1, ix_at h1, ix_at ht, if_true]
    rw [List.drop_eq_getElem_cons h1, List.map_cons]
    by_cases hlt : out.length < most
    · have d0 : decide ((out.length : Int) < (most : Int)) = true := decide_eq_true (by omega)
      have d1 : decide ((v.1[t7].length + ([last[t]] : List Tree).length) * 40 ≤ 140737488355328) = true := decide_eq_true (by rw [List.length_singleton]; omega)
      have d2 : decide (v.1[t7].length + ([last[t]] : List Tree).length ≤ 9223372036854775807) = true := decide_eq_true (by rw [List.length_singleton]; omega)
      have d3 : decide ((out.length + ([v.1[t7] ++ [last[t]]] : List (List Tree)).length) * 24 ≤ 140737488355328) = true := decide_eq_true (by rw [List.length_singleton]; omega)
      have d4 : decide (out.length + ([v.1[t7] ++ [last[t]]] : List (List Tree)).length ≤ 9223372036854775807) = true := decide_eq_true (by rw [List.length_singleton]; omega)
      rw [d0, if_pos rfl, clone_ok hk (by omega) hLx, Option.bind_some, copied_ok h k _ (by omega) (hlx _ (List.getElem_mem h1)), Option.bind_some, d1, if_pos rfl, d2, if_pos rfl, d3, if_pos rfl, d4, if_pos rfl]
      unfold F.forest.Trees_c1_j9 F.forest.Trees_c1_j8
      rw [ix_inc (by omega), pairs7 hk ht hL hLx hlx hm hll c (t + 1) _ ff (by omega) (by omega) (by rw [List.length_append, List.length_singleton]; omega)]
      obtain ⟨n, hn⟩ : ∃ n, most - out.length = n + 1 := ⟨most - out.length - 1, by omega⟩
      rw [hn, List.take_succ_cons, List.length_append, List.length_singleton, show most - (out.length + 1) = n by omega, List.append_assoc]
      rfl
    · have d0 : decide ((out.length : Int) < (most : Int)) = false := decide_eq_false (by omega)
      rw [d0, if_neg (by simp)]
      unfold F.forest.Trees_c1_j9 F.forest.Trees_c1_j8
      rw [ix_inc (by omega), pairs7 hk ht hL hLx hlx hm hll c (t + 1) _ ff (by omega) (by omega) ho]
      rw [show most - out.length = 0 by omega, List.take_zero, List.take_zero]
theorem pairs6 {k h : Nat} {most : Nat} {last : List Tree} {v : List (List Tree) × Forest_grove} (hk : 2 * h + 301 ≤ k) (hk2 : 3000 ≤ k) (hL : ∀ l ∈ v.1, l.length ≤ 90 ∧ ∀ x ∈ l, Low h x) (hlx : ∀ x ∈ last, Low h x) (hm : most ≤ 2000) (hll : last.length ≤ 2000) (hvl : v.1.length ≤ 2000) :
    ∀ (c t : Nat) (out : List (List Tree)) (ff : Nat), t + c = v.1.length → c < ff → out.length ≤ most →
      F.forest.Trees_c1_l6 k v last (most : Int) ff out (t : Int) = some (out ++ ((v.1.drop t).flatMap fun l => last.map fun x => l ++ [x]).take (most - out.length), (v.1.length : Int))
  | _, _, _, 0, _, h, _ => by omega
  | 0, t, out, ff + 1, htc, _, ho => by
    have : t = v.1.length := by omega
    subst this
    simp only [F.forest.Trees_c1_l6, ix_ge (Nat.lt_irrefl _), Bool.false_eq_true, if_false]
    rw [List.drop_length, List.flatMap_nil, List.take_nil, List.append_nil]
  | c + 1, t, out, ff + 1, htc, hff, ho => by
    have h1 : t < v.1.length := by omega
    obtain ⟨h2, h3⟩ := hL _ (List.getElem_mem h1)
    simp only [F.forest.Trees_c1_l6, ix_lt h1, ix_in h1, if_true]
    rw [show ((0 : Int) = ((0 : Nat) : Int)) from rfl, pairs7 hk h1 h2 h3 hlx hm hll last.length 0 out k (by omega) (by omega) ho, Option.bind_some, ix_inc (by omega)]
    rw [List.drop_zero]
    rw [pairs6 hk hk2 hL hlx hm hll hvl c (t + 1) _ ff (by omega) (by omega) (by rw [List.length_append, List.length_take]; omega)]
    rw [List.drop_eq_getElem_cons h1, List.flatMap_cons, List.take_append, List.append_assoc]
    generalize (last.map fun x => v.1[t] ++ [x]) = A
    have e : most - (out ++ A.take (most - out.length)).length = most - out.length - A.length := by rw [List.length_append, List.length_take]; omega
    rw [e]
end Go.Vc
namespace Go.Vc
open Go Ea
section
variable {g : Gram} {w : List Int} {v0 : Forest_grove} {ρ : Nat → Nat}
abbrev An (g : Gram) (w : List Int) (ρ : Nat → Nat) : Qu → Nat := ans (Rs g w) ρ g.Nts.toNat
def gCw (g : Gram) (w : List Int) (ρ : Nat → Nat) (q i j : Nat) : Bool := decide (0 < An g w ρ (.r q (((Rs g w)[q]?.map fun r => r.rhs.length).getD 0) i j))
def gRw (g : Gram) (w : List Int) (ρ : Nat → Nat) (q d i m : Nat) : Bool := decide (0 < An g w ρ (.r q d i m))
def Wk (g : Gram) (w : List Int) (ρ : Nat → Nat) (v0 v : Forest_grove) : Prop := ∃ st, GR g w v0 st v ∧ KnOk (Rs g w) ρ g.Nts.toNat st
structure Ctx (g : Gram) (w : List Int) (v0 : Forest_grove) (ρ : Nat → Nat) : Prop where
  hg : RightG g
  hsm : SmallG g
  hw : Bytes w
  hwl : w.length ≤ 20
  hv0 : Grove g w v0
  hρ : Falls (Rs g w) ρ g.Nts.toNat
  hhas : ∀ a i j, j ≤ w.length → (hasW v0 a i j = true ↔ DerY (Rs g w) (.nt a) i j)
theorem Ctx.hW (h : Ctx g w v0 ρ) : ∀ r ∈ Rs g w, r.rhs.length + 2 ≤ 82 := by
  intro r hr'
  obtain ⟨x, hx, rfl⟩ := List.mem_map.1 hr'
  rw [toRu_len]
  have := h.hg.rhs x hx
  omega
theorem Wk.row (C : Ctx g w v0 ρ) {k : Nat} {v : Forest_grove} {x : Qu} (h : Wk g w ρ v0 v) (hk : 430000 ≤ k) (hf : Fits (Rs g w) ρ g.Nts.toNat 82 w.length 400000 x) (hx : InR g w x) :
    ∃ v', askF k v x = some ((An g w ρ x : Int), v') ∧ Wk g w ρ v0 v' := by
  obtain ⟨st, h1, h2⟩ := h
  obtain ⟨st', ha, hkn⟩ := ask_ok (R := Rs g w) (by_ := byG g) (has := hasW v0) (ρ := ρ) (K := g.Nts.toNat) (W := 82) (n := w.length) C.hρ (fun a => byG_Rs g w a) C.hhas C.hW 400001 400000 x st (by omega) hf h2
  obtain ⟨v', e', hgr', _⟩ := ask_F C.hg C.hsm C.hw C.hwl C.hv0 400001 k x st _ st' v (by omega) ha h1 hx
  exact ⟨v', e', st', hgr', hkn⟩
theorem an_pos (C : Ctx g w v0 ρ) {q d i m : Nat} {r : Ru} (hq : (Rs g w)[q]? = some r) : 0 < An g w ρ (.r q d i m) ↔ Der (Rs g w) (r.rhs.take d) i m := by
  show 0 < sat (rowsL (trees (Rs g w) ρ g.Nts.toNat) ((((Rs g w)[q]?.map fun r => r.rhs).getD []).take d) i m).length ↔ _
  rw [hq]
  simp only [Option.map_some, Option.getD_some]
  constructor
  · intro h
    refine rowsL_fair (trees_fair ρ g.Nts.toNat) _ fun e => ?_
    rw [e] at h
    exact absurd h (by decide)
  · intro h
    refine Nat.pos_of_ne_zero fun e => rows_some C.hρ h ?_
    exact List.length_eq_zero_iff.1 (sat_zero_iff.1 e)
def rlen : Qu → Nat
  | .c _ _ _ => 1
  | .r _ e _ _ => e
def Told (w : List Int) (k : Nat) (most : Nat) (l : List (List Tr)) (v v' : Forest_grove) : Qu → Prop
  | .c a i j => ∃ ts : List Tr, l = ts.map (fun t => [t]) ∧ F.forest.Trees_c2 k (spn a i j) (most : Int) v = some (ts.map (trT w), v')
  | .r q e i j => F.forest.Trees_c1 k (prt q e i j) (most : Int) v = some (l.map (trTs w), v')
abbrev lstW (g : Gram) (w : List Int) (v0 : Forest_grove) (ρ : Nat → Nat) := lst (Rs g w) (byG g) (hasW v0) (gCw g w ρ) (gRw g w ρ)
def IH (g : Gram) (w : List Int) (v0 : Forest_grove) (ρ : Nat → Nat) (d k : Nat) : Prop :=
  ∀ (μ : Nat) (x : Qu) (most : Nat) (l : List (List Tr)) (v : Forest_grove), μ < d → Fits (Rs g w) ρ g.Nts.toNat 82 w.length μ x → (∀ q i j, x = .r q 0 i j → i = j) → 1 ≤ most → most ≤ 1000 → lstW g w v0 ρ d x most = some l → Wk g w ρ v0 v → InR g w x →
    ∃ v', Told w k most l v v' x ∧ Wk g w ρ v0 v' ∧ l.length ≤ most ∧ ∀ row ∈ l, row.length = rlen x ∧ ∀ t ∈ row, Low d (trT w t)
theorem l4_ok {vv : Forest_grove} {x : Forest_span} {t22 : Int} {v9 : List (List Tree) × Forest_grove} (hl : v9.1.length ≤ 2000) : ∀ (c t : Nat) (out : List Tree) (ff : Nat), t + c = v9.1.length → c < ff → out.length + c ≤ 4000 →
    F.forest.Trees_c2_l4 v9 vv x t22 ff out (t : Int) = some (out ++ (v9.1.drop t).map fun ks => Tree.mk (at_ (at_ vv.by_ x.nt) t22) 0 ks, (v9.1.length : Int))
  | _, _, _, 0, _, h, _ => by omega
  | 0, t, out, ff + 1, htc, _, ho => by
    have : t = v9.1.length := by omega
    subst this
    simp only [F.forest.Trees_c2_l4, ix_ge (Nat.lt_irrefl _), Bool.false_eq_true, if_false]
    rw [List.drop_length, List.map_nil, List.append_nil]
  | c + 1, t, out, ff + 1, htc, hff, ho => by
    have h1 : t < v9.1.length := by omega
    simp only [F.forest.Trees_c2_l4, ix_lt h1, ix_in h1, ix_at h1, if_true]
    generalize hT : Tree.mk (at_ (at_ vv.by_ x.nt) t22) 0 v9.1[t] = T
    have d1 : decide ((out.length + ([T] : List Tree).length) * 40 ≤ 140737488355328) = true := decide_eq_true (by rw [List.length_singleton]; omega)
    have d2 : decide (out.length + ([T] : List Tree).length ≤ 9223372036854775807) = true := decide_eq_true (by rw [List.length_singleton]; omega)
    rw [d1, if_pos rfl, d2, if_pos rfl, ix_inc (by omega), l4_ok hl c (t + 1) _ ff (by omega) (by omega) (by rw [List.length_append, List.length_singleton]; omega), List.drop_eq_getElem_cons h1, List.map_cons, hT, List.append_assoc]
    rfl
theorem lstC_F (C : Ctx g w v0 ρ) {d k : Nat} (hd : d ≤ 400001) (hk : 500000 ≤ k) (ih : IH g w v0 ρ d k) {a i j most : Nat} (ha : a < g.Nts.toNat) (hij : i ≤ j) (hj : j ≤ w.length) (hrk : rk ρ g.Nts.toNat a i j * 82 + 81 < d + 1) (hm1 : 1 ≤ most) (hm : most ≤ 1000) {vv : Forest_grove} (h1 : vv.g = g) (h2 : vv.w_ = w) (h3 : vv.by_ = v0.by_) :
    ∀ (c t : Nat) (out : List Tr) (l : List (List Tr)) (v : Forest_grove) (ff : Nat), t + c = (byG g a).length → c < ff → out.length ≤ most → (∀ t ∈ out, Low (d + 1) (trT w t)) →
      lstC (lstW g w v0 ρ d) (gCw g w ρ) (Rs g w) i j most ((byG g a).drop t) (out.map fun t => [t]) = some l → Wk g w ρ v0 v →
      ∃ (v' : Forest_grove) (ts : List Tr), F.forest.Trees_c2_l1 k vv (spn a i j) (most : Int) (F.forest.Trees_c1 k) ff (out.map (trT w)) (t : Int) v.whole v.counts v.rows = some (ts.map (trT w), v'.whole, v'.counts, v'.rows) ∧ l = ts.map (fun t => [t]) ∧ Wk g w ρ v0 v' ∧ ts.length ≤ most ∧ ∀ t ∈ ts, Low (d + 1) (trT w t)
  | _, _, _, _, _, 0, _, h, _, _, _, _ => by omega
  | 0, t, out, l, v, ff + 1, htc, _, ho, hlow, h, hwk => by
    rw [List.drop_eq_nil_of_le (by omega)] at h
    cases h
    have hat : at_ vv.by_ (spn a i j).nt = (byG g a).map fun q : Nat => (q : Int) := by rw [h3]; exact C.hv0.by_ a
    have : decide ((t : Int) < (((byG g a).map fun q : Nat => (q : Int)).length : Int)) = false := ix_ge (by simp; omega)
    simp only [F.forest.Trees_c2_l1, hat, this, Bool.false_eq_true, if_false]
    exact ⟨v, out, rfl, rfl, hwk, ho, hlow⟩
  | c + 1, t, out, l, v, ff + 1, htc, hff, ho, hlow, h, hwk => by
    have ht : t < (byG g a).length := by omega
    have hbl := byG_len g a
    have hlr := C.hsm.rules
    have ht1 : t < ((byG g a).map fun q : Nat => (q : Int)).length := by simpa using ht
    have hat : at_ vv.by_ (spn a i j).nt = (byG g a).map fun q : Nat => (q : Int) := by rw [h3]; exact C.hv0.by_ a
    have hqi : at_ ((byG g a).map fun q : Nat => (q : Int)) (t : Int) = (((byG g a)[t] : Nat) : Int) := by rw [ix_at ht1]; simp
    obtain ⟨r, hr, hrl⟩ := (byG_Bys g w a _).1 (List.getElem_mem ht)
    obtain ⟨hq, rfl⟩ := Rs_get hr
    have hrm : g.Rules[(byG g a)[t]] ∈ g.Rules := List.getElem_mem hq
    have h80 := C.hg.rhs _ hrm
    have hin : inR (((byG g a)[t] : Nat) : Int) vv.g.Rules.length = true := by rw [h1]; exact ix_in hq
    have har : at_ vv.g.Rules (((byG g a)[t] : Nat) : Int) = g.Rules[(byG g a)[t]] := by rw [h1]; exact ix_at hq
    rw [List.drop_eq_getElem_cons ht] at h
    unfold lstC at h
    simp only [F.forest.Trees_c2_l1, hat, ix_lt ht1, ix_in ht1, if_true, hqi, hin, har]
    simp only [List.length_map]
    by_cases hlt : out.length < most
    · have d0 : ((out.length : Int) == (most : Int)) = false := by rw [beq_eq_false_iff_ne]; omega
      rw [d0, if_neg (by simp)]
      obtain ⟨st, hgr, hkn⟩ := hwk
      rw [hgr.mk_eq h1 h2 h3]
      have hwk : Wk g w ρ v0 v := ⟨st, hgr, hkn⟩
      have hfit : Fits (Rs g w) ρ g.Nts.toNat 82 w.length (rk ρ g.Nts.toNat a i j * 82 + g.Rules[(byG g a)[t]].Rhs.length) (.r (byG g a)[t] g.Rules[(byG g a)[t]].Rhs.length i j) := ⟨toRu w g.Rules[(byG g a)[t]], j, hr, by rw [toRu_len]; exact Nat.le_refl _, hj, by rw [List.drop_eq_nil_of_le (by rw [toRu_len]; exact Nat.le_refl _)]; exact .nil j, hij, by rw [hrl]; exact Nat.le_refl _⟩
      have hfit2 : Fits (Rs g w) ρ g.Nts.toNat 82 w.length 400000 (.r (byG g a)[t] g.Rules[(byG g a)[t]].Rhs.length i j) := ⟨toRu w g.Rules[(byG g a)[t]], j, hr, by rw [toRu_len]; exact Nat.le_refl _, hj, by rw [List.drop_eq_nil_of_le (by rw [toRu_len]; exact Nat.le_refl _)]; exact .nil j, hij, by rw [hrl]; omega⟩
      have hInR : InR g w (.r (byG g a)[t] g.Rules[(byG g a)[t]].Rhs.length i j) := ⟨⟨hq, Nat.le_refl _⟩, by have := C.hwl; omega, hj⟩
      obtain ⟨v1, e1, hwk1⟩ := Wk.row C (k := k) hwk (by omega) hfit2 hInR
      have e2 : F.forest.grove_row k v (Forest_part.mk (((byG g a)[t] : Nat) : Int) (g.Rules[(byG g a)[t]].Rhs.length : Int) (spn a i j).from_ (spn a i j).to) = some ((An g w ρ (.r (byG g a)[t] g.Rules[(byG g a)[t]].Rhs.length i j) : Int), v1) := e1
      rw [e2, Option.bind_some]
      have hgc : gCw g w ρ (byG g a)[t] i j = decide (0 < An g w ρ (.r (byG g a)[t] g.Rules[(byG g a)[t]].Rhs.length i j)) := by
        unfold gCw
        rw [hr]
        simp only [Option.map_some, Option.getD_some, toRu_len]
      unfold F.forest.Trees_c2_j3
      by_cases hpos : 0 < An g w ρ (.r (byG g a)[t] g.Rules[(byG g a)[t]].Rhs.length i j)
      · have d1 : (((An g w ρ (.r (byG g a)[t] g.Rules[(byG g a)[t]].Rhs.length i j) : Nat) : Int) == 0) = false := by rw [beq_eq_false_iff_ne]; omega
        simp only [d1, Bool.false_eq_true, if_false, hat, hqi, har, List.length_map]
        rw [if_pos ⟨by rw [List.length_map]; exact hlt, by rw [hgc]; exact decide_eq_true hpos⟩] at h
        simp only [hr, Option.map_some, Option.getD_some, toRu_len, List.length_map] at h
        cases hl : lstW g w v0 ρ d (.r (byG g a)[t] g.Rules[(byG g a)[t]].Rhs.length i j) (most - out.length) with
        | none => rw [hl] at h; cases h
        | some l1 =>
          rw [hl] at h
          simp only at h
          obtain ⟨v2, e3, hwk2, hll, hrow⟩ := ih _ _ _ _ v1 (by omega) hfit (fun q' i' j' e => by
            simp only [Qu.r.injEq] at e
            obtain ⟨_, e2, e3, e4⟩ := e
            have h5 := (an_pos C hr).1 hpos
            rw [e2, List.take_zero] at h5
            have := der_nil.1 h5
            omega) (by omega) (by omega) hl hwk1 hInR
          have hwd : IntKind.wrap .i64 ((most : Int) - (out.length : Int)) = ((most - out.length : Nat) : Int) := by rw [wrap_i64 (by omega) (by omega)]; omega
          obtain ⟨st1, hgr1, hkn1⟩ := hwk1
          have e4 : F.forest.Trees_c1 k (Forest_part.mk (((byG g a)[t] : Nat) : Int) (g.Rules[(byG g a)[t]].Rhs.length : Int) (spn a i j).from_ (spn a i j).to) ((most - out.length : Nat) : Int) v1 = some (l1.map (trTs w), v2) := e3
          rw [hwd, hgr1.mk_eq h1 h2 h3, e4, Option.bind_some, show ((0 : Int) = ((0 : Nat) : Int)) from rfl, l4_ok (by simp only [List.length_map]; omega) l1.length 0 _ k (by simp) (by omega) (by rw [List.length_map]; omega), Option.bind_some]
          unfold F.forest.Trees_c2_j2
          simp only [hat, hqi, List.drop_zero]
          rw [ix_inc (by omega)]
          have e5 : out.map (trT w) ++ (l1.map (trTs w)).map (fun ks => Tree.mk (((byG g a)[t] : Nat) : Int) 0 ks) = (out ++ l1.map (Tr.node (byG g a)[t])).map (trT w) := by
            rw [List.map_append, List.map_map, List.map_map]
            rfl
          have e6 : ((out.map fun t => [t]) ++ l1.map fun ks => [Tr.node (byG g a)[t] ks]) = (out ++ l1.map (Tr.node (byG g a)[t])).map fun t => [t] := by
            rw [List.map_append, List.map_map]
            rfl
          rw [e6] at h
          rw [e5]
          refine lstC_F C hd hk ih ha hij hj hrk hm1 hm h1 h2 h3 c (t + 1) _ l v2 ff (by omega) (by omega) (by rw [List.length_append, List.length_map]; omega) (fun x hx => ?_) h hwk2
          rw [List.mem_append] at hx
          rcases hx with hx | hx
          · exact hlow x hx
          · obtain ⟨ks, hks, rfl⟩ := List.mem_map.1 hx
            obtain ⟨h6, h7⟩ := hrow ks hks
            have h6' : ks.length = g.Rules[(byG g a)[t]].Rhs.length := h6
            show (trTs w ks).length ≤ 100 ∧ ∀ x ∈ trTs w ks, Low d x
            rw [trTs_map]
            refine ⟨by rw [List.length_map]; omega, fun x hx => ?_⟩
            obtain ⟨y, hy, rfl⟩ := List.mem_map.1 hx
            exact h7 y hy
      · have d1 : (((An g w ρ (.r (byG g a)[t] g.Rules[(byG g a)[t]].Rhs.length i j) : Nat) : Int) == 0) = true := by rw [beq_iff_eq]; omega
        simp only [d1, if_true]
        unfold F.forest.Trees_c2_j2
        rw [if_neg (fun hc => by rw [hgc] at hc; exact hpos (of_decide_eq_true hc.2))] at h
        rw [ix_inc (by omega)]
        exact lstC_F C hd hk ih ha hij hj hrk hm1 hm h1 h2 h3 c (t + 1) _ l v1 ff (by omega) (by omega) ho hlow h hwk1
    · have d0 : ((out.length : Int) == (most : Int)) = true := by rw [beq_iff_eq]; omega
      rw [d0, if_pos rfl]
      unfold F.forest.Trees_c2_j3 F.forest.Trees_c2_j2
      rw [if_pos rfl, ix_inc (by omega)]
      rw [if_neg (fun hc => by rw [List.length_map] at hc; exact hlt hc.1)] at h
      exact lstC_F C hd hk ih ha hij hj hrk hm1 hm h1 h2 h3 c (t + 1) _ l v ff (by omega) (by omega) ho hlow h hwk
theorem lstR_stop {gg : Qu → Nat → Option (List (List Tr))} {has : Nat → Nat → Nat → Bool} {gR : Nat → Nat → Nat → Nat → Bool} {s : Sy} {q d i j most : Nat} {out : List (List Tr)} (h : ¬ out.length < most) : ∀ ms, lstR gg has gR s q d i j most ms out = some out
  | [] => rfl
  | m :: ms => by
    unfold lstR
    rw [if_neg (fun hc => h hc.1)]
    exact lstR_stop h ms
end
end Go.Vc
namespace Go.Vc
open Go Ea
section
variable {g : Gram} {w : List Int} {v0 : Forest_grove} {ρ : Nat → Nat}
theorem symB_der (C : Ctx g w v0 ρ) {s : Sy} {m j : Nat} (hj : j ≤ w.length) : symB (hasW v0) s m j = true ↔ DerY (Rs g w) s m j := by
  have h := symB_iff C.hhas (s := s) (m := m) (j := j) hj
  cases hb : symB (hasW v0) s m j with
  | false => rw [hb] at h; exact ⟨fun e => Bool.noConfusion e, fun e => absurd e (h.1 rfl)⟩
  | true =>
    refine ⟨fun _ => Classical.byContradiction fun hn => ?_, fun _ => rfl⟩
    have := h.2 hn
    rw [hb] at this
    cases this
theorem lstR_F (C : Ctx g w v0 ρ) {d k : Nat} (hd : d ≤ 400001) (hk : d + 500000 ≤ k) (ih : IH g w v0 ρ d k) {q e i j jj most : Nat} (hq : q < g.Rules.length) (he : e < g.Rules[q].Rhs.length) (hjj : jj ≤ w.length) (hder : Der (Rs g w) ((toRu w g.Rules[q]).rhs.drop (e + 1)) j jj) (hij : i ≤ jj) (hrk : rk ρ g.Nts.toNat (toRu w g.Rules[q]).lhs i jj * 82 + (e + 1) < d + 1) (hm1 : 1 ≤ most) (hm : most ≤ 1000) {vv : Forest_grove} (h1 : vv.g = g) (h2 : vv.w_ = w) (h3 : vv.by_ = v0.by_) :
    ∀ (c m0 : Nat) (out l : List (List Tr)) (v : Forest_grove) (ff : Nat), m0 + c = j + 1 ∨ (c = 0 ∧ j < m0 ∧ m0 ≤ 100) → i ≤ m0 → c < ff → out.length ≤ most → (∀ row ∈ out, row.length = e + 1 ∧ ∀ t ∈ row, Low (d + 1) (trT w t)) →
      lstR (lstW g w v0 ρ d) (hasW v0) (gRw g w ρ) (toSy w g.Rules[q].Rhs[e]) q e i j most (List.range' m0 c) out = some l → Wk g w ρ v0 v →
      ∃ (v' : Forest_grove), F.forest.Trees_c1_l1 k (prt q (e + 1) i j) vv (F.forest.Trees_c2 k) (most : Int) (F.forest.Trees_c1 k) ff (out.map (trTs w)) (m0 : Int) v.whole v.counts v.rows = some (l.map (trTs w), v'.whole, v'.counts, v'.rows) ∧ Wk g w ρ v0 v' ∧ l.length ≤ most ∧ ∀ row ∈ l, row.length = e + 1 ∧ ∀ t ∈ row, Low (d + 1) (trT w t)
  | _, _, _, _, _, 0, _, _, h, _, _, _, _ => by omega
  | 0, m0, out, l, v, ff + 1, hmc, _, _, ho, hlow, h, hwk => by
    simp only [List.range'_zero] at h
    cases h
    have : decide ((m0 : Int) ≤ (prt q (e + 1) i j).to) = false := decide_eq_false (by simp only [prt]; omega)
    simp only [F.forest.Trees_c1_l1, this, Bool.false_eq_true, if_false]
    unfold F.forest.Trees_c1_j2
    simp only [Bool.false_eq_true, if_false]
    exact ⟨v, rfl, hwk, ho, hlow⟩
  | c + 1, m0, out, l, v, ff + 1, hmc, hi, hff, ho, hlow, h, hwk => by
    have hjle := hder.le
    have hmj : m0 ≤ j := by omega
    have hwl := C.hwl
    have hd0 : decide ((m0 : Int) ≤ (prt q (e + 1) i j).to) = true := decide_eq_true (by simp only [prt]; omega)
    simp only [F.forest.Trees_c1_l1, hd0, if_true]
    unfold F.forest.Trees_c1_j2
    by_cases hlt : out.length < most
    · have d1 : decide ((((out.map (trTs w)).length : Nat) : Int) < (most : Int)) = true := decide_eq_true (by rw [List.length_map]; omega)
      rw [d1, if_pos rfl]
      have hrm : g.Rules[q] ∈ g.Rules := List.getElem_mem hq
      have h80 := C.hg.rhs _ hrm
      have hsm : g.Rules[q].Rhs[e] ∈ g.Rules[q].Rhs := List.getElem_mem he
      have hr : (Rs g w)[q]? = some (toRu w g.Rules[q]) := by simp [Rs, hq]
      have hdot : IntKind.wrap .i64 ((prt q (e + 1) i j).dot - 1) = (e : Int) := by
        show IntKind.wrap .i64 (((e + 1 : Nat) : Int) - 1) = _
        rw [wrap_i64 (by omega) (by omega)]; omega
      have har : at_ vv.g.Rules (prt q (e + 1) i j).rule = g.Rules[q] := by rw [h1]; exact ix_at hq
      have hae : at_ g.Rules[q].Rhs (e : Int) = g.Rules[q].Rhs[e] := ix_at he
      have hto : (prt q (e + 1) i j).to = (j : Int) := rfl
      rw [List.range'_succ] at h
      unfold lstR at h
      obtain ⟨st, hgr, hkn⟩ := hwk
      have hwk : Wk g w ρ v0 v := ⟨st, hgr, hkn⟩
      rw [har, hdot, hae, hto, hgr.mk_eq h1 h2 h3, sym_F C.hw hgr.tx hgr.wh hmj (by omega) hwl, Option.bind_some]
      have hsplit : (toRu w g.Rules[q]).rhs = (toRu w g.Rules[q]).rhs.take e ++ toSy w g.Rules[q].Rhs[e] :: (toRu w g.Rules[q]).rhs.drop (e + 1) := by
        have h5 : e < (toRu w g.Rules[q]).rhs.length := by rw [toRu_len]; exact he
        have h6 := toRu_get (w := w) he
        rw [List.getElem?_eq_getElem h5] at h6
        have h7 : (toRu w g.Rules[q]).rhs[e] = toSy w g.Rules[q].Rhs[e] := Option.some.inj h6
        rw [← h7, ← List.drop_eq_getElem_cons h5, List.take_append_drop]
      by_cases hsb : symB (hasW v0) (toSy w g.Rules[q].Rhs[e]) m0 j = true
      · rw [hsb]
        simp only [Bool.not_true, Bool.false_eq_true, if_false]
        have hy := (symB_der C (by omega)).1 hsb
        have hd2 : Der (Rs g w) ((toRu w g.Rules[q]).rhs.drop e) m0 jj := by
          have h5 : e < (toRu w g.Rules[q]).rhs.length := by rw [toRu_len]; exact he
          have h6 : (toRu w g.Rules[q]).rhs.drop e = toSy w g.Rules[q].Rhs[e] :: (toRu w g.Rules[q]).rhs.drop (e + 1) := by
            rw [List.drop_eq_getElem_cons h5]
            have h6 := toRu_get (w := w) he
            rw [List.getElem?_eq_getElem h5] at h6
            rw [Option.some.inj h6]
          rw [h6]
          exact der_cons.2 ⟨j, hy, hder⟩
        have hfit : ∀ μ, rk ρ g.Nts.toNat (toRu w g.Rules[q]).lhs i jj * 82 + e ≤ μ → Fits (Rs g w) ρ g.Nts.toNat 82 w.length μ (.r q e i m0) := fun μ hμ => ⟨toRu w g.Rules[q], jj, hr, by rw [toRu_len]; omega, hjj, hd2, hij, hμ⟩
        have hInR : InR g w (.r q e i m0) := ⟨⟨hq, by omega⟩, by omega, by omega⟩
        obtain ⟨v1, e1, hwk1⟩ := Wk.row C (k := k) hwk (by omega) (hfit 400000 (by omega)) hInR
        have e2 : F.forest.grove_row k v (Forest_part.mk (prt q (e + 1) i j).rule (e : Int) (prt q (e + 1) i j).from_ (m0 : Int)) = some ((An g w ρ (.r q e i m0) : Int), v1) := e1
        rw [e2, Option.bind_some]
        unfold F.forest.Trees_c1_j4
        by_cases hpos : 0 < An g w ρ (.r q e i m0)
        · have d2 : (((An g w ρ (.r q e i m0) : Nat) : Int) == 0) = false := by rw [beq_eq_false_iff_ne]; omega
          have hleft := (an_pos C hr).1 hpos
          rw [if_pos ⟨hlt, hsb, decide_eq_true hpos⟩] at h
          simp only [d2, Bool.false_eq_true, if_false, har, hdot, hae, hto, List.length_map]
          have hwd : IntKind.wrap .i64 ((most : Int) - (out.length : Int)) = ((most - out.length : Nat) : Int) := by rw [wrap_i64 (by omega) (by omega)]; omega
          rw [hwd]
          obtain ⟨st1, hgr1, hkn1⟩ := hwk1
          have hwk1 : Wk g w ρ v0 v1 := ⟨st1, hgr1, hkn1⟩
          rw [hgr1.mk_eq h1 h2 h3]
          cases hlast : lastL (lstW g w v0 ρ d) (toSy w g.Rules[q].Rhs[e]) m0 j (most - out.length) with
          | none => rw [hlast] at h; cases h
          | some last =>
            rw [hlast] at h
            simp only at h
            have hB : ∀ (ts : List Tr) (v2 : Forest_grove), last = ts.map (fun t => [t]) → Wk g w ρ v0 v2 → ts.length ≤ most → (∀ t ∈ ts, Low (d + 1) (trT w t)) →
                (∃ (v' : Forest_grove), F.forest.Trees_c1_j5 k (F.forest.Trees_c1 k) (prt q (e + 1) i j) (m0 : Int) (most : Int) (out.map (trTs w)) vv (F.forest.Trees_c1_l1 k (prt q (e + 1) i j) vv (F.forest.Trees_c2 k) (most : Int) (F.forest.Trees_c1 k) ff) (ts.map (trT w)) v2.whole v2.counts v2.rows = some (l.map (trTs w), v'.whole, v'.counts, v'.rows) ∧ Wk g w ρ v0 v' ∧ l.length ≤ most ∧ ∀ row ∈ l, row.length = e + 1 ∧ ∀ t ∈ row, Low (d + 1) (trT w t)) := by
              intro ts v2 hts hwk2 htl htlow
              subst hts
              cases hlefts : lstW g w v0 ρ d (.r q e i m0) (most - out.length) with
              | none => rw [hlefts] at h; cases h
              | some lefts =>
                rw [hlefts] at h
                simp only at h
                obtain ⟨v3, e3, hwk3, hll, hrow⟩ := ih _ _ _ _ v2 (by omega) (hfit _ (Nat.le_refl _)) (fun q' i' j' e' => by
                  simp only [Qu.r.injEq] at e'
                  obtain ⟨_, e2, e3, e4⟩ := e'
                  rw [e2, List.take_zero] at hleft
                  have := der_nil.1 hleft
                  omega) (by omega) (by omega) hlefts hwk2 hInR
                obtain ⟨st2, hgr2, hkn2⟩ := hwk2
                unfold F.forest.Trees_c1_j5
                have e4 : F.forest.Trees_c1 k (Forest_part.mk (prt q (e + 1) i j).rule (e : Int) (prt q (e + 1) i j).from_ (m0 : Int)) ((most - out.length : Nat) : Int) v2 = some (lefts.map (trTs w), v3) := e3
                simp only [hdot, List.length_map, hwd]
                rw [hgr2.mk_eq h1 h2 h3, e4, Option.bind_some]
                rw [show ((0 : Int) = ((0 : Nat) : Int)) from rfl, pairs6 (h := d + 1) (by omega) (by omega) (fun l' hl' => by
                  obtain ⟨row, hrow', rfl⟩ := List.mem_map.1 hl'
                  obtain ⟨h5, h6⟩ := hrow row hrow'
                  have h5' : row.length = e := h5
                  rw [trTs_map]
                  refine ⟨by rw [List.length_map]; omega, fun x hx => ?_⟩
                  obtain ⟨y, hy, rfl⟩ := List.mem_map.1 hx
                  exact (h6 y hy).up (by omega)) (fun x hx => by
                  obtain ⟨y, hy, rfl⟩ := List.mem_map.1 hx
                  exact htlow y hy) (by omega) (by rw [List.length_map]; omega) (by simp only [List.length_map]; omega) lefts.length 0 _ k (by simp) (by omega) (by rw [List.length_map]; omega), Option.bind_some]
                unfold F.forest.Trees_c1_j3
                rw [ix_inc (by omega)]
                simp only [List.drop_zero, List.length_map]
                have e5 : out.map (trTs w) ++ ((lefts.map (trTs w)).flatMap fun l' => (ts.map (trT w)).map fun x => l' ++ [x]).take (most - out.length) = (out ++ (lefts.flatMap fun l' => (ts.map fun t => [t]).map fun t => l' ++ t).take (most - out.length)).map (trTs w) := by
                  rw [List.map_append, List.map_take, List.map_flatMap, List.flatMap_map]
                  congr 3
                  funext l'
                  rw [List.map_map, List.map_map, List.map_map]
                  refine List.map_congr_left fun x _ => ?_
                  simp only [Function.comp_apply, trTs_map, List.map_append, List.map_cons, List.map_nil]
                rw [e5]
                refine lstR_F C hd hk ih hq he hjj hder hij hrk hm1 hm h1 h2 h3 c (m0 + 1) _ l v3 ff (by omega) (by omega) (by omega) (by rw [List.length_append, List.length_take]; omega) (fun row hr' => ?_) h hwk3
                rw [List.mem_append] at hr'
                rcases hr' with hr' | hr'
                · exact hlow row hr'
                · obtain ⟨l', hl', hr'⟩ := List.mem_flatMap.1 (List.mem_of_mem_take hr')
                  rw [List.map_map] at hr'
                  obtain ⟨t, ht, rfl⟩ := List.mem_map.1 hr'
                  obtain ⟨h5, h6⟩ := hrow l' hl'
                  have h5' : l'.length = e := h5
                  refine ⟨by simp only [Function.comp_apply, List.length_append, List.length_singleton]; omega, fun x hx => ?_⟩
                  simp only [Function.comp_apply, List.mem_append, List.mem_singleton] at hx
                  rcases hx with hx | rfl
                  · exact (h6 x hx).up (by omega)
                  · exact htlow _ ht
            by_cases h0 : 0 ≤ g.Rules[q].Rhs[e].Nt
            · have hs : toSy w g.Rules[q].Rhs[e] = .nt g.Rules[q].Rhs[e].Nt.toNat := by unfold toSy; rw [if_pos h0]
              rw [hs] at hlast hy
              have hnt2 := C.hg.nt2 _ hrm _ hsm
              have hlt2 := rk_lt C.hρ (List.mem_of_getElem? hr) (by rw [← hs]; exact hsplit) hleft hy hder
              have hmul : (rk ρ g.Nts.toNat g.Rules[q].Rhs[e].Nt.toNat m0 j + 1) * 82 ≤ rk ρ g.Nts.toNat (toRu w g.Rules[q]).lhs i jj * 82 := Nat.mul_le_mul_right _ hlt2
              rw [Nat.add_mul] at hmul
              obtain ⟨v2, ⟨ts, hts, e3⟩, hwk2, hll, hrow⟩ := ih (rk ρ g.Nts.toNat g.Rules[q].Rhs[e].Nt.toNat m0 j * 82 + 81) (.c g.Rules[q].Rhs[e].Nt.toNat m0 j) (most - out.length) last v1 (by omega) ⟨hmj, by omega, Nat.le_refl _⟩ (fun _ _ _ e' => by cases e') (by omega) (by omega) hlast hwk1 ⟨by omega, by omega, by omega⟩
              have d0 : decide (0 ≤ g.Rules[q].Rhs[e].Nt) = true := decide_eq_true h0
              rw [d0, if_pos rfl]
              have e4 : F.forest.Trees_c2 k (Forest_span.mk g.Rules[q].Rhs[e].Nt (m0 : Int) (j : Int)) ((most - out.length : Nat) : Int) v1 = some (ts.map (trT w), v2) := by
                have e5 : F.forest.Trees_c2 k (Forest_span.mk (g.Rules[q].Rhs[e].Nt.toNat : Int) (m0 : Int) (j : Int)) ((most - out.length : Nat) : Int) v1 = some (ts.map (trT w), v2) := e3
                rw [Int.toNat_of_nonneg h0] at e5
                exact e5
              rw [e4, Option.bind_some]
              subst hts
              rw [List.length_map] at hll
              refine hB ts v2 rfl hwk2 (by omega) fun t ht => ?_
              obtain ⟨_, h7⟩ := hrow [t] (List.mem_map.2 ⟨t, ht, rfl⟩)
              exact (h7 t (List.mem_singleton.2 rfl)).up (by omega)
            · have hs : toSy w g.Rules[q].Rhs[e] = .tm (fun p => decide (p < w.length) && hasB g.Rules[q].Rhs[e].Set (w.getD p 0)) := by unfold toSy; rw [if_neg h0]
              rw [hs] at hlast hy
              obtain ⟨hjm, hp⟩ := derY_tm.1 hy
              simp only [Bool.and_eq_true, decide_eq_true_eq] at hp
              have d0 : decide (0 ≤ g.Rules[q].Rhs[e].Nt) = false := decide_eq_false h0
              have hin : inR (m0 : Int) vv.w_.length = true := by rw [h2]; exact ix_in hp.1
              have hin0 : inR 0 ([(Tree.mk (-1) 0 ([] : List Tree))] : List Tree).length = true := rfl
              have hwat : at_ vv.w_ (m0 : Int) = w.getD m0 0 := by rw [h2, ix_at hp.1]; simp [hp.1]
              rw [d0, if_neg (by simp), hin, if_pos rfl, hin0, if_pos rfl, hwat]
              cases hlast
              exact hB [Tr.leaf m0] v1 rfl hwk1 (by simp; omega) fun t ht => by
                rw [List.mem_singleton] at ht
                subst ht
                exact ⟨by simp [trT], fun x hx => by simp [trT] at hx⟩
        · have d2 : (((An g w ρ (.r q e i m0) : Nat) : Int) == 0) = true := by rw [beq_iff_eq]; omega
          rw [if_neg (fun hc => hpos (of_decide_eq_true hc.2.2))] at h
          simp only [d2, if_true]
          unfold F.forest.Trees_c1_j3
          rw [ix_inc (by omega)]
          exact lstR_F C hd hk ih hq he hjj hder hij hrk hm1 hm h1 h2 h3 c (m0 + 1) _ l v1 ff (by omega) (by omega) (by omega) ho hlow h hwk1
      · have hsb' : symB (hasW v0) (toSy w g.Rules[q].Rhs[e]) m0 j = false := by simpa using hsb
        rw [hsb']
        rw [if_neg (fun hc => hsb hc.2.1)] at h
        simp only [Bool.not_false, if_true]
        unfold F.forest.Trees_c1_j4 F.forest.Trees_c1_j3
        simp only [if_true]
        rw [ix_inc (by omega)]
        exact lstR_F C hd hk ih hq he hjj hder hij hrk hm1 hm h1 h2 h3 c (m0 + 1) _ l v ff (by omega) (by omega) (by omega) ho hlow h hwk
    · have d1 : decide ((((out.map (trTs w)).length : Nat) : Int) < (most : Int)) = false := decide_eq_false (by rw [List.length_map]; omega)
      rw [lstR_stop hlt] at h
      cases h
      rw [d1, if_neg (by simp)]
      exact ⟨v, rfl, hwk, ho, hlow⟩
end
end Go.Vc
namespace Go.Vc
open Go Ea
section
variable {g : Gram} {w : List Int} {v0 : Forest_grove} {ρ : Nat → Nat}
theorem sing_inj : ∀ (a b : List Tr), (a.map fun t => [t]) = (b.map fun t => [t]) → a = b
  | [], [], _ => rfl
  | [], _ :: _, h => by cases h
  | _ :: _, [], h => by cases h
  | x :: a, y :: b, h => by
    rw [List.map_cons, List.map_cons, List.cons.injEq, List.cons.injEq] at h
    rw [h.1.1, sing_inj a b h.2]
theorem lst_F (C : Ctx g w v0 ρ) : ∀ (d k : Nat), d ≤ 400001 → d + 500000 ≤ k → IH g w v0 ρ d k
  | 0, _, _, _ => fun μ x most l v h => by omega
  | d + 1, 0, _, h => by omega
  | d + 1, k + 1, hd, hk => by
    have ih := lst_F C d k (by omega) (by omega)
    intro μ x most l v hμ hf h0 hm1 hm h hwk hx
    cases x with
    | c a i j =>
      obtain ⟨hij, hj, hrk⟩ := hf
      obtain ⟨ha, hi, _⟩ := hx
      have h' : lstC (lstW g w v0 ρ d) (gCw g w ρ) (Rs g w) i j most (byG g a) [] = some l := h
      obtain ⟨st, hgr, hkn⟩ := hwk
      have hbl := byG_len g a
      have hlr := C.hsm.rules
      obtain ⟨v', ts, e1, e2, hwk', hll, hlow⟩ := lstC_F C (by omega) (by omega) ih ha hij hj (by omega) hm1 hm hgr.gr hgr.tx hgr.by_ (byG g a).length 0 [] l v k (by omega) (by omega) (by simp) (fun _ h => by cases h) h' ⟨st, hgr, hkn⟩
      obtain ⟨st', hgr', hkn'⟩ := hwk'
      refine ⟨v', ⟨ts, e2, ?_⟩, ⟨st', hgr', hkn'⟩, by rw [e2, List.length_map]; exact hll, fun row hr => ?_⟩
      · show F.forest.Trees_c2_B k (F.forest.Trees_c1 k) (spn a i j) (most : Int) v = _
        unfold F.forest.Trees_c2_B
        have hin : inR (spn a i j).nt v.by_.length = true := by rw [hgr.by_]; exact inR_iff.2 ⟨by simp [spn], by rw [C.hv0.byl]; simp only [spn]; omega⟩
        have e1' : F.forest.Trees_c2_l1 k v (spn a i j) (most : Int) (F.forest.Trees_c1 k) k [] 0 v.whole v.counts v.rows = some (ts.map (trT w), v'.whole, v'.counts, v'.rows) := e1
        rw [hin, if_pos rfl, e1', Option.bind_some]
        simp only
        rw [hgr'.mk_eq hgr.gr hgr.tx hgr.by_]
      · rw [e2] at hr
        obtain ⟨t, ht, rfl⟩ := List.mem_map.1 hr
        refine ⟨rfl, fun x hx => ?_⟩
        rw [List.mem_singleton] at hx
        subst hx
        exact hlow _ ht
    | r q e i j =>
      obtain ⟨⟨hq, hel⟩, hi, hj⟩ := hx
      obtain ⟨r, jj, hr, hel2, hjj, hder, hij, hrk⟩ := hf
      have hr2 : (Rs g w)[q]? = some (toRu w g.Rules[q]) := by simp [Rs, hq]
      rw [hr2] at hr
      cases hr
      by_cases he0 : e = 0
      · subst he0
        have := h0 q i j rfl
        subst this
        have h' : some (if i = i then [([] : List Tr)] else []) = some l := h
        rw [if_pos rfl] at h'
        cases h'
        refine ⟨v, ?_, hwk, by simpa using hm1, fun row hr => ?_⟩
        · show F.forest.Trees_c1_B k (F.forest.Trees_c2 k) (F.forest.Trees_c1 k) (prt q 0 i i) (most : Int) v = _
          unfold F.forest.Trees_c1_B
          have b1 : ((prt q 0 i i).dot == 0) = true := rfl
          rw [b1, if_pos rfl]
          rfl
        · rw [List.mem_singleton] at hr
          subst hr
          exact ⟨rfl, fun x hx => by cases hx⟩
      · obtain ⟨e, rfl⟩ : ∃ e', e = e' + 1 := ⟨e - 1, by omega⟩
        have he1 : e < g.Rules[q].Rhs.length := by omega
        have hjle := hder.le
        have h80 := C.hg.rhs _ (List.getElem_mem hq)
        have h' : (match (Rs g w)[q]? with
          | none => none
          | some r => match r.rhs[e]? with
            | none => none
            | some s => lstR (lstW g w v0 ρ d) (hasW v0) (gRw g w ρ) s q e i j most (List.range' i (j + 1 - i)) []) = some l := h
        rw [hr2] at h'
        simp only [toRu_get he1] at h'
        obtain ⟨st, hgr, hkn⟩ := hwk
        have hwl := C.hwl
        obtain ⟨v', e1, hwk', hll, hlow⟩ := lstR_F C (by omega) (by omega) ih hq he1 hjj hder hij (by omega) hm1 hm hgr.gr hgr.tx hgr.by_ (j + 1 - i) i [] l v k (by omega) (by omega) (by omega) (by simp) (fun _ h => by cases h) h' ⟨st, hgr, hkn⟩
        obtain ⟨st', hgr', hkn'⟩ := hwk'
        refine ⟨v', ?_, ⟨st', hgr', hkn'⟩, hll, hlow⟩
        show F.forest.Trees_c1_B k (F.forest.Trees_c2 k) (F.forest.Trees_c1 k) (prt q (e + 1) i j) (most : Int) v = _
        unfold F.forest.Trees_c1_B
        have b1 : ((prt q (e + 1) i j).dot == 0) = false := by rw [beq_eq_false_iff_ne]; simp only [prt]; omega
        have hin : inR (prt q (e + 1) i j).rule v.g.Rules.length = true := by rw [hgr.gr]; exact ix_in hq
        have har : at_ v.g.Rules (prt q (e + 1) i j).rule = g.Rules[q] := by rw [hgr.gr]; exact ix_at hq
        have hdot : IntKind.wrap .i64 ((prt q (e + 1) i j).dot - 1) = (e : Int) := by
          show IntKind.wrap .i64 (((e + 1 : Nat) : Int) - 1) = _
          rw [wrap_i64 (by omega) (by omega)]; omega
        have hfr : (prt q (e + 1) i j).from_ = (i : Int) := rfl
        have hin2 : inR (e : Int) g.Rules[q].Rhs.length = true := ix_in he1
        have e1' : F.forest.Trees_c1_l1 k (prt q (e + 1) i j) v (F.forest.Trees_c2 k) (most : Int) (F.forest.Trees_c1 k) k [] (i : Int) v.whole v.counts v.rows = some (l.map (trTs w), v'.whole, v'.counts, v'.rows) := e1
        rw [b1, if_neg (by simp), hin, if_pos rfl, har, hdot, hin2, if_pos rfl, hfr, e1', Option.bind_some]
        simp only
        rw [hgr'.mk_eq hgr.gr hgr.tx hgr.by_]
theorem ctx_of (hr : rightB g = true) (hsm : SmallG g) (hw : Bytes w) (hwl : w.length ≤ 20) (hρ : Falls (Rs g w) ρ g.Nts.toNat) (hv : Grove g w v0) : Ctx g w v0 ρ := by
  have hg := rightG hr
  refine ⟨hg, hsm, hw, hwl, hv, hρ, fun a i j hj => ?_⟩
  unfold hasW
  rw [decide_eq_true_eq]
  rcases hv.whole (spn a i j) with ⟨h1, a', i', j', h2, h3, h4, h5⟩ | ⟨h1, h2⟩
  · rw [h1]
    obtain ⟨rfl, rfl, rfl⟩ := spn_inj (show spn a i j = spn a' i' j' from h2)
    exact ⟨fun _ => h5, fun _ => by omega⟩
  · rw [h1]
    refine ⟨fun h => by omega, fun h => absurd ⟨a, i, j, rfl, ?_, hj, h⟩ h2⟩
    obtain ⟨r, hr', hl, _⟩ := derY_nt.1 h
    obtain ⟨x, hx, rfl⟩ := List.mem_map.1 hr'
    have := hg.lhs1 x hx
    have := hg.lhs2 x hx
    have hl' : x.Lhs.toNat = a := hl
    omega
theorem Trees_all {k : Nat} (hk : 1000000 ≤ k) (hsm : rightB g = true → SmallG g) (hw : Bytes w) (hwl : w.length ≤ 20 ∨ 512 < (w.length : Int)) {e : Int} (he : F.forest.fit k g w = some e) :
    (e ≠ 0 → ∀ most, F.forest.Trees k g w most = some ([], e)) ∧
      (e = 0 → ∀ ρ, Falls (Rs g w) ρ g.Nts.toNat → ∀ most, F.forest.Trees k g w most = if most < 0 ∨ 1000 < most then some ([], 1) else some (((trees (Rs g w) ρ g.Nts.toNat g.Start.toNat 0 w.length).take most.toNat).map (trT w), 0)) := by
  obtain ⟨e', he', h0, _⟩ := fit_ok (k := k) (by omega) hsm w
  rw [he] at he'
  cases he'
  refine ⟨fun hne most => ?_, fun h ρ hρ most => ?_⟩
  · unfold F.forest.Trees
    rw [he, Option.bind_some]
    have : (e != 0) = true := by simpa using hne
    rw [this, if_pos rfl]
  · obtain ⟨hr, hl, _⟩ := h0.1 h
    have hwl' : w.length ≤ 20 := by omega
    obtain ⟨v, e1, hv, _, _, v', e2, st, hkn, hgr⟩ := Count_ok hk hr (hsm hr) hw hwl' hρ
    have C := ctx_of hr (hsm hr) hw hwl' hρ hv
    have hs1 := (rightG hr).s1
    have hs2 := (rightG hr).s2
    have hn := (hsm hr).nts
    unfold F.forest.Trees
    rw [he, h, Option.bind_some]
    simp only [bne_self_eq_false, Bool.false_eq_true, if_false]
    by_cases c1 : most < 0
    · rw [decide_eq_true c1, if_pos rfl, if_pos (.inl c1)]
    · rw [decide_eq_false c1, if_neg (by simp)]
      by_cases c2 : 1000 < most
      · rw [decide_eq_true c2, if_pos rfl, if_pos (.inr c2)]
      · rw [decide_eq_false c2, if_neg (by simp), if_neg (by omega), e1, Option.bind_some]
        obtain ⟨n, rfl⟩ : ∃ n : Nat, most = n := ⟨most.toNat, by omega⟩
        by_cases c3 : n = 0
        · subst c3
          rfl
        · have d3 : (((n : Nat) : Int) == 0) = false := by rw [beq_eq_false_iff_ne]; omega
          have e3 : F.forest.grove_count k v (Forest_span.mk g.Start 0 (w.length : Int)) = some (((sat (trees (Rs g w) ρ g.Nts.toNat g.Start.toNat 0 w.length).length : Nat) : Int), v') := by
            have e4 : F.forest.grove_count k v (Forest_span.mk (g.Start.toNat : Int) 0 (w.length : Int)) = some (((sat (trees (Rs g w) ρ g.Nts.toNat g.Start.toNat 0 w.length).length : Nat) : Int), v') := e2
            rw [Int.toNat_of_nonneg hs1] at e4
            exact e4
          rw [d3, if_neg (by simp), e3, Option.bind_some]
          by_cases c4 : (trees (Rs g w) ρ g.Nts.toNat g.Start.toNat 0 w.length) = []
          · rw [c4]
            simp only [List.length_nil, List.take_nil, List.map_nil]
            rfl
          · have c5 : sat (trees (Rs g w) ρ g.Nts.toNat g.Start.toNat 0 w.length).length ≠ 0 := fun h => c4 (List.length_eq_zero_iff.1 (sat_zero_iff.1 h))
            have d5 : (((sat (trees (Rs g w) ρ g.Nts.toNat g.Start.toNat 0 w.length).length : Nat) : Int) == 0) = false := by rw [beq_eq_false_iff_ne]; omega
            simp only [d5, Bool.false_eq_true, if_false]
            have hrk : rk ρ g.Nts.toNat g.Start.toNat 0 w.length ≤ 4220 := by
              unfold rk
              have h1 := hρ.le g.Start.toNat
              have h2 : (w.length - 0) * (g.Nts.toNat + 1) ≤ 20 * 201 := Nat.mul_le_mul (by omega) (by omega)
              omega
            have hfits : Fits (Rs g w) ρ g.Nts.toNat 82 w.length 400000 (.c g.Start.toNat 0 w.length) := ⟨by omega, by omega, by omega⟩
            obtain ⟨l, hl1, hl2, hl3⟩ := lst_ok (R := Rs g w) (by_ := byG g) (has := hasW v) (gC := gCw g w ρ) (gR := gRw g w ρ) (ρ := ρ) (K := g.Nts.toNat) (W := 82) (n := w.length) C.hρ (fun a => byG_Rs g w a) C.hhas C.hW (fun q r i j hq hj hg hd => by
              unfold gCw at hg
              rw [hq] at hg
              simp only [Option.map_some, Option.getD_some] at hg
              refine absurd ((an_pos C hq).2 ?_) (of_decide_eq_false hg)
              rw [List.take_length]
              exact hd) (fun q r d i m hq hm => by
              unfold gRw
              rw [decide_eq_true_eq]
              exact an_pos C hq) 400001 400000 (.c g.Start.toNat 0 w.length) n (by omega) hfits (by omega)
            obtain ⟨v2, ⟨ts, hts, e5⟩, _, hll, _⟩ := lst_F C 400001 k (by omega) (by omega) 400000 (.c g.Start.toNat 0 w.length) n l v' (by omega) hfits (fun _ _ _ e => by cases e) (by omega) (by omega) hl1 ⟨st, hgr, hkn⟩ ⟨by omega, by omega, by omega⟩
            rw [hgr.mk_eq hv.gr hv.tx rfl]
            have e6 : F.forest.Trees_c2 k (Forest_span.mk g.Start 0 (w.length : Int)) (n : Int) v' = some (ts.map (trT w), v2) := by
              have e7 : F.forest.Trees_c2 k (Forest_span.mk (g.Start.toNat : Int) 0 (w.length : Int)) (n : Int) v' = some (ts.map (trT w), v2) := e5
              rw [Int.toNat_of_nonneg hs1] at e7
              exact e7
            rw [e6, Option.bind_some]
            have hte : ts = (trees (Rs g w) ρ g.Nts.toNat g.Start.toNat 0 w.length).take n := by
              rw [List.take_of_length_le hll, hts] at hl2
              have h8 : ts.map (fun t => [t]) = ((trees (Rs g w) ρ g.Nts.toNat g.Start.toNat 0 w.length).take n).map fun t => [t] := by
                rw [hl2, List.map_take]
                rfl
              exact sing_inj _ _ h8
            rw [hte]
            rfl
end
end Go.Vc
