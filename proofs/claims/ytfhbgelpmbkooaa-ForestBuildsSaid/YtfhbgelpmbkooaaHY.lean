import Derived.Test.YtfhbgelpmbkooaaFW
import Derived.Test.YtfhbgelpmbkooaaGZ
set_option linter.unusedVariables false
set_option linter.unusedSimpArgs false
namespace Go.Vc
open Go Ea
def num (ns : List Qu) (x : Qu) : Nat × List Qu := if x ∈ ns then (ns.idxOf x, ns) else (ns.length, ns ++ [x])
def pce (ns : List Qu) (q d i j : Nat) : Int × List Qu := if d = 0 then (-1, ns) else (((num ns (.r q d i j)).1 : Int), (num ns (.r q d i j)).2)
def wayC (g1 : Nat → Bool) (len : Nat → Nat) (i j : Nat) : List Nat → List Alt → List Qu → List Alt × List Qu
  | [], out, ns => (out, ns)
  | q :: qs, out, ns => if g1 q = true then wayC g1 len i j qs (out ++ [⟨(q : Int), 0, (pce ns q (len q) i j).1, -1⟩]) (pce ns q (len q) i j).2 else wayC g1 len i j qs out ns
def wayR (s : Sy) (g2 : Nat → Bool) (q d i j : Nat) : List Nat → List Alt → List Qu → List Alt × List Qu
  | [], out, ns => (out, ns)
  | m :: ms, out, ns => if g2 m = true then (match s with
      | .nt a => wayR s g2 q d i j ms (out ++ [⟨(q : Int), (m : Int), (pce ns q d i m).1, ((num (pce ns q d i m).2 (.c a m j)).1 : Int)⟩]) (num (pce ns q d i m).2 (.c a m j)).2
      | .tm _ => wayR s g2 q d i j ms (out ++ [⟨(q : Int), (m : Int), (pce ns q d i m).1, -1⟩]) (pce ns q d i m).2) else wayR s g2 q d i j ms out ns
def waysQ (R : List Ru) (by_ : Nat → List Nat) (has : Nat → Nat → Nat → Bool) (gC : Nat → Nat → Nat → Bool) (gR : Nat → Nat → Nat → Nat → Bool) (x : Qu) (ns : List Qu) : List Alt × List Qu := match x with
  | .c a i j => wayC (fun q => gC q i j) (fun q => (R[q]?.map fun r => r.rhs.length).getD 0) i j (by_ a) [] ns
  | .r q d i j => match R[q]? with
    | none => ([], ns)
    | some r => match r.rhs[d - 1]? with
      | none => ([], ns)
      | some s => wayR s (fun m => symB has s m j && gR q (d - 1) i m) q (d - 1) i j (List.range' i (j + 1 - i)) [] ns
def bld (f : Qu → List Qu → List Alt × List Qu) : Nat → List Qu → List (List Alt) → Option (List Qu × List (List Alt))
  | 0, _, _ => none
  | k + 1, ns, al => match ns[al.length]? with
    | none => some (ns, al)
    | some x => bld f k (f x ns).2 (al ++ [(f x ns).1])
structure Ext (P : Qu → Prop) (ns ns' : List Qu) : Prop where
  pre : ∃ t, ns' = ns ++ t
  nd : ns'.Nodup
  ok : ∀ x ∈ ns', P x
theorem Ext.refl {P : Qu → Prop} {ns : List Qu} (h1 : ns.Nodup) (h2 : ∀ x ∈ ns, P x) : Ext P ns ns := ⟨⟨[], by simp⟩, h1, h2⟩
theorem Ext.trans {P : Qu → Prop} {a b c : List Qu} (h : Ext P a b) (h2 : Ext P b c) : Ext P a c := by
  obtain ⟨t, e⟩ := h.pre
  obtain ⟨t', e'⟩ := h2.pre
  exact ⟨⟨t ++ t', by rw [e', e, List.append_assoc]⟩, h2.nd, h2.ok⟩
theorem num_ext {P : Qu → Prop} {ns : List Qu} {x : Qu} (h1 : ns.Nodup) (h2 : ∀ x ∈ ns, P x) (hx : P x) : Ext P ns (num ns x).2 := by
  unfold num
  split
  · exact .refl h1 h2
  · rename_i hn
    refine ⟨⟨[x], rfl⟩, List.nodup_append.2 ⟨h1, by simp, ?_⟩, fun y hy => ?_⟩
    · intro a ha b hb e
      rw [List.mem_singleton] at hb
      subst e hb
      exact hn ha
    · rcases List.mem_append.1 hy with hy | hy
      · exact h2 y hy
      · rw [List.mem_singleton] at hy
        exact hy ▸ hx
theorem pce_ext {P : Qu → Prop} {ns : List Qu} {q d i j : Nat} (h1 : ns.Nodup) (h2 : ∀ x ∈ ns, P x) (hx : d ≠ 0 → P (.r q d i j)) : Ext P ns (pce ns q d i j).2 := by
  unfold pce
  split
  · exact .refl h1 h2
  · rename_i hd
    exact num_ext h1 h2 (hx hd)
theorem wayC_ext {P : Qu → Prop} {g1 : Nat → Bool} {len : Nat → Nat} {i j : Nat} : ∀ (qs : List Nat) (out : List Alt) (ns : List Qu), ns.Nodup → (∀ x ∈ ns, P x) → (∀ q ∈ qs, g1 q = true → len q ≠ 0 → P (.r q (len q) i j)) →
    Ext P ns (wayC g1 len i j qs out ns).2 ∧ (wayC g1 len i j qs out ns).1.length ≤ out.length + qs.length
  | [], out, ns, h1, h2, _ => ⟨.refl h1 h2, Nat.le_refl _⟩
  | q :: qs, out, ns, h1, h2, h3 => by
    unfold wayC
    split
    · rename_i hg
      have hE := pce_ext (q := q) (d := len q) (i := i) (j := j) h1 h2 (h3 q List.mem_cons_self hg)
      obtain ⟨h4, h5⟩ := wayC_ext qs (out ++ [⟨(q : Int), 0, (pce ns q (len q) i j).1, -1⟩]) _ hE.nd hE.ok fun q' hq' => h3 q' (List.mem_cons_of_mem _ hq')
      refine ⟨hE.trans h4, ?_⟩
      rw [List.length_append, List.length_singleton] at h5
      rw [List.length_cons]
      omega
    · obtain ⟨h4, h5⟩ := wayC_ext qs out ns h1 h2 fun q' hq' => h3 q' (List.mem_cons_of_mem _ hq')
      refine ⟨h4, ?_⟩
      rw [List.length_cons]
      omega
theorem wayR_ext {P : Qu → Prop} {s : Sy} {g2 : Nat → Bool} {q d i j : Nat} : ∀ (ms : List Nat) (out : List Alt) (ns : List Qu), ns.Nodup → (∀ x ∈ ns, P x) → (∀ m ∈ ms, g2 m = true → (d ≠ 0 → P (.r q d i m)) ∧ ∀ a, s = .nt a → P (.c a m j)) →
    Ext P ns (wayR s g2 q d i j ms out ns).2 ∧ (wayR s g2 q d i j ms out ns).1.length ≤ out.length + ms.length
  | [], out, ns, h1, h2, _ => ⟨.refl h1 h2, Nat.le_refl _⟩
  | m :: ms, out, ns, h1, h2, h3 => by
    unfold wayR
    split
    · rename_i hg
      obtain ⟨h6, h7⟩ := h3 m List.mem_cons_self hg
      have hE := pce_ext (q := q) (d := d) (i := i) (j := m) h1 h2 h6
      cases s with
      | nt a =>
        have hE2 := num_ext hE.nd hE.ok (h7 a rfl)
        obtain ⟨h4, h5⟩ := wayR_ext (s := .nt a) ms (out ++ [⟨(q : Int), (m : Int), (pce ns q d i m).1, ((num (pce ns q d i m).2 (.c a m j)).1 : Int)⟩]) _ hE2.nd hE2.ok fun m' hm' => h3 m' (List.mem_cons_of_mem _ hm')
        refine ⟨(hE.trans hE2).trans h4, ?_⟩
        rw [List.length_append, List.length_singleton] at h5
        rw [List.length_cons]
        simp only
        omega
      | tm p =>
        obtain ⟨h4, h5⟩ := wayR_ext (s := .tm p) ms (out ++ [⟨(q : Int), (m : Int), (pce ns q d i m).1, -1⟩]) _ hE.nd hE.ok fun m' hm' => h3 m' (List.mem_cons_of_mem _ hm')
        refine ⟨hE.trans h4, ?_⟩
        rw [List.length_append, List.length_singleton] at h5
        rw [List.length_cons]
        simp only
        omega
    · obtain ⟨h4, h5⟩ := wayR_ext ms out ns h1 h2 fun m' hm' => h3 m' (List.mem_cons_of_mem _ hm')
      refine ⟨h4, ?_⟩
      rw [List.length_cons]
      omega
section
variable {g : Gram} {w : List Int} {v0 : Forest_grove} {ρ : Nat → Nat}
def NI (g : Gram) (w : List Int) : Qu → Prop
  | .c a i j => a < g.Nts.toNat ∧ i ≤ j ∧ j ≤ w.length ∧ DerY (Rs g w) (.nt a) i j
  | .r q d i j => ∃ h : q < g.Rules.length, 1 ≤ d ∧ d ≤ g.Rules[q].Rhs.length ∧ i ≤ j ∧ Der (Rs g w) ((toRu w g.Rules[q]).rhs.take d) i j ∧ ∃ J, J ≤ w.length ∧ Der (Rs g w) ((toRu w g.Rules[q]).rhs.drop d) j J
abbrev waysW (g : Gram) (w : List Int) (v0 : Forest_grove) (ρ : Nat → Nat) : Qu → List Qu → List Alt × List Qu := waysQ (Rs g w) (byG g) (hasW v0) (gCw g w ρ) (gRw g w ρ)
theorem Rs_at {q : Nat} (hq : q < g.Rules.length) : (Rs g w)[q]? = some (toRu w g.Rules[q]) := by simp [Rs, hq]
theorem gCw_iff (C : Ctx g w v0 ρ) {q i j : Nat} (hq : q < g.Rules.length) : gCw g w ρ q i j = true ↔ Der (Rs g w) (toRu w g.Rules[q]).rhs i j := by
  unfold gCw
  rw [Rs_at hq, Option.map_some, Option.getD_some, decide_eq_true_eq, an_pos C (Rs_at hq), List.take_length]
theorem gRw_iff (C : Ctx g w v0 ρ) {q d i j : Nat} (hq : q < g.Rules.length) : gRw g w ρ q d i j = true ↔ Der (Rs g w) ((toRu w g.Rules[q]).rhs.take d) i j := by
  unfold gRw
  rw [decide_eq_true_eq, an_pos C (Rs_at hq)]
theorem symB_der' (C : Ctx g w v0 ρ) {s : Sy} {m j : Nat} (hj : j ≤ w.length) : symB (hasW v0) s m j = true ↔ DerY (Rs g w) s m j := by
  have h := symB_iff C.hhas (s := s) (m := m) (j := j) hj
  cases hb : symB (hasW v0) s m j with
  | false => rw [hb] at h; exact ⟨fun e => Bool.noConfusion e, fun e => absurd e (h.1 rfl)⟩
  | true =>
    refine ⟨fun _ => Classical.byContradiction fun hn => ?_, fun _ => rfl⟩
    have := h.2 hn
    rw [hb] at this
    cases this
theorem wayR_kids (C : Ctx g w v0 ρ) {q d i j : Nat} (hx : NI g w (.r q (d + 1) i j)) {m : Nat} (him : i ≤ m) (hmj : m ≤ j) (hq : q < g.Rules.length) (hd : d < g.Rules[q].Rhs.length) (hg : (symB (hasW v0) (toSy w g.Rules[q].Rhs[d]) m j && gRw g w ρ q d i m) = true) :
    DerY (Rs g w) (toSy w g.Rules[q].Rhs[d]) m j ∧ Der (Rs g w) ((toRu w g.Rules[q]).rhs.take d) i m ∧ (∃ J, J ≤ w.length ∧ Der (Rs g w) ((toRu w g.Rules[q]).rhs.drop d) m J) ∧ j ≤ w.length := by
  obtain ⟨_, _, _, hij, hder, J, hJ, hdr⟩ := hx
  have hjJ := hdr.le
  rw [Bool.and_eq_true, symB_der' C (by omega), gRw_iff C hq] at hg
  refine ⟨hg.1, hg.2, ⟨J, hJ, ?_⟩, by omega⟩
  have h5 : d < (toRu w g.Rules[q]).rhs.length := by rw [toRu_len]; exact hd
  have h6 := toRu_get (w := w) hd
  rw [List.getElem?_eq_getElem h5] at h6
  rw [List.drop_eq_getElem_cons h5, Option.some.inj h6]
  exact der_cons.2 ⟨j, hg.1, hdr⟩
theorem waysW_ext (C : Ctx g w v0 ρ) {x : Qu} (hx : NI g w x) {ns : List Qu} (h1 : ns.Nodup) (h2 : ∀ x ∈ ns, NI g w x) : Ext (NI g w) ns (waysW g w v0 ρ x ns).2 ∧ (waysW g w v0 ρ x ns).1.length + 1 ≤ wt (Rs g w) (w.length + 1) x := by
  cases x with
  | c a i j =>
    obtain ⟨ha, hij, hj, hd⟩ := hx
    show Ext _ ns (wayC _ _ i j (byG g a) [] ns).2 ∧ (wayC _ _ i j (byG g a) [] ns).1.length + 1 ≤ _
    obtain ⟨h3, h4⟩ := wayC_ext (P := NI g w) (g1 := fun q => gCw g w ρ q i j) (len := fun q => ((Rs g w)[q]?.map fun r => r.rhs.length).getD 0) (i := i) (j := j) (byG g a) [] ns h1 h2 (fun q hq hg hl => by
      obtain ⟨r, hr, hrl⟩ := (byG_Bys g w a _).1 hq
      obtain ⟨hql, rfl⟩ := Rs_get hr
      rw [gCw_iff C hql] at hg
      rw [hr]
      rw [hr] at hl
      simp only [Option.map_some, Option.getD_some] at hl ⊢
      refine ⟨hql, by omega, by rw [toRu_len]; exact Nat.le_refl _, hij, by rw [List.take_length]; exact hg, j, hj, by rw [List.drop_length]; exact .nil j⟩)
    refine ⟨h3, ?_⟩
    simp only [List.length_nil, Nat.zero_add] at h4
    have h5 : (byG g a).length = ((Rs g w).filter fun r => r.lhs == a).length := by
      rw [byG_Rs g w a, List.length_map]
      have : ∀ (l : List Ru) (n : Nat), ((l.zipIdx n).filter fun x => x.1.lhs == a).length = (l.filter fun r => r.lhs == a).length := by
        intro l
        induction l with
        | nil => intro n; rfl
        | cons r l ih =>
          intro n
          rw [List.zipIdx_cons, List.filter_cons, List.filter_cons]
          by_cases h : (r.lhs == a) = true
          · rw [if_pos h, if_pos h, List.length_cons, List.length_cons, ih]
          · rw [if_neg h, if_neg h, ih]
      exact this _ _
    show _ ≤ 1 + ((Rs g w).filter fun r => r.lhs == a).length
    omega
  | r q d i j =>
    have hx' := hx
    obtain ⟨hq, hd1, hd2, hij, hder, J, hJ, hdr⟩ := hx
    obtain ⟨d, rfl⟩ : ∃ d', d = d' + 1 := ⟨d - 1, by omega⟩
    have hd : d < g.Rules[q].Rhs.length := by omega
    have hjJ := hdr.le
    show Ext _ ns (waysQ _ _ _ _ _ (.r q (d + 1) i j) ns).2 ∧ (waysQ _ _ _ _ _ (.r q (d + 1) i j) ns).1.length + 1 ≤ _
    unfold waysQ
    simp only [Rs_at hq, Nat.add_sub_cancel, toRu_get hd]
    obtain ⟨h3, h4⟩ := wayR_ext (P := NI g w) (s := toSy w g.Rules[q].Rhs[d]) (g2 := fun m => symB (hasW v0) (toSy w g.Rules[q].Rhs[d]) m j && gRw g w ρ q d i m) (q := q) (d := d) (i := i) (j := j) (List.range' i (j + 1 - i)) [] ns h1 h2 (fun m hm hg => by
      rw [List.mem_range'_1] at hm
      obtain ⟨k1, k2, ⟨J', hJ', k3⟩, k4⟩ := wayR_kids C hx' hm.1 (by omega) hq hd hg
      refine ⟨fun h0 => ⟨hq, by omega, by omega, hm.1, k2, J', hJ', k3⟩, fun a ha => ?_⟩
      rw [ha] at k1
      refine ⟨?_, by omega, k4, k1⟩
      have hnt := C.hg.nt2 _ (List.getElem_mem hq) _ (List.getElem_mem hd)
      unfold toSy at ha
      split at ha
      · cases ha; omega
      · cases ha)
    refine ⟨h3, ?_⟩
    simp only [List.length_nil, Nat.zero_add, List.length_range'] at h4
    show _ ≤ 1 + (w.length + 1)
    omega
theorem NI_allQ (hg : RightG g) {x : Qu} (h : NI g w x) : x ∈ allQ (Rs g w) (w.length + 1) := by
  unfold allQ
  rw [List.mem_append]
  cases x with
  | c a i j =>
    left
    obtain ⟨ha, hij, hj, hd⟩ := h
    obtain ⟨r, hr, hl, _⟩ := derY_nt.1 hd
    refine List.mem_flatMap.2 ⟨a, mem_nub.2 (List.mem_map.2 ⟨r, hr, hl⟩), List.mem_flatMap.2 ⟨i, List.mem_range.2 (by omega), List.mem_map.2 ⟨j, List.mem_range.2 (by omega), rfl⟩⟩⟩
  | r q d i j =>
    right
    obtain ⟨hq, hd1, hd2, hij, hder, J, hJ, hdr⟩ := h
    have := hdr.le
    refine List.mem_flatMap.2 ⟨(toRu w g.Rules[q], q), List.mem_zipIdx_iff_getElem?.2 (Rs_at hq), List.mem_flatMap.2 ⟨d - 1, List.mem_range.2 (by rw [toRu_len]; omega), List.mem_flatMap.2 ⟨i, List.mem_range.2 (by omega), List.mem_map.2 ⟨j, List.mem_range.2 (by omega), by rw [Nat.sub_add_cancel hd1]⟩⟩⟩⟩
theorem sum_wt_len (R : List Ru) (p : Nat) (l : List Qu) : l.length ≤ (l.map (wt R p)).sum := by
  induction l with
  | nil => exact Nat.le_refl _
  | cons x l ih =>
    rw [List.map_cons, List.sum_cons, List.length_cons]
    have : 1 ≤ wt R p x := by cases x <;> simp [wt]
    omega
structure BI2 (g : Gram) (w : List Int) (root : Qu) (ns : List Qu) (al : List (List Alt)) : Prop where
  nd : ns.Nodup
  ok : ∀ x ∈ ns, NI g w x
  rt : ns[0]? = some root
  le : al.length ≤ ns.length
  wts : ∀ t, (h : t < al.length) → (h2 : t < ns.length) → al[t].length + 1 ≤ wt (Rs g w) (w.length + 1) ns[t]
theorem BI2.bound (hg : RightG g) {root : Qu} {ns : List Qu} {al : List (List Alt)} (h : BI2 g w root ns al) : (ns.map (wt (Rs g w) (w.length + 1))).sum ≤ 4 * size (Rs g w) * (w.length + 1) * (w.length + 1) * (w.length + 1) :=
  Nat.le_trans (sum_sub _ _ _ h.nd fun x hx => NI_allQ hg (h.ok x hx)) (allQ_sum _ _ (by omega))
theorem BI2.step (C : Ctx g w v0 ρ) {root : Qu} {ns : List Qu} {al : List (List Alt)} (h : BI2 g w root ns al) {x : Qu} (hx : ns[al.length]? = some x) : BI2 g w root (waysW g w v0 ρ x ns).2 (al ++ [(waysW g w v0 ρ x ns).1]) := by
  have hlt : al.length < ns.length := (List.getElem?_eq_some_iff.1 hx).1
  have hxm : x ∈ ns := List.mem_of_getElem? hx
  obtain ⟨hE, hW⟩ := waysW_ext C (h.ok x hxm) h.nd h.ok
  obtain ⟨t, ht⟩ := hE.pre
  refine ⟨hE.nd, hE.ok, ?_, ?_, fun u hu hu2 => ?_⟩
  · rw [ht, List.getElem?_append_left (by omega)]
    exact h.rt
  · rw [ht, List.length_append, List.length_append, List.length_singleton]; omega
  · rw [List.length_append, List.length_singleton] at hu
    have hun : u < ns.length := by omega
    have e1 : (waysW g w v0 ρ x ns).2[u] = ns[u] := by
      simp only [ht]
      exact List.getElem_append_left hun
    rw [e1]
    by_cases hua : u < al.length
    · rw [List.getElem_append_left hua]
      exact h.wts u hua hun
    · have : u = al.length := by omega
      subst this
      have e2 : (al ++ [(waysW g w v0 ρ x ns).1])[al.length] = (waysW g w v0 ρ x ns).1 := by simp
      have e3 : ns[al.length] = x := by
        rw [List.getElem?_eq_getElem hlt] at hx
        exact Option.some.inj hx
      rw [e2, e3]
      exact hW
theorem bld_ok (C : Ctx g w v0 ρ) {B : Nat} (hB : 4 * size (Rs g w) * (w.length + 1) * (w.length + 1) * (w.length + 1) ≤ B) {root : Qu} : ∀ (k : Nat) (ns : List Qu) (al : List (List Alt)), BI2 g w root ns al → B < k + al.length → ∃ ns' al', bld (waysW g w v0 ρ) k ns al = some (ns', al') ∧ BI2 g w root ns' al' ∧ al'.length = ns'.length
  | 0, ns, al, h, hk => by
    have h1 := h.bound C.hg
    have h2 := sum_wt_len (Rs g w) (w.length + 1) ns
    have := h.le
    omega
  | k + 1, ns, al, h, hk => by
    unfold bld
    cases hx : ns[al.length]? with
    | none =>
      have := List.getElem?_eq_none_iff.1 hx
      exact ⟨ns, al, rfl, h, by have := h.le; omega⟩
    | some x => exact bld_ok C hB k _ _ (h.step C hx) (by rw [List.length_append, List.length_singleton]; omega)
end
end Go.Vc
namespace Go.Vc
open Go Ea
def nodeF (x : Qu) (l : List Alt) : FNode := match x with
  | .c a i j => ⟨(a : Int), -1, -1, (i : Int), (j : Int), [], l⟩
  | .r q d i j => ⟨-1, (q : Int), (d : Int), (i : Int), (j : Int), [], l⟩
def nodesF (ns : List Qu) (al : List (List Alt)) : List FNode := ns.zipIdx.map fun p => nodeF p.1 (al.getD p.2 [])
theorem nodesF_len (ns : List Qu) (al : List (List Alt)) : (nodesF ns al).length = ns.length := by simp [nodesF]
theorem nodesF_get {ns : List Qu} {al : List (List Alt)} {t : Nat} (h : t < ns.length) : (nodesF ns al)[t]'(by rw [nodesF_len]; exact h) = nodeF ns[t] (al.getD t []) := by simp [nodesF]
theorem nodesF_app {ns : List Qu} {al : List (List Alt)} {x : Qu} (h : al.length ≤ ns.length) : nodesF (ns ++ [x]) al = nodesF ns al ++ [nodeF x []] := by
  unfold nodesF
  rw [List.zipIdx_append, List.map_append]
  congr 1
  simp [List.getElem?_eq_none h]
theorem nodesF_set {ns : List Qu} {al : List (List Alt)} {l : List Alt} {x : Qu} (h : ns[al.length]? = some x) : nodesF ns (al ++ [l]) = (nodesF ns al).set al.length (nodeF x l) := by
  have hlt := (List.getElem?_eq_some_iff.1 h).1
  have hx := (List.getElem?_eq_some_iff.1 h).2
  refine List.ext_getElem (by rw [List.length_set, nodesF_len, nodesF_len]) fun t h1 h2 => ?_
  rw [nodesF_len] at h1
  rw [nodesF_get h1, List.getElem_set]
  by_cases ht : al.length = t
  · subst ht
    rw [if_pos rfl, hx]
    simp
  · rw [if_neg ht, nodesF_get h1]
    congr 1
    rw [List.getD_eq_getElem?_getD, List.getD_eq_getElem?_getD, List.getElem?_append]
    by_cases hlt2 : t < al.length
    · rw [if_pos hlt2]
    · rw [if_neg hlt2, List.getElem?_eq_none (by rw [List.length_singleton]; omega), List.getElem?_eq_none (by omega)]
def at? (ns : List Qu) (x : Qu) : Option Int := if x ∈ ns then some ((ns.idxOf x : Nat) : Int) else none
theorem at?_app {ns : List Qu} {x y : Qu} (hx : x ∉ ns) : at? (ns ++ [x]) y = if y = x then some ((ns.length : Nat) : Int) else at? ns y := by
  unfold at?
  by_cases h : y = x
  · subst h
    rw [if_pos rfl, if_pos (by simp), List.idxOf_append, if_neg hx]
    simp
  · rw [if_neg h]
    by_cases hy : y ∈ ns
    · rw [if_pos (List.mem_append_left _ hy), if_pos hy, List.idxOf_append, if_pos hy]
    · rw [if_neg (by simp [hy, h]), if_neg hy]
structure PR (ns : List Qu) (sp : List (Forest_span × Int)) (pa : List (Forest_part × Int)) : Prop where
  s : ∀ a i j, tget qForest_span (spn a i j) sp = at? ns (.c a i j)
  p : ∀ q d i j, tget qForest_part (prt q d i j) pa = at? ns (.r q d i j)
theorem node_F {v : Forest_grove} {rt : Int} {ns : List Qu} {al : List (List Alt)} {sp : List (Forest_span × Int)} {pa : List (Forest_part × Int)} (hl : ns.length ≤ 1000000) (ha : al.length ≤ ns.length) (h : PR ns sp pa) (a i j : Nat) :
    ∃ sp', F.forest.packer_node ⟨v, sp, pa, ⟨rt, nodesF ns al⟩⟩ (spn a i j) = some (((num ns (.c a i j)).1 : Int), ⟨v, sp', pa, ⟨rt, nodesF (num ns (.c a i j)).2 al⟩⟩) ∧ PR (num ns (.c a i j)).2 sp' pa := by
  unfold F.forest.packer_node F.forest.packer_node_j1
  simp only [h.s]
  unfold num
  by_cases hx : Qu.c a i j ∈ ns
  · have e : at? ns (.c a i j) = some ((ns.idxOf (.c a i j) : Nat) : Int) := by unfold at?; rw [if_pos hx]
    rw [e, if_pos hx]
    simp only [Option.isSome_some, Bool.not_true, Bool.false_eq_true, if_false, Option.getD_some]
    exact ⟨sp, rfl, h⟩
  · have e : at? ns (.c a i j) = none := by unfold at?; rw [if_neg hx]
    rw [e, if_neg hx]
    have d1 : ∀ N : FNode, decide (((nodesF ns al).length + ([N] : List FNode).length) * 88 ≤ 140737488355328) = true := fun N => decide_eq_true (by rw [nodesF_len, List.length_singleton]; omega)
    have d2 : ∀ N : FNode, decide ((nodesF ns al).length + ([N] : List FNode).length ≤ 9223372036854775807) = true := fun N => decide_eq_true (by rw [nodesF_len, List.length_singleton]; omega)
    simp only [Option.isSome_none, Bool.not_false, if_true, d1, d2]
    refine ⟨tput qForest_span (spn a i j) (((nodesF ns al).length : Nat) : Int) sp, ?_, ⟨fun a' i' j' => ?_, fun q d i' j' => ?_⟩⟩
    · rw [nodesF_app ha, nodesF_len]
      rfl
    · rw [tget_tput (fun a b => qS_iff), at?_app hx, nodesF_len]
      by_cases he : spn a' i' j' = spn a i j
      · obtain ⟨rfl, rfl, rfl⟩ := spn_inj he
        rw [if_pos rfl, if_pos rfl]
      · rw [if_neg he, if_neg (fun e => he (by cases e; rfl)), h.s]
    · rw [at?_app hx, if_neg (by simp), h.p]
theorem piece_F {v : Forest_grove} {rt : Int} {ns : List Qu} {al : List (List Alt)} {sp : List (Forest_span × Int)} {pa : List (Forest_part × Int)} (hl : ns.length ≤ 1000000) (ha : al.length ≤ ns.length) (h : PR ns sp pa) (q d i j : Nat) :
    ∃ pa', F.forest.packer_piece ⟨v, sp, pa, ⟨rt, nodesF ns al⟩⟩ (prt q d i j) = some ((pce ns q d i j).1, ⟨v, sp, pa', ⟨rt, nodesF (pce ns q d i j).2 al⟩⟩) ∧ PR (pce ns q d i j).2 sp pa' := by
  unfold F.forest.packer_piece F.forest.packer_piece_j1 pce
  by_cases h0 : d = 0
  · subst h0
    have : ((prt q 0 i j).dot == 0) = true := rfl
    rw [this, if_pos rfl, if_pos rfl]
    exact ⟨pa, rfl, h⟩
  · have b0 : ((prt q d i j).dot == 0) = false := by rw [beq_eq_false_iff_ne]; simp only [prt]; omega
    rw [if_neg h0]
    simp only [b0, Bool.false_eq_true, if_false, h.p]
    unfold num
    by_cases hx : Qu.r q d i j ∈ ns
    · have e : at? ns (.r q d i j) = some ((ns.idxOf (.r q d i j) : Nat) : Int) := by unfold at?; rw [if_pos hx]
      rw [e, if_pos hx]
      simp only [Option.isSome_some, Bool.not_true, Bool.false_eq_true, if_false, Option.getD_some]
      exact ⟨pa, rfl, h⟩
    · have e : at? ns (.r q d i j) = none := by unfold at?; rw [if_neg hx]
      rw [e, if_neg hx]
      have d1 : ∀ N : FNode, decide (((nodesF ns al).length + ([N] : List FNode).length) * 88 ≤ 140737488355328) = true := fun N => decide_eq_true (by rw [nodesF_len, List.length_singleton]; omega)
      have d2 : ∀ N : FNode, decide ((nodesF ns al).length + ([N] : List FNode).length ≤ 9223372036854775807) = true := fun N => decide_eq_true (by rw [nodesF_len, List.length_singleton]; omega)
      simp only [Option.isSome_none, Bool.not_false, if_true, d1, d2]
      refine ⟨tput qForest_part (prt q d i j) (((nodesF ns al).length : Nat) : Int) pa, ?_, ⟨fun a' i' j' => ?_, fun q' d' i' j' => ?_⟩⟩
      · rw [nodesF_app ha, nodesF_len]
        rfl
      · rw [at?_app hx, if_neg (by simp), h.s]
      · rw [tget_tput (fun a b => qP_iff), at?_app hx, nodesF_len]
        by_cases he : prt q' d' i' j' = prt q d i j
        · obtain ⟨rfl, rfl, rfl, rfl⟩ := prt_inj he
          rw [if_pos rfl, if_pos rfl]
        · rw [if_neg he, if_neg (fun e => he (by cases e; rfl)), h.p]
section
variable {g : Gram} {w : List Int} {v0 : Forest_grove} {ρ : Nat → Nat}
theorem NI_len (hg : RightG g) (hB : 4 * size (Rs g w) * (w.length + 1) * (w.length + 1) * (w.length + 1) ≤ 500000) {ns : List Qu} (h1 : ns.Nodup) (h2 : ∀ x ∈ ns, NI g w x) : ns.length ≤ 500000 := by
  have h3 := Nat.le_trans (sum_sub (wt (Rs g w) (w.length + 1)) _ _ h1 fun x hx => NI_allQ hg (h2 x hx)) (allQ_sum (Rs g w) (w.length + 1) (by omega))
  have h4 := sum_wt_len (Rs g w) (w.length + 1) ns
  omega
theorem push32 {l : List Alt} {x : Alt} (h : l.length ≤ 100000) : decide ((l.length + ([x] : List Alt).length) * 32 ≤ 140737488355328) = true ∧ decide (l.length + ([x] : List Alt).length ≤ 9223372036854775807) = true := by
  constructor <;> exact decide_eq_true (by rw [List.length_singleton]; omega)
theorem num_len (ns : List Qu) (x : Qu) : ns.length ≤ (num ns x).2.length := by
  unfold num
  split
  · exact Nat.le_refl _
  · simp
theorem pce_len (ns : List Qu) (q d i j : Nat) : ns.length ≤ (pce ns q d i j).2.length := by
  unfold pce
  split
  · exact Nat.le_refl _
  · exact num_len _ _
theorem rk_small (C : Ctx g w v0 ρ) {a i j : Nat} (hj : j ≤ w.length) : rk ρ g.Nts.toNat a i j ≤ 4220 := by
  have h1 := C.hρ.le a
  have h3 := C.hsm.nts
  have h4 := C.hwl
  have h5 := C.hg.n1
  have h2 : (j - i) * (g.Nts.toNat + 1) ≤ 20 * 201 := Nat.mul_le_mul (by omega) (by omega)
  unfold rk
  omega
theorem waysC_F (C : Ctx g w v0 ρ) (hB : 4 * size (Rs g w) * (w.length + 1) * (w.length + 1) * (w.length + 1) ≤ 500000) {k : Nat} (hk : 500000 ≤ k) {a i j : Nat} (hx : NI g w (.c a i j)) {p : Forest_packer} {n : FNode} (hp1 : p.v.g = g) (hp2 : p.v.w_ = w) (hp3 : p.v.by_ = v0.by_) (hn1 : n.Nt = (a : Int)) (hn2 : n.From = (i : Int)) (hn3 : n.To = (j : Int)) {al : List (List Alt)} :
    ∀ (c t : Nat) (out : List Alt) (ns : List Qu) (v : Forest_grove) (sp : List (Forest_span × Int)) (pa : List (Forest_part × Int)) (ff : Nat), t + c = (byG g a).length → c < ff → out.length + c ≤ 1000 → ns.Nodup → (∀ x ∈ ns, NI g w x) → al.length ≤ ns.length → PR ns sp pa → Wk g w ρ v0 v →
      ∃ (v' : Forest_grove) (sp' : List (Forest_span × Int)) (pa' : List (Forest_part × Int)), F.forest.packer_ways_l1 k p n ff out (t : Int) (nodesF ns al) v.whole v.counts v.rows sp pa =
        some ((wayC (fun q => gCw g w ρ q i j) (fun q => ((Rs g w)[q]?.map fun r => r.rhs.length).getD 0) i j ((byG g a).drop t) out ns).1, nodesF (wayC (fun q => gCw g w ρ q i j) (fun q => ((Rs g w)[q]?.map fun r => r.rhs.length).getD 0) i j ((byG g a).drop t) out ns).2 al, v'.whole, v'.counts, v'.rows, sp', pa') ∧
        Wk g w ρ v0 v' ∧ PR (wayC (fun q => gCw g w ρ q i j) (fun q => ((Rs g w)[q]?.map fun r => r.rhs.length).getD 0) i j ((byG g a).drop t) out ns).2 sp' pa'
  | _, _, _, _, _, _, _, 0, _, h, _, _, _, _, _, _ => by omega
  | 0, t, out, ns, v, sp, pa, ff + 1, htc, _, _, hnd, hok, hal, hpr, hwk => by
    rw [List.drop_eq_nil_of_le (by omega)]
    have hat : at_ p.v.by_ n.Nt = (byG g a).map fun q : Nat => (q : Int) := by rw [hp3, hn1]; exact C.hv0.by_ a
    have : decide ((t : Int) < (((byG g a).map fun q : Nat => (q : Int)).length : Int)) = false := ix_ge (by simp; omega)
    simp only [F.forest.packer_ways_l1, hat, this, Bool.false_eq_true, if_false]
    exact ⟨v, sp, pa, rfl, hwk, hpr⟩
  | c + 1, t, out, ns, v, sp, pa, ff + 1, htc, hff, hout, hnd, hok, hal, hpr, hwk => by
    obtain ⟨ha, hij, hj, hd⟩ := id hx
    have ht : t < (byG g a).length := by omega
    have hbl := byG_len g a
    have hlr := C.hsm.rules
    have hwl := C.hwl
    have hnl := NI_len C.hg hB hnd hok
    have ht1 : t < ((byG g a).map fun q : Nat => (q : Int)).length := by simpa using ht
    have hat : at_ p.v.by_ n.Nt = (byG g a).map fun q : Nat => (q : Int) := by rw [hp3, hn1]; exact C.hv0.by_ a
    have hqi : at_ ((byG g a).map fun q : Nat => (q : Int)) (t : Int) = (((byG g a)[t] : Nat) : Int) := by rw [ix_at ht1]; simp
    obtain ⟨r, hr, hrl⟩ := (byG_Bys g w a _).1 (List.getElem_mem ht)
    obtain ⟨hq, rfl⟩ := Rs_get hr
    have hin : inR (((byG g a)[t] : Nat) : Int) p.v.g.Rules.length = true := by rw [hp1]; exact ix_in hq
    have har : at_ p.v.g.Rules (((byG g a)[t] : Nat) : Int) = g.Rules[(byG g a)[t]] := by rw [hp1]; exact ix_at hq
    have hlen : ((Rs g w)[(byG g a)[t]]?.map fun r => r.rhs.length).getD 0 = g.Rules[(byG g a)[t]].Rhs.length := by rw [hr]; simp only [Option.map_some, Option.getD_some, toRu_len]
    rw [List.drop_eq_getElem_cons ht]
    unfold wayC
    simp only [F.forest.packer_ways_l1, hat, ix_lt ht1, ix_in ht1, if_true, hqi, hin, har, hn2, hn3]
    obtain ⟨st, hgr, hkn⟩ := hwk
    rw [hgr.mk_eq hp1 hp2 hp3]
    have hwk : Wk g w ρ v0 v := ⟨st, hgr, hkn⟩
    have hrk := rk_small C (a := a) (i := i) hj
    have h80 := C.hg.rhs _ (List.getElem_mem hq)
    have hfit2 : Fits (Rs g w) ρ g.Nts.toNat 82 w.length 400000 (.r (byG g a)[t] g.Rules[(byG g a)[t]].Rhs.length i j) := ⟨toRu w g.Rules[(byG g a)[t]], j, hr, by rw [toRu_len]; exact Nat.le_refl _, hj, by rw [List.drop_eq_nil_of_le (by rw [toRu_len]; exact Nat.le_refl _)]; exact .nil j, hij, by rw [hrl]; omega⟩
    obtain ⟨v1, e1, hwk1⟩ := Wk.row C (k := k) hwk (by omega) hfit2 ⟨⟨hq, Nat.le_refl _⟩, by omega, hj⟩
    have e2 : F.forest.grove_row k v (Forest_part.mk (((byG g a)[t] : Nat) : Int) (g.Rules[(byG g a)[t]].Rhs.length : Int) (i : Int) (j : Int)) = some ((An g w ρ (.r (byG g a)[t] g.Rules[(byG g a)[t]].Rhs.length i j) : Int), v1) := e1
    rw [e2, Option.bind_some]
    have hgc : gCw g w ρ (byG g a)[t] i j = decide (0 < An g w ρ (.r (byG g a)[t] g.Rules[(byG g a)[t]].Rhs.length i j)) := by
      unfold gCw
      rw [hlen]
    unfold F.forest.packer_ways_j3 F.forest.packer_ways_j2
    rw [ix_inc (by omega)]
    by_cases hpos : 0 < An g w ρ (.r (byG g a)[t] g.Rules[(byG g a)[t]].Rhs.length i j)
    · have d1 : decide ((0 : Int) < ((An g w ρ (.r (byG g a)[t] g.Rules[(byG g a)[t]].Rhs.length i j) : Nat) : Int)) = true := decide_eq_true (by omega)
      have hgt : gCw g w ρ (byG g a)[t] i j = true := by rw [hgc]; exact decide_eq_true hpos
      rw [if_pos hgt, hlen]
      obtain ⟨st1, hgr1, hkn1⟩ := hwk1
      obtain ⟨pa', e3, hpr'⟩ := piece_F (v := v1) (rt := p.f.Root) (al := al) (by omega) hal hpr (byG g a)[t] g.Rules[(byG g a)[t]].Rhs.length i j
      have e4 : F.forest.packer_piece (Forest_packer.mk v1 sp pa (Forest.mk p.f.Root (nodesF ns al))) (Forest_part.mk (((byG g a)[t] : Nat) : Int) (g.Rules[(byG g a)[t]].Rhs.length : Int) (i : Int) (j : Int)) = some ((pce ns (byG g a)[t] g.Rules[(byG g a)[t]].Rhs.length i j).1, ⟨v1, sp, pa', ⟨p.f.Root, nodesF (pce ns (byG g a)[t] g.Rules[(byG g a)[t]].Rhs.length i j).2 al⟩⟩) := e3
      obtain ⟨p1, p2⟩ := push32 (l := out) (x := Alt.mk (((byG g a)[t] : Nat) : Int) 0 (pce ns (byG g a)[t] g.Rules[(byG g a)[t]].Rhs.length i j).1 (-1)) (by omega)
      rw [hgr1.mk_eq hp1 hp2 hp3]
      simp only [d1, if_true, e4, Option.bind_some, p1, p2]
      have hE := pce_ext (P := NI g w) (q := (byG g a)[t]) (d := g.Rules[(byG g a)[t]].Rhs.length) (i := i) (j := j) hnd hok (fun hd0 => by
        have hder := (gCw_iff C hq).1 hgt
        exact ⟨hq, by omega, Nat.le_refl _, hij, by rw [List.take_of_length_le (by rw [toRu_len]; exact Nat.le_refl _)]; exact hder, j, hj, by rw [List.drop_eq_nil_of_le (by rw [toRu_len]; exact Nat.le_refl _)]; exact .nil j⟩)
      exact waysC_F C hB hk hx hp1 hp2 hp3 hn1 hn2 hn3 c (t + 1) _ _ v1 sp pa' ff (by omega) (by omega) (by rw [List.length_append, List.length_singleton]; omega) hE.nd hE.ok (Nat.le_trans hal (pce_len _ _ _ _ _)) hpr' ⟨st1, hgr1, hkn1⟩
    · have d1 : decide ((0 : Int) < ((An g w ρ (.r (byG g a)[t] g.Rules[(byG g a)[t]].Rhs.length i j) : Nat) : Int)) = false := decide_eq_false (by omega)
      rw [if_neg (show ¬ (gCw g w ρ (byG g a)[t] i j = true) by rw [hgc]; simpa using hpos)]
      simp only [d1, Bool.false_eq_true, if_false]
      exact waysC_F C hB hk hx hp1 hp2 hp3 hn1 hn2 hn3 c (t + 1) _ _ v1 sp pa ff (by omega) (by omega) (by omega) hnd hok hal hpr hwk1
end
end Go.Vc
namespace Go.Vc
open Go Ea
section
variable {g : Gram} {w : List Int} {v0 : Forest_grove} {ρ : Nat → Nat}
theorem waysR_F (C : Ctx g w v0 ρ) (hB : 4 * size (Rs g w) * (w.length + 1) * (w.length + 1) * (w.length + 1) ≤ 500000) {k : Nat} (hk : 500000 ≤ k) {q d i j : Nat} (hx : NI g w (.r q (d + 1) i j)) (hq : q < g.Rules.length) (hd : d < g.Rules[q].Rhs.length) {p : Forest_packer} {n : FNode} (hp1 : p.v.g = g) (hp2 : p.v.w_ = w) (hp3 : p.v.by_ = v0.by_) (hn0 : n.Rule = (q : Int)) (hn1 : n.Dot = ((d + 1 : Nat) : Int)) (hn2 : n.From = (i : Int)) (hn3 : n.To = (j : Int)) {al : List (List Alt)} :
    ∀ (c m : Nat) (out : List Alt) (ns : List Qu) (v : Forest_grove) (sp : List (Forest_span × Int)) (pa : List (Forest_part × Int)) (ff : Nat), m + c = j + 1 ∨ (c = 0 ∧ j < m ∧ m ≤ 100) → i ≤ m → c < ff → out.length + c ≤ 1000 → ns.Nodup → (∀ x ∈ ns, NI g w x) → al.length ≤ ns.length → PR ns sp pa → Wk g w ρ v0 v →
      ∃ (v' : Forest_grove) (sp' : List (Forest_span × Int)) (pa' : List (Forest_part × Int)), F.forest.packer_ways_l4 k n p ff out (m : Int) (nodesF ns al) v.whole v.counts v.rows sp pa =
        some ((wayR (toSy w g.Rules[q].Rhs[d]) (fun m => symB (hasW v0) (toSy w g.Rules[q].Rhs[d]) m j && gRw g w ρ q d i m) q d i j (List.range' m c) out ns).1, nodesF (wayR (toSy w g.Rules[q].Rhs[d]) (fun m => symB (hasW v0) (toSy w g.Rules[q].Rhs[d]) m j && gRw g w ρ q d i m) q d i j (List.range' m c) out ns).2 al, v'.whole, v'.counts, v'.rows, sp', pa') ∧
        Wk g w ρ v0 v' ∧ PR (wayR (toSy w g.Rules[q].Rhs[d]) (fun m => symB (hasW v0) (toSy w g.Rules[q].Rhs[d]) m j && gRw g w ρ q d i m) q d i j (List.range' m c) out ns).2 sp' pa'
  | _, _, _, _, _, _, _, 0, _, _, h, _, _, _, _, _, _ => by omega
  | 0, m, out, ns, v, sp, pa, ff + 1, hmc, _, _, _, hnd, hok, hal, hpr, hwk => by
    rw [List.range'_zero]
    have : decide ((m : Int) ≤ n.To) = false := decide_eq_false (by rw [hn3]; omega)
    simp only [F.forest.packer_ways_l4, this, Bool.false_eq_true, if_false]
    exact ⟨v, sp, pa, rfl, hwk, hpr⟩
  | c + 1, m, out, ns, v, sp, pa, ff + 1, hmc, him, hff, hout, hnd, hok, hal, hpr, hwk => by
    have hmj : m ≤ j := by omega
    have hwl := C.hwl
    have hnl := NI_len C.hg hB hnd hok
    obtain ⟨_, _, _, hij, hder, J, hJ, hdr⟩ := id hx
    have hjJ := hdr.le
    have hd0 : decide ((m : Int) ≤ (j : Int)) = true := decide_eq_true (by omega)
    have hrm := List.getElem_mem hq
    have h80 := C.hg.rhs _ hrm
    have hsm := List.getElem_mem hd
    have hdot : IntKind.wrap .i64 (n.Dot - 1) = (d : Int) := by
      rw [hn1, wrap_i64 (by omega) (by omega)]; omega
    have har : at_ p.v.g.Rules (q : Int) = g.Rules[q] := by rw [hp1]; exact ix_at hq
    have hae : at_ g.Rules[q].Rhs (d : Int) = g.Rules[q].Rhs[d] := ix_at hd
    rw [List.range'_succ]
    unfold wayR
    simp only [F.forest.packer_ways_l4, hd0, if_true, hdot, har, hae, hn0, hn2, hn3]
    obtain ⟨st, hgr, hkn⟩ := hwk
    have hwk : Wk g w ρ v0 v := ⟨st, hgr, hkn⟩
    rw [hgr.mk_eq hp1 hp2 hp3, sym_F C.hw hgr.tx hgr.wh hmj (by omega) hwl, Option.bind_some]
    unfold F.forest.packer_ways_j6
    have hskip : ∀ v1, Wk g w ρ v0 v1 → (symB (hasW v0) (toSy w g.Rules[q].Rhs[d]) m j && gRw g w ρ q d i m) = false →
        ∃ (v' : Forest_grove) (sp' : List (Forest_span × Int)) (pa' : List (Forest_part × Int)), F.forest.packer_ways_j5 (F.forest.packer_ways_l4 k n p ff) (m : Int) out v1.whole v1.counts v1.rows (nodesF ns al) sp pa =
        some ((wayR (toSy w g.Rules[q].Rhs[d]) (fun m => symB (hasW v0) (toSy w g.Rules[q].Rhs[d]) m j && gRw g w ρ q d i m) q d i j (List.range' (m + 1) c) out ns).1, nodesF (wayR (toSy w g.Rules[q].Rhs[d]) (fun m => symB (hasW v0) (toSy w g.Rules[q].Rhs[d]) m j && gRw g w ρ q d i m) q d i j (List.range' (m + 1) c) out ns).2 al, v'.whole, v'.counts, v'.rows, sp', pa') ∧
        Wk g w ρ v0 v' ∧ PR (wayR (toSy w g.Rules[q].Rhs[d]) (fun m => symB (hasW v0) (toSy w g.Rules[q].Rhs[d]) m j && gRw g w ρ q d i m) q d i j (List.range' (m + 1) c) out ns).2 sp' pa' := by
      intro v1 hwk1 _
      unfold F.forest.packer_ways_j5
      rw [ix_inc (by omega)]
      exact waysR_F C hB hk hx hq hd hp1 hp2 hp3 hn0 hn1 hn2 hn3 c (m + 1) out ns v1 sp pa ff (by omega) (by omega) (by omega) (by omega) hnd hok hal hpr hwk1
    by_cases hsb : symB (hasW v0) (toSy w g.Rules[q].Rhs[d]) m j = true
    · simp only [hsb, Bool.not_true, Bool.false_eq_true, if_false, Bool.true_and]
      have hy := (symB_der' C (by omega)).1 hsb
      have hd2 : Der (Rs g w) ((toRu w g.Rules[q]).rhs.drop d) m J := by
        have h5 : d < (toRu w g.Rules[q]).rhs.length := by rw [toRu_len]; exact hd
        have h6 := toRu_get (w := w) hd
        rw [List.getElem?_eq_getElem h5] at h6
        rw [List.drop_eq_getElem_cons h5, Option.some.inj h6]
        exact der_cons.2 ⟨j, hy, hdr⟩
      have hrk := rk_small C (a := (toRu w g.Rules[q]).lhs) (i := i) hJ
      have hfit : Fits (Rs g w) ρ g.Nts.toNat 82 w.length 400000 (.r q d i m) := ⟨toRu w g.Rules[q], J, Rs_at hq, by rw [toRu_len]; omega, hJ, hd2, by omega, by omega⟩
      obtain ⟨v1, e1, hwk1⟩ := Wk.row C (k := k) hwk (by omega) hfit ⟨⟨hq, by omega⟩, by omega, by omega⟩
      have e2 : F.forest.grove_row k v (Forest_part.mk (q : Int) (d : Int) (i : Int) (m : Int)) = some ((An g w ρ (.r q d i m) : Int), v1) := e1
      rw [e2, Option.bind_some]
      by_cases hpos : 0 < An g w ρ (.r q d i m)
      · have d2 : (((An g w ρ (.r q d i m) : Nat) : Int) == 0) = false := by rw [beq_eq_false_iff_ne]; omega
        have hgr' : gRw g w ρ q d i m = true := decide_eq_true hpos
        simp only [d2, hgr', Bool.false_eq_true, if_false, if_true, hn0, hn2, hdot]
        obtain ⟨k1, k2, ⟨J', hJ', k3⟩, k4⟩ := wayR_kids C hx him hmj hq hd (by rw [hsb, hgr']; rfl)
        obtain ⟨st1, hgr1, hkn1⟩ := hwk1
        have hwk1 : Wk g w ρ v0 v1 := ⟨st1, hgr1, hkn1⟩
        rw [hgr1.mk_eq hp1 hp2 hp3]
        obtain ⟨pa', e3, hpr'⟩ := piece_F (v := v1) (rt := p.f.Root) (al := al) (by omega) hal hpr q d i m
        have e4 : F.forest.packer_piece (Forest_packer.mk v1 sp pa (Forest.mk p.f.Root (nodesF ns al))) (Forest_part.mk (q : Int) (d : Int) (i : Int) (m : Int)) = some ((pce ns q d i m).1, ⟨v1, sp, pa', ⟨p.f.Root, nodesF (pce ns q d i m).2 al⟩⟩) := e3
        rw [e4, Option.bind_some]
        have hE := pce_ext (P := NI g w) (q := q) (d := d) (i := i) (j := m) hnd hok (fun hd0 => ⟨hq, by omega, by omega, him, k2, J', hJ', k3⟩)
        have hal2 := Nat.le_trans hal (pce_len ns q d i m)
        have hnl2 := NI_len C.hg hB hE.nd hE.ok
        unfold F.forest.packer_ways_j7
        simp only [har, hn0, hdot, hae, hn3]
        by_cases h0 : 0 ≤ g.Rules[q].Rhs[d].Nt
        · have hs : toSy w g.Rules[q].Rhs[d] = .nt g.Rules[q].Rhs[d].Nt.toNat := by unfold toSy; rw [if_pos h0]
          rw [hgr1.mk_eq hp1 hp2 hp3, decide_eq_true h0, if_pos rfl]
          obtain ⟨sp', e5, hpr2⟩ := node_F (v := v1) (rt := p.f.Root) (al := al) (by omega) hal2 hpr' g.Rules[q].Rhs[d].Nt.toNat m j
          have e6 : F.forest.packer_node (Forest_packer.mk v1 sp pa' (Forest.mk p.f.Root (nodesF (pce ns q d i m).2 al))) (Forest_span.mk g.Rules[q].Rhs[d].Nt (m : Int) (j : Int)) = some (((num (pce ns q d i m).2 (.c g.Rules[q].Rhs[d].Nt.toNat m j)).1 : Int), ⟨v1, sp', pa', ⟨p.f.Root, nodesF (num (pce ns q d i m).2 (.c g.Rules[q].Rhs[d].Nt.toNat m j)).2 al⟩⟩) := by
            unfold spn at e5
            rw [Int.toNat_of_nonneg h0] at e5
            exact e5
          rw [e6, Option.bind_some]
          have hnt := C.hg.nt2 _ hrm _ hsm
          have k1' := k1
          rw [hs] at k1'
          have hE2 := num_ext (P := NI g w) (x := .c g.Rules[q].Rhs[d].Nt.toNat m j) hE.nd hE.ok ⟨by omega, hmj, k4, k1'⟩
          unfold F.forest.packer_ways_j8 F.forest.packer_ways_j5
          obtain ⟨p1, p2⟩ := push32 (l := out) (x := Alt.mk n.Rule (m : Int) (pce ns q d i m).1 (((num (pce ns q d i m).2 (.c g.Rules[q].Rhs[d].Nt.toNat m j)).1 : Nat) : Int)) (by omega)
          rw [ix_inc (by omega)]
          simp only [p1, p2, if_true]
          have ih := waysR_F C hB hk hx hq hd hp1 hp2 hp3 hn0 hn1 hn2 hn3 c (m + 1) (out ++ [⟨(q : Int), (m : Int), (pce ns q d i m).1, ((num (pce ns q d i m).2 (.c g.Rules[q].Rhs[d].Nt.toNat m j)).1 : Int)⟩]) _ v1 sp' pa' ff (by omega) (by omega) (by omega) (by rw [List.length_append, List.length_singleton]; omega) hE2.nd hE2.ok (Nat.le_trans hal2 (num_len _ _)) hpr2 hwk1
          rw [hn0]
          simp only [hs] at ih ⊢
          exact ih
        · have hs : toSy w g.Rules[q].Rhs[d] = .tm (fun p => decide (p < w.length) && hasB g.Rules[q].Rhs[d].Set (w.getD p 0)) := by unfold toSy; rw [if_neg h0]
          rw [decide_eq_false h0, if_neg (by simp)]
          unfold F.forest.packer_ways_j8 F.forest.packer_ways_j5
          obtain ⟨p1, p2⟩ := push32 (l := out) (x := Alt.mk n.Rule (m : Int) (pce ns q d i m).1 (-1)) (by omega)
          rw [ix_inc (by omega)]
          simp only [p1, p2, if_true]
          have ih := waysR_F C hB hk hx hq hd hp1 hp2 hp3 hn0 hn1 hn2 hn3 c (m + 1) (out ++ [⟨(q : Int), (m : Int), (pce ns q d i m).1, -1⟩]) _ v1 sp pa' ff (by omega) (by omega) (by omega) (by rw [List.length_append, List.length_singleton]; omega) hE.nd hE.ok hal2 hpr' hwk1
          rw [hn0]
          simp only [hs] at ih ⊢
          exact ih
      · have d2 : (((An g w ρ (.r q d i m) : Nat) : Int) == 0) = true := by rw [beq_iff_eq]; omega
        have hgr' : gRw g w ρ q d i m = false := decide_eq_false hpos
        simp only [d2, hgr', Bool.false_eq_true, if_false, if_true]
        exact hskip v1 hwk1 (by rw [hgr', Bool.and_false])
    · have hsb' : symB (hasW v0) (toSy w g.Rules[q].Rhs[d]) m j = false := by simpa using hsb
      simp only [hsb', Bool.not_false, Bool.false_and, Bool.false_eq_true, if_false, if_true]
      exact hskip v hwk (by rw [hsb', Bool.false_and])
theorem ways_F (C : Ctx g w v0 ρ) (hB : 4 * size (Rs g w) * (w.length + 1) * (w.length + 1) * (w.length + 1) ≤ 500000) {k : Nat} (hk : 500000 ≤ k) {x : Qu} (hx : NI g w x) {ns : List Qu} {al : List (List Alt)} {v : Forest_grove} {sp : List (Forest_span × Int)} {pa : List (Forest_part × Int)} {rt : Int} {l0 : List Alt} (hnd : ns.Nodup) (hok : ∀ x ∈ ns, NI g w x) (hal : al.length ≤ ns.length) (hpr : PR ns sp pa) (hwk : Wk g w ρ v0 v) :
    ∃ (v' : Forest_grove) (sp' : List (Forest_span × Int)) (pa' : List (Forest_part × Int)), F.forest.packer_ways k ⟨v, sp, pa, ⟨rt, nodesF ns al⟩⟩ (nodeF x l0) = some ((waysW g w v0 ρ x ns).1, ⟨v', sp', pa', ⟨rt, nodesF (waysW g w v0 ρ x ns).2 al⟩⟩) ∧ Wk g w ρ v0 v' ∧ PR (waysW g w v0 ρ x ns).2 sp' pa' := by
  obtain ⟨st, hgr, hkn⟩ := hwk
  have hlr := C.hsm.rules
  have hwl := C.hwl
  cases x with
  | c a i j =>
    obtain ⟨ha, hij, hj, hd⟩ := id hx
    have hbl := byG_len g a
    unfold F.forest.packer_ways
    have d0 : decide ((nodeF (.c a i j) l0).Dot < 0) = true := rfl
    have hin : inR (nodeF (.c a i j) l0).Nt v.by_.length = true := by rw [hgr.by_]; exact inR_iff.2 ⟨by simp [nodeF], by rw [C.hv0.byl]; simp only [nodeF]; omega⟩
    simp only [d0, hin, if_true]
    obtain ⟨v', sp', pa', e, hwk', hpr'⟩ := waysC_F C hB hk hx (p := ⟨v, sp, pa, ⟨rt, nodesF ns al⟩⟩) (n := nodeF (.c a i j) l0) hgr.gr hgr.tx hgr.by_ rfl rfl rfl (al := al) (byG g a).length 0 [] ns v sp pa k (by omega) (by omega) (by simp only [List.length_nil]; omega) hnd hok hal hpr ⟨st, hgr, hkn⟩
    have e' : F.forest.packer_ways_l1 k ⟨v, sp, pa, ⟨rt, nodesF ns al⟩⟩ (nodeF (.c a i j) l0) k [] 0 (nodesF ns al) v.whole v.counts v.rows sp pa = some ((waysW g w v0 ρ (.c a i j) ns).1, nodesF (waysW g w v0 ρ (.c a i j) ns).2 al, v'.whole, v'.counts, v'.rows, sp', pa') := e
    rw [e', Option.bind_some]
    obtain ⟨st', hgr', hkn'⟩ := hwk'
    refine ⟨v', sp', pa', ?_, ⟨st', hgr', hkn'⟩, hpr'⟩
    simp only
    rw [hgr'.mk_eq hgr.gr hgr.tx hgr.by_]
  | r q d i j =>
    have hx' := hx
    obtain ⟨hq, hd1, hd2, hij, hder, J, hJ, hdr⟩ := hx
    obtain ⟨d, rfl⟩ : ∃ d', d = d' + 1 := ⟨d - 1, by omega⟩
    have hd : d < g.Rules[q].Rhs.length := by omega
    have hjJ := hdr.le
    have h80 := C.hg.rhs _ (List.getElem_mem hq)
    have hww : waysW g w v0 ρ (.r q (d + 1) i j) ns = wayR (toSy w g.Rules[q].Rhs[d]) (fun m => symB (hasW v0) (toSy w g.Rules[q].Rhs[d]) m j && gRw g w ρ q d i m) q d i j (List.range' i (j + 1 - i)) [] ns := by
      show waysQ _ _ _ _ _ (.r q (d + 1) i j) ns = _
      unfold waysQ
      simp only [Rs_at hq, Nat.add_sub_cancel, toRu_get hd]
    rw [hww]
    unfold F.forest.packer_ways
    have d0 : decide ((nodeF (.r q (d + 1) i j) l0).Dot < 0) = false := decide_eq_false (by simp only [nodeF]; omega)
    have hin : inR (nodeF (.r q (d + 1) i j) l0).Rule v.g.Rules.length = true := by rw [hgr.gr]; exact ix_in hq
    have har : at_ v.g.Rules (nodeF (.r q (d + 1) i j) l0).Rule = g.Rules[q] := by rw [hgr.gr]; exact ix_at hq
    have hdot : IntKind.wrap .i64 ((nodeF (.r q (d + 1) i j) l0).Dot - 1) = (d : Int) := by
      show IntKind.wrap .i64 (((d + 1 : Nat) : Int) - 1) = _
      rw [wrap_i64 (by omega) (by omega)]; omega
    simp only [d0, hin, har, hdot, ix_in hd, if_true, Bool.false_eq_true, if_false]
    obtain ⟨v', sp', pa', e, hwk', hpr'⟩ := waysR_F C hB hk hx' hq hd (p := ⟨v, sp, pa, ⟨rt, nodesF ns al⟩⟩) (n := nodeF (.r q (d + 1) i j) l0) hgr.gr hgr.tx hgr.by_ rfl rfl rfl rfl (al := al) (j + 1 - i) i [] ns v sp pa k (by omega) (by omega) (by omega) (by simp only [List.length_nil]; omega) hnd hok hal hpr ⟨st, hgr, hkn⟩
    have hfr : (nodeF (.r q (d + 1) i j) l0).From = (i : Int) := rfl
    rw [hfr, e, Option.bind_some]
    obtain ⟨st', hgr', hkn'⟩ := hwk'
    refine ⟨v', sp', pa', ?_, ⟨st', hgr', hkn'⟩, hpr'⟩
    simp only
    rw [hgr'.mk_eq hgr.gr hgr.tx hgr.by_]
theorem nodeF_alts (x : Qu) (l l' : List Alt) : FNode.mk (nodeF x l).Nt (nodeF x l).Rule (nodeF x l).Dot (nodeF x l).From (nodeF x l).To (nodeF x l).Ban l' = nodeF x l' := by
  cases x <;> rfl
theorem build_l1_F (C : Ctx g w v0 ρ) (hB : 4 * size (Rs g w) * (w.length + 1) * (w.length + 1) * (w.length + 1) ≤ 500000) {k : Nat} (hk : 500000 ≤ k) {v1 : Forest_grove} (h1 : v1.g = g) (h2 : v1.w_ = w) (h3 : v1.by_ = v0.by_) {root : Qu} : ∀ (c : Nat) (ns : List Qu) (al : List (List Alt)) (v : Forest_grove) (sp : List (Forest_span × Int)) (pa : List (Forest_part × Int)) (ns' : List Qu) (al' : List (List Alt)), BI2 g w root ns al → PR ns sp pa → Wk g w ρ v0 v → bld (waysW g w v0 ρ) c ns al = some (ns', al') →
    ∃ z, F.forest.Build_l1 k v1 c (al.length : Int) (nodesF ns al) v.whole v.counts v.rows sp pa = some (nodesF ns' al', z)
  | 0, _, _, _, _, _, _, _, _, _, _, h => by cases h
  | c + 1, ns, al, v, sp, pa, ns', al', hbi, hpr, hwk, h => by
    unfold bld at h
    have hnl := NI_len C.hg hB hbi.nd hbi.ok
    have hal := hbi.le
    cases hx : ns[al.length]? with
    | none =>
      rw [hx] at h
      cases h
      have hge := List.getElem?_eq_none_iff.1 hx
      have d0 : decide ((al.length : Int) < ((nodesF ns al).length : Int)) = false := ix_ge (by rw [nodesF_len]; omega)
      simp only [F.forest.Build_l1, d0, Bool.false_eq_true, if_false]
      exact ⟨_, rfl⟩
    | some x =>
      rw [hx] at h
      simp only at h
      have hlt := (List.getElem?_eq_some_iff.1 hx).1
      have hxe := (List.getElem?_eq_some_iff.1 hx).2
      have hlt' : al.length < (nodesF ns al).length := by rw [nodesF_len]; exact hlt
      have hge : (nodesF ns al)[al.length] = nodeF x [] := by
        rw [nodesF_get hlt, hxe]
        congr 1
        rw [List.getD_eq_getElem?_getD, List.getElem?_eq_none (Nat.le_refl _)]
        rfl
      obtain ⟨st, hgr, hkn⟩ := hwk
      have hxm := List.mem_of_getElem? hx
      obtain ⟨v', sp', pa', e, hwk', hpr'⟩ := ways_F C hB hk (hbi.ok x hxm) (rt := 0) (l0 := []) hbi.nd hbi.ok hal hpr ⟨st, hgr, hkn⟩
      have hbi' := hbi.step C hx
      have hal' := hbi'.le
      rw [List.length_append, List.length_singleton] at hal'
      have hlt2 : al.length < (nodesF (waysW g w v0 ρ x ns).2 al).length := by rw [nodesF_len]; omega
      obtain ⟨hE, _⟩ := waysW_ext C (hbi.ok x hxm) hbi.nd hbi.ok
      obtain ⟨t, ht⟩ := hE.pre
      have hx2 : (waysW g w v0 ρ x ns).2[al.length]? = some x := by rw [ht, List.getElem?_append_left hlt]; exact hx
      have hge2 : (nodesF (waysW g w v0 ρ x ns).2 al)[al.length] = nodeF x [] := by
        have hlt3 : al.length < (waysW g w v0 ρ x ns).2.length := by omega
        rw [nodesF_get hlt3]
        have : (waysW g w v0 ρ x ns).2[al.length] = x := by
          rw [List.getElem?_eq_getElem hlt3] at hx2
          exact Option.some.inj hx2
        rw [this]
        congr 1
        rw [List.getD_eq_getElem?_getD, List.getElem?_eq_none (Nat.le_refl _)]
        rfl
      simp only [F.forest.Build_l1, ix_lt hlt', ix_in hlt', ix_at hlt', if_true, hge]
      rw [hgr.mk_eq h1 h2 h3, e, Option.bind_some]
      simp only [ix_in hlt2, ix_at hlt2, if_true, hge2, nodeF_alts]
      have hset : set_ (nodesF (waysW g w v0 ρ x ns).2 al) (al.length : Int) (nodeF x (waysW g w v0 ρ x ns).1) = nodesF (waysW g w v0 ρ x ns).2 (al ++ [(waysW g w v0 ρ x ns).1]) := (nodesF_set hx2).symm
      rw [hset, ix_inc (by omega)]
      have ih := build_l1_F C hB hk h1 h2 h3 c _ (al ++ [(waysW g w v0 ρ x ns).1]) v' sp' pa' ns' al' hbi' hpr' hwk' h
      rw [List.length_append, List.length_singleton] at ih
      exact ih
end
end Go.Vc
