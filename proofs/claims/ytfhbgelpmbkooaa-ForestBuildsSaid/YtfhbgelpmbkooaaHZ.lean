import Derived.Test.YtfhbgelpmbkooaaHY
import Derived.Test.YtfhbgelpmbkooaaHE
import Derived.Test.YtfhbgelpmbkooaaA1
set_option linter.unusedVariables false
set_option linter.unusedSimpArgs false
namespace Go.Vc
open Go Ea
section
variable {g : Gram} {w : List Int} {ρ : Nat → Nat}
abbrev rootQ (g : Gram) (w : List Int) : Qu := .c g.Start.toNat 0 w.length
theorem size_B (hw9 : w.length ≤ 9) (hs : ((g.Rules.map fun r => r.Rhs.length + 1).sum : Nat) ≤ 120) : 4 * size (Rs g w) * (w.length + 1) * (w.length + 1) * (w.length + 1) ≤ 500000 := by
  have e : size (Rs g w) = (g.Rules.map fun r => r.Rhs.length + 1).sum := by
    unfold size Rs
    rw [List.map_map]
    congr 1
    exact List.map_congr_left fun r _ => by simp [toRu_len]
  rw [e]
  have h1 : 4 * (g.Rules.map fun r => r.Rhs.length + 1).sum * (w.length + 1) ≤ 480 * 10 := Nat.mul_le_mul (by omega) (by omega)
  have h2 : 4 * (g.Rules.map fun r => r.Rhs.length + 1).sum * (w.length + 1) * (w.length + 1) ≤ 480 * 10 * 10 := Nat.mul_le_mul h1 (by omega)
  have h3 : 4 * (g.Rules.map fun r => r.Rhs.length + 1).sum * (w.length + 1) * (w.length + 1) * (w.length + 1) ≤ 480 * 10 * 10 * 10 := Nat.mul_le_mul h2 (by omega)
  omega
theorem root_BI (hg : RightG g) (hd : DerY (Rs g w) (.nt g.Start.toNat) 0 w.length) : BI2 g w (rootQ g w) [rootQ g w] [] := by
  have h1 := hg.s1
  have h2 := hg.s2
  refine ⟨by simp, fun x hx => ?_, rfl, by simp, fun t h => by simp at h⟩
  rw [List.mem_singleton] at hx
  subst hx
  exact ⟨by omega, by omega, Nat.le_refl _, hd⟩
theorem Build_all {k : Nat} (hk : 1000000 ≤ k) (hsm : rightB g = true → SmallG g) (hw : Bytes w) (hwl : w.length ≤ 9 ∨ 512 < (w.length : Int)) (hs : ((g.Rules.map fun r => r.Rhs.length + 1).sum : Nat) ≤ 120) {e : Int} (he : F.forest.fit k g w = some e) :
    (e ≠ 0 → F.forest.Build k g w = some (⟨0, []⟩, e)) ∧
    (e = 0 → ∀ ρ, Falls (Rs g w) ρ g.Nts.toNat → ∃ v0, Ctx g w v0 ρ ∧ 4 * size (Rs g w) * (w.length + 1) * (w.length + 1) * (w.length + 1) ≤ 500000 ∧
      ((trees (Rs g w) ρ g.Nts.toNat g.Start.toNat 0 w.length = [] ∧ F.forest.Build k g w = some (⟨-1, []⟩, 0)) ∨
       (trees (Rs g w) ρ g.Nts.toNat g.Start.toNat 0 w.length ≠ [] ∧ ∃ ns al, bld (waysW g w v0 ρ) k [rootQ g w] [] = some (ns, al) ∧ BI2 g w (rootQ g w) ns al ∧ al.length = ns.length ∧ F.forest.Build k g w = some (⟨0, nodesF ns al⟩, 0)))) := by
  obtain ⟨e', he', h0, _⟩ := fit_ok (k := k) (by omega) hsm w
  rw [he] at he'
  cases he'
  refine ⟨fun hne => ?_, fun h ρ hρ => ?_⟩
  · unfold F.forest.Build
    rw [he, Option.bind_some]
    have : (e != 0) = true := by simpa using hne
    rw [this, if_pos rfl]
  · obtain ⟨hr, hl, _⟩ := h0.1 h
    have hwl' : w.length ≤ 20 := by omega
    obtain ⟨v, e1, hv, _, _, v', e2, st, hkn, hgr⟩ := Count_ok hk hr (hsm hr) hw hwl' hρ
    have C := ctx_of hr (hsm hr) hw hwl' hρ hv
    have hs1 := (rightG hr).s1
    have hB := size_B (g := g) (w := w) (by omega) hs
    refine ⟨v, C, hB, ?_⟩
    have e3 : F.forest.grove_count k v (Forest_span.mk g.Start 0 (w.length : Int)) = some (((sat (trees (Rs g w) ρ g.Nts.toNat g.Start.toNat 0 w.length).length : Nat) : Int), v') := by
      have e4 : F.forest.grove_count k v (Forest_span.mk (g.Start.toNat : Int) 0 (w.length : Int)) = some (((sat (trees (Rs g w) ρ g.Nts.toNat g.Start.toNat 0 w.length).length : Nat) : Int), v') := e2
      rw [Int.toNat_of_nonneg hs1] at e4
      exact e4
    unfold F.forest.Build
    rw [he, h, Option.bind_some]
    simp only [bne_self_eq_false, Bool.false_eq_true, if_false]
    rw [e1, Option.bind_some, e3, Option.bind_some]
    by_cases c4 : (trees (Rs g w) ρ g.Nts.toNat g.Start.toNat 0 w.length) = []
    · left
      refine ⟨c4, ?_⟩
      rw [c4]
      rfl
    · right
      refine ⟨c4, ?_⟩
      have c5 : sat (trees (Rs g w) ρ g.Nts.toNat g.Start.toNat 0 w.length).length ≠ 0 := fun h => c4 (List.length_eq_zero_iff.1 (sat_zero_iff.1 h))
      have d5 : (((sat (trees (Rs g w) ρ g.Nts.toNat g.Start.toNat 0 w.length).length : Nat) : Int) == 0) = false := by rw [beq_eq_false_iff_ne]; omega
      simp only [d5, Bool.false_eq_true, if_false]
      have hbi := root_BI (w := w) (rightG hr) (trees_fair ρ g.Nts.toNat _ _ _ c4)
      obtain ⟨ns, al, hb, hbi', hlen⟩ := bld_ok C hB k _ _ hbi (by simp only [List.length_nil]; omega)
      refine ⟨ns, al, hb, hbi', hlen, ?_⟩
      obtain ⟨sp', e6, hpr⟩ := node_F (v := v') (rt := 0) (ns := []) (al := []) (sp := []) (pa := []) (by simp) (by simp) ⟨fun _ _ _ => rfl, fun _ _ _ _ => rfl⟩ g.Start.toNat 0 w.length
      have hnum : num [] (.c g.Start.toNat 0 w.length) = (0, [rootQ g w]) := rfl
      rw [hnum] at e6 hpr
      have e7 : F.forest.packer_node (Forest_packer.mk v' [] [] (Forest.mk 0 [])) (Forest_span.mk g.Start 0 (w.length : Int)) = some ((0 : Int), ⟨v', sp', [], ⟨0, nodesF [rootQ g w] []⟩⟩) := by
        unfold spn at e6
        rw [Int.toNat_of_nonneg hs1] at e6
        exact e6
      have hmk : Forest_grove.mk v.g v.w_ v.by_ v'.whole v'.counts v'.rows = v' := hgr.mk_eq hv.gr hv.tx rfl
      rw [hmk, e7, Option.bind_some]
      obtain ⟨z, e8⟩ := build_l1_F C hB (k := k) (by omega) hv.gr hv.tx rfl k [rootQ g w] [] v' sp' [] ns al hbi hpr ⟨st, hgr, hkn⟩ hb
      have e9 : F.forest.Build_l1 k v k 0 (nodesF [rootQ g w] []) v'.whole v'.counts v'.rows sp' [] = some (nodesF ns al, z) := e8
      simp only [e9, Option.bind_some]
end
end Go.Vc
namespace Go.Vc
open Go Ea
abbrev pkD (t : Ref07_Table) (rt : Int) (N : List FNode) : Ref08_Packer := ⟨t, ⟨rt, N⟩⟩
theorem key_eq {rec_ : Int → Option (LR Unit (Int × Ref08_Packer))} {p : Ref08_Packer} {i : Int} (y x : Qu) (l l' : List Alt) :
    (if ((nodeF y l).Nt == (nodeF x l').Nt) = true then
      if ((nodeF y l).Rule == (nodeF x l').Rule) = true then
        if ((nodeF y l).Dot == (nodeF x l').Dot) = true then
          if ((nodeF y l).From == (nodeF x l').From) = true then F.ref08.Packer_number_j3 i p rec_ ((nodeF y l).To == (nodeF x l').To)
          else F.ref08.Packer_number_j3 i p rec_ false
        else F.ref08.Packer_number_j3 i p rec_ false
      else F.ref08.Packer_number_j3 i p rec_ false
    else F.ref08.Packer_number_j3 i p rec_ false) = F.ref08.Packer_number_j3 i p rec_ (decide (y = x)) := by
  have hI : ∀ v v' : Nat, (((v : Nat) : Int) == ((v' : Nat) : Int)) = decide (v = v') := fun v v' => by
    rw [Bool.eq_iff_iff, beq_iff_eq, decide_eq_true_eq]
    omega
  cases y with
  | c a u v =>
    cases x with
    | c a' u' v' =>
      simp only [nodeF, beq_iff_eq, Int.natCast_inj, Qu.c.injEq, if_true]
      by_cases h1 : a = a' <;> by_cases h2 : u = u' <;> by_cases h3 : v = v' <;> simp [h1, h2, h3, hI]
    | r q' d' u' v' =>
      have : ¬ (((a : Nat) : Int) = -1) := by omega
      simp [nodeF, this]
  | r q d u v =>
    cases x with
    | c a' u' v' =>
      have : ¬ ((-1 : Int) = ((a' : Nat) : Int)) := by omega
      simp [nodeF, this]
    | r q' d' u' v' =>
      simp only [nodeF, beq_iff_eq, Int.natCast_inj, Qu.r.injEq, if_true]
      by_cases h0 : q = q' <;> by_cases h1 : d = d' <;> by_cases h2 : u = u' <;> by_cases h3 : v = v' <;> simp [h0, h1, h2, h3, hI]
theorem idxOf_first {x : Qu} : ∀ {ns : List Qu} {i : Nat}, ns[i]? = some x → (∀ t, t < i → ns[t]? ≠ some x) → ns.idxOf x = i
  | [], i, h, _ => by cases h
  | y :: ns, 0, h, _ => by
    have : y = x := by simpa using h
    subst this
    exact List.idxOf_cons_self
  | y :: ns, i + 1, h, h2 => by
    have h3 : y ≠ x := fun e => h2 0 (by omega) (by simp [e])
    have ih := idxOf_first (ns := ns) (i := i) (by simpa using h) fun t ht => by
      have := h2 (t + 1) (by omega)
      simpa using this
    rw [List.idxOf_cons, ih, beq_eq_false_iff_ne.2 h3]
    rfl
theorem number_ok {k : Nat} {t : Ref07_Table} {rt : Int} {ns : List Qu} {al : List (List Alt)} (hk : ns.length < k) (hl : ns.length ≤ 1000000) (ha : al.length ≤ ns.length) (x : Qu) :
    F.ref08.Packer_number k (pkD t rt (nodesF ns al)) (nodeF x []) = some (((num ns x).1 : Int), pkD t rt (nodesF (num ns x).2 al)) := by
  unfold F.ref08.Packer_number
  have key := loop_inv0 (n := ns.length) (k := k) (σ := Unit) (s := ()) (L := fun j i _ => F.ref08.Packer_number_l1 (pkD t rt (nodesF ns al)) (nodeF x []) j i) (I := fun i _ => ∀ u, u < i → ns[u]? ≠ some x)
    (Q := fun o => (o = some (.done ()) ∧ x ∉ ns) ∨ (o = some (.ret (((ns.idxOf x : Nat) : Int), pkD t rt (nodesF ns al))) ∧ x ∈ ns)) hk (fun u hu => by omega) (fun j i s hi hI => ?_) (fun j s hI => ?_)
  · rcases key with ⟨e, hx⟩ | ⟨e, hx⟩
    · rw [e, Option.bind_some]
      unfold num
      have d1 : ∀ N : FNode, decide (((nodesF ns al).length + ([N] : List FNode).length) * 88 ≤ 140737488355328) = true := fun N => decide_eq_true (by rw [nodesF_len, List.length_singleton]; omega)
      have d2 : ∀ N : FNode, decide ((nodesF ns al).length + ([N] : List FNode).length ≤ 9223372036854775807) = true := fun N => decide_eq_true (by rw [nodesF_len, List.length_singleton]; omega)
      simp only [LR.fin, d1, d2, if_true]
      unfold F.ref08.Packer_number_j4
      rw [if_neg hx, nodesF_app ha]
      have : IntKind.wrap .i64 (((nodesF ns al ++ ([nodeF x []] : List FNode)).length : Int) - 1) = ((ns.length : Nat) : Int) := by
        rw [List.length_append, nodesF_len, List.length_singleton, wrap_i64 (by omega) (by omega)]; omega
      simp only [this]
    · rw [e, Option.bind_some]
      unfold num
      rw [if_pos hx]
      rfl
  · have hi' : i < (nodesF ns al).length := by rw [nodesF_len]; exact hi
    have hg : (nodesF ns al)[i] = nodeF ns[i] (al.getD i []) := nodesF_get hi
    simp only [F.ref08.Packer_number_l1, ix_lt hi', ix_in hi', ix_at hi', if_true, hg]
    rw [key_eq]
    unfold F.ref08.Packer_number_j3 F.ref08.Packer_number_j2
    by_cases hx : ns[i] = x
    · right; right
      have hget : ns[i]? = some x := by rw [List.getElem?_eq_getElem hi, hx]
      rw [decide_eq_true hx, if_pos rfl, idxOf_first hget hI]
      exact ⟨rfl, List.mem_of_getElem? hget⟩
    · left
      refine ⟨(), fun u hu => ?_, ?_⟩
      · by_cases hui : u = i
        · subst hui
          rw [List.getElem?_eq_getElem hi]
          exact fun e => hx (Option.some.inj e)
        · exact hI u (by omega)
      · rw [decide_eq_false hx, if_neg (by simp), ix_inc (by omega)]
  · have d0 : decide (((ns.length : Nat) : Int) < ((nodesF ns al).length : Int)) = false := ix_ge (by rw [nodesF_len]; omega)
    simp only [F.ref08.Packer_number_l1, d0, Bool.false_eq_true, if_false]
    refine .inl ⟨trivial, fun hx => ?_⟩
    obtain ⟨u, hu, e⟩ := List.mem_iff_getElem.1 hx
    exact hI u hu (by rw [List.getElem?_eq_getElem hu, e])
theorem dpiece_ok {k : Nat} {t : Ref07_Table} {rt : Int} {ns : List Qu} {al : List (List Alt)} (hk : ns.length < k) (hl : ns.length ≤ 1000000) (ha : al.length ≤ ns.length) (q d i j : Nat) :
    F.ref08.Packer_piece k (pkD t rt (nodesF ns al)) (q : Int) (d : Int) (i : Int) (j : Int) = some ((pce ns q d i j).1, pkD t rt (nodesF (pce ns q d i j).2 al)) := by
  unfold F.ref08.Packer_piece pce
  by_cases h0 : d = 0
  · subst h0
    rfl
  · have b0 : ((d : Int) == 0) = false := by rw [beq_eq_false_iff_ne]; omega
    have e := number_ok (t := t) (rt := rt) hk hl ha (.r q d i j)
    have e' : F.ref08.Packer_number k (pkD t rt (nodesF ns al)) (FNode.mk (-1) (q : Int) (d : Int) (i : Int) (j : Int) [] []) = some (((num ns (.r q d i j)).1 : Int), pkD t rt (nodesF (num ns (.r q d i j)).2 al)) := e
    simp only [b0, Bool.false_eq_true, if_false, if_neg h0, e', Option.bind_some]
section
variable {g : Gram} {w : List Int} {v0 : Forest_grove} {ρ : Nat → Nat} {Y : List Bool}
theorem dwaysC_ok (C : Ctx g w v0 ρ) (D : Cx g w Y ρ) (hB : 4 * size (Rs g w) * (w.length + 1) * (w.length + 1) * (w.length + 1) ≤ 500000) {k : Nat} (hk : 600000 ≤ k) {a i j : Nat} (hx : NI g w (.c a i j)) {rt : Int} {F0 : List FNode} {x : FNode} (hn1 : x.Nt = (a : Int)) (hn2 : x.From = (i : Int)) (hn3 : x.To = (j : Int)) {al : List (List Alt)} :
    ∀ (c t : Nat) (out : List Alt) (ns : List Qu) (ff : Nat), t + c = g.Rules.length → c < ff → out.length + c ≤ 1000 → ns.Nodup → (∀ x ∈ ns, NI g w x) → al.length ≤ ns.length →
      F.ref08.Packer_ways_l1 k (pkD (tabF g w Y) rt F0) x ff out (t : Int) (nodesF ns al) =
        some ((wayC (fun q => gCw g w ρ q i j) (fun q => ((Rs g w)[q]?.map fun r => r.rhs.length).getD 0) i j (((g.Rules.zipIdx.drop t).filter fun x => x.1.Lhs.toNat == a).map fun x => x.2) out ns).1, nodesF (wayC (fun q => gCw g w ρ q i j) (fun q => ((Rs g w)[q]?.map fun r => r.rhs.length).getD 0) i j (((g.Rules.zipIdx.drop t).filter fun x => x.1.Lhs.toNat == a).map fun x => x.2) out ns).2 al)
  | _, _, _, _, 0, _, h, _, _, _, _ => by omega
  | 0, t, out, ns, ff + 1, htc, _, _, hnd, hok, hal => by
    have : t = g.Rules.length := by omega
    subst this
    rw [List.drop_eq_nil_of_le (by simp)]
    have hG : (pkD (tabF g w Y) rt F0).T.G = g := rfl
    simp only [F.ref08.Packer_ways_l1, hG, ix_ge (Nat.lt_irrefl _), Bool.false_eq_true, if_false]
    rfl
  | c + 1, t, out, ns, ff + 1, htc, hff, hout, hnd, hok, hal => by
    obtain ⟨ha, hij, hj, hd⟩ := id hx
    have hlr := C.hsm.rules
    have hwl := C.hwl
    have hnl := NI_len C.hg hB hnd hok
    have hq : t < g.Rules.length := by omega
    have hrm := List.getElem_mem hq
    have h80 := C.hg.rhs _ hrm
    have hl1 := C.hg.lhs1 _ hrm
    have hG : (pkD (tabF g w Y) rt F0).T.G = g := rfl
    have hz : t < g.Rules.zipIdx.length := by rw [List.length_zipIdx]; exact hq
    have hze : g.Rules.zipIdx[t] = (g.Rules[t], t) := by simp
    obtain ⟨v, ev, hvl, hv⟩ := ends_ok D.h D.hY (k := k) (by omega) (D.h.syms hrm) (by omega) (i := i)
    have ev' : F.ref07.Table_Ends k (pkD (tabF g w Y) rt F0).T g.Rules[t].Rhs (i : Int) = some v := ev
    have hjv : j < v.length := by omega
    have hvg : v.getD j false = v[j] := by simp [hjv]
    have hvj := hv j hj
    rw [D.hT.ends hj, hvg] at hvj
    rw [List.drop_eq_getElem_cons hz, hze, List.filter_cons]
    simp only [F.ref08.Packer_ways_l1, hG, ix_lt hq, ix_in hq, ix_at hq, if_true, hn1, hn2, hn3, ev', Option.bind_some]
    unfold F.ref08.Packer_ways_j3 F.ref08.Packer_ways_j4 F.ref08.Packer_ways_j2
    rw [ix_inc (by omega)]
    by_cases hla : g.Rules[t].Lhs.toNat = a
    · have db : (g.Rules[t].Lhs == (a : Int)) = true := by rw [beq_iff_eq]; omega
      have db2 : (g.Rules[t].Lhs.toNat == a) = true := by rw [beq_iff_eq]; exact hla
      simp only [db, db2, if_true, ix_in hjv, ix_at hjv, hG, ix_at hq, List.map_cons]
      have hgc : gCw g w ρ t i j = true ↔ v[j] = true := (gCw_iff C hq).trans hvj.symm
      have hlen : ((Rs g w)[t]?.map fun r => r.rhs.length).getD 0 = g.Rules[t].Rhs.length := by rw [Rs_at hq]; simp only [Option.map_some, Option.getD_some, toRu_len]
      unfold wayC
      cases hb : v[j] with
      | true =>
        have hgt := hgc.2 hb
        have e4 := dpiece_ok (k := k) (t := tabF g w Y) (rt := rt) (al := al) (by omega) (by omega) hal t g.Rules[t].Rhs.length i j
        obtain ⟨p1, p2⟩ := push32 (l := out) (x := Alt.mk ((t : Nat) : Int) 0 (pce ns t g.Rules[t].Rhs.length i j).1 (-1)) (by omega)
        rw [if_pos hgt, hlen]
        simp only [if_true, hn2, hn3, e4, Option.bind_some, p1, p2]
        have hE := pce_ext (P := NI g w) (q := t) (d := g.Rules[t].Rhs.length) (i := i) (j := j) hnd hok (fun hd0 => by
          have hder := (gCw_iff C hq).1 hgt
          exact ⟨hq, by omega, Nat.le_refl _, hij, by rw [List.take_of_length_le (by rw [toRu_len]; exact Nat.le_refl _)]; exact hder, j, hj, by rw [List.drop_eq_nil_of_le (by rw [toRu_len]; exact Nat.le_refl _)]; exact .nil j⟩)
        exact dwaysC_ok C D hB hk hx hn1 hn2 hn3 c (t + 1) (out ++ [Alt.mk ((t : Nat) : Int) 0 (pce ns t g.Rules[t].Rhs.length i j).1 (-1)]) _ ff (by omega) (by omega) (by rw [List.length_append, List.length_singleton]; omega) hE.nd hE.ok (Nat.le_trans hal (pce_len _ _ _ _ _))
      | false =>
        rw [if_neg (show ¬ (gCw g w ρ t i j = true) from fun h => by rw [hgc.1 h] at hb; cases hb)]
        simp only [Bool.false_eq_true, if_false]
        exact dwaysC_ok C D hB hk hx hn1 hn2 hn3 c (t + 1) _ _ ff (by omega) (by omega) (by omega) hnd hok hal
    · have db : (g.Rules[t].Lhs == (a : Int)) = false := by rw [beq_eq_false_iff_ne]; omega
      have db2 : (g.Rules[t].Lhs.toNat == a) = false := by rw [beq_eq_false_iff_ne]; exact hla
      simp only [db, db2, Bool.false_eq_true, if_false]
      exact dwaysC_ok C D hB hk hx hn1 hn2 hn3 c (t + 1) _ _ ff (by omega) (by omega) (by omega) hnd hok hal
theorem dwaysR_ok (C : Ctx g w v0 ρ) (D : Cx g w Y ρ) (hB : 4 * size (Rs g w) * (w.length + 1) * (w.length + 1) * (w.length + 1) ≤ 500000) {k : Nat} (hk : 600000 ≤ k) {q d i j : Nat} (hx : NI g w (.r q (d + 1) i j)) (hq : q < g.Rules.length) (hd : d < g.Rules[q].Rhs.length) {rt : Int} {F0 : List FNode} {x : FNode} (hn0 : x.Rule = (q : Int)) (hn1 : x.Dot = ((d + 1 : Nat) : Int)) (hn2 : x.From = (i : Int)) (hn3 : x.To = (j : Int)) {v : List Bool} (hvl : v.length = w.length + 1) (hv : ∀ m, m ≤ w.length → (v.getD m false = true ↔ gRw g w ρ q d i m = true)) {al : List (List Alt)} :
    ∀ (c m : Nat) (out : List Alt) (ns : List Qu) (ff : Nat), m + c = j + 1 ∨ (c = 0 ∧ j < m ∧ m ≤ 100) → i ≤ m → c < ff → out.length + c ≤ 1000 → ns.Nodup → (∀ x ∈ ns, NI g w x) → al.length ≤ ns.length →
      F.ref08.Packer_ways_l5 k x v (pkD (tabF g w Y) rt F0) ff out (m : Int) (nodesF ns al) =
        some ((wayR (toSy w g.Rules[q].Rhs[d]) (fun m => symB (hasW v0) (toSy w g.Rules[q].Rhs[d]) m j && gRw g w ρ q d i m) q d i j (List.range' m c) out ns).1, nodesF (wayR (toSy w g.Rules[q].Rhs[d]) (fun m => symB (hasW v0) (toSy w g.Rules[q].Rhs[d]) m j && gRw g w ρ q d i m) q d i j (List.range' m c) out ns).2 al)
  | _, _, _, _, 0, _, _, h, _, _, _, _ => by omega
  | 0, m, out, ns, ff + 1, hmc, _, _, _, hnd, hok, hal => by
    rw [List.range'_zero]
    have : decide ((m : Int) ≤ x.To) = false := decide_eq_false (by rw [hn3]; omega)
    simp only [F.ref08.Packer_ways_l5, this, Bool.false_eq_true, if_false]
    rfl
  | c + 1, m, out, ns, ff + 1, hmc, him, hff, hout, hnd, hok, hal => by
    have hmj : m ≤ j := by omega
    have hwl := C.hwl
    have hnl := NI_len C.hg hB hnd hok
    obtain ⟨_, _, _, hij, hder, J, hJ, hdr⟩ := id hx
    have hjJ := hdr.le
    have hd0 : decide ((m : Int) ≤ (j : Int)) = true := decide_eq_true (by omega)
    have hrm := List.getElem_mem hq
    have h80 := C.hg.rhs _ hrm
    have hsm := List.getElem_mem hd
    have hG : (pkD (tabF g w Y) rt F0).T.G = g := rfl
    have hdot : IntKind.wrap .i64 (x.Dot - 1) = (d : Int) := by
      rw [hn1, wrap_i64 (by omega) (by omega)]; omega
    have hmv : m < v.length := by omega
    have hvg : v.getD m false = v[m] := by simp [hmv]
    have hvm := hv m (by omega)
    rw [hvg] at hvm
    rw [List.range'_succ]
    unfold wayR
    simp only [F.ref08.Packer_ways_l5, hn0, hn2, hn3, hd0, if_true, ix_in hmv, ix_at hmv, hG, ix_at hq, hdot, ix_at hd]
    have hskip : F.ref08.Packer_ways_j7 k (F.ref08.Packer_ways_l5 k x v (pkD (tabF g w Y) rt F0) ff) (m : Int) out (nodesF ns al) (pkD (tabF g w Y) rt F0) x true = some ((wayR (toSy w g.Rules[q].Rhs[d]) (fun m => symB (hasW v0) (toSy w g.Rules[q].Rhs[d]) m j && gRw g w ρ q d i m) q d i j (List.range' (m + 1) c) out ns).1, nodesF (wayR (toSy w g.Rules[q].Rhs[d]) (fun m => symB (hasW v0) (toSy w g.Rules[q].Rhs[d]) m j && gRw g w ρ q d i m) q d i j (List.range' (m + 1) c) out ns).2 al) := by
      unfold F.ref08.Packer_ways_j7 F.ref08.Packer_ways_j6
      rw [if_pos rfl, ix_inc (by omega)]
      exact dwaysR_ok C D hB hk hx hq hd hn0 hn1 hn2 hn3 hvl hv c (m + 1) out ns ff (by omega) (by omega) (by omega) (by omega) hnd hok hal
    cases hb : v[m] with
    | false =>
      have hgr' : gRw g w ρ q d i m = false := by
        cases hh : gRw g w ρ q d i m with
        | false => rfl
        | true => rw [hvm.2 hh] at hb; cases hb
      simp only [Bool.not_false, if_true, hgr', Bool.and_false, Bool.false_eq_true, if_false]
      exact hskip
    | true =>
      have hgr' : gRw g w ρ q d i m = true := hvm.1 hb
      obtain ⟨b1, eb1, hb1⟩ := sym_ok D.h D.hY (k := k) (by omega) (D.h.syms hrm _ hsm) (i := m) (j := j) (by omega) (by omega)
      rw [symT_der D (by omega), ← symB_der' C (by omega)] at hb1
      have eb1' : F.ref07.Table_Sym k (pkD (tabF g w Y) rt F0).T g.Rules[q].Rhs[d] (m : Int) (j : Int) = some b1 := eb1
      simp only [Bool.not_true, Bool.false_eq_true, if_false, eb1', Option.bind_some]
      cases b1 with
      | false =>
        have hsb' : symB (hasW v0) (toSy w g.Rules[q].Rhs[d]) m j = false := by
          cases hh : symB (hasW v0) (toSy w g.Rules[q].Rhs[d]) m j with
          | false => rfl
          | true => have := hb1.2 hh; cases this
        simp only [Bool.not_false, hsb', Bool.false_and, Bool.false_eq_true, if_false]
        exact hskip
      | true =>
        have hsb := hb1.1 rfl
        simp only [Bool.not_true, hsb, hgr', Bool.and_self, if_true]
        obtain ⟨k1, k2, ⟨J', hJ', k3⟩, k4⟩ := wayR_kids C hx him hmj hq hd (by rw [hsb, hgr']; rfl)
        have hE := pce_ext (P := NI g w) (q := q) (d := d) (i := i) (j := m) hnd hok (fun hd0 => ⟨hq, by omega, by omega, him, k2, J', hJ', k3⟩)
        have hal2 := Nat.le_trans hal (pce_len ns q d i m)
        have hnl2 := NI_len C.hg hB hE.nd hE.ok
        have e4 : F.ref08.Packer_piece k (Ref08_Packer.mk (pkD (tabF g w Y) rt F0).T (Forest.mk (pkD (tabF g w Y) rt F0).F.Root (nodesF ns al))) (q : Int) (d : Int) (i : Int) (m : Int) = some ((pce ns q d i m).1, pkD (tabF g w Y) rt (nodesF (pce ns q d i m).2 al)) := dpiece_ok (k := k) (t := tabF g w Y) (rt := rt) (al := al) (by omega) (by omega) hal q d i m
        unfold F.ref08.Packer_ways_j7
        simp only [Bool.false_eq_true, if_false, hn0, hn2, hn3, hdot, e4, Option.bind_some, hG, ix_at hq, ix_at hd]
        by_cases h0 : 0 ≤ g.Rules[q].Rhs[d].Nt
        · have hs : toSy w g.Rules[q].Rhs[d] = .nt g.Rules[q].Rhs[d].Nt.toNat := by unfold toSy; rw [if_pos h0]
          have e6 : F.ref08.Packer_number k (Ref08_Packer.mk (pkD (tabF g w Y) rt F0).T (Forest.mk (pkD (tabF g w Y) rt F0).F.Root (nodesF (pce ns q d i m).2 al))) (FNode.mk g.Rules[q].Rhs[d].Nt (-1) (-1) (m : Int) (j : Int) [] []) = some (((num (pce ns q d i m).2 (.c g.Rules[q].Rhs[d].Nt.toNat m j)).1 : Int), pkD (tabF g w Y) rt (nodesF (num (pce ns q d i m).2 (.c g.Rules[q].Rhs[d].Nt.toNat m j)).2 al)) := by
            have e5 := number_ok (k := k) (t := tabF g w Y) (rt := rt) (al := al) (by omega) (by omega) hal2 (.c g.Rules[q].Rhs[d].Nt.toNat m j)
            unfold nodeF at e5
            simp only at e5
            rw [Int.toNat_of_nonneg h0] at e5
            exact e5
          rw [decide_eq_true h0, if_pos rfl, e6, Option.bind_some]
          have hnt := C.hg.nt2 _ hrm _ hsm
          have k1' := k1
          rw [hs] at k1'
          have hE2 := num_ext (P := NI g w) (x := .c g.Rules[q].Rhs[d].Nt.toNat m j) hE.nd hE.ok ⟨by omega, hmj, k4, k1'⟩
          unfold F.ref08.Packer_ways_j8 F.ref08.Packer_ways_j6
          obtain ⟨p1, p2⟩ := push32 (l := out) (x := Alt.mk x.Rule (m : Int) (pce ns q d i m).1 (((num (pce ns q d i m).2 (.c g.Rules[q].Rhs[d].Nt.toNat m j)).1 : Nat) : Int)) (by omega)
          rw [ix_inc (by omega)]
          simp only [p1, p2, if_true]
          have ih := dwaysR_ok C D hB hk hx hq hd (rt := rt) (F0 := F0) hn0 hn1 hn2 hn3 hvl hv (al := al) c (m + 1) (out ++ [⟨(q : Int), (m : Int), (pce ns q d i m).1, ((num (pce ns q d i m).2 (.c g.Rules[q].Rhs[d].Nt.toNat m j)).1 : Int)⟩]) _ ff (by omega) (by omega) (by omega) (by rw [List.length_append, List.length_singleton]; omega) hE2.nd hE2.ok (Nat.le_trans hal2 (num_len _ _))
          rw [hn0]
          simp only [hs] at ih ⊢
          exact ih
        · have hs : toSy w g.Rules[q].Rhs[d] = .tm (fun p => decide (p < w.length) && hasB g.Rules[q].Rhs[d].Set (w.getD p 0)) := by unfold toSy; rw [if_neg h0]
          rw [decide_eq_false h0, if_neg (by simp)]
          unfold F.ref08.Packer_ways_j8 F.ref08.Packer_ways_j6
          obtain ⟨p1, p2⟩ := push32 (l := out) (x := Alt.mk x.Rule (m : Int) (pce ns q d i m).1 (-1)) (by omega)
          rw [ix_inc (by omega)]
          simp only [p1, p2, if_true]
          have ih := dwaysR_ok C D hB hk hx hq hd (rt := rt) (F0 := F0) hn0 hn1 hn2 hn3 hvl hv (al := al) c (m + 1) (out ++ [⟨(q : Int), (m : Int), (pce ns q d i m).1, -1⟩]) _ ff (by omega) (by omega) (by omega) (by rw [List.length_append, List.length_singleton]; omega) hE.nd hE.ok hal2
          rw [hn0]
          simp only [hs] at ih ⊢
          exact ih
end
end Go.Vc
namespace Go.Vc
open Go Ea
section
variable {g : Gram} {w : List Int} {v0 : Forest_grove} {ρ : Nat → Nat} {Y : List Bool}
theorem dways_ok (C : Ctx g w v0 ρ) (D : Cx g w Y ρ) (hB : 4 * size (Rs g w) * (w.length + 1) * (w.length + 1) * (w.length + 1) ≤ 500000) {k : Nat} (hk : 600000 ≤ k) {x : Qu} (hx : NI g w x) {ns : List Qu} {al : List (List Alt)} {rt : Int} {l0 : List Alt} (hnd : ns.Nodup) (hok : ∀ x ∈ ns, NI g w x) (hal : al.length ≤ ns.length) :
    F.ref08.Packer_ways k (pkD (tabF g w Y) rt (nodesF ns al)) (nodeF x l0) = some ((waysW g w v0 ρ x ns).1, pkD (tabF g w Y) rt (nodesF (waysW g w v0 ρ x ns).2 al)) := by
  have hlr := C.hsm.rules
  have hwl := C.hwl
  cases x with
  | c a i j =>
    unfold F.ref08.Packer_ways
    have d0 : decide ((nodeF (.c a i j) l0).Dot < 0) = true := rfl
    simp only [d0, if_true]
    have e := dwaysC_ok C D hB hk hx (rt := rt) (F0 := nodesF ns al) (x := nodeF (.c a i j) l0) rfl rfl rfl (al := al) g.Rules.length 0 [] ns k (by omega) (by omega) (by simp only [List.length_nil]; omega) hnd hok hal
    have e' : F.ref08.Packer_ways_l1 k (pkD (tabF g w Y) rt (nodesF ns al)) (nodeF (.c a i j) l0) k [] 0 (nodesF ns al) = some ((waysW g w v0 ρ (.c a i j) ns).1, nodesF (waysW g w v0 ρ (.c a i j) ns).2 al) := e
    rw [e']
    rfl
  | r q d i j =>
    have hx' := hx
    obtain ⟨hq, hd1, hd2, hij, hder, J, hJ, hdr⟩ := hx
    obtain ⟨d, rfl⟩ : ∃ d', d = d' + 1 := ⟨d - 1, by omega⟩
    have hd : d < g.Rules[q].Rhs.length := by omega
    have hjJ := hdr.le
    have hrm := List.getElem_mem hq
    have h80 := C.hg.rhs _ hrm
    have hww : waysW g w v0 ρ (.r q (d + 1) i j) ns = wayR (toSy w g.Rules[q].Rhs[d]) (fun m => symB (hasW v0) (toSy w g.Rules[q].Rhs[d]) m j && gRw g w ρ q d i m) q d i j (List.range' i (j + 1 - i)) [] ns := by
      show waysQ _ _ _ _ _ (.r q (d + 1) i j) ns = _
      unfold waysQ
      simp only [Rs_at hq, Nat.add_sub_cancel, toRu_get hd]
    rw [hww]
    unfold F.ref08.Packer_ways
    have hG : (pkD (tabF g w Y) rt (nodesF ns al)).T.G = g := rfl
    have d0 : decide ((nodeF (.r q (d + 1) i j) l0).Dot < 0) = false := decide_eq_false (by simp only [nodeF]; omega)
    have hin : inR (nodeF (.r q (d + 1) i j) l0).Rule g.Rules.length = true := ix_in hq
    have har : at_ g.Rules (nodeF (.r q (d + 1) i j) l0).Rule = g.Rules[q] := ix_at hq
    have hdot : IntKind.wrap .i64 ((nodeF (.r q (d + 1) i j) l0).Dot - 1) = (d : Int) := by
      show IntKind.wrap .i64 (((d + 1 : Nat) : Int) - 1) = _
      rw [wrap_i64 (by omega) (by omega)]; omega
    have ok1 : okSub 0 (d : Int) g.Rules[q].Rhs.length = true := okSub_iff.2 ⟨⟨by omega, by omega⟩, by omega⟩
    have sb : sub g.Rules[q].Rhs 0 (d : Int) = g.Rules[q].Rhs.take d := by unfold sub; simp
    have hfr : (nodeF (.r q (d + 1) i j) l0).From = (i : Int) := rfl
    obtain ⟨v, ev, hvl, hv⟩ := ends_ok D.h D.hY (k := k) (by omega) (rhs := g.Rules[q].Rhs.take d) (fun s hs => D.h.syms hrm s (List.mem_of_mem_take hs)) (by rw [List.length_take]; omega) (i := i)
    have ev' : F.ref07.Table_Ends k (pkD (tabF g w Y) rt (nodesF ns al)).T (g.Rules[q].Rhs.take d) (i : Int) = some v := ev
    simp only [d0, hG, hin, har, hdot, ix_in hd, ok1, sb, hfr, if_true, Bool.false_eq_true, if_false, ev', Option.bind_some]
    have e := dwaysR_ok C D hB hk hx' hq hd (rt := rt) (F0 := nodesF ns al) (x := nodeF (.r q (d + 1) i j) l0) rfl rfl rfl rfl hvl (fun m hm => by
      rw [hv m hm, D.hT.ends hm, gRw_iff C hq, List.map_take]
      rfl) (al := al) (j + 1 - i) i [] ns k (by omega) (by omega) (by omega) (by simp only [List.length_nil]; omega) hnd hok hal
    rw [e]
    rfl
theorem dbuild_l1 (C : Ctx g w v0 ρ) (D : Cx g w Y ρ) (hB : 4 * size (Rs g w) * (w.length + 1) * (w.length + 1) * (w.length + 1) ≤ 500000) {k : Nat} (hk : 600000 ≤ k) {root : Qu} : ∀ (c : Nat) (ns : List Qu) (al : List (List Alt)) (ns' : List Qu) (al' : List (List Alt)), BI2 g w root ns al → bld (waysW g w v0 ρ) c ns al = some (ns', al') →
    F.ref08.Build_l1 k (tabF g w Y) c (al.length : Int) (nodesF ns al) = some (nodesF ns' al')
  | 0, _, _, _, _, _, h => by cases h
  | c + 1, ns, al, ns', al', hbi, h => by
    unfold bld at h
    have hnl := NI_len C.hg hB hbi.nd hbi.ok
    have hal := hbi.le
    cases hx : ns[al.length]? with
    | none =>
      rw [hx] at h
      cases h
      have hge := List.getElem?_eq_none_iff.1 hx
      have d0 : decide ((al.length : Int) < ((nodesF ns al).length : Int)) = false := ix_ge (by rw [nodesF_len]; omega)
      simp only [F.ref08.Build_l1, d0, Bool.false_eq_true, if_false]
    | some x =>
      rw [hx] at h
      simp only at h
      have hlt := (List.getElem?_eq_some_iff.1 hx).1
      have hxe := (List.getElem?_eq_some_iff.1 hx).2
      have hlt' : al.length < (nodesF ns al).length := by rw [nodesF_len]; exact hlt
      have hge : (nodesF ns al)[al.length] = nodeF x [] := by
        rw [nodesF_get hlt, hxe]
        congr 1
        rw [List.getD_eq_getElem?_getD, List.getElem?_eq_none (Nat.le_refl _)]
        rfl
      have hxm := List.mem_of_getElem? hx
      have e := dways_ok C D hB hk (hbi.ok x hxm) (rt := 0) (l0 := []) hbi.nd hbi.ok hal
      have hbi' := hbi.step C hx
      have hal' := hbi'.le
      rw [List.length_append, List.length_singleton] at hal'
      have hlt2 : al.length < (nodesF (waysW g w v0 ρ x ns).2 al).length := by rw [nodesF_len]; omega
      obtain ⟨hE, _⟩ := waysW_ext C (hbi.ok x hxm) hbi.nd hbi.ok
      obtain ⟨t, ht⟩ := hE.pre
      have hx2 : (waysW g w v0 ρ x ns).2[al.length]? = some x := by rw [ht, List.getElem?_append_left hlt]; exact hx
      have hge2 : (nodesF (waysW g w v0 ρ x ns).2 al)[al.length] = nodeF x [] := by
        have hlt3 : al.length < (waysW g w v0 ρ x ns).2.length := by omega
        rw [nodesF_get hlt3]
        have : (waysW g w v0 ρ x ns).2[al.length] = x := by
          rw [List.getElem?_eq_getElem hlt3] at hx2
          exact Option.some.inj hx2
        rw [this]
        congr 1
        rw [List.getD_eq_getElem?_getD, List.getElem?_eq_none (Nat.le_refl _)]
        rfl
      simp only [F.ref08.Build_l1, ix_lt hlt', ix_in hlt', ix_at hlt', if_true, hge, e, Option.bind_some, ix_in hlt2, ix_at hlt2, hge2, nodeF_alts]
      have hset : set_ (nodesF (waysW g w v0 ρ x ns).2 al) (al.length : Int) (nodeF x (waysW g w v0 ρ x ns).1) = nodesF (waysW g w v0 ρ x ns).2 (al ++ [(waysW g w v0 ρ x ns).1]) := (nodesF_set hx2).symm
      rw [hset, ix_inc (by omega)]
      have ih := dbuild_l1 C D hB hk c _ (al ++ [(waysW g w v0 ρ x ns).1]) ns' al' hbi' h
      rw [List.length_append, List.length_singleton] at ih
      exact ih
theorem RefBuild_ok {k : Nat} (hk : 1000000 ≤ k) (hr : rightB g = true) (hsm : SmallG g) (hwd : WordsG g) (C : Ctx g w v0 ρ) (hB : 4 * size (Rs g w) * (w.length + 1) * (w.length + 1) * (w.length + 1) ≤ 500000) (hfit : F.ref08.Fit k g w = some 0) :
    (trees (Rs g w) ρ g.Nts.toNat g.Start.toNat 0 w.length = [] → F.ref08.Build k g w = some (⟨-1, []⟩, 0)) ∧
    (trees (Rs g w) ρ g.Nts.toNat g.Start.toNat 0 w.length ≠ [] → ∀ ns al, bld (waysW g w v0 ρ) k [rootQ g w] [] = some (ns, al) → F.ref08.Build k g w = some (⟨0, nodesF ns al⟩, 0)) := by
  have hg := C.hg
  have hn := hsm.nts
  have hl := hsm.rules
  have hs1 := hg.s1
  have hs2 := hg.s2
  have h : Bd g w := ⟨hg, hwd, C.hw, hn, hl, C.hwl⟩
  obtain ⟨Y, eY, hYl, hT⟩ := Fill_ok h (k := k) (by omega)
  have D : Cx g w Y ρ := ⟨h, hYl, hT, C.hρ⟩
  have hhas := has_ok h hYl (a := g.Start.toNat) (i := 0) (j := w.length) (by omega) (by omega) (Nat.le_refl _)
  rw [Int.toNat_of_nonneg hs1] at hhas
  have hhas' : F.ref07.Table_Has (tabF g w Y) g.Start 0 (tabF g w Y).N_ = some (Y.getD (ixT w.length g.Start.toNat 0 w.length) false) := hhas
  have hYes : Y.getD (ixT w.length g.Start.toNat 0 w.length) false = true ↔ trees (Rs g w) ρ g.Nts.toNat g.Start.toNat 0 w.length ≠ [] := by
    rw [trees_some C.hρ, ← hT.nt (Nat.le_refl _)]
    unfold YesP
    exact ⟨fun h => ⟨by omega, by omega, Nat.le_refl _, h⟩, fun h => h.2.2.2⟩
  unfold F.ref08.Build
  rw [hfit, Option.bind_some]
  simp only [bne_self_eq_false, Bool.false_eq_true, if_false, eY, Option.bind_some, hhas']
  constructor
  · intro he
    have : Y.getD (ixT w.length g.Start.toNat 0 w.length) false = false := by
      cases hb : Y.getD (ixT w.length g.Start.toNat 0 w.length) false with
      | false => rfl
      | true => exact absurd he (hYes.1 hb)
    simp only [this, Bool.not_false, if_true]
  · intro hne ns al hb
    simp only [hYes.2 hne, Bool.not_true, Bool.false_eq_true, if_false]
    have hbi := root_BI (w := w) hg (trees_fair ρ g.Nts.toNat _ _ _ hne)
    have e6 := number_ok (k := k) (t := tabF g w Y) (rt := 0) (ns := []) (al := []) (by simp only [List.length_nil]; omega) (by simp) (by simp) (rootQ g w)
    have hnum : num [] (.c g.Start.toNat 0 w.length) = (0, [rootQ g w]) := rfl
    rw [hnum] at e6
    have e7 : F.ref08.Packer_number k (Ref08_Packer.mk (tabF g w Y) (Forest.mk 0 [])) (FNode.mk g.Start (-1) (-1) 0 (tabF g w Y).N_ [] []) = some ((0 : Int), pkD (tabF g w Y) 0 (nodesF [rootQ g w] [])) := by
      have e8 : F.ref08.Packer_number k (Ref08_Packer.mk (tabF g w Y) (Forest.mk 0 [])) (FNode.mk ((g.Start.toNat : Nat) : Int) (-1) (-1) 0 (tabF g w Y).N_ [] []) = some ((0 : Int), pkD (tabF g w Y) 0 (nodesF [rootQ g w] [])) := e6
      rw [Int.toNat_of_nonneg hs1] at e8
      exact e8
    rw [e7, Option.bind_some]
    have e9 : F.ref08.Build_l1 k (tabF g w Y) k 0 (nodesF [rootQ g w] []) = some (nodesF ns al) := dbuild_l1 C D hB (by omega) k [rootQ g w] [] ns al hbi hb
    simp only [e9, Option.bind_some]
end
theorem SameForest_refl {k : Nat} {f : Forest} (hk : f.Nodes.length < k) (hk2 : ∀ n ∈ f.Nodes, n.Alts.length < k) (hb : k ≤ 4611686018427387904) : F.ref08.SameForest k f f = some true := by
  unfold F.ref08.SameForest
  have d1 : (f.Root != f.Root) = false := by simp
  have d2 : (((f.Nodes.length : Nat) : Int) != ((f.Nodes.length : Nat) : Int)) = false := by simp
  rw [d1, if_neg (by simp), d2, if_neg (by simp)]
  have key := loop_inv0 (n := f.Nodes.length) (k := k) (σ := Unit) (s := ()) (L := fun j i _ => F.ref08.SameForest_l1 k f f j i) (I := fun _ _ => True) (Q := fun o => o = some (.done ())) hk trivial (fun j q s hq hI => ?_) (fun j s hI => ?_)
  · rw [key]; rfl
  · left
    refine ⟨(), trivial, ?_⟩
    simp only [F.ref08.SameForest_l1, ix_lt hq, ix_in hq, if_true]
    unfold F.ref08.SameForest_j3
    have dd : ∀ x : Int, (x != x) = false := fun x => by simp
    simp only [ix_at hq, dd, Bool.false_eq_true, if_false]
    unfold F.ref08.SameForest_j4
    have hal := hk2 _ (List.getElem_mem hq)
    have inner := loop_inv0 (n := f.Nodes[q].Alts.length) (k := k) (σ := Unit) (s := ()) (L := fun j i _ => F.ref08.SameForest_l5 f (q : Int) f j i) (I := fun _ _ => True) (Q := fun o => ∃ z, o = some (.done z)) hal trivial (fun j p s hp hI => ?_) (fun j s hI => ?_)
    · obtain ⟨z, e⟩ := inner
      rw [if_neg (by simp), e, Option.bind_some]
      simp only [LR.go]
      unfold F.ref08.SameForest_j2
      rw [ix_inc (by omega)]
    · left
      refine ⟨(), trivial, ?_⟩
      simp only [F.ref08.SameForest_l5, ix_at hq, ix_lt hp, ix_in hp, if_true, beq_self_eq_true, Bool.and_self, Bool.not_true, Bool.false_eq_true, if_false]
      rw [ix_inc (by omega)]
    · simp only [F.ref08.SameForest_l5, ix_at hq, ix_ge (Nat.lt_irrefl _), Bool.false_eq_true, if_false]
      exact ⟨_, rfl⟩
  · simp only [F.ref08.SameForest_l1, ix_ge (Nat.lt_irrefl _), Bool.false_eq_true, if_false]
def wayN (N : List FNode) : Nat := (N.map fun n => n.Alts.length).sum
theorem Size_ok {k : Nat} {f : Forest} (hk : f.Nodes.length < k) (hb : f.Nodes.length ≤ 1000000) (hw : wayN f.Nodes ≤ 1000000) : F.forest.Size k f = some ((f.Nodes.length : Int), ((wayN f.Nodes : Nat) : Int)) := by
  unfold F.forest.Size
  have key := loop_inv0 (n := f.Nodes.length) (k := k) (σ := Int) (s := 0) (L := fun j i s => F.forest.Size_l1 f j s i) (I := fun q s => s = ((((f.Nodes.take q).map fun n => n.Alts.length).sum : Nat) : Int)) (Q := fun o => o = some ((wayN f.Nodes : Nat) : Int)) hk rfl (fun j q s hq hI => ?_) (fun j s hI => ?_)
  · rw [key]; rfl
  · left
    subst hI
    refine ⟨_, rfl, ?_⟩
    have h1 := sum_take_le (fun n : FNode => n.Alts.length) f.Nodes (q + 1)
    have h2 : (f.Nodes.map fun n => n.Alts.length).sum ≤ 1000000 := hw
    rw [sum_take_succ _ hq] at h1 ⊢
    simp only [F.forest.Size_l1, ix_lt hq, ix_in hq, ix_at hq, if_true]
    rw [ix_inc (by omega), wrap_i64 (by omega) (by omega), ← Int.natCast_add]
  · subst hI
    simp only [F.forest.Size_l1, ix_ge (Nat.lt_irrefl _), Bool.false_eq_true, if_false, List.take_length]
    rfl
theorem waysL_ok {k : Nat} {f : Forest} {e : Int} (hk : f.Nodes.length < k) (hb : f.Nodes.length ≤ 1000000) (hw : wayN f.Nodes ≤ 1000000) : F.law08.ForestBuilds_l1 (f, e) k 0 0 = some ((wayN f.Nodes : Nat) : Int) := by
  refine loop_inv0 (n := f.Nodes.length) (k := k) (σ := Int) (s := 0) (L := fun j i s => F.law08.ForestBuilds_l1 (f, e) j s i) (I := fun q s => s = ((((f.Nodes.take q).map fun n => n.Alts.length).sum : Nat) : Int)) (Q := fun o => o = some ((wayN f.Nodes : Nat) : Int)) hk rfl (fun j q s hq hI => ?_) (fun j s hI => ?_)
  · left
    subst hI
    refine ⟨_, rfl, ?_⟩
    have h1 := sum_take_le (fun n : FNode => n.Alts.length) f.Nodes (q + 1)
    have h2 : (f.Nodes.map fun n => n.Alts.length).sum ≤ 1000000 := hw
    rw [sum_take_succ _ hq] at h1 ⊢
    simp only [F.law08.ForestBuilds_l1, ix_lt hq, ix_in hq, ix_at hq, if_true]
    rw [ix_inc (by omega), wrap_i64 (by omega) (by omega), ← Int.natCast_add]
  · subst hI
    simp only [F.law08.ForestBuilds_l1, ix_ge (Nat.lt_irrefl _), Bool.false_eq_true, if_false, List.take_length]
    rfl
section
variable {g : Gram} {w : List Int}
theorem nodes_bound (hg : RightG g) {root : Qu} {ns : List Qu} {al : List (List Alt)} (h : BI2 g w root ns al) (hl : al.length = ns.length) : (nodesF ns al).length + wayN (nodesF ns al) ≤ 4 * size (Rs g w) * (w.length + 1) * (w.length + 1) * (w.length + 1) := by
  refine Nat.le_trans ?_ (h.bound hg)
  have e1 : (nodesF ns al).length + wayN (nodesF ns al) = ((nodesF ns al).map fun n => n.Alts.length + 1).sum := by
    unfold wayN
    generalize nodesF ns al = N
    induction N with
    | nil => rfl
    | cons n N ih => rw [List.map_cons, List.map_cons, List.sum_cons, List.sum_cons, List.length_cons, ← ih]; omega
  rw [e1]
  unfold nodesF
  rw [List.map_map]
  have e2 : (ns.map (wt (Rs g w) (w.length + 1))).sum = (ns.zipIdx.map fun p => wt (Rs g w) (w.length + 1) p.1).sum := by
    rw [show (fun p : Qu × Nat => wt (Rs g w) (w.length + 1) p.1) = (wt (Rs g w) (w.length + 1)) ∘ Prod.fst from rfl, ← List.map_map, List.zipIdx_map_fst]
  rw [e2]
  refine sum_le fun p hp => ?_
  obtain ⟨x, t⟩ := p
  have ht := List.mem_zipIdx_iff_getElem?.1 hp
  have htl := (List.getElem?_eq_some_iff.1 ht).1
  have hte := (List.getElem?_eq_some_iff.1 ht).2
  have hta : t < al.length := by omega
  have e3 : (nodeF x (al.getD t [])).Alts = al[t] := by
    have : al.getD t [] = al[t] := by rw [List.getD_eq_getElem?_getD, List.getElem?_eq_getElem hta]; rfl
    rw [this]
    cases x <;> rfl
  show (nodeF x (al.getD t [])).Alts.length + 1 ≤ _
  rw [e3]
  have := h.wts t hta htl
  rw [hte] at this
  exact this
theorem mem_le_wayN {N : List FNode} {n : FNode} (h : n ∈ N) : n.Alts.length ≤ wayN N := by
  exact mem_le_sum (fun n : FNode => n.Alts.length) h
theorem law_Builds {k : Nat} (hk : 1000000 ≤ k) (hk2 : k ≤ 4611686018427387904) (hal : F.law08.alive k = some true) (hR : ReachG g) (hwd : WordsG g) (hw : Bytes w) : F.law08.ForestBuilds k g w = some true := by
  unfold F.law08.ForestBuilds
  obtain ⟨b, eb, hb⟩ := Heavy_ok (k := k) (by omega) hR w
  rw [eb, Option.bind_some, hal]
  cases b with
  | true => rfl
  | false =>
    obtain ⟨hwl, hn, hrl, hsum⟩ := hb rfl
    simp only [Bool.false_eq_true, if_false, Option.bind_some]
    have hsm : rightB g = true → SmallG g := small_of hn hsum
    obtain ⟨e, he, h0, _⟩ := fit_ok (k := k) (by omega) hsm w
    have hfit := RefFit_ok (k := k) (by omega) hsm w he
    have fin : ∀ (f : Forest) (c : Int), f.Nodes.length + wayN f.Nodes ≤ 500000 → F.forest.Build k g w = some (f, c) → F.ref08.Build k g w = some (f, c) →
        ((F.forest.Build k g w).bind fun v_2 => (F.ref08.Build k g w).bind fun v_3 => if (v_2.2 != v_3.2) = true then some false else (F.ref08.SameForest k v_2.1 v_3.1).bind fun v_4 => if (!v_4) = true then some false else (F.forest.Size k v_2.1).bind fun v_5 => (F.law08.ForestBuilds_l1 v_3 k 0 0).bind fun o1 => if (v_5.1 == (v_3.1.Nodes.length : Int)) = true then some (v_5.2 == o1) else some false) = some true := by
      intro f c hf e1 e2
      rw [e1, e2, Option.bind_some, Option.bind_some]
      have d1 : (c != c) = false := by simp
      simp only [d1, Bool.false_eq_true, if_false]
      rw [SameForest_refl (by omega) (fun n hn => by have := mem_le_wayN hn; omega) hk2, Option.bind_some, Size_ok (by omega) (by omega) (by omega), Option.bind_some, waysL_ok (by omega) (by omega) (by omega)]
      simp
    by_cases hs : ((g.Rules.map fun r => r.Rhs.length + 1).sum : Nat) ≤ 120
    · obtain ⟨b1, b2⟩ := Build_all (k := k) hk hsm hw (by omega) hs he
      by_cases hee : e = 0
      · subst hee
        obtain ⟨hr, hl, ρ, hρ⟩ := h0.1 rfl
        obtain ⟨v0, C, hB, hcase⟩ := b2 rfl ρ hρ
        obtain ⟨r1, r2⟩ := RefBuild_ok hk hr (hsm hr) hwd C hB hfit
        rcases hcase with ⟨he, e1⟩ | ⟨hne, ns, al, hbl, hbi, hlen, e1⟩
        · exact fin _ _ (by simp [wayN]) e1 (r1 he)
        · exact fin _ _ (Nat.le_trans (nodes_bound C.hg hbi hlen) hB) e1 (r2 hne ns al hbl)
      · refine fin ⟨0, []⟩ e (by simp [wayN]) (b1 hee) ?_
        unfold F.ref08.Build
        rw [hfit, Option.bind_some]
        have : (e != 0) = true := by simpa using hee
        rw [this, if_pos rfl]
    · -- no nonterminals: not right
      have hee : e ≠ 0 := by
        intro h
        obtain ⟨hr, _⟩ := h0.1 h
        have := (rightG hr).n1
        omega
      refine fin ⟨0, []⟩ e (by simp [wayN]) ?_ ?_
      · unfold F.forest.Build
        rw [he, Option.bind_some]
        have : (e != 0) = true := by simpa using hee
        rw [this, if_pos rfl]
      · unfold F.ref08.Build
        rw [hfit, Option.bind_some]
        have : (e != 0) = true := by simpa using hee
        rw [this, if_pos rfl]
end
end Go.Vc
