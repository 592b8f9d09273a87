/-
 The document counts the trees; the law ForestCounts.
-/
import Derived.Test.YtfhbgelpmbkooaaHE
import Derived.Test.YtfhbgelpmbkooaaA1
set_option linter.unusedVariables false
set_option linter.unusedSimpArgs false
namespace Go.Vc
open Go Ea
section
variable {g : Gram} {w : List Int} {k : Nat} {Y : List Bool} {ρ : Nat -> Nat}
theorem push8 {l : List Int} {x : Int} (h : l.length <= 100000) : decide ((l.length + ([x] : List Int).length) * 8 <= 140737488355328) = true /\ decide (l.length + ([x] : List Int).length <= 9223372036854775807) = true := by
 constructor <;> exact decide_eq_true (by rw [List.length_singleton]; omega)
theorem rows_l5 (C : Cx g w Y ρ) (hk : 20000 <= k) {r : Rule} (hr : r ∈ g.Rules) {e i j M : Nat} (he : e < r.Rhs.length) (hij : i <= j) (hj : j <= w.length) (hM : rk ρ g.Nts.toNat r.Lhs.toNat i j <= M)
  {gt : Ref08_Counter -> Int -> Int -> Int -> Option (Int × Ref08_Counter)} (hgt : CtT g w Y ρ k gt M) {ns : List Nat} (hns : ns.length = j + 1) (hle : ∀ x ∈ ns, x <= top)
  (hrel : ∀ p, i <= p -> p <= j -> Der (Rs g w) ((r.Rhs.drop e).map (toSy w)) p j -> ns.getD p 0 = sat (rowsL (Tt g w ρ) ((r.Rhs.take e).map (toSy w)) i p).length) (K : List Int) (hK : KnI g w ρ K) (K0 : List Int) :
  ∃ (ms : List Nat) (z : Int) (K' : List Int), F.ref08.Counter_rows_l5 k (j : Int) (ns.map fun x : Nat => (x : Int)) (e : Int) r.Rhs gt (ctF g w Y K0) (i : Int) k [] 0 K = some (ms.map fun x : Nat => (x : Int), z, K') /\ KnI g w ρ K' /\ ms.length = j + 1 /\ (∀ x ∈ ms, x <= top) /\
   ∀ p, i <= p -> p <= j -> Der (Rs g w) ((r.Rhs.drop (e + 1)).map (toSy w)) p j -> ms.getD p 0 = sat (rowsL (Tt g w ρ) ((r.Rhs.take (e + 1)).map (toSy w)) i p).length := by
 have hwl := C.h.hwl
 have hdrop : (r.Rhs.drop e).map (toSy w) = toSy w r.Rhs[e] :: (r.Rhs.drop (e + 1)).map (toSy w) := by rw [List.drop_eq_getElem_cons he, List.map_cons]
 have key := loop_inv0 (n := j + 1) (k := k) (σ := List Int × List Int) (s := ([], K)) (L := fun c q s => F.ref08.Counter_rows_l5 k (j : Int) (ns.map fun x : Nat => (x : Int)) (e : Int) r.Rhs gt (ctF g w Y K0) (i : Int) c s.1 q s.2)
  (I := fun q s => s.1 = ((List.range q).map fun m => sat (stepN (Tt g w ρ) (Rs g w) i j (fun p => ns.getD p 0) (toSy w r.Rhs[e]) ((r.Rhs.drop (e + 1)).map (toSy w)) m)).map (fun x : Nat => (x : Int)) /\ KnI g w ρ s.2)
  (Q := fun o => ∃ z K', o = some (((List.range (j + 1)).map fun m => sat (stepN (Tt g w ρ) (Rs g w) i j (fun p => ns.getD p 0) (toSy w r.Rhs[e]) ((r.Rhs.drop (e + 1)).map (toSy w)) m)).map (fun x : Nat => (x : Int)), z, K') /\ KnI g w ρ K') (by omega) ⟨rfl, hK⟩ (fun c q s hq hI => ?_) (fun c s hI => ?_)
 ·obtain ⟨z, K', e1, hK'⟩ := key
  refine ⟨_, z, K', e1, hK', by simp, fun x hx => ?_, fun p hip hpj hd => ?_⟩
  ·obtain ⟨m, _, rfl⟩ := List.mem_map.1 hx
   exact sat_le _
  ·have hp : p < ((List.range (j + 1)).map fun m => sat (stepN (Tt g w ρ) (Rs g w) i j (fun p => ns.getD p 0) (toSy w r.Rhs[e]) ((r.Rhs.drop (e + 1)).map (toSy w)) m)).length := by rw [List.length_map, List.length_range]; omega
   rw [List.getD_eq_getElem?_getD, List.getElem?_eq_getElem hp, Option.getD_some, List.getElem_map, List.getElem_range, List.take_succ_eq_append_getElem he, List.map_append]
   exact stepN_ok (trees_fair ρ g.Nts.toNat) (fun p' h1 h2 => hrel p' h1 h2.le (by rw [hdrop]; exact h2)) hd
 ·left
  obtain ⟨s1, s2⟩ := s
  obtain ⟨hs1, hKs⟩ := hI
  simp only at hs1 hKs
  obtain ⟨z, K', e6, hK'⟩ := rows_l6 C hk hr he hij hj (show q <= j by omega) hM hgt hns hle hrel s2 hKs K0
  have d0 : decide ((q : Int) <= (j : Int)) = true := decide_eq_true (by omega)
  have hl1 : s1.length = q := by rw [hs1]; simp
  obtain ⟨p1, p2⟩ := push8 (l := s1) (x := ((sat (stepN (Tt g w ρ) (Rs g w) i j (fun p => ns.getD p 0) (toSy w r.Rhs[e]) ((r.Rhs.drop (e + 1)).map (toSy w)) q) : Nat) : Int)) (by omega)
  refine ⟨(s1 ++ [((sat (stepN (Tt g w ρ) (Rs g w) i j (fun p => ns.getD p 0) (toSy w r.Rhs[e]) ((r.Rhs.drop (e + 1)).map (toSy w)) q) : Nat) : Int)], K'), ⟨?_, hK'⟩, ?_⟩
  ·rw [hs1, List.range_succ, List.map_append, List.map_append]
   rfl
  ·simp only [F.ref08.Counter_rows_l5, d0, if_true, e6, Option.bind_some, p1, p2]
   rw [ix_inc (by omega)]
 ·obtain ⟨s1, s2⟩ := s
  obtain ⟨hs1, hKs⟩ := hI
  simp only at hs1 hKs
  have d0 : decide (((j + 1 : Nat) : Int) <= (j : Int)) = false := decide_eq_false (by omega)
  simp only [F.ref08.Counter_rows_l5, d0, Bool.false_eq_true, if_false]
  exact ⟨_, s2, by rw [hs1], hKs⟩
theorem rows_ok (C : Cx g w Y ρ) (hk : 20000 <= k) {r : Rule} (hr : r ∈ g.Rules) {i j M : Nat} (hij : i <= j) (hj : j <= w.length) (hM : rk ρ g.Nts.toNat r.Lhs.toNat i j <= M)
  {gt : Ref08_Counter -> Int -> Int -> Int -> Option (Int × Ref08_Counter)} (hgt : CtT g w Y ρ k gt M) (K : List Int) (hK : KnI g w ρ K) :
  ∃ K', F.ref08.Counter_rows_B k gt (ctF g w Y K) r.Rhs (i : Int) (j : Int) = some (((sat (rowsL (Tt g w ρ) (toRu w r).rhs i j).length : Nat) : Int), ctF g w Y K') /\ KnI g w ρ K' := by
 have hwl := C.h.hwl
 have h80 := C.h.hg.rhs _ hr
 unfold F.ref08.Counter_rows_B
 have key1 := loop_inv0 (n := j + 1) (k := k) (σ := List Int) (s := []) (L := fun c q s => F.ref08.Counter_rows_l1 (j : Int) (i : Int) c s q)
  (I := fun q s => s = ((List.range q).map fun m => if m = i then 1 else 0).map (fun x : Nat => (x : Int))) (Q := fun o => o = some (((List.range (j + 1)).map fun m => if m = i then 1 else 0).map (fun x : Nat => (x : Int)))) (by omega) rfl (fun c q s hq hI => ?_) (fun c s hI => ?_)
 ·rw [key1, Option.bind_some]
  have hget0 : ∀ p, p <= j -> ((List.range (j + 1)).map fun m => if m = i then 1 else 0).getD p 0 = if p = i then 1 else 0 := by
   intro p hp
   have hp' : p < ((List.range (j + 1)).map fun m => if m = i then 1 else 0).length := by rw [List.length_map, List.length_range]; omega
   rw [List.getD_eq_getElem?_getD, List.getElem?_eq_getElem hp', Option.getD_some, List.getElem_map, List.getElem_range]
  have key2 := loop_inv0 (n := r.Rhs.length) (k := k) (σ := List Int × List Int) (s := (((List.range (j + 1)).map fun m => if m = i then 1 else 0).map (fun x : Nat => (x : Int)), K)) (L := fun c q s => F.ref08.Counter_rows_l4 k r.Rhs (j : Int) gt (ctF g w Y K) (i : Int) c s.1 q s.2)
   (I := fun q s => ∃ ns : List Nat, s.1 = ns.map (fun x : Nat => (x : Int)) /\ ns.length = j + 1 /\ (∀ x ∈ ns, x <= top) /\ (∀ p, i <= p -> p <= j -> Der (Rs g w) ((r.Rhs.drop q).map (toSy w)) p j -> ns.getD p 0 = sat (rowsL (Tt g w ρ) ((r.Rhs.take q).map (toSy w)) i p).length) /\ KnI g w ρ s.2)
   (Q := fun o => ∃ (ns : List Nat) (K' : List Int), o = some (ns.map (fun x : Nat => (x : Int)), K') /\ ns.length = j + 1 /\ ns.getD j 0 = sat (rowsL (Tt g w ρ) (toRu w r).rhs i j).length /\ KnI g w ρ K') (by omega) ⟨_, rfl, by simp, fun x hx => by
    obtain ⟨m, _, rfl⟩ := List.mem_map.1 hx
    unfold top
    split <;> omega, fun p hip hpj _ => by
    rw [hget0 p hpj, List.take_zero, List.map_nil, rowsL_nil]
    by_cases hpi : p = i
    ·rw [if_pos hpi, if_pos hpi.symm]
     rfl
    ·rw [if_neg hpi, if_neg (fun h => hpi h.symm)]
     rfl, hK⟩ (fun c q s hq hI => ?_) (fun c s hI => ?_)
  ·obtain ⟨ns, K', e1, hl, hg, hK'⟩ := key2
   rw [e1, Option.bind_some]
   have hjn : j < (ns.map fun x : Nat => (x : Int)).length := by rw [List.length_map]; omega
   have hjn' : j < ns.length := by omega
   have hgd : ns.getD j 0 = ns[j] := by simp [hjn']
   simp only [ix_in hjn, if_true, ix_at hjn, List.getElem_map]
   rw [<- hgd, hg]
   exact ⟨K', rfl, hK'⟩
  ·left
   obtain ⟨s1, s2⟩ := s
   obtain ⟨ns, hs1, hl, hle, hrel, hKs⟩ := hI
   simp only at hs1 hKs
   subst hs1
   obtain ⟨ms, z, K', e5, hK', hml, hmle, hmrel⟩ := rows_l5 C hk hr hq hij hj hM hgt hl hle hrel s2 hKs K
   refine ⟨(ms.map fun x : Nat => (x : Int), K'), ⟨ms, rfl, hml, hmle, hmrel, hK'⟩, ?_⟩
   simp only [F.ref08.Counter_rows_l4, ix_lt hq, if_true, e5, Option.bind_some]
   rw [ix_inc (by omega)]
  ·obtain ⟨s1, s2⟩ := s
   obtain ⟨ns, hs1, hl, hle, hrel, hKs⟩ := hI
   simp only at hs1 hKs
   subst hs1
   simp only [F.ref08.Counter_rows_l4, ix_ge (Nat.lt_irrefl _), Bool.false_eq_true, if_false]
   refine ⟨ns, s2, rfl, hl, ?_, hKs⟩
   have := hrel j hij (Nat.le_refl _) (by rw [List.drop_length]; exact .nil j)
   rw [List.take_length] at this
   exact this
 ·left
  subst hI
  refine ⟨_, rfl, ?_⟩
  have d0 : decide ((q : Int) <= (j : Int)) = true := decide_eq_true (by omega)
  simp only [F.ref08.Counter_rows_l1, d0, if_true]
  unfold F.ref08.Counter_rows_j3 F.ref08.Counter_rows_j2
  rw [ix_inc (by omega)]
  have hlen : (((List.range q).map fun m => if m = i then 1 else 0).map (fun x : Nat => (x : Int))).length <= 100000 := by rw [List.length_map, List.length_map, List.length_range]; omega
  rw [List.range_succ, List.map_append, List.map_append]
  by_cases hqi : q = i
  ·have db : (((q : Nat) : Int) == ((i : Nat) : Int)) = true := by rw [beq_iff_eq]; omega
   obtain ⟨p1, p2⟩ := push8 (x := 1) hlen
   rw [db, if_pos rfl, p1, if_pos rfl, p2, if_pos rfl]
   simp only [List.map_cons, List.map_nil, if_pos hqi]
   rfl
  ·have db : (((q : Nat) : Int) == ((i : Nat) : Int)) = false := by rw [beq_eq_false_iff_ne]; omega
   obtain ⟨p1, p2⟩ := push8 (x := 0) hlen
   rw [db, if_neg (by simp), p1, if_pos rfl, p2, if_pos rfl]
   simp only [List.map_cons, List.map_nil, if_neg hqi]
   rfl
 ·subst hI
  have d0 : decide (((j + 1 : Nat) : Int) <= (j : Int)) = false := decide_eq_false (by omega)
  simp only [F.ref08.Counter_rows_l1, d0, Bool.false_eq_true, if_false]
theorem count_trees2 (hρ : Falls (Rs g w) ρ g.Nts.toNat) (a i j : Nat) : (Tt g w ρ a i j).length = (g.Rules.map fun r => if r.Lhs.toNat = a then (rowsL (Tt g w ρ) (toRu w r).rhs i j).length else 0).sum := by
 show (trees (Rs g w) ρ g.Nts.toNat a i j).length = _
 rw [count_trees hρ]
 have : ((Rs g w).zipIdx.map fun x => if x.1.lhs = a then (rowsL (trees (Rs g w) ρ g.Nts.toNat) x.1.rhs i j).length else 0) = ((Rs g w).zipIdx.map Prod.fst).map fun r => if r.lhs = a then (rowsL (trees (Rs g w) ρ g.Nts.toNat) r.rhs i j).length else 0 := by
  rw [List.map_map]; rfl
 rw [this, List.zipIdx_map_fst]
 unfold Rs
 rw [List.map_map]
 rfl
theorem trees_ok (C : Cx g w Y ρ) : ∀ (M k : Nat), 2 * M + 20000 <= k -> CtT g w Y ρ k (F.ref08.Counter_trees k) M
 | 0, _, _ => fun K a i j _ _ _ _ h => by omega
 | M + 1, 0, h => by omega
 | M + 1, 1, h => by omega
 | M + 1, k + 2, hk => by
  intro K a i j hK ha hij hj hrk
  have hwl := C.h.hwl
  have hn := C.h.hn
  have hl := C.h.hl
  have hgt : CtT g w Y ρ k (F.ref08.Counter_trees k) M := trees_ok C M k (by omega)
  show ∃ K', F.ref08.Counter_trees_B (k + 1) (F.ref08.Counter_rows_B k (F.ref08.Counter_trees k)) (ctF g w Y K) (a : Int) (i : Int) (j : Int) = _ /\ _
  unfold F.ref08.Counter_trees_B
  rw [has_ok C.h C.hY ha (by omega) hj, Option.bind_some]
  have hYes : Y.getD (ixT w.length a i j) false = true ↔ DerY (Rs g w) (.nt a) i j := by
   rw [<- C.hT.nt hj]
   unfold YesP
   exact ⟨fun h => ⟨ha, by omega, hj, h⟩, fun h => h.2.2.2⟩
  have hix := ixT_lt ha (show i <= w.length by omega) hj
  have hixI := ixT_int (a := a) (n := w.length) (i := i) (j := j) (by omega) (by omega) (by omega) hj
  cases hb : Y.getD (ixT w.length a i j) false with
  | false =>
   simp only [Bool.not_false, if_true]
   refine ⟨K, ?_, hK⟩
   have : Tt g w ρ a i j = [] := by
    refine Classical.byContradiction fun hne => ?_
    have := hYes.2 (trees_fair ρ g.Nts.toNat _ _ _ hne)
    rw [hb] at this
    cases this
   rw [this]
   rfl
  | true =>
   have hKl : ixT w.length a i j < K.length := by rw [hK.len]; exact hix
   have hKg : K.getD (ixT w.length a i j) 0 = K[ixT w.length a i j] := by simp [hKl]
   have hkn := hK.kn a i j ha (by omega) hj
   rw [hKg] at hkn
   simp only [Bool.not_true, Bool.false_eq_true, if_false, hixI, ix_in hKl, if_true, ix_at hKl]
   by_cases h0 : 0 < K[ixT w.length a i j]
   ·rw [decide_eq_true h0, if_pos rfl]
    rcases hkn with h | h
    ·omega
    ·rw [h]
     exact ⟨K, rfl, hK⟩
   ·rw [decide_eq_false h0, if_neg (by simp)]
    have key := loop_inv0 (n := g.Rules.length) (k := k + 1) (σ := Int × List Int) (s := (0, K)) (L := fun c q s => F.ref08.Counter_trees_l1 (ctF g w Y K) (a : Int) (F.ref08.Counter_rows_B k (F.ref08.Counter_trees k)) (i : Int) (j : Int) c s.1 q s.2)
     (I := fun q s => s.1 = ((sat ((g.Rules.take q).map fun r => if r.Lhs.toNat = a then (rowsL (Tt g w ρ) (toRu w r).rhs i j).length else 0).sum : Nat) : Int) /\ KnI g w ρ s.2)
     (Q := fun o => ∃ K', o = some (((sat (Tt g w ρ a i j).length : Nat) : Int), K') /\ KnI g w ρ K') (by omega) ⟨by simp [sat], hK⟩ (fun c q s hq hI => ?_) (fun c s hI => ?_)
    ·obtain ⟨K', e1, hK'⟩ := key
     rw [e1, Option.bind_some]
     have hKl' : ixT w.length a i j < K'.length := by rw [hK'.len]; exact hix
     simp only [ix_in hKl', if_true]
     refine ⟨_, rfl, ⟨by show (K'.set _ _).length = _; rw [List.length_set]; exact hK'.len, fun a' i' j' ha' hi' hj' => ?_⟩⟩
     have hsg : ∀ x, (K'.set (ixT w.length a i j) ((sat (Tt g w ρ a i j).length : Nat) : Int)).getD x 0 = if x = ixT w.length a i j then ((sat (Tt g w ρ a i j).length : Nat) : Int) else K'.getD x 0 := by
      intro x
      rw [List.getD_eq_getElem?_getD, List.getElem?_set]
      by_cases he : ixT w.length a i j = x
      ·rw [if_pos he, if_pos (by omega), if_pos he.symm]; rfl
      ·rw [if_neg he, if_neg (fun h => he h.symm), List.getD_eq_getElem?_getD]
     show (K'.set (ixT w.length a i j) ((sat (Tt g w ρ a i j).length : Nat) : Int)).getD _ 0 = 0 \/ (K'.set (ixT w.length a i j) ((sat (Tt g w ρ a i j).length : Nat) : Int)).getD _ 0 = _
     rw [hsg]
     by_cases he : ixT w.length a' i' j' = ixT w.length a i j
     ·obtain ⟨rfl, rfl, rfl⟩ := ixT_inj hi' hj' (by omega) hj he
      rw [if_pos rfl]
      exact .inr rfl
     ·rw [if_neg he]
      exact hK'.kn a' i' j' ha' hi' hj'
    ·left
     obtain ⟨s1, s2⟩ := s
     obtain ⟨hs1, hKs⟩ := hI
     simp only at hs1 hKs
     have hrm := List.getElem_mem hq
     have hl1 := C.h.hg.lhs1 _ hrm
     have hG : (ctF g w Y K).T.G = g := rfl
     simp only [F.ref08.Counter_trees_l1, hG, ix_lt hq, ix_in hq, ix_at hq, if_true]
     unfold F.ref08.Counter_trees_j3 F.ref08.Counter_trees_j2
     rw [ix_inc (by omega), List.take_succ_eq_append_getElem hq, List.map_append, List.sum_append, List.map_cons, List.map_nil, List.sum_cons, List.sum_nil, Nat.add_zero]
     by_cases hla : g.Rules[q].Lhs.toNat = a
     ·have db : (g.Rules[q].Lhs == (a : Int)) = true := by rw [beq_iff_eq]; omega
      obtain ⟨K', e1, hK'⟩ := rows_ok C (k := k) (by omega) hrm hij hj (M := M) (by rw [hla]; omega) hgt s2 hKs
      have e2 : F.ref08.Counter_rows_B k (F.ref08.Counter_trees k) (Ref08_Counter.mk (ctF g w Y K).T s2) g.Rules[q].Rhs (i : Int) (j : Int) = some (((sat (rowsL (Tt g w ρ) (toRu w g.Rules[q]).rhs i j).length : Nat) : Int), ctF g w Y K') := e1
      rw [db, if_pos rfl, e2, Option.bind_some, hs1, plus_F (sat_le _) (sat_le _), Option.bind_some, if_pos hla]
      exact ⟨(_, K'), ⟨congrArg Nat.cast (sat_add _ _), hK'⟩, rfl⟩
     ·have db : (g.Rules[q].Lhs == (a : Int)) = false := by rw [beq_eq_false_iff_ne]; omega
      simp only [db, Bool.false_eq_true, if_false, if_neg hla, Nat.add_zero]
      exact ⟨(s1, s2), ⟨hs1, hKs⟩, rfl⟩
    ·obtain ⟨s1, s2⟩ := s
     obtain ⟨hs1, hKs⟩ := hI
     simp only at hs1 hKs
     have hG : (ctF g w Y K).T.G = g := rfl
     simp only [F.ref08.Counter_trees_l1, hG, ix_ge (Nat.lt_irrefl _), Bool.false_eq_true, if_false]
     rw [List.take_length, <- count_trees2 C.hρ] at hs1
     exact ⟨s2, by rw [hs1], hKs⟩
theorem RefCount_ok {k : Nat} (hk : 1000000 <= k) (hr : rightB g = true) (hsm : SmallG g) (hwd : WordsG g) (hw : Bytes w) (hwl : w.length <= 20) (hρ : Falls (Rs g w) ρ g.Nts.toNat) (hfit : F.ref08.Fit k g w = some 0) :
  F.ref08.Count k g w = some (((sat (Tt g w ρ g.Start.toNat 0 w.length).length : Nat) : Int), 0) := by
 have hg := rightG hr
 have hn := hsm.nts
 have hl := hsm.rules
 have hs1 := hg.s1
 have hs2 := hg.s2
 have h : Bd g w := ⟨hg, hwd, hw, hn, hl, hwl⟩
 obtain ⟨Y, eY, hYl, hT⟩ := Fill_ok h (k := k) (by omega)
 have C : Cx g w Y ρ := ⟨h, hYl, hT, hρ⟩
 have hM := Mx_le h
 unfold F.ref08.Count
 rw [hfit, Option.bind_some]
 simp only [bne_self_eq_false, Bool.false_eq_true, if_false, eY, Option.bind_some]
 have hcnt : F.ref08.counter k (tabF g w Y) = some (ctF g w Y (List.replicate (Mx g w) 0)) := by
  unfold F.ref08.counter
  have key := loop_inv0 (n := Y.length) (k := k) (σ := List Int) (s := []) (L := fun c q s => F.ref08.counter_l1 (tabF g w Y) c q s) (I := fun q s => s = List.replicate q 0) (Q := fun o => o = some (List.replicate (Mx g w) 0)) (by omega) (by simp) (fun c q s hq hI => ?_) (fun c s hI => ?_)
  ·rw [key]; rfl
  ·left
   subst hI
   obtain ⟨p1, p2⟩ := push8 (l := List.replicate q 0) (x := 0) (by rw [List.length_replicate]; omega)
   refine ⟨_, rfl, ?_⟩
   simp only [F.ref08.counter_l1, ix_lt hq, if_true, p1, p2]
   rw [ix_inc (by omega), List.replicate_succ']
  ·subst hI
   simp only [F.ref08.counter_l1, ix_ge (Nat.lt_irrefl _), Bool.false_eq_true, if_false]
   rw [hYl]
 rw [hcnt, Option.bind_some]
 have hrk : rk ρ g.Nts.toNat g.Start.toNat 0 w.length <= 4220 := by
  unfold rk
  have h1 := hρ.le g.Start.toNat
  have h2 : (w.length - 0) * (g.Nts.toNat + 1) <= 20 * 201 := Nat.mul_le_mul (by omega) (by omega)
  omega
 obtain ⟨K', e1, _⟩ := trees_ok C 5000 k (by omega) (List.replicate (Mx g w) 0) g.Start.toNat 0 w.length ⟨by simp, fun a i j _ _ _ => .inl (by
  rw [List.getD_eq_getElem?_getD, List.getElem?_replicate]
  split <;> rfl)⟩ (by omega) (by omega) (Nat.le_refl _) (by omega)
 rw [Int.toNat_of_nonneg hs1] at e1
 have e2 : F.ref08.Counter_trees k (Ref08_Counter.mk (tabF g w Y) (ctF g w Y (List.replicate (Mx g w) 0)).Known) g.Start 0 (tabF g w Y).N_ = some (((sat (Tt g w ρ g.Start.toNat 0 w.length).length : Nat) : Int), ctF g w Y K') := e1
 rw [e2, Option.bind_some]
theorem law_Counts {k : Nat} (hk : 1000000 <= k) (hal : F.law08.alive k = some true) (hR : ReachG g) (hwd : WordsG g) (hw : Bytes w) : F.law08.ForestCounts k g w = some true := by
 unfold F.law08.ForestCounts
 obtain ⟨b, eb, hb⟩ := Heavy_ok (k := k) (by omega) hR w
 rw [eb, Option.bind_some, hal]
 cases b with
 | true => rfl
 | false =>
  obtain ⟨hwl, hn, hrl, hsum⟩ := hb rfl
  simp only [Bool.false_eq_true, if_false, Option.bind_some]
  have hsm : rightB g = true -> SmallG g := small_of hn hsum
  have hwl' : w.length <= 20 \/ 512 < (w.length : Int) := by omega
  obtain ⟨e, he, h0, c1, c2⟩ := Count_all (k := k) hk hsm hw hwl'
  have hfit := RefFit_ok (k := k) (by omega) hsm w he
  by_cases hee : e = 0
  ·subst hee
   obtain ⟨hr, hl, ρ, hρ⟩ := h0.1 rfl
   rw [c2 rfl ρ hρ, RefCount_ok hk hr (hsm hr) hwd hw (by omega) hρ hfit]
   simp
  ·rw [c1 hee]
   unfold F.ref08.Count
   rw [hfit]
   simp [hee]
end
end Go.Vc
