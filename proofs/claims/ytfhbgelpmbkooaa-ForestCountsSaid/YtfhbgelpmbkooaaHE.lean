/-
 The document's counter.
-/
import Derived.Test.YtfhbgelpmbkooaaHD
import Derived.Test.YtfhbgelpmbkooaaFV
set_option linter.unusedVariables false
set_option linter.unusedSimpArgs false
namespace Go.Vc
open Go Ea
theorem plus_F {a b : Nat} (ha : a <= top) (hb : b <= top) : F.ref08.plus (a : Int) (b : Int) = some ((sat (a + b) : Nat) : Int) := by
 have ht : (top : Int) = 4611686018427387904 := rfl
 have := @plus_sat a b
 unfold top at ha hb
 unfold F.ref08.plus
 rw [wrap_i64 (by omega) (by omega)]
 rw [ht] at this
 rw [<- this]
 by_cases h : (4611686018427387904 : Int) - (b : Int) <= (a : Int)
 ·simp [h]
 ·simp only [h, decide_false, Bool.false_eq_true, if_false]
  rw [wrap_i64 (by omega) (by omega)]
theorem times_F {a b : Nat} (ha : a <= top) (hb : b <= top) : F.ref08.times (a : Int) (b : Int) = some ((sat (a * b) : Nat) : Int) := by
 have hT : top = 4611686018427387904 := rfl
 unfold F.ref08.times
 rcases Nat.eq_zero_or_pos a with h0 | h0
 ·subst h0
  simp [sat]
 rcases Nat.eq_zero_or_pos b with h1 | h1
 ·subst h1
  have d1 : ((a : Int) == 0) = false := by rw [beq_eq_false_iff_ne]; omega
  rw [d1]
  simp [sat]
 ·have d1 : ((a : Int) == 0) = false := by rw [beq_eq_false_iff_ne]; omega
  have d2 : ((b : Int) == 0) = false := by rw [beq_eq_false_iff_ne]; omega
  simp only [d1, d2, Bool.false_eq_true, if_false]
  have hq : gquo .i64 4611686018427387904 (b : Int) = ((top / b : Nat) : Int) := by
   unfold gquo
   rw [Int.tdiv_eq_ediv_of_nonneg (by omega), hT]
   have : (4611686018427387904 : Int) / (b : Int) = ((4611686018427387904 / b : Nat) : Int) := by rw [Int.natCast_ediv]; rfl
   rw [this]
   have h2 : 4611686018427387904 / b <= 4611686018427387904 := Nat.div_le_self _ _
   generalize 4611686018427387904 / b = t at *
   exact wrap_i64 (by omega) (by omega)
  have h2 : top / b <= top := Nat.div_le_self _ _
  have e9 : IntKind.wrap .i64 (((top / b : Nat) : Int) + 1) = ((top / b + 1 : Nat) : Int) := by
   rw [hT] at h2
   rw [hT]
   generalize 4611686018427387904 / b = t at *
   rw [wrap_i64 (by omega) (by omega)]
   omega
  rw [hq, e9]
  by_cases h : top / b < a
  ·have := (mul_gt (b := a) h1).1 h
   have e : sat (a * b) = top := sat_ge (by rw [Nat.mul_comm]; omega)
   have d3 : decide (((top / b + 1 : Nat) : Int) <= (a : Int)) = true := decide_eq_true (by omega)
   rw [d3, if_pos rfl, e, hT]; rfl
  ·have h3 : a * b <= top := by
    rcases Nat.lt_or_ge top (b * a) with h4 | h4
    ·exact absurd ((mul_gt h1).2 h4) h
    ·rw [Nat.mul_comm]; exact h4
   have d3 : decide (((top / b + 1 : Nat) : Int) <= (a : Int)) = false := decide_eq_false (by omega)
   have e : ((a : Int) * (b : Int)) = ((a * b : Nat) : Int) := by simp
   rw [d3, if_neg (by simp), e, wrap_i64 (by omega) (by omega)]
   have := plus_F (a := a * b) (b := 0) h3 (by omega)
   rw [show ((0 : Int) = ((0 : Nat) : Int)) from rfl, this, Option.bind_some, Nat.add_zero]
theorem sat_add2 (S x : Nat) : sat (sat S + sat x) = sat (S + sat x) := by rw [<- sat_add S (sat x), sat_of_le (sat_le x)]
section
variable {g : Gram} {w : List Int} {k : Nat} {Y : List Bool} {ρ : Nat -> Nat}
abbrev Tt (g : Gram) (w : List Int) (ρ : Nat -> Nat) : Nat -> Nat -> Nat -> List Tr := trees (Rs g w) ρ g.Nts.toNat
structure KnI (g : Gram) (w : List Int) (ρ : Nat -> Nat) (K : List Int) : Prop where
 len : K.length = Mx g w
 kn : ∀ a i j, a < g.Nts.toNat -> i <= w.length -> j <= w.length -> K.getD (ixT w.length a i j) 0 = 0 \/ K.getD (ixT w.length a i j) 0 = ((sat (Tt g w ρ a i j).length : Nat) : Int)
structure Cx (g : Gram) (w : List Int) (Y : List Bool) (ρ : Nat -> Nat) : Prop where
 h : Bd g w
 hY : Y.length = Mx g w
 hT : Table (Rs g w) w.length (YesP g.Nts.toNat w.length Y)
 hρ : Falls (Rs g w) ρ g.Nts.toNat
abbrev ctF (g : Gram) (w : List Int) (Y : List Bool) (K : List Int) : Ref08_Counter := ⟨tabF g w Y, K⟩
def CtT (g : Gram) (w : List Int) (Y : List Bool) (ρ : Nat -> Nat) (k : Nat) (f : Ref08_Counter -> Int -> Int -> Int -> Option (Int × Ref08_Counter)) (M : Nat) : Prop :=
 ∀ (K : List Int) (a i j : Nat), KnI g w ρ K -> a < g.Nts.toNat -> i <= j -> j <= w.length -> rk ρ g.Nts.toNat a i j < M -> ∃ K', f (ctF g w Y K) (a : Int) (i : Int) (j : Int) = some (((sat (Tt g w ρ a i j).length : Nat) : Int), ctF g w Y K') /\ KnI g w ρ K'
theorem symT_der (C : Cx g w Y ρ) {s : Sy} {m j : Nat} (hj : j <= w.length) : symT (YesP g.Nts.toNat w.length Y) s m j ↔ DerY (Rs g w) s m j := C.hT.sym hj
noncomputable def termN (T : Nat -> Nat -> Nat -> List Tr) (R : List Ru) (j : Nat) (now : Nat -> Nat) (s : Sy) (β : List Sy) (m p : Nat) : Nat :=
 open Classical in if now p ≠ 0 /\ DerY R s p m /\ Der R β m j then sat (now p * (symL T s p m).length) else 0
theorem stepN_term (T : Nat -> Nat -> Nat -> List Tr) (R : List Ru) (i j : Nat) (now : Nat -> Nat) (s : Sy) (β : List Sy) (m : Nat) : stepN T R i j now s β m = ((List.range' i (m + 1 - i)).map (termN T R j now s β m)).sum := rfl
theorem rows_l6 (C : Cx g w Y ρ) (hk : 20000 <= k) {r : Rule} (hr : r ∈ g.Rules) {e i j m M : Nat} (he : e < r.Rhs.length) (hij : i <= j) (hj : j <= w.length) (hm : m <= j) (hM : rk ρ g.Nts.toNat r.Lhs.toNat i j <= M)
  {gt : Ref08_Counter -> Int -> Int -> Int -> Option (Int × Ref08_Counter)} (hgt : CtT g w Y ρ k gt M) {ns : List Nat} (hns : ns.length = j + 1) (hle : ∀ x ∈ ns, x <= top)
  (hrel : ∀ p, i <= p -> p <= j -> Der (Rs g w) ((r.Rhs.drop e).map (toSy w)) p j -> ns.getD p 0 = sat (rowsL (Tt g w ρ) ((r.Rhs.take e).map (toSy w)) i p).length) (K : List Int) (hK : KnI g w ρ K) (K0 : List Int) :
  ∃ z K', F.ref08.Counter_rows_l6 k (m : Int) (ns.map fun x : Nat => (x : Int)) (e : Int) r.Rhs gt (ctF g w Y K0) (j : Int) k 0 (i : Int) K = some (((sat (stepN (Tt g w ρ) (Rs g w) i j (fun p => ns.getD p 0) (toSy w r.Rhs[e]) ((r.Rhs.drop (e + 1)).map (toSy w)) m) : Nat) : Int), z, K') /\ KnI g w ρ K' := by
 have hwl := C.h.hwl
 have h80 := C.h.hg.rhs _ hr
 have hsm := List.getElem_mem he
 have hsy := C.h.syms hr _ hsm
 have hsr : SymsOk g (r.Rhs.drop (e + 1)) := fun s hs => C.h.syms hr s (List.mem_of_mem_drop hs)
 rw [stepN_term]
 have hdrop : (r.Rhs.drop e).map (toSy w) = toSy w r.Rhs[e] :: (r.Rhs.drop (e + 1)).map (toSy w) := by rw [List.drop_eq_getElem_cons he, List.map_cons]
 by_cases him : i <= m
 ·have key := loop_inv (n := m + 1) (σ := Int × List Int) (L := fun c q s => F.ref08.Counter_rows_l6 k (m : Int) (ns.map fun x : Nat => (x : Int)) (e : Int) r.Rhs gt (ctF g w Y K0) (j : Int) c s.1 q s.2)
   (I := fun q s => i <= q /\ s.1 = ((sat ((List.range' i (q - i)).map (termN (Tt g w ρ) (Rs g w) j (fun p => ns.getD p 0) (toSy w r.Rhs[e]) ((r.Rhs.drop (e + 1)).map (toSy w)) m)).sum : Nat) : Int) /\ KnI g w ρ s.2)
   (Q := fun o => ∃ z K', o = some (((sat ((List.range' i (m + 1 - i)).map (termN (Tt g w ρ) (Rs g w) j (fun p => ns.getD p 0) (toSy w r.Rhs[e]) ((r.Rhs.drop (e + 1)).map (toSy w)) m)).sum : Nat) : Int), z, K') /\ KnI g w ρ K') (fun c q s hq hI => ?_) (fun c s hI => ?_) k i (0, K) (by omega) (by omega) ⟨Nat.le_refl _, by simp [sat], hK⟩
  ·exact key
  ·left
   obtain ⟨s1, s2⟩ := s
   obtain ⟨hiq, hs1, hKs⟩ := hI
   simp only at hs1 hKs
   have d0 : decide ((q : Int) <= (m : Int)) = true := decide_eq_true (by omega)
   have hqn : q < ns.length := by omega
   have hqn' : q < (ns.map fun x : Nat => (x : Int)).length := by rw [List.length_map]; exact hqn
   have hgd : ns.getD q 0 = ns[q] := by simp [hqn]
   have hat : (ns.map fun x : Nat => (x : Int))[q] = ((ns[q] : Nat) : Int) := by simp
   have hnq := hle _ (List.getElem_mem hqn)
   have hsum : ∀ x, termN (Tt g w ρ) (Rs g w) j (fun p => ns.getD p 0) (toSy w r.Rhs[e]) ((r.Rhs.drop (e + 1)).map (toSy w)) m q = x -> ((List.range' i (q + 1 - i)).map (termN (Tt g w ρ) (Rs g w) j (fun p => ns.getD p 0) (toSy w r.Rhs[e]) ((r.Rhs.drop (e + 1)).map (toSy w)) m)).sum = ((List.range' i (q - i)).map (termN (Tt g w ρ) (Rs g w) j (fun p => ns.getD p 0) (toSy w r.Rhs[e]) ((r.Rhs.drop (e + 1)).map (toSy w)) m)).sum + x := by
    intro x hx
    rw [show q + 1 - i = (q - i) + 1 by omega, List.range'_concat, List.map_append, List.sum_append, List.map_cons, List.map_nil, List.sum_cons, List.sum_nil, Nat.one_mul, show i + (q - i) = q by omega, hx]
    omega
   simp only [F.ref08.Counter_rows_l6, d0, if_true, ix_in hqn', ix_at hqn', hat]
   have hskip : termN (Tt g w ρ) (Rs g w) j (fun p => ns.getD p 0) (toSy w r.Rhs[e]) ((r.Rhs.drop (e + 1)).map (toSy w)) m q = 0 -> ∃ s' : Int × List Int, (i <= q + 1 /\ s'.1 = ((sat ((List.range' i (q + 1 - i)).map (termN (Tt g w ρ) (Rs g w) j (fun p => ns.getD p 0) (toSy w r.Rhs[e]) ((r.Rhs.drop (e + 1)).map (toSy w)) m)).sum : Nat) : Int) /\ KnI g w ρ s'.2) /\
     F.ref08.Counter_rows_j8 (F.ref08.Counter_rows_l6 k (m : Int) (ns.map fun x : Nat => (x : Int)) (e : Int) r.Rhs gt (ctF g w Y K0) (j : Int) c) (q : Int) s1 s2 (e : Int) r.Rhs gt (ctF g w Y K0) (m : Int) (ns.map fun x : Nat => (x : Int)) true = F.ref08.Counter_rows_l6 k (m : Int) (ns.map fun x : Nat => (x : Int)) (e : Int) r.Rhs gt (ctF g w Y K0) (j : Int) c s'.1 ((q + 1 : Nat) : Int) s'.2 := by
    intro h0
    refine ⟨(s1, s2), ⟨by omega, ?_, hKs⟩, ?_⟩
    ·rw [hsum 0 h0, Nat.add_zero]; exact hs1
    ·unfold F.ref08.Counter_rows_j8 F.ref08.Counter_rows_j7
     rw [if_pos rfl, ix_inc (by omega)]
   by_cases h0 : ns[q] = 0
   ·have b0 : (((ns[q] : Nat) : Int) == 0) = true := by rw [h0]; rfl
    simp only [b0, if_true]
    refine hskip ?_
    unfold termN
    rw [if_neg (fun hc => hc.1 (by show ns.getD q 0 = 0; rw [hgd, h0]))]
   ·have b0 : (((ns[q] : Nat) : Int) == 0) = false := by rw [beq_eq_false_iff_ne]; omega
    simp only [b0, Bool.false_eq_true, if_false, ix_in he, if_true, ix_at he]
    obtain ⟨b1, eb1, hb1⟩ := sym_ok C.h C.hY (k := k) (by omega) hsy (i := q) (j := m) (by omega) (by omega)
    rw [symT_der C (by omega)] at hb1
    have eb1' : F.ref07.Table_Sym k (ctF g w Y K0).T r.Rhs[e] (q : Int) (m : Int) = some b1 := eb1
    rw [eb1', Option.bind_some]
    cases b1 with
    | false =>
     simp only [Bool.not_false, if_true]
     refine hskip ?_
     unfold termN
     rw [if_neg (fun hc => by have := hb1.2 hc.2.1; cases this)]
    | true =>
     have hy := hb1.1 rfl
     simp only [Bool.not_true, Bool.false_eq_true, if_false]
     have ok1 : okSub (IntKind.wrap .i64 ((e : Int) + 1)) (r.Rhs.length : Int) r.Rhs.length = true := by rw [ix_inc (by omega)]; exact okSub_iff.2 ⟨⟨by omega, by omega⟩, by omega⟩
     have sb : sub r.Rhs (IntKind.wrap .i64 ((e : Int) + 1)) (r.Rhs.length : Int) = r.Rhs.drop (e + 1) := by
      rw [ix_inc (by omega)]
      unfold sub
      rw [Int.toNat_natCast, Int.toNat_natCast]
      exact List.take_of_length_le (by simp)
     obtain ⟨v, ev, hvl, hv⟩ := ends_ok C.h C.hY hk hsr (by rw [List.length_drop]; omega) (i := m)
     have ev' : F.ref07.Table_Ends k (Ref08_Counter.mk (ctF g w Y K0).T s2).T (r.Rhs.drop (e + 1)) (m : Int) = some v := ev
     have hjv : j < v.length := by omega
     have hvg : v.getD j false = v[j] := by simp [hjv]
     have hvj := hv j hj
     rw [C.hT.ends hj, hvg] at hvj
     rw [ok1, if_pos rfl, sb]
     unfold F.ref08.Counter_ends
     rw [ev', Option.bind_some, ix_in hjv, if_pos rfl, ix_at hjv, Option.bind_some]
     cases hb2 : v[j] with
     | false =>
      rw [hb2] at hvj
      refine hskip ?_
      unfold termN
      rw [if_neg (fun hc => by have := hvj.2 hc.2.2; cases this)]
     | true =>
      have hβ := hvj.1 hb2
      have hrelq : ns[q] = sat (rowsL (Tt g w ρ) ((r.Rhs.take e).map (toSy w)) i q).length := by
       rw [<- hgd]
       exact hrel q hiq (by omega) (by rw [hdrop]; exact der_cons.2 ⟨m, hy, hβ⟩)
      have hleft : Der (Rs g w) ((r.Rhs.take e).map (toSy w)) i q := by
       refine rowsL_fair (trees_fair ρ g.Nts.toNat) _ fun e => h0 ?_
       rw [hrelq, e]
       rfl
      have hterm : termN (Tt g w ρ) (Rs g w) j (fun p => ns.getD p 0) (toSy w r.Rhs[e]) ((r.Rhs.drop (e + 1)).map (toSy w)) m q = sat (ns[q] * (symL (Tt g w ρ) (toSy w r.Rhs[e]) q m).length) := by
       unfold termN
       rw [if_pos ⟨by show ns.getD q 0 ≠ 0; rw [hgd]; exact h0, hy, hβ⟩]
       show sat (ns.getD q 0 * _) = _
       rw [hgd]
      have fin : ∀ (kid : Nat) (K' : List Int), kid <= top -> sat (ns[q] * kid) = sat (ns[q] * (symL (Tt g w ρ) (toSy w r.Rhs[e]) q m).length) -> KnI g w ρ K' -> ∃ s' : Int × List Int, (i <= q + 1 /\ s'.1 = ((sat ((List.range' i (q + 1 - i)).map (termN (Tt g w ρ) (Rs g w) j (fun p => ns.getD p 0) (toSy w r.Rhs[e]) ((r.Rhs.drop (e + 1)).map (toSy w)) m)).sum : Nat) : Int) /\ KnI g w ρ s'.2) /\
        F.ref08.Counter_rows_j9 (q : Int) (ns.map fun x : Nat => (x : Int)) s1 (F.ref08.Counter_rows_l6 k (m : Int) (ns.map fun x : Nat => (x : Int)) (e : Int) r.Rhs gt (ctF g w Y K0) (j : Int) c) (kid : Int) K' = F.ref08.Counter_rows_l6 k (m : Int) (ns.map fun x : Nat => (x : Int)) (e : Int) r.Rhs gt (ctF g w Y K0) (j : Int) c s'.1 ((q + 1 : Nat) : Int) s'.2 := by
       intro kid K' hkid hsat hK'
       unfold F.ref08.Counter_rows_j9 F.ref08.Counter_rows_j7
       rw [ix_in hqn', if_pos rfl, ix_at hqn', hat, times_F hnq hkid, Option.bind_some, hs1, plus_F (sat_le _) (sat_le _), Option.bind_some, ix_inc (by omega)]
       refine ⟨(_, K'), ⟨by omega, ?_, hK'⟩, rfl⟩
       rw [hsum _ hterm, hsat]
       exact congrArg Nat.cast (sat_add2 _ _)
      unfold F.ref08.Counter_rows_j8
      simp only [Bool.not_true, Bool.false_eq_true, if_false, ix_in he, if_true, ix_at he]
      by_cases hN : 0 <= r.Rhs[e].Nt
      ·have hs : toSy w r.Rhs[e] = .nt r.Rhs[e].Nt.toNat := by unfold toSy; rw [if_pos hN]
       have hsplit : (toRu w r).rhs = (r.Rhs.take e).map (toSy w) ++ .nt r.Rhs[e].Nt.toNat :: (r.Rhs.drop (e + 1)).map (toSy w) := by
        rw [<- hs, <- hdrop, <- List.map_append, List.take_append_drop]
        rfl
       rw [hs] at hy
       have hlt := rk_lt C.hρ (mem_Rs (w := w) hr) hsplit hleft hy hβ
       obtain ⟨K', e1, hK'⟩ := hgt s2 r.Rhs[e].Nt.toNat q m hKs (by have := hsy.1; omega) (by omega) (by omega) (Nat.lt_of_lt_of_le hlt hM)
       rw [Int.toNat_of_nonneg hN] at e1
       have e2 : gt (Ref08_Counter.mk (ctF g w Y K0).T s2) r.Rhs[e].Nt (q : Int) (m : Int) = some (((sat (Tt g w ρ r.Rhs[e].Nt.toNat q m).length : Nat) : Int), ctF g w Y K') := e1
       rw [decide_eq_true hN, if_pos rfl, e2, Option.bind_some]
       refine fin _ K' (sat_le _) ?_ hK'
       rw [hs]
       show sat (ns[q] * sat (Tt g w ρ r.Rhs[e].Nt.toNat q m).length) = sat (ns[q] * (Tt g w ρ r.Rhs[e].Nt.toNat q m).length)
       rw [<- sat_mul, sat_of_le (sat_le _), sat_mul]
      ·have hs : toSy w r.Rhs[e] = .tm (fun p => decide (p < w.length) && hasB r.Rhs[e].Set (w.getD p 0)) := by unfold toSy; rw [if_neg hN]
       rw [decide_eq_false hN, if_neg (by simp)]
       refine fin 1 s2 (by unfold top; omega) ?_ hKs
       rw [hs] at hy ⊢
       unfold symL
       simp only
       rw [if_pos (derY_tm.1 hy)]
       rfl
  ·obtain ⟨s1, s2⟩ := s
   obtain ⟨hiq, hs1, hKs⟩ := hI
   simp only at hs1 hKs
   subst hs1
   have d0 : decide (((m + 1 : Nat) : Int) <= (m : Int)) = false := decide_eq_false (by omega)
   simp only [F.ref08.Counter_rows_l6, d0, Bool.false_eq_true, if_false]
   exact ⟨_, s2, rfl, hKs⟩
 ·obtain ⟨k', rfl⟩ : ∃ k', k = k' + 1 := ⟨k - 1, by omega⟩
  have d0 : decide (((i : Nat) : Int) <= (m : Int)) = false := decide_eq_false (by omega)
  unfold F.ref08.Counter_rows_l6
  simp only [d0, Bool.false_eq_true, if_false]
  rw [show m + 1 - i = 0 by omega]
  exact ⟨_, K, rfl, hK⟩
end
end Go.Vc
