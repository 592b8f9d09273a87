/-
  Trees: the document's part at a path, and what it puts there; the law TreesParts.
-/
import Derived.Test.YtncbbbjakbaojaaDoorTM
set_option linter.unusedVariables false
set_option linter.unusedSimpArgs false
namespace Go.Vc
open Go
theorem sub_tail (q : Int) (p : List Int) : sub (q :: p) 1 ((q :: p).length : Int) = p := by
  unfold sub
  simp
theorem refAt_ok : ∀ (p : List Int) (k : Nat) (t : Tree), sz t + p.length + 1 < k → k ≤ 1000000 → F.ref09.At k t p = some (match atT t p with
    | none => (Tree.mk 0 0 [], 4)
    | some u => (u, 0))
  | [], 0, _, h, _ => by omega
  | _ :: _, 0, _, h, _ => by omega
  | [], k + 1, t, h, hB => by
    show F.ref09.At_B k (F.ref09.At k) t [] = _
    unfold F.ref09.At_B
    rw [if_pos (by simp), Copy_ok k t (by simp at h; omega) (by omega)]
    rfl
  | q :: p, k + 1, t, h, hB => by
    simp only [List.length_cons] at h
    show F.ref09.At_B k (F.ref09.At k) t (q :: p) = _
    unfold F.ref09.At_B
    have h0 : at_ (q :: p) 0 = q := rfl
    have h1 : inR 0 (q :: p).length = true := by rw [inR_iff]; simp
    rw [if_neg (by simp; omega), if_pos h1]
    simp only [F.ref09.At_j1, h0, h1, if_true, atT]
    by_cases hq : inR q t.Kids.length = true
    · obtain ⟨q1, q2⟩ := inR_iff.1 hq
      have hs := szs_at hq
      rw [if_neg (by rw [decide_eq_true_eq]; omega), if_neg (by rw [decide_eq_true_eq]; omega), if_pos hq, if_pos hq, sub_tail, refAt_ok p k _ (by rw [sz_eq t] at h; omega) (by omega), Option.bind_some, if_pos (by rw [okSub_iff]; simp; omega)]
    · have hq' : inR q t.Kids.length = false := Bool.eq_false_iff.2 hq
      simp only [hq', Bool.false_eq_true, if_false]
      by_cases hn : q < 0
      · rw [if_pos (by simpa using hn)]
      · have : (t.Kids.length : Int) ≤ q := by
          rcases Int.lt_or_le q (t.Kids.length : Int) with h | h
          · exact absurd (inR_iff.2 ⟨by omega, h⟩) hq
          · exact h
        rw [if_neg (by simpa using hn), if_pos (by simpa using this)]
theorem Put_l3_ok {k : Nat} {t x : Tree} {q : Int} {p : List Int} (hs : sz t < k) (hB : k ≤ 1000000) (hq : inR q t.Kids.length = true) : ∀ (j i : Nat), i ≤ t.Kids.length → t.Kids.length - i < j → F.ref09.Put_l3 k t (q :: p) x.Rule x.Byte x.Kids j (i : Int) ((set_ t.Kids q x).take i) = some (set_ t.Kids q x)
  | 0, _, _, h => by omega
  | j + 1, i, h1, h2 => by
    obtain ⟨q1, q2⟩ := inR_iff.1 hq
    have hla := len_sz t
    have hl : (set_ t.Kids q x).length = t.Kids.length := by simp [set_]
    simp only [F.ref09.Put_l3]
    by_cases hi : i < t.Kids.length
    · have h0 : at_ (q :: p) 0 = q := rfl
      have h1 : inR 0 (q :: p).length = true := by rw [inR_iff]; simp
      have e1 : ((set_ t.Kids q x).take i).length = i := by rw [List.length_take, hl]; omega
      have ih := Put_l3_ok (x := x) (p := p) hs hB hq j (i + 1) (by omega) (by omega)
      rw [List.take_succ_eq_append_getElem (by rw [hl]; exact hi)] at ih
      rw [ix_lt hi, if_pos rfl, if_pos h1, h0]
      simp only [F.ref09.Put_j5, F.ref09.Put_j4]
      by_cases he : (i : Int) = q
      · have hx : (set_ t.Kids q x)[i]'(by rw [hl]; exact hi) = x := by
          subst he
          simp [set_]
        rw [hx] at ih
        rw [if_neg (by simpa using he), if_pos (by rw [e1, decide_eq_true_eq]; simp; omega), if_pos (by rw [e1, decide_eq_true_eq]; simp; omega), ix_inc (by omega)]
        have e2 : Tree.mk x.Rule x.Byte x.Kids = x := by cases x; rfl
        rw [e2]
        exact ih
      · have hx : (set_ t.Kids q x)[i]'(by rw [hl]; exact hi) = t.Kids[i] := by
          simp only [set_]
          rw [List.getElem_set_ne (by omega)]
        rw [hx] at ih
        rw [if_pos (by simpa using he), ix_in hi, if_pos rfl, ix_at hi, Copy_ok k _ (by have := sz_kid hi; omega) hB, Option.bind_some, if_pos (by rw [e1, decide_eq_true_eq]; simp; omega), if_pos (by rw [e1, decide_eq_true_eq]; simp; omega), ix_inc (by omega)]
        have e2 : Tree.mk t.Kids[i].Rule t.Kids[i].Byte t.Kids[i].Kids = t.Kids[i] := by cases t.Kids[i]; rfl
        rw [e2]
        exact ih
    · rw [ix_ge hi, if_neg (by simp), List.take_of_length_le (by rw [hl]; omega)]
theorem refPut_ok : ∀ (p : List Int) (k : Nat) (t s : Tree), sz t + sz s + p.length + 1 < k → k ≤ 1000000 → F.ref09.Put k t p s = (match atT t p with
    | none => some (Tree.mk 0 0 [], 4)
    | some _ => (putT t p s).map fun x => (x, 0))
  | [], 0, _, _, h, _ => by omega
  | _ :: _, 0, _, _, h, _ => by omega
  | [], k + 1, t, s, h, hB => by
    show F.ref09.Put_B k (F.ref09.Put k) t [] s = _
    unfold F.ref09.Put_B
    have h' : putT t [] s = some s := by cases t; rfl
    rw [if_pos (by simp), Copy_ok k s (by simp at h; omega) (by omega), h']
    rfl
  | q :: p, k + 1, t, s, h, hB => by
    simp only [List.length_cons] at h
    show F.ref09.Put_B k (F.ref09.Put k) t (q :: p) s = _
    unfold F.ref09.Put_B
    have h0 : at_ (q :: p) 0 = q := rfl
    have h1 : inR 0 (q :: p).length = true := by rw [inR_iff]; simp
    rw [if_neg (by simp; omega), if_pos h1, putT_eq]
    simp only [F.ref09.Put_j1, h0, h1, if_true, atT]
    by_cases hq : inR q t.Kids.length = true
    · obtain ⟨q1, q2⟩ := inR_iff.1 hq
      have hs := szs_at hq
      have hst := sz_eq t
      rw [if_neg (by rw [decide_eq_true_eq]; omega), if_neg (by rw [decide_eq_true_eq]; omega), if_pos hq, if_pos hq, sub_tail, refPut_ok p k _ s (by omega) (by omega)]
      cases ha : atT (at_ t.Kids q) p with
      | none =>
        simp only [Option.bind_some]
        rw [if_pos (by rw [okSub_iff]; simp; omega)]
        unfold F.ref09.Put_j2
        rw [if_pos (by simp)]
      | some old =>
        obtain ⟨x, hx⟩ := putT_some p _ old s ha
        simp only [hx, Option.map_some, Option.bind_some]
        rw [if_pos (by rw [okSub_iff]; simp; omega)]
        unfold F.ref09.Put_j2
        have hl := Put_l3_ok (x := x) (p := p) (k := k) (t := t) (q := q) (by omega) (by omega) hq k 0 (by omega) (by have := len_sz t; omega)
        rw [List.take_zero, show ((0 : Nat) : Int) = 0 from rfl] at hl
        rw [if_neg (by simp), hl, Option.bind_some, if_pos hq, Option.map_some]
    · have hq' : inR q t.Kids.length = false := Bool.eq_false_iff.2 hq
      simp only [hq', Bool.false_eq_true, if_false]
      by_cases hn : q < 0
      · rw [if_pos (by simpa using hn)]
      · have : (t.Kids.length : Int) ≤ q := by
          rcases Int.lt_or_le q (t.Kids.length : Int) with h | h
          · exact absurd (inR_iff.2 ⟨by omega, h⟩) hq
          · exact h
        rw [if_neg (by simpa using hn), if_pos (by simpa using this)]
theorem mk_eta (t : Tree) : Tree.mk t.Rule t.Byte t.Kids = t := by cases t; rfl
theorem law_Parts {t s : Tree} {path : List Int} : F.law09.TreesParts 100000 t path s = some true := by
  unfold F.law09.TreesParts
  rw [heavy_ok (by omega) t, Option.bind_some]
  by_cases h1 : 1500 < sz t
  · rw [decide_eq_true h1, if_pos rfl, alive_K]; rfl
  rw [decide_eq_false h1, if_neg (by simp), heavy_ok (by omega) s, Option.bind_some]
  by_cases h2 : 1500 < sz s
  · rw [decide_eq_true h2, if_pos rfl, alive_K]; rfl
  rw [decide_eq_false h2, if_neg (by simp)]
  by_cases h3 : 1000 < path.length
  · rw [if_pos (by rw [decide_eq_true_eq]; omega), alive_K]; rfl
  rw [if_neg (by rw [decide_eq_true_eq]; omega), Copy_ok _ _ (by omega) (by omega), Option.bind_some, Copy_ok _ _ (by omega) (by omega), Option.bind_some]
  unfold F.law09.TreesParts_j1
  rw [mk_eta, mk_eta, At_ok (by omega) (by omega) (by omega), Option.bind_some, refAt_ok _ _ _ (by omega) (by omega), Option.bind_some, Put_ok (by omega) (by omega) (by omega) (by omega), refPut_ok _ _ _ _ (by omega) (by omega)]
  have main : ∀ (a c : Tree × Int), sz a.1 < 100000 → sz c.1 < 100000 → ((if (a.2 != a.2) = true then F.law09.TreesParts_j2 100000 a s.Rule s.Byte s.Kids t.Rule t.Byte t.Kids t c c true
      else if (c.2 != c.2) = true then F.law09.TreesParts_j2 100000 a s.Rule s.Byte s.Kids t.Rule t.Byte t.Kids t c c true
      else (F.ref09.Same 100000 a.1 a.1).bind fun v15 => if (!v15) = true then F.law09.TreesParts_j2 100000 a s.Rule s.Byte s.Kids t.Rule t.Byte t.Kids t c c true
        else (F.ref09.Same 100000 c.1 c.1).bind fun v16 => F.law09.TreesParts_j2 100000 a s.Rule s.Byte s.Kids t.Rule t.Byte t.Kids t c c (!v16))) = some true := by
    intro a c ha hc
    rw [if_neg (by simp), if_neg (by simp), refSame_ok ha (by omega), Option.bind_some, decide_eq_true rfl, if_neg (by simp), refSame_ok hc (by omega), Option.bind_some, decide_eq_true rfl]
    unfold F.law09.TreesParts_j2 F.law09.spoil
    rw [if_neg (by simp), Option.bind_some, Option.bind_some, mk_eta, refSame_ok (by omega) (by omega), Option.bind_some, decide_eq_true rfl, if_neg (by simp), refSame_ok hc (by omega), Option.bind_some, decide_eq_true rfl, if_neg (by simp), Option.bind_some, alive_K, Option.bind_some, if_pos rfl]
  cases ha : atT t path with
  | none =>
    simp only [Option.bind_some]
    exact main (Tree.mk 0 0 [], 4) (Tree.mk 0 0 [], 4) (by simp [sz, szs]) (by simp [sz, szs])
  | some old =>
    obtain ⟨x, hx⟩ := putT_some path t old s ha
    have ho := atT_sz _ _ _ ha
    have hxs := putT_sz _ _ _ _ hx
    simp only [hx, Option.map_some, Option.bind_some]
    exact main (old, 0) (x, 0) (by show sz old < _; omega) (by show sz x < _; omega)
end Go.Vc
