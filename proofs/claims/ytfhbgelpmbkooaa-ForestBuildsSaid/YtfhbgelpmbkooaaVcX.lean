/-
  New slices of a length told by a number: make.
-/
import Derived.Test.YtfhbgelpmbkooaaVcU
import Derived.Laws.MakeOwn
import Derived.Laws.OwnMore
set_option linter.unusedVariables false
set_option linter.unusedSimpArgs false
namespace Go.Vc
open Go
theorem flat_rep_get {sz : Nat} {e : List Dc} (he : e.length = sz) (hp : 0 < sz) : ∀ (n j : Nat) (hj : j < (List.replicate n e).flatten.length), ∃ h : j % sz < e.length, (List.replicate n e).flatten[j] = e[j % sz]
  | 0, j, hj => by simp at hj
  | n + 1, j, hj => by
    have hm : j % sz < e.length := by rw [he]; exact Nat.mod_lt _ hp
    refine ⟨hm, ?_⟩
    simp only [List.replicate_succ, List.flatten_cons]
    by_cases h : j < e.length
    · rw [List.getElem_append_left h]
      have : j % sz = j := Nat.mod_eq_of_lt (by omega)
      simp only [this]
    · rw [List.getElem_append_right (by omega)]
      have hl : j - e.length < (List.replicate n e).flatten.length := by
        simp only [List.replicate_succ, List.flatten_cons, List.length_append] at hj
        omega
      obtain ⟨h1, h2⟩ := flat_rep_get he hp n (j - e.length) hl
      rw [h2]
      have : (j - e.length) % sz = j % sz := by rw [he] at h ⊢; rw [← Nat.mod_eq_sub_mod (by omega)]
      simp only [this]
section
variable {E : Env} {ops : Array Oper} {os : List Oper} {l : List (Nat × Value)} {H : List HB} {Φ : List (Value × Dc)} {N : SP} {Q : QS}
variable {ty : TypeId} {pos : String} {aft : Array Edge} {d : Nat}
theorem St.fresh {ac : Act} {w w' : World} {v : Value} {e : TypeId} {sz : Nat} {xs : List (List Dc)} {cs : List Value} (hs : St E l H Φ ac w) (hg : w.grownBy w' none) (ho : w'.ownsRow 0 e sz v xs.length cs) (hv : ∀ b, v.ownBlock = some b → w.heap.size ≤ b)
    (hsz : ∀ y ∈ xs, y.length = sz) (hP : ∀ X, Pures w' X cs xs.flatten) : St E l (.row v e sz xs :: H) Φ ac w' :=
  St.insert hs hg.size (fun b hb => hg.block b hb (by simp)) (fun b hb => by
    rw [ownBlock_blk] at hb
    exact ⟨hv b hb, (ho.lt b hb).2⟩) (owns_live ho rfl hsz (hP _)) hg.os hg.tape hg.output
theorem o_make0 {T e : TypeId} {sz bytes : Nat} {x y : Operand} {kl kc : IntKind} {c : Int} (ht : slT E.P T = some (e, sz, bytes)) (hx : opv l x = some (.int kl 0)) (hy : opv l y = some (.int kc c)) (h0 : decide (0 ≤ c) = true) (hc : decide (bytes * c.toNat ≤ 140737488355328) = true) (hm : decide (c.toNat ≤ 9223372036854775807) = true) (hd : Nat.blt d E.n = true)
    (h : ∀ a n c, WO E ops os ((d, .slice a n c) :: l) (.row (.slice a n c) e sz [] :: H) Φ N Q) : WO E ops (⟨some d, .makeSlice T x y, ty, pos, aft, none⟩ :: os) l H Φ N Q := by
  refine o_step fun ac w hs => ?_
  obtain ⟨hu, inf, z, h2, h3, h4, h5, h6, h7⟩ := slT_parts ht
  have h0' := of_decide_eq_true h0
  have hc' := of_decide_eq_true hc
  have hm' := of_decide_eq_true hm
  obtain ⟨w', hr, ho, hg⟩ := run_make_own (P := E.P) w 0 T e inf z sz hu h2 h3 h4 kl kc c.toNat (by rw [h5]; omega) (by simp only [maxLen]; omega) (Nat.zero_le _)
  rw [Int.toNat_of_nonneg h0'] at hr
  refine ⟨_, w', ?_, h _ _ _ _ _ (St.putT (St.fresh hs hg ho (fun b hb => by simp only [Value.ownBlock, Option.some.injEq] at hb; omega) (fun y hy => by cases hy) (fun X => .nil)) (blt_lt hd))⟩
  simp only [execOp, opv_eval hs hx, opv_eval hs hy, Sem.run_bind, hr]
  rfl
theorem o_makeN {T e : TypeId} {sz bytes : Nat} {x y : Operand} {kl kc : IntKind} {c : Int} (z0 : List Dc) {i0 : TypeInfo} {zv : Value} (ht : slT E.P T = some (e, sz, bytes)) (hi : E.P.info? e = some i0) (hz : i0.zero = some zv) (hz0 : ∀ w X, Pures w X zv.cells.toList z0) (hx : opv l x = some (.int kl c)) (hy : opv l y = some (.int kc c)) (h0 : decide (0 ≤ c) = true) (hc : decide (bytes * c.toNat ≤ 140737488355328) = true) (hm : decide (c.toNat ≤ 9223372036854775807) = true) (hd : Nat.blt d E.n = true)
    (h : ∀ a n c', WO E ops os ((d, .slice a n c') :: l) (.row (.slice a n c') e sz (List.replicate c.toNat z0) :: H) Φ N Q) : WO E ops (⟨some d, .makeSlice T x y, ty, pos, aft, none⟩ :: os) l H Φ N Q := by
  refine o_step fun ac w hs => ?_
  obtain ⟨hu, inf, z, h2, h3, h4, h5, h6, h7⟩ := slT_parts ht
  rw [hi] at h2
  cases h2
  rw [hz] at h3
  cases h3
  have h0' := of_decide_eq_true h0
  have hc' := of_decide_eq_true hc
  have hm' := of_decide_eq_true hm
  obtain ⟨w', hr, ho, hg⟩ := run_make_full (P := E.P) w 0 T e i0 zv sz hu hi hz h4 kl kc c.toNat (by rw [h5]; omega) (by simp only [maxLen]; omega) (Nat.zero_le _)
  rw [Int.toNat_of_nonneg h0'] at hr
  have hzl : z0.length = sz := by rw [← (hz0 w (fun _ => False)).length, Array.length_toList, h6]
  have hP : ∀ X, Pures w' X (madeCells zv.cells (c.toNat * sz)).toList (List.replicate c.toNat z0).flatten := by
    intro X
    refine Pures.of_get _ _ ?_ fun j hj => ?_
    · rw [Array.length_toList, size_madeCells, flat_length (sz := sz) _ (fun y hy => by rw [List.eq_of_mem_replicate hy]; exact hzl), List.length_replicate]
    · obtain ⟨q, hq⟩ := flat_rep_get hzl h7 c.toNat j hj
      obtain ⟨u, hu1, hu2⟩ := (hz0 w' X).get (j % sz) q
      refine ⟨u, ?_, by rw [hq]; exact hu2⟩
      have hjl : j < c.toNat * sz := by
        rw [flat_length (sz := sz) _ (fun y hy => by rw [List.eq_of_mem_replicate hy]; exact hzl), List.length_replicate] at hj
        exact hj
      rw [Array.getElem?_toList] at hu1 ⊢
      unfold madeCells
      rw [Array.getElem?_map, Array.getElem?_range, if_pos hjl, h6]
      simp only [Option.map_some]
      rw [Array.getElem!_eq_getD, Array.getD_eq_getD_getElem?, hu1]
      rfl
  refine ⟨_, w', ?_, h _ _ _ _ _ (St.putT (St.fresh hs hg (by rw [List.length_replicate]; exact ho) (fun b hb => by simp only [Value.ownBlock, Option.some.injEq] at hb; omega) (fun y hy => by rw [List.eq_of_mem_replicate hy]; exact hzl) hP) (blt_lt hd))⟩
  simp only [execOp, opv_eval hs hx, opv_eval hs hy, Sem.run_bind, hr]
  rfl
theorem o_makeE {α : Type} {enc : α → List Dc} (x0 : α) {T e : TypeId} {sz bytes : Nat} {x y : Operand} {kl kc : IntKind} {c : Int} {i0 : TypeInfo} {zv : Value} (ht : slT E.P T = some (e, sz, bytes)) (hi : E.P.info? e = some i0) (hz : i0.zero = some zv) (hz0 : ∀ w X, Pures w X zv.cells.toList (enc x0)) (hx : opv l x = some (.int kl c)) (hy : opv l y = some (.int kc c)) (h0 : decide (0 ≤ c) = true) (hc : decide (bytes * c.toNat ≤ 140737488355328) = true) (hm : decide (c.toNat ≤ 9223372036854775807) = true) (hd : Nat.blt d E.n = true)
    (h : ∀ a n c', WO E ops os ((d, .slice a n c') :: l) (.row (.slice a n c') e sz ((List.replicate c.toNat x0).map enc) :: H) Φ N Q) : WO E ops (⟨some d, .makeSlice T x y, ty, pos, aft, none⟩ :: os) l H Φ N Q :=
  o_makeN (enc x0) ht hi hz hz0 hx hy h0 hc hm hd fun a n c' => by
    have := h a n c'
    rw [List.map_replicate] at this
    exact this
end
end Go.Vc
