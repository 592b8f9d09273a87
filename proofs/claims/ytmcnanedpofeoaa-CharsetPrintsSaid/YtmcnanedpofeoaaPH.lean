/-
  charset.Runs is the reference's.
-/
import Derived.Test.YtmcnanedpofeoaaPG
namespace Go.Vc
open Go

def cutR (n : Int) (r : Run) : Run := ⟨r.Lo, min r.Hi (n - 1)⟩
structure Inv (s : S4) (n : Nat) : Prop where
  pos : ∀ r ∈ Cr s n, 0 ≤ r.Hi ∧ r.Hi < 256
  on : bt s ((n : Int) - 1) = true → ∃ init last, Cr s n = init ++ [last] ∧ (n : Int) - 1 ≤ last.Hi ∧ (∀ j : Int, (n : Int) - 1 ≤ j → j ≤ last.Hi → bt s j = true) ∧ bt s (last.Hi + 1) = false ∧ ∀ r ∈ init, r.Hi < (n : Int) - 1
  off : bt s ((n : Int) - 1) = false → ∀ r ∈ Cr s n, r.Hi < (n : Int) - 1
theorem inv (s : S4) : ∀ n : Nat, n ≤ 256 → Inv s n
  | 0, _ => ⟨fun r h => by simp [Cr] at h, fun h => (by rw [bt_out (.inl (by omega))] at h; cases h), fun _ r h => by simp [Cr] at h⟩
  | n + 1, hn => by
    have ih := inv s n (by omega)
    have e1 : ((n + 1 : Nat) : Int) - 1 = (n : Int) := by omega
    cases hx : bt s (n : Int) with
    | false =>
      have hC : Cr s (n + 1) = Cr s n := by rw [Cr_succ, hx, Bool.false_and, if_neg (by simp), List.append_nil]
      refine ⟨by rw [hC]; exact ih.pos, fun h => (by rw [e1, hx] at h; cases h), fun _ r hr => ?_⟩
      rw [hC] at hr
      rw [e1]
      cases hy : bt s ((n : Int) - 1) with
      | false => have := ih.off hy r hr; omega
      | true =>
        obtain ⟨init, last, h1, h2, h3, h4, h5⟩ := ih.on hy
        rw [h1] at hr
        rcases List.mem_append.1 hr with hr | hr
        · have := h5 r hr; omega
        · obtain rfl : r = last := by simpa using hr
          rcases (show r.Hi < n ∨ n ≤ r.Hi by omega) with h6 | h6
          · exact h6
          · rw [h3 n (by omega) h6] at hx; cases hx
    | true =>
      cases hy : bt s ((n : Int) - 1) with
      | true =>
        have hC : Cr s (n + 1) = Cr s n := by rw [Cr_succ, hx, hy, Bool.not_true, Bool.and_false, if_neg (by simp), List.append_nil]
        refine ⟨by rw [hC]; exact ih.pos, fun _ => ?_, fun h => by rw [e1, hx] at h; cases h⟩
        obtain ⟨init, last, h1, h2, h3, h4, h5⟩ := ih.on hy
        rw [hC, e1]
        have h6 : (n : Int) ≤ last.Hi := by
          rcases (show last.Hi < n ∨ (n : Int) ≤ last.Hi by omega) with h6 | h6
          · have : last.Hi + 1 = n := by omega
            rw [this, hx] at h4; cases h4
          · exact h6
        exact ⟨init, last, h1, h6, fun j hj1 hj2 => h3 j (by omega) hj2, h4, fun r hr => by have := h5 r hr; omega⟩
      | false =>
        have hC : Cr s (n + 1) = Cr s n ++ [⟨(n : Int), (ext s 256 n : Int)⟩] := by rw [Cr_succ, hx, hy, Bool.not_false, Bool.and_true, if_pos rfl]
        obtain ⟨g1, g2, g3, g4⟩ := ext_spec (s := s) 256 n (by omega) (by omega)
        refine ⟨fun r hr => ?_, fun _ => ?_, fun h => by rw [e1, hx] at h; cases h⟩
        · rw [hC] at hr
          rcases List.mem_append.1 hr with hr | hr
          · exact ih.pos r hr
          · obtain rfl : r = _ := by simpa using hr
            exact ⟨by simp, by simp; omega⟩
        · rw [hC, e1]
          refine ⟨_, _, rfl, by simp; omega, fun j hj1 hj2 => ?_, g4, fun r hr => by have := ih.off hy r hr; omega⟩
          simp only at hj2
          rcases (show (n : Int) < j ∨ j ≤ n by omega) with h6 | h6
          · have := g3 j.toNat (by omega) (by omega)
            rw [show j = ((j.toNat : Nat) : Int) by omega]
            exact this
          · rw [show j = (n : Int) by omega]; exact hx

theorem at_last {α : Type} [Inhabited α] (l : List α) (x : α) : at_ (l ++ [x]) (((l ++ [x]).length : Int) - 1) = x := by
  have : (((l ++ [x]).length : Int) - 1) = (l.length : Int) := by simp
  rw [this]; exact at_snoc l x
theorem set_last {α : Type} (l : List α) (x y : α) : set_ (l ++ [x]) (((l ++ [x]).length : Int) - 1) y = l ++ [y] := by
  have : (((l ++ [x]).length : Int) - 1) = (l.length : Int) := by simp
  rw [this]
  simp [set_]
theorem map_cut {l : List Run} {n : Int} (h : ∀ r ∈ l, r.Hi < n) : l.map (cutR (n + 1)) = l.map (cutR n) := by
  apply List.map_congr_left
  intro r hr
  have := h r hr
  simp only [cutR, Run.mk.injEq, true_and]
  omega

theorem Runs_step {s : S4} {n : Nat} (hn : n < 256) (hx : bt s (n : Int) = true) : F.charset.Runs_b1 (n : Int) ((Cr s n).map (cutR n)) = some (.next ((Cr s (n + 1)).map (cutR ((n + 1 : Nat) : Int)))) := by
  have hi := inv s n (by omega)
  have hlen := Cr_len s n
  have hwn : IntKind.wrap .i64 (n : Int) = (n : Int) := wrap_i64 (by omega) (by omega)
  have ecast : ((n + 1 : Nat) : Int) = (n : Int) + 1 := by omega
  cases hy : bt s ((n : Int) - 1) with
  | true =>
    obtain ⟨init, last, h1, h2, h3, h4, h5⟩ := hi.on hy
    have hC : Cr s (n + 1) = Cr s n := by rw [Cr_succ, hx, hy, Bool.not_true, Bool.and_false, if_neg (by simp), List.append_nil]
    have h6 : (n : Int) ≤ last.Hi := by
      rcases (show last.Hi < n ∨ (n : Int) ≤ last.Hi by omega) with h6 | h6
      · have : last.Hi + 1 = n := by omega
        rw [this, hx] at h4; cases h4
      · exact h6
    rw [hC, h1, List.map_append, List.map_append, ecast, map_cut (l := init) (n := n) (fun r hr => by have := h5 r hr; omega)]
    simp only [List.map_cons, List.map_nil]
    generalize hM : init.map (cutR (n : Int)) = M
    have hMl : M.length < 256 := by rw [← hM]; rw [h1] at hlen; simp at hlen ⊢; omega
    have hw : IntKind.wrap .i64 (((M ++ [cutR n last]).length : Int) - 1) = ((M ++ [cutR n last]).length : Int) - 1 := wrap_i64 (by omega) (by simp; omega)
    have hc : cutR n last = ⟨last.Lo, (n : Int) - 1⟩ := by simp only [cutR, Run.mk.injEq, true_and]; omega
    have hc2 : cutR ((n : Int) + 1) last = ⟨last.Lo, (n : Int)⟩ := by simp only [cutR, Run.mk.injEq, true_and]; omega
    unfold F.charset.Runs_b1 F.charset.Runs_j3 F.charset.Runs_j2
    rw [hw, at_last, set_last, hwn, hc, hc2]
    have hw2 : IntKind.wrap .i64 ((n : Int) - 1 + 1) = (n : Int) := by rw [wrap_i64 (by omega) (by omega)]; omega
    have hpos : (0 : Int) < ((M ++ [(⟨last.Lo, (n : Int) - 1⟩ : Run)]).length : Int) := by simp <;> omega
    rw [if_pos (by rw [decide_eq_true_eq]; exact hpos), if_pos (by rw [inR_iff]; omega), hw2, if_pos (by simp), if_pos (by rw [inR_iff]; omega)]
  | false =>
    have hC : Cr s (n + 1) = Cr s n ++ [⟨(n : Int), (ext s 256 n : Int)⟩] := by rw [Cr_succ, hx, hy, Bool.not_false, Bool.and_true, if_pos rfl]
    have hoff := hi.off hy
    obtain ⟨g1, g2, _, _⟩ := ext_spec (s := s) 256 n (by omega) (by omega)
    have hc2 : cutR ((n : Int) + 1) ⟨(n : Int), (ext s 256 n : Int)⟩ = ⟨(n : Int), (n : Int)⟩ := by simp only [cutR, Run.mk.injEq, true_and]; omega
    rw [hC, List.map_append, ecast, map_cut (l := Cr s n) (n := n) (fun r hr => by have := hoff r hr; omega)]
    simp only [List.map_cons, List.map_nil, hc2]
    have hall : ∀ r ∈ (Cr s n).map (cutR (n : Int)), 0 ≤ r.Hi ∧ r.Hi + 1 < n := by
      intro r hr
      obtain ⟨q, hq, rfl⟩ := List.mem_map.1 hr
      have h1 := hoff q hq
      have h2 := hi.pos q hq
      simp only [cutR]
      omega
    have hMl : ((Cr s n).map (cutR (n : Int))).length < 256 := by simp; omega
    generalize (Cr s n).map (cutR (n : Int)) = M at hall hMl
    have hj : F.charset.Runs_j3 M (n : Int) false = some (.next (M ++ [⟨(n : Int), (n : Int)⟩])) := by
      unfold F.charset.Runs_j3 F.charset.Runs_j2
      rw [if_neg (by simp), hwn, if_pos (by rw [decide_eq_true_eq]; simp; omega), if_pos (by rw [decide_eq_true_eq]; simp; omega)]
    unfold F.charset.Runs_b1
    rcases List.eq_nil_or_concat M with rfl | ⟨M', last, rfl⟩
    · rw [if_neg (by simp)]
      exact hj
    · rw [List.concat_eq_append] at hall hMl hj ⊢
      have hw : IntKind.wrap .i64 (((M' ++ [last]).length : Int) - 1) = ((M' ++ [last]).length : Int) - 1 := wrap_i64 (by omega) (by omega)
      have hl := hall last (by simp)
      have hpos : (0 : Int) < ((M' ++ [last]).length : Int) := by simp <;> omega
      have hw2 : IntKind.wrap .i64 (last.Hi + 1) = last.Hi + 1 := wrap_i64 (by omega) (by omega)
      rw [hw, at_last, hwn, hw2, if_pos (by rw [decide_eq_true_eq]; exact hpos), if_pos (by rw [inR_iff]; omega)]
      have hne : (last.Hi + 1 == (n : Int)) = false := by simp; omega
      rw [hne]
      exact hj

theorem Runs_steps {s : S4} (hs : okS s) : ∀ n : Nat, n ≤ 256 → steps F.charset.Runs_b1 [] (upTo s n) = some ((Cr s n).map (cutR n))
  | 0, _ => rfl
  | n + 1, hn => by
    have ih := Runs_steps hs n (by omega)
    have hb := hasB_bit hs (i := n) (by omega)
    rw [upTo_step, hb, ← bt_nat (by omega)]
    cases hx : bt s (n : Int) with
    | true => exact steps_snoc ih (Runs_step (by omega) hx)
    | false =>
      have hC : Cr s (n + 1) = Cr s n := by rw [Cr_succ, hx, Bool.false_and, if_neg (by simp), List.append_nil]
      have hi := inv s (n + 1) hn
      have ecast : ((n + 1 : Nat) : Int) = (n : Int) + 1 := by omega
      rw [hC, ecast, map_cut (l := Cr s n) (n := n) (fun r hr => ?_)]
      · simpa using ih
      · have := hi.off (by rw [show ((n + 1 : Nat) : Int) - 1 = (n : Int) by omega]; exact hx) r (by rw [hC]; exact hr)
        omega
theorem Runs_eq {s : S4} (hs : okS s) : F.charset.Runs s = some (Cr s 256) := by
  unfold F.charset.Runs
  have h := Runs_steps hs 256 (by omega)
  have hc : (Cr s 256).map (cutR ((256 : Nat) : Int)) = Cr s 256 := by
    have hi := inv s 256 (by omega)
    conv => rhs; rw [← List.map_id (Cr s 256)]
    apply List.map_congr_left
    intro r hr
    have := hi.pos r hr
    cases r
    simp only [cutR, id, Run.mk.injEq, true_and] at this ⊢
    omega
  rw [hc] at h
  have h2 := runR_next h
  have h3 : runR F.charset.Runs_b1 [] (allB s) = some (.next (Cr s 256)) := h2
  rw [h3]; rfl
end Go.Vc
