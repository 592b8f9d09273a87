import Derived.Test.YtdbnoblklhgdoaaGreatDoorBF
set_option linter.unusedSectionVars false
set_option linter.unusedVariables false
namespace Go.Vc
open Go
theorem prsP_one {d : z7} (h : gT d = true) (ho : OkSets d) {f : Follow} (hf : xE f.Sort_ = true) (hs : Cp.okS f.Set) (hl : (jS d ++ xq (xo f)).length <= 65536) : prsP (jS d ++ xq (xo f)) = (jg d (d.Follows ++ [f]), ⟨0, 0⟩) := by
 have h1 := lx_follow hf hs Lx.nil
 rw [List.append_nil, List.append_nil] at h1
 have hx := lx_def h ho h1
 obtain ⟨s', y', e⟩ := def_read h ((qp f).map oW ++ [qQ []])
 refine prsP_of hx hl ?_
 rw [List.map_append, List.append_assoc, e, A_follow, Aw_end]
theorem law_One0 {d : z7} {name : List UInt8} {s : S4} (ho : OkD d) (hs : OkSets d) (hn : name.length <= 140737488351232) (hS : Cp.okS s) (halive : ∀ m, qv.alive (m + 200000) = some true) : ∃ k, qv.DefsOne k d name s = some true := by
 refine ⟨(200000 + 4 * dz d.Boxes) + 200000, ?_⟩
 have hk1 : 200000 + 4 * dz d.Boxes <= (200000 + 4 * dz d.Boxes) + 200000 := by omega
 have hK : 400000 <= (200000 + 4 * dz d.Boxes) + 200000 := by omega
 have hal := halive (200000 + 4 * dz d.Boxes)
 generalize (200000 + 4 * dz d.Boxes) + 200000 = k at *
 obtain ⟨u, e1, p1⟩ := heavy_ok hk1 ho
 unfold qv.DefsOne
 rw [e1, hal]
 simp only [Option.bind_some]
 cases u with
 | true => rfl
 | false =>
  have da := p1 rfl
  simp only [Bool.false_eq_true, if_false]
  rw [(isNm_both name (show 100 <= k by omega)).1, Option.bind_some]
  by_cases hnm : xE name = true
  ·have hpl := Cp.printT_len s
   rw [hnm, if_neg (by simp), Print_one (by omega) da hs, Option.bind_some]
   rw [if_pos (decide_eq_true (by simp only [List.length_append, List.length_cons, List.length_nil]; omega)), if_pos (decide_eq_true (by simp only [List.length_append, List.length_cons, List.length_nil]; omega)), Cp.Print_ok hS (by omega), Option.bind_some,
    if_pos (decide_eq_true (by simp only [List.length_append, List.length_cons, List.length_nil]; omega)), if_pos (decide_eq_true (by simp only [List.length_append, List.length_cons, List.length_nil]; omega))]
   have eL : ([102, 111, 108, 108, 111, 119, 32] : List UInt8) ++ name ++ [32] ++ Cp.printT s ++ [59, 10] = xq (xo ⟨name, s⟩) := rfl
   rw [eL]
   rcases printR_spec d with ⟨a1, a2, a3⟩ | ⟨x, a1, a2⟩
   ·rw [a3]
    have hle : (xq (xo ⟨name, s⟩)).length <= 1000000000000000 := by
     unfold xq xo
     simp only [List.length_append, List.length_cons, List.length_nil]
     omega
    simp only
    rw [if_neg (by simp), zN (by omega) (by omega)]
    by_cases hl : 65536 < (jS d).length + (xq (xo ⟨name, s⟩)).length
    ·rw [if_pos (decide_eq_true (by omega))]
    ·rw [if_neg (by rw [decide_eq_true_eq]; omega), if_pos (decide_eq_true (by omega))]
     have hp := prsP_one a1 hs (f := ⟨name, s⟩) hnm hS (by rw [List.length_append]; omega)
     rw [Parse_ok hK (by rw [List.length_append]; omega), hp, Option.bind_some]
     have hfl := da.follows
     have hw : IntKind.wrap .i64 ((d.Follows.length : Int) + 1) = ((d.Follows.length + 1 : Nat) : Int) := yh (by omega)
     have hat : at_ (d.Follows ++ [(⟨name, s⟩ : Follow)]) (d.Follows.length : Int) = ⟨name, s⟩ := by
      rw [yC (by simp : d.Follows.length < (d.Follows ++ [(⟨name, s⟩ : Follow)]).length)]
      simp
     have hsub : sub (d.Follows ++ [(⟨name, s⟩ : Follow)]) 0 (d.Follows.length : Int) = d.Follows := by
      unfold sub
      simp
     have hin : xa (d.Follows.length : Int) (d.Follows ++ [(⟨name, s⟩ : Follow)]).length = true := yM (by simp : d.Follows.length < _)
     have hok : wl 0 (d.Follows.length : Int) (d.Follows ++ [(⟨name, s⟩ : Follow)]).length = true := by
      simp [wl]
      omega
     have eD : z7.mk d.Start d.Layout d.Prods d.Chains d.Follows d.Rejects d.Boxes = d := rfl
     have eS : S4.eq (S4.mk s.w0 s.w1 s.w2 s.w3) s = true := by rw [S4_eta]; exact S4_eq_self s
     simp only [jg, hat, hsub, hin, hok, hw, if_true]
     rw [if_neg (by simp), if_neg (by simp), eS, eD, SameR_ok hk1 da ho.items, ceq_self]
     simp
   ·have hx : (x != 0) = true := by simpa using a1
    rw [a2]
    simp only [hx]
    rfl
  ·have hb := Bool.eq_false_iff.2 hnm
   rw [hb]
   rfl
end Go.Vc
