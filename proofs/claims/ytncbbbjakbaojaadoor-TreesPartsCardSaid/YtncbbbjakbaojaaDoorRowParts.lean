/-
  The row TreesParts and its card.
-/
import Derived.Test.YtncbbbjakbaojaaDoorRowI
import Derived.Test.YtncbbbjakbaojaaDoorH8
import Derived.Test.YtncbbbjakbaojaaDoorTO
set_option linter.unusedVariables false
set_option linter.unusedSimpArgs false
set_option maxRecDepth 100000
namespace Go.Proofs.YtncbbbjakbaojaaDoor
open Go.ChangeShapes Go.WideShapes Go.ChangeAt Go.RowKit Go.Vc Go.Proofs

theorem parts_lifted (os : Os) (started : os.Started) (H : Type) (enc : TypeId × Value → H) :
    ReturnsInHanded {} Tryd.checked os 7 .any (fun w args => (Rows.treesPartsSpec.pre enc Tryd.prog Tryd.f7 [] false w args ∧ laidMetH Tryd.prog Rows.treesPartsRow.laid w) ∧ sizedMet enc Tryd.prog Tryd.f7 (OpenSpec.ofChange Rows.treesPartsSpec) false w args)
      (Rows.treesPartsSpec.post enc Tryd.prog Tryd.f7 false true false false) := by
  refine returnsInHanded_of_change_and (C := Tryd.checked) (X := fun w _ => laidMetH Tryd.prog Rows.treesPartsRow.laid w) (fun _ _ _ hh h => h.of_heap hh) own_knob started (by kernel_rfl) Tryd.func7
    (ChangeSpec.witness_shaped (enc := enc) (C := Tryd.checked) (os := os) (X := fun w _ => laidMetH Tryd.prog Rows.treesPartsRow.laid w) false (World.laidAll Tryd.prog os Rows.treesPartsRow.laid) #[.agg #[.int .i64 0, .int .u8 0, .slice none 0 0], .slice none 0 0, .agg #[.int .i64 0, .int .u8 0, .slice none 0 0]] 8 (World.laidAll_os _ _ _)
      (World.shaped_of_ZipB (by kernel_rfl) (by kernel_rfl)) (by kernel_rfl) (by kernel_rfl) (by kernel_rfl)
      (by rw [MakeChecks.laidMetH_plain _ _ _ (by kernel_rfl)]; exact laidMet_laidAll _ (by kernel_rfl) (by kernel_rfl))) ?_
  intro W base args ds gs before hval0 hW _ _ hL _
  have hval : ∀ (j : Nat) t v, Tryd.f7.params[j]? = some t → args[j]? = some v → Value.okWide Tryd.prog W .any base t v := hval0
  rw [MakeChecks.laidMetH_plain _ _ _ (by kernel_rfl)] at hL
  have hG := tab_fact hL
  have hW' := hW
  obtain ⟨p, q, hA0, hV, rfl, _, _⟩ := hW
  have hA : DataW.TrodAll enc Tryd.prog W 0 (fun _ => true) true Tryd.f7.params.toList args.toList ds p := hA0
  rw [Tryd.params7] at hA hval
  obtain ⟨v0, v1, v2, d0, d1, d2, p0, p1, p2, rfl, rfl, rfl, h0, h1, h2⟩ := trodAll_three hA
  obtain ⟨rfl, rfl⟩ := trodVars_none hV
  obtain ⟨t0, sa0, sn0, sc0, rfl, w0, g0⟩ := arg_tree (hval 0 27 v0 rfl rfl) h0
  obtain ⟨t1, sa1, sn1, sc1, rfl, w1, g1⟩ := arg_ints (hval 1 44 v1 rfl rfl) h1
  obtain ⟨t2, sa2, sn2, sc2, rfl, w2, g2⟩ := arg_tree (hval 2 27 v2 rfl rfl) h2
  exact calls_law (tb := 4) (Φp := [gf10 0, (.slice sa0 sn0 sc0, .slice 3 (t0.Kids.map eTree)), (.slice sa1 sn1 sc1, .slice 1 (t1.map eI64)), (.slice sa2 sn2 sc2, .slice 3 (t2.Kids.map eTree))]) laid_out (by kernel_rfl) rfl rfl Tryd.underlying4 hW' rfl (tri7 100000 t0 t1 t2 sa0 sn0 sc0 sa1 sn1 sc1 sa2 sn2 sc2 true law_Parts) (fun p hp => by simp only [List.mem_cons, List.not_mem_nil, or_false] at hp; rcases hp with rfl | rfl | rfl | rfl <;> assumption)

theorem parts_row : Rows.TreesPartsSaid :=
  OpenClaim.holds_of_wide 7 Tryd.f7 rfl rfl rfl rfl rfl rfl rfl ⟨rfl, rfl, rfl, rfl, rfl⟩ rfl rfl rfl rfl rfl (by kernel_rfl) Tryd.func7 (by kernel_rfl)
    (of_decide_eq_true (by kernel_rfl)) (by unfold Func.isWrapper; first | (rw [if_pos (by decide +kernel)]; kernel_rfl) | (rw [if_neg (by decide +kernel)]; exact ⟨rfl, rfl⟩))
    (fun os started H enc _ => parts_lifted os started H enc)
theorem parts_holds : Rows.TreesPartsCardSaid :=
  Claim7.holds_tied_plain_at .later [] [.data, .data, .data] true (true, "b65180683d9a68e840aa793359e55265650240a4fa2be5c0b385a3a835645bed") true parts_row (fun _ h => by cases h) (by kernel_rfl) (fun _ h => by cases h) treesParts_row_tie rfl ⟨rfl, rfl⟩ (by kernel_rfl) rfl
    (fun f fn hf hfn => by
      obtain rfl : f = 7 := Option.some.inj ((show Tryd.prog.funcNamed "tracery/tracerylaw09.TreesParts" = some 7 by kernel_rfl).symm.trans hf) |>.symm
      obtain rfl : fn = Tryd.f7 := (Option.some.inj (Tryd.func7.symm.trans hfn)).symm
      exact ⟨by kernel_rfl, fun j t ht => by
        rw [Tryd.params7] at ht
        have hm : t ∈ [27, 44, 27] := by simpa using Array.mem_of_getElem? ht
        have hall : ([27, 44, 27].all fun u => !Tryd.prog.wantsStandIn u) = true := by kernel_rfl
        exact (show Tryd.prog.wantsStandIn t = false by simpa using List.all_eq_true.1 hall t hm)⟩)
    (by kernel_rfl)

end Go.Proofs.YtncbbbjakbaojaaDoor
