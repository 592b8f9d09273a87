/-
  The row TreesStay and its card.
-/
import Derived.Test.YtncbbbjakbaojaaDoorRowI
import Derived.Test.YtncbbbjakbaojaaDoorRowG
import Derived.Test.YtncbbbjakbaojaaDoorTN
set_option linter.unusedVariables false
set_option linter.unusedSimpArgs false
set_option maxRecDepth 100000
namespace Go.Proofs.YtncbbbjakbaojaaDoor
open Go.ChangeShapes Go.WideShapes Go.ChangeAt Go.RowKit Go.Vc Go.Proofs

theorem stay_lifted (os : Os) (started : os.Started) (H : Type) (enc : TypeId × Value → H) :
    ReturnsInHanded {} Tryd.checked os 9 .any (fun w args => (Rows.treesStaySpec.pre enc Tryd.prog Tryd.f9 [] false w args ∧ laidMetH Tryd.prog Rows.treesStayRow.laid w) ∧ sizedMet enc Tryd.prog Tryd.f9 (OpenSpec.ofChange Rows.treesStaySpec) false w args)
      (Rows.treesStaySpec.post enc Tryd.prog Tryd.f9 false true false false) := by
  refine returnsInHanded_of_change_and (C := Tryd.checked) (X := fun w _ => laidMetH Tryd.prog Rows.treesStayRow.laid w) (fun _ _ _ hh h => h.of_heap hh) own_knob started (by kernel_rfl) Tryd.func9
    (ChangeSpec.witness_shaped (enc := enc) (C := Tryd.checked) (os := os) (X := fun w _ => laidMetH Tryd.prog Rows.treesStayRow.laid w) false (World.laidAll Tryd.prog os Rows.treesStayRow.laid) #[.agg #[.int .i64 0, .int .i64 0, .slice none 0 0], .agg #[.int .i64 0, .int .u8 0, .slice none 0 0], .slice none 0 0, .agg #[.int .i64 0, .int .u8 0, .slice none 0 0]] 8 (World.laidAll_os _ _ _)
      (World.shaped_of_ZipB (by kernel_rfl) (by kernel_rfl)) (by kernel_rfl) (by kernel_rfl) (by kernel_rfl)
      (by rw [MakeChecks.laidMetH_plain _ _ _ (by kernel_rfl)]; exact laidMet_laidAll _ (by kernel_rfl) (by kernel_rfl))) ?_
  intro W base args ds gs before hval0 hW _ _ hL _
  have hval : ∀ (j : Nat) t v, Tryd.f9.params[j]? = some t → args[j]? = some v → Value.okWide Tryd.prog W .any base t v := hval0
  rw [MakeChecks.laidMetH_plain _ _ _ (by kernel_rfl)] at hL
  have hG := tab_fact hL
  have hW' := hW
  obtain ⟨p, q, hA0, hV, rfl, _, _⟩ := hW
  have hA : DataW.TrodAll enc Tryd.prog W 0 (fun _ => true) true Tryd.f9.params.toList args.toList ds p := hA0
  rw [Tryd.params9] at hA hval
  obtain ⟨v0, v1, v2, v3, d0, d1, d2, d3, p0, p1, p2, p3, rfl, rfl, rfl, h0, h1, h2, h3⟩ := trodAll_four hA
  obtain ⟨rfl, rfl⟩ := trodVars_none hV
  obtain ⟨t0, sa0, sn0, sc0, rfl, w0, g0⟩ := arg_gram (hval 0 24 v0 rfl rfl) h0
  obtain ⟨t1, sa1, sn1, sc1, rfl, w1, g1⟩ := arg_tree (hval 1 27 v1 rfl rfl) h1
  obtain ⟨t2, sa2, sn2, sc2, rfl, w2, g2⟩ := arg_ints (hval 2 44 v2 rfl rfl) h2
  obtain ⟨t3, sa3, sn3, sc3, rfl, w3, g3⟩ := arg_tree (hval 3 27 v3 rfl rfl) h3
  exact calls_law (tb := 4) (Φp := [gf10 0, (.slice sa0 sn0 sc0, .slice 2 (t0.Rules.map eRule)), (.slice sa1 sn1 sc1, .slice 3 (t1.Kids.map eTree)), (.slice sa2 sn2 sc2, .slice 1 (t2.map eI64)), (.slice sa3 sn3 sc3, .slice 3 (t3.Kids.map eTree))]) laid_out (by kernel_rfl) rfl rfl Tryd.underlying4 hW' rfl (tri9 100000 t0 t1 t2 t3 sa0 sn0 sc0 sa1 sn1 sc1 sa2 sn2 sc2 sa3 sn3 sc3 true (law_Stay w0 w1 w2 w3)) (fun p hp => by simp only [List.mem_cons, List.not_mem_nil, or_false] at hp; rcases hp with rfl | rfl | rfl | rfl | rfl <;> assumption)

theorem stay_row : Rows.TreesStaySaid :=
  OpenClaim.holds_of_wide 9 Tryd.f9 rfl rfl rfl rfl rfl rfl rfl ⟨rfl, rfl, rfl, rfl, rfl⟩ rfl rfl rfl rfl rfl (by kernel_rfl) Tryd.func9 (by kernel_rfl)
    (of_decide_eq_true (by kernel_rfl)) (by unfold Func.isWrapper; first | (rw [if_pos (by decide +kernel)]; kernel_rfl) | (rw [if_neg (by decide +kernel)]; exact ⟨rfl, rfl⟩))
    (fun os started H enc _ => stay_lifted os started H enc)
theorem stay_holds : Rows.TreesStayCardSaid :=
  Claim7.holds_tied_plain_at .later [] [.data, .data, .data] true (true, "b65180683d9a68e840aa793359e55265650240a4fa2be5c0b385a3a835645bed") true stay_row (fun _ h => by cases h) (by kernel_rfl) (fun _ h => by cases h) treesStay_row_tie rfl ⟨rfl, rfl⟩ (by kernel_rfl) rfl
    (fun f fn hf hfn => by
      obtain rfl : f = 9 := Option.some.inj ((show Tryd.prog.funcNamed "tracery/tracerylaw09.TreesStay" = some 9 by kernel_rfl).symm.trans hf) |>.symm
      obtain rfl : fn = Tryd.f9 := (Option.some.inj (Tryd.func9.symm.trans hfn)).symm
      exact ⟨by kernel_rfl, fun j t ht => by
        rw [Tryd.params9] at ht
        have hm : t ∈ [24, 27, 44, 27] := by simpa using Array.mem_of_getElem? ht
        have hall : ([24, 27, 44, 27].all fun u => !Tryd.prog.wantsStandIn u) = true := by kernel_rfl
        exact (show Tryd.prog.wantsStandIn t = false by simpa using List.all_eq_true.1 hall t hm)⟩)
    (by kernel_rfl)

end Go.Proofs.YtncbbbjakbaojaaDoor
