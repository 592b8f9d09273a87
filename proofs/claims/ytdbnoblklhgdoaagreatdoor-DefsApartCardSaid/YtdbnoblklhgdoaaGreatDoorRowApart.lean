/-
  The law DefsApart: true at every input, the input reads behind the call as it did; tied to the program's text. No condition but the row's own.
-/
import Derived.Test.YtdbnoblklhgdoaaGreatDoorRowT
import Derived.Test.YtdbnoblklhgdoaaGreatDoorA1
import Derived.Test.YtdbnoblklhgdoaaGreatDoorBF
import Derived.Test.YtdbnoblklhgdoaaGreatDoorW3
set_option maxRecDepth 100000
set_option linter.unusedVariables false
namespace Go.Proofs.YtdbnoblklhgdoaaGreatDoor
open Go.ChangeShapes Go.WideShapes Go.ChangeAt Go.RowKit Go.Vc Go.Proofs
theorem law_Apart {a b : Def} (ha : OkD a ∧ SetsB a) (hb : OkD b ∧ SetsB b) (halive : ∀ m, F.law03.alive (m + 200000) = some true) : ∃ k, F.law03.DefsApart k a b = some true := law_Apart0 ha.1 hb.1 ⟨fun p hp s hs => ha.2.1 p hp s hs, fun f hf => ha.2.2 f hf⟩ ⟨fun p hp s hs => hb.2.1 p hp s hs, fun f hf => hb.2.2 f hf⟩ halive
theorem apart_lifted (os : Os) (started : os.Started) (H : Type) (enc : TypeId × Value → H) :
    ReturnsInHanded {} Tryz.checked os 9 .any (fun w args => (Rows.defsApartSpec.pre enc Tryz.prog Tryz.f9 [] false w args ∧ laidMetH Tryz.prog Rows.defsApartRow.laid w) ∧ sizedMet enc Tryz.prog Tryz.f9 (OpenSpec.ofChange Rows.defsApartSpec) false w args)
      (Rows.defsApartSpec.post enc Tryz.prog Tryz.f9 false true false false) := by
  refine returnsInHanded_of_change_and (C := Tryz.checked) (X := fun w _ => laidMetH Tryz.prog Rows.defsApartRow.laid w) (fun _ _ _ hh h => h.of_heap hh) own_knob started (by kernel_rfl) Tryz.func9
    (ChangeSpec.witness_shaped (enc := enc) (C := Tryz.checked) (os := os) (X := fun w _ => laidMetH Tryz.prog Rows.defsApartRow.laid w) false (World.laidAll Tryz.prog os Rows.defsApartRow.laid) #[.agg #[.string ⟨#[]⟩, .string ⟨#[]⟩, .slice none 0 0, .slice none 0 0, .slice none 0 0, .slice none 0 0, .slice none 0 0], .agg #[.string ⟨#[]⟩, .string ⟨#[]⟩, .slice none 0 0, .slice none 0 0, .slice none 0 0, .slice none 0 0, .slice none 0 0]] 8 (World.laidAll_os _ _ _)
      (World.shaped_of_ZipB (by kernel_rfl) (by kernel_rfl)) (by kernel_rfl) (by kernel_rfl) (by kernel_rfl)
      (by rw [MakeChecks.laidMetH_plain _ _ _ (by kernel_rfl)]; exact laidMet_laidAll _ (by kernel_rfl) (by kernel_rfl))) ?_
  intro W base args ds gs before hval0 hW _ hsz0 hL _
  have hsz : (DataW.weightsEach Tryz.prog (Tryz.f9.params.toList ++ Rows.defsApartSpec.plain.varTypes Tryz.prog) (ds ++ gs)).all (· ≤ reachBytes) = true := hsz0
  have hval : ∀ (j : Nat) t v, Tryz.f9.params[j]? = some t → args[j]? = some v → Value.okWide Tryz.prog W .any base t v := hval0
  rw [MakeChecks.laidMetH_plain _ _ _ (by kernel_rfl)] at hL
  have hG := tab_fact hL
  have hW' := hW
  obtain ⟨p, q, hA0, hV, rfl, _, _⟩ := hW
  have hA : DataW.TrodAll enc Tryz.prog W 0 (fun _ => true) true Tryz.f9.params.toList args.toList ds p := hA0
  rw [Tryz.params9] at hA hval hsz
  obtain ⟨v0, v1, d0, d1, p0, p1, rfl, rfl, rfl, h0, h1⟩ := trodAll_two hA
  obtain ⟨rfl, rfl⟩ := trodVars_none hV
  obtain ⟨t0, a00, n00, c00, a01, n01, c01, a02, n02, c02, a03, n03, c03, a04, n04, c04, rfl, w0, g00, g01, g02, g03, g04⟩ := arg_def (hval 0 28 v0 rfl rfl) h0 (sized_at (ts' := []) (ds' := ([] : List (DataW H))) hsz (j := 0) rfl rfl)
  obtain ⟨t1, a10, n10, c10, a11, n11, c11, a12, n12, c12, a13, n13, c13, a14, n14, c14, rfl, w1, g10, g11, g12, g13, g14⟩ := arg_def (hval 1 28 v1 rfl rfl) h1 (sized_at (ts' := []) (ds' := ([] : List (DataW H))) hsz (j := 1) rfl rfl)
  obtain ⟨k, hk⟩ := law_Apart w0 w1 alive_K
  exact calls_law (tb := 4) (Φp := [gf10 1, (.slice a00 n00 c00, .slice 5 (t0.Prods.map eProd)), (.slice a01 n01 c01, .slice 1 (t0.Chains.map (eSl 2 eGroup))), (.slice a02 n02 c02, .slice 5 (t0.Follows.map eFollow)), (.slice a03 n03 c03, .slice 2 (t0.Rejects.map eReject)), (.slice a04 n04 c04, .slice 2 (t0.Boxes.map eBox)), (.slice a10 n10 c10, .slice 5 (t1.Prods.map eProd)), (.slice a11 n11 c11, .slice 1 (t1.Chains.map (eSl 2 eGroup))), (.slice a12 n12 c12, .slice 5 (t1.Follows.map eFollow)), (.slice a13 n13 c13, .slice 2 (t1.Rejects.map eReject)), (.slice a14 n14 c14, .slice 2 (t1.Boxes.map eBox))]) laid_out (by kernel_rfl) rfl rfl Tryz.underlying4 hW' rfl (tri9 hk) (fun p hp => by simp only [List.mem_cons, List.not_mem_nil, or_false] at hp; rcases hp with rfl | rfl | rfl | rfl | rfl | rfl | rfl | rfl | rfl | rfl | rfl <;> assumption)
theorem apart_row : Rows.DefsApartSaid :=
  OpenClaim.holds_of_wide 9 Tryz.f9 rfl rfl rfl rfl rfl rfl rfl ⟨rfl, rfl, rfl, rfl, rfl⟩ rfl rfl rfl rfl rfl (by kernel_rfl) Tryz.func9 (by kernel_rfl)
    (of_decide_eq_true (by kernel_rfl)) (by unfold Func.isWrapper; first | (rw [if_pos (by decide +kernel)]; kernel_rfl) | (rw [if_neg (by decide +kernel)]; exact ⟨rfl, rfl⟩))
    (fun os started H enc _ => apart_lifted os started H enc)
theorem apart_holds : Rows.DefsApartCardSaid :=
  Claim7.holds_tied_plain_at .later [] [.data, .data, .data] true (true, "b49f46c0a6d11c5b03423345913943a559fed5ab422752d570e35605e2650037") true apart_row (fun _ h => by cases h) (by kernel_rfl) (fun _ h => by cases h) defsApart_row_tie rfl ⟨rfl, rfl⟩ (by kernel_rfl) rfl
    (fun f fn hf hfn => by
      obtain rfl : f = 9 := Option.some.inj ((show Tryz.prog.funcNamed "tracery/tracerylaw03.DefsApart" = some 9 by kernel_rfl).symm.trans hf) |>.symm
      obtain rfl : fn = Tryz.f9 := (Option.some.inj (Tryz.func9.symm.trans hfn)).symm
      exact ⟨by kernel_rfl, fun j t ht => by
        rw [Tryz.params9] at ht
        have hm : t ∈ [28, 28] := by simpa using Array.mem_of_getElem? ht
        have hall : ([28, 28].all fun u => !Tryz.prog.wantsStandIn u) = true := by kernel_rfl
        exact (show Tryz.prog.wantsStandIn t = false by simpa using List.all_eq_true.1 hall t hm)⟩)
    (by kernel_rfl)
end Go.Proofs.YtdbnoblklhgdoaaGreatDoor
