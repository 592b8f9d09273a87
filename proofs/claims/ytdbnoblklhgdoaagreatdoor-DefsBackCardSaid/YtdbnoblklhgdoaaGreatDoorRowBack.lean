/-
 The law DefsBack: true at every input, the input reads behind the call as it did; tied to the program's text. No condition but the row's own.
-/
import Derived.Test.YtdbnoblklhgdoaaGreatDoorRowT
import Derived.ChangeMaps5
import Derived.SizedLaws
import Derived.Test.YtdbnoblklhgdoaaGreatDoorA1
import Derived.Test.YtdbnoblklhgdoaaGreatDoorBK
import Derived.Test.YtdbnoblklhgdoaaGreatDoorW3
set_option maxRecDepth 100000
set_option linter.unusedVariables false
namespace Go.Proofs.YtdbnoblklhgdoaaGreatDoor
open Go.ChangeShapes Go.WideShapes Go.ChangeAt Go.RowKit Go.Vc Go.Proofs Go.ChangeMaps
theorem law_Back {d : zY} {s : List UInt8} (hd : OkD d /\ SetsB d) (_ : s.length <= 140737488351232) (halive : ∀ m, qv.alive (m + 200000) = some true) : ∃ k, qv.DefsBack k d s = some true := law_Back0 hd.1 ⟨fun p hp s hs => hd.2.1 p hp s hs, fun f hf => hd.2.2 f hf⟩ halive
theorem back_lifted (os : Os) (started : os.Started) (H : Type) (enc : TypeId × Value -> H) :
  ReturnsInHanded {} Tryz.checked os 4 .any (fun w args => (Rows.defsBackSpec.pre enc Tryz.prog Tryz.f4 [] false w args /\ laidMetH Tryz.prog Rows.defsBackRow.laid w) /\ sizedMet enc Tryz.prog Tryz.f4 (OpenSpec.ofChange Rows.defsBackSpec) false w args)
   (Rows.defsBackSpec.post enc Tryz.prog Tryz.f4 false true false false) := by
 refine returnsInHanded_of_change_and (C := Tryz.checked) (X := fun w _ => laidMetH Tryz.prog Rows.defsBackRow.laid w) (fun _ _ _ hh h => h.of_heap hh) own_knob started (by kernel_rfl) Tryz.func4
  (ChangeSpec.witness_shaped (enc := enc) (C := Tryz.checked) (os := os) (X := fun w _ => laidMetH Tryz.prog Rows.defsBackRow.laid w) false (World.laidAll Tryz.prog os Rows.defsBackRow.laid) #[.agg #[.string ⟨#[]⟩, .string ⟨#[]⟩, .slice none 0 0, .slice none 0 0, .slice none 0 0, .slice none 0 0, .slice none 0 0], .string ⟨#[]⟩] 8 (World.laidAll_os _ _ _)
   (World.shaped_of_ZipB (by kernel_rfl) (by kernel_rfl)) (by kernel_rfl) (by kernel_rfl) (by kernel_rfl)
   (by rw [MakeChecks.laidMetH_plain _ _ _ (by kernel_rfl)]; exact laidMet_laidAll _ (by kernel_rfl) (by kernel_rfl))) ?_
 intro W base args ds gs before hval0 hW _ hsz0 hL _
 have hsz : (DataW.weightsEach Tryz.prog (Tryz.f4.params.toList ++ Rows.defsBackSpec.plain.varTypes Tryz.prog) (ds ++ gs)).all (· <= reachBytes) = true := hsz0
 have hval : ∀ (j : Nat) t v, Tryz.f4.params[j]? = some t -> args[j]? = some v -> Value.okWide Tryz.prog W .any base t v := hval0
 rw [MakeChecks.laidMetH_plain _ _ _ (by kernel_rfl)] at hL
 have hG := tab_fact hL
 have hW' := hW
 obtain ⟨p, q, hA0, hV, rfl, _, _⟩ := hW
 have hA : DataW.TrodAll enc Tryz.prog W 0 (fun _ => true) true Tryz.f4.params.toList args.toList ds p := hA0
 rw [Tryz.params4] at hA hval hsz
 obtain ⟨v0, v1, d0, d1, p0, p1, rfl, rfl, rfl, h0, h1⟩ := trodAll_two hA
 obtain ⟨rfl, rfl⟩ := trodVars_none hV
 obtain ⟨t0, a00, n00, c00, a01, n01, c01, a02, n02, c02, a03, n03, c03, a04, n04, c04, rfl, w0, g00, g01, g02, g03, g04⟩ := arg_def (hval 0 28 v0 rfl rfl) h0 (sized_at (ts' := []) (ds' := ([] : List (DataW H))) hsz (j := 0) rfl rfl)
 obtain ⟨s1, rfl, rfl, rfl, _⟩ := open_string Tryz.underlying9 (hval 1 9 v1 rfl rfl) h1
 have w1 := sized_string hsz (j := 1) (t := 9) rfl rfl
 obtain ⟨k, hk⟩ := law_Back w0 w1 alive_K
 exact calls_law (tb := 4) (Φp := [jc 1, (.slice a00 n00 c00, .slice 5 (t0.Prods.map yh)), (.slice a01 n01 c01, .slice 1 (t0.Chains.map (w8 2 zD))), (.slice a02 n02 c02, .slice 5 (t0.Follows.map z7)), (.slice a03 n03 c03, .slice 2 (t0.Rejects.map z6)), (.slice a04 n04 c04, .slice 2 (t0.Boxes.map xq))]) laid_out (by kernel_rfl) rfl rfl Tryz.underlying4 hW' rfl (tri4 hk) (fun p hp => by simp only [List.mem_cons, List.not_mem_nil, or_false] at hp; rcases hp with rfl | rfl | rfl | rfl | rfl | rfl <;> assumption)
theorem back_row : Rows.DefsBackSaid :=
 OpenClaim.holds_of_wide 4 Tryz.f4 rfl rfl rfl rfl rfl rfl rfl ⟨rfl, rfl, rfl, rfl, rfl⟩ rfl rfl rfl rfl rfl (by kernel_rfl) Tryz.func4 (by kernel_rfl)
  (of_decide_eq_true (by kernel_rfl)) (by unfold Func.isWrapper; first | (rw [if_pos (by decide +kernel)]; kernel_rfl) | (rw [if_neg (by decide +kernel)]; exact ⟨rfl, rfl⟩))
  (fun os started H enc _ => back_lifted os started H enc)
theorem back_holds : Rows.DefsBackCardSaid :=
 Claim7.holds_tied_plain_at .later [] [.data, .data, .data] true (true, "b49f46c0a6d11c5b03423345913943a559fed5ab422752d570e35605e2650037") true back_row (fun _ h => by cases h) (by kernel_rfl) (fun _ h => by cases h) defsBack_row_tie rfl ⟨rfl, rfl⟩ (by kernel_rfl) rfl
  (fun f fn hf hfn => by
   obtain rfl : f = 4 := Option.some.inj ((show Tryz.prog.funcNamed "tracery/tracerylaw03.DefsBack" = some 4 by kernel_rfl).symm.trans hf) |>.symm
   obtain rfl : fn = Tryz.f4 := (Option.some.inj (Tryz.func4.symm.trans hfn)).symm
   exact ⟨by kernel_rfl, fun j t ht => by
    rw [Tryz.params4] at ht
    have hm : t ∈ [28, 9] := by simpa using Array.mem_of_getElem? ht
    have hall : ([28, 9].all fun u => !Tryz.prog.wantsStandIn u) = true := by kernel_rfl
    exact (show Tryz.prog.wantsStandIn t = false by simpa using List.all_eq_true.1 hall t hm)⟩)
  (by kernel_rfl)
end Go.Proofs.YtdbnoblklhgdoaaGreatDoor
