/-
 The law DefsOne: true at every input, the input reads behind the call as it did; tied to the program's text. No condition but the row's own.
-/
import Derived.Test.YtdbnoblklhgdoaaGreatDoorRowT
import Derived.ChangeMaps5
import Derived.SizedLaws
import Derived.Test.YtdbnoblklhgdoaaGreatDoorA1
import Derived.Test.YtdbnoblklhgdoaaGreatDoorBI
import Derived.Test.YtdbnoblklhgdoaaGreatDoorW3
set_option maxRecDepth 100000
set_option linter.unusedVariables false
namespace Go.Proofs.YtdbnoblklhgdoaaGreatDoor
open Go.ChangeShapes Go.WideShapes Go.ChangeAt Go.RowKit Go.Vc Go.Proofs Go.ChangeMaps
theorem arg_set {H : Type} {enc : TypeId × Value -> H} {w : World} {base : Nat} {v : Value} {d : DataW H} {ps : List MemPlace} (ho : Value.okWide Tryz.prog w .any base 44 v) (h : DataW.Trod enc Tryz.prog w 0 (fun _ => true) true 44 v d ps) (hw : ∀ n ∈ d.weights Tryz.prog 44, n <= reachBytes) :
  ∃ s : S4, v = .agg #[.int .u64 s.w0, .int .u64 s.w1, .int .u64 s.w2, .int .u64 s.w3] /\ Cp.okS s := by
 obtain ⟨cs, rfl⟩ : ∃ cs, v = .agg cs := by
  unfold Value.okWide at ho
  rw [Tryz.underlying44] at ho
  obtain ⟨cs, rfl, _⟩ := ho
  exact ⟨cs, rfl⟩
 obtain ⟨fuel, ds, hp, hf⟩ := args_ok arg_closed (by decide) h hw
 obtain ⟨x, rfl, hs⟩ := fits_set hf
 have e : (Value.agg cs).cells.toList = cs.toList := rfl
 rw [e] at hp
 generalize hcs : cs.toList = l at hp
 cases hp with
 | cons h1 hp => cases hp with
  | cons h2 hp => cases hp with
   | cons h3 hp => cases hp with
    | cons h4 hp =>
     cases hp
     cases h1; cases h2; cases h3; cases h4
     exact ⟨x, by rw [<- hcs], hs⟩
theorem law_One {d : z7} {n : List UInt8} {s : S4} (hd : OkD d /\ SetsB d) (hn : n.length <= 140737488351232) (hs : Cp.okS s) (halive : ∀ m, qv.alive (m + 200000) = some true) : ∃ k, qv.DefsOne k d n s = some true := law_One0 hd.1 ⟨fun p hp s hs => hd.2.1 p hp s hs, fun f hf => hd.2.2 f hf⟩ hn hs halive
theorem one_lifted (os : Os) (started : os.Started) (H : Type) (enc : TypeId × Value -> H) :
  ReturnsInHanded {} Tryz.checked os 6 .any (fun w args => (Rows.defsOneSpec.pre enc Tryz.prog Tryz.f6 [] false w args /\ laidMetH Tryz.prog Rows.defsOneRow.laid w) /\ sizedMet enc Tryz.prog Tryz.f6 (OpenSpec.ofChange Rows.defsOneSpec) false w args)
   (Rows.defsOneSpec.post enc Tryz.prog Tryz.f6 false true false false) := by
 refine returnsInHanded_of_change_and (C := Tryz.checked) (X := fun w _ => laidMetH Tryz.prog Rows.defsOneRow.laid w) (fun _ _ _ hh h => h.of_heap hh) own_knob started (by kernel_rfl) Tryz.func6
  (ChangeSpec.witness_shaped (enc := enc) (C := Tryz.checked) (os := os) (X := fun w _ => laidMetH Tryz.prog Rows.defsOneRow.laid w) false (World.laidAll Tryz.prog os Rows.defsOneRow.laid) #[.agg #[.string ⟨#[]⟩, .string ⟨#[]⟩, .slice none 0 0, .slice none 0 0, .slice none 0 0, .slice none 0 0, .slice none 0 0], .string ⟨#[]⟩, .agg #[.int .u64 0, .int .u64 0, .int .u64 0, .int .u64 0]] 8 (World.laidAll_os _ _ _)
   (World.shaped_of_ZipB (by kernel_rfl) (by kernel_rfl)) (by kernel_rfl) (by kernel_rfl) (by kernel_rfl)
   (by rw [MakeChecks.laidMetH_plain _ _ _ (by kernel_rfl)]; exact laidMet_laidAll _ (by kernel_rfl) (by kernel_rfl))) ?_
 intro W base args ds gs before hval0 hW _ hsz0 hL _
 have hsz : (DataW.weightsEach Tryz.prog (Tryz.f6.params.toList ++ Rows.defsOneSpec.plain.varTypes Tryz.prog) (ds ++ gs)).all (· <= reachBytes) = true := hsz0
 have hval : ∀ (j : Nat) t v, Tryz.f6.params[j]? = some t -> args[j]? = some v -> Value.okWide Tryz.prog W .any base t v := hval0
 rw [MakeChecks.laidMetH_plain _ _ _ (by kernel_rfl)] at hL
 have hG := tab_fact hL
 have hW' := hW
 obtain ⟨p, q, hA0, hV, rfl, _, _⟩ := hW
 have hA : DataW.TrodAll enc Tryz.prog W 0 (fun _ => true) true Tryz.f6.params.toList args.toList ds p := hA0
 rw [Tryz.params6] at hA hval hsz
 obtain ⟨v0, v1, v2, d0, d1, d2, p0, p1, p2, rfl, rfl, rfl, h0, h1, h2⟩ := trodAll_three hA
 obtain ⟨rfl, rfl⟩ := trodVars_none hV
 obtain ⟨t0, a00, n00, c00, a01, n01, c01, a02, n02, c02, a03, n03, c03, a04, n04, c04, rfl, w0, g00, g01, g02, g03, g04⟩ := arg_def (hval 0 28 v0 rfl rfl) h0 (sized_at (ts' := []) (ds' := ([] : List (DataW H))) hsz (j := 0) rfl rfl)
 obtain ⟨s1, rfl, rfl, rfl, _⟩ := open_string Tryz.underlying9 (hval 1 9 v1 rfl rfl) h1
 have w1 := sized_string hsz (j := 1) (t := 9) rfl rfl
 obtain ⟨s2, rfl, w2⟩ := arg_set (hval 2 44 v2 rfl rfl) h2 (sized_at (ts' := []) (ds' := ([] : List (DataW H))) hsz (j := 2) rfl rfl)
 obtain ⟨k, hk⟩ := law_One w0 w1 w2 alive_K
 exact calls_law (tb := 4) (Φp := [je 1, (.slice a00 n00 c00, .slice 5 (t0.Prods.map yo)), (.slice a01 n01 c01, .slice 1 (t0.Chains.map (w9 2 zD))), (.slice a02 n02 c02, .slice 5 (t0.Follows.map zU)), (.slice a03 n03 c03, .slice 2 (t0.Rejects.map ya)), (.slice a04 n04 c04, .slice 2 (t0.Boxes.map xp))]) laid_out (by kernel_rfl) rfl rfl Tryz.underlying4 hW' rfl (tri6 hk) (fun p hp => by simp only [List.mem_cons, List.not_mem_nil, or_false] at hp; rcases hp with rfl | rfl | rfl | rfl | rfl | rfl <;> assumption)
theorem one_row : Rows.DefsOneSaid :=
 OpenClaim.holds_of_wide 6 Tryz.f6 rfl rfl rfl rfl rfl rfl rfl ⟨rfl, rfl, rfl, rfl, rfl⟩ rfl rfl rfl rfl rfl (by kernel_rfl) Tryz.func6 (by kernel_rfl)
  (of_decide_eq_true (by kernel_rfl)) (by unfold Func.isWrapper; first | (rw [if_pos (by decide +kernel)]; kernel_rfl) | (rw [if_neg (by decide +kernel)]; exact ⟨rfl, rfl⟩))
  (fun os started H enc _ => one_lifted os started H enc)
theorem one_holds : Rows.DefsOneCardSaid :=
 Claim7.holds_tied_plain_at .later [] [.data, .data, .data] true (true, "b49f46c0a6d11c5b03423345913943a559fed5ab422752d570e35605e2650037") true one_row (fun _ h => by cases h) (by kernel_rfl) (fun _ h => by cases h) defsOne_row_tie rfl ⟨rfl, rfl⟩ (by kernel_rfl) rfl
  (fun f fn hf hfn => by
   obtain rfl : f = 6 := Option.some.inj ((show Tryz.prog.funcNamed "tracery/tracerylaw03.DefsOne" = some 6 by kernel_rfl).symm.trans hf) |>.symm
   obtain rfl : fn = Tryz.f6 := (Option.some.inj (Tryz.func6.symm.trans hfn)).symm
   exact ⟨by kernel_rfl, fun j t ht => by
    rw [Tryz.params6] at ht
    have hm : t ∈ [28, 9, 44] := by simpa using Array.mem_of_getElem? ht
    have hall : ([28, 9, 44].all fun u => !Tryz.prog.wantsStandIn u) = true := by kernel_rfl
    exact (show Tryz.prog.wantsStandIn t = false by simpa using List.all_eq_true.1 hall t hm)⟩)
  (by kernel_rfl)
end Go.Proofs.YtdbnoblklhgdoaaGreatDoor
