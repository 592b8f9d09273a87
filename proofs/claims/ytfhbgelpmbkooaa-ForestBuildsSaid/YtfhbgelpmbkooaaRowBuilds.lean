/-
  The law ForestBuilds: true at every input, the input reads behind the call as it did. No condition but the row's own.
-/
import Derived.Test.YtfhbgelpmbkooaaRowT
import Derived.Test.YtfhbgelpmbkooaaHZ
import Derived.Test.YtfhbgelpmbkooaaW3
import Derived.ChangeMaps5
import Derived.SizedLaws
import Derived.Carry
set_option linter.unusedVariables false
set_option linter.unusedSimpArgs false
set_option maxRecDepth 100000
namespace Go.Proofs.Ytfhbgelpmbkooaa
open Go.ChangeShapes Go.WideShapes Go.ChangeAt Go.RowKit Go.Vc Go.Proofs Go.ChangeMaps
theorem builds_lifted (os : Os) (started : os.Started) (H : Type) (enc : TypeId × Value → H) :
    ReturnsInHanded {} Try.checked os 8 .any (Rows.forestBuildsSpec.pre6 enc Try.prog Try.f8 Rows.forestBuildsRow.domain false) (Rows.forestBuildsSpec.post enc Try.prog Try.f8 false true false false) := by
  refine returnsInHanded_of_change_sized (C := Try.checked) own_knob started (by kernel_rfl) Try.func8
    (ChangeSpec.witness6 (enc := enc) (C := Try.checked) false ⟨#[], #[.agg #[.int .i64 0, .int .i64 0, .slice none 0 0], .slice none 0 0], []⟩ 8 (by kernel_rfl) (by kernel_rfl) (by kernel_rfl) (by kernel_rfl)) ?_
  intro W base args ds gs before hval0 hW hcnd hsz0 _
  have hsz : (DataW.weightsEach Try.prog (Try.f8.params.toList ++ Rows.forestBuildsSpec.plain.varTypes Try.prog) (ds ++ gs)).all (· ≤ reachBytes) = true := hsz0
  have hval : ∀ (j : Nat) t v, Try.f8.params[j]? = some t → args[j]? = some v → Value.okWide Try.prog W .any base t v := hval0
  have hW' := hW
  obtain ⟨p, q, hA0, hV, rfl, hfz, hnd⟩ := hW
  have hA : DataW.TrodAll enc Try.prog W 0 (fun _ => true) true Try.f8.params.toList args.toList ds p := hA0
  rw [Try.params8] at hA hval hsz
  obtain ⟨v0, v1, d0, d1, p0, p1, rfl, rfl, rfl, h0, h1⟩ := trodAll_two hA
  obtain ⟨rfl, rfl⟩ := trodVars_none hV
  obtain ⟨g0, a0, n0, c0, rfl, w0, f0⟩ := arg_gram (hval 0 24 v0 rfl rfl) h0 (sized_at hsz (j := 0) rfl rfl)
  obtain ⟨l1, a1, n1, c1, rfl, w1, f1⟩ := arg_bytes (hval 1 25 v1 rfl rfl) h1 (sized_at hsz (j := 1) rfl rfl)
  exact calls_law (tb := 4) (Φp := [(.slice a0 n0 c0, .slice 2 (g0.Rules.map eRule)), (.slice a1 n1 c1, .slice 1 (l1.map eU8))]) laid_out (by kernel_rfl) rfl rfl Try.underlying4 hW' rfl (tri8 (law_Builds (Nat.le_refl _) (by decide) alive_K w0.1 w0.2 w1)) (fun p hp => by
    simp only [List.mem_cons, List.not_mem_nil, or_false] at hp
    rcases hp with rfl | rfl
    · exact f0
    · exact f1)
theorem builds_holds : Rows.ForestBuildsSaid :=
  OpenClaim.holds_of_wide 8 Try.f8 rfl rfl rfl rfl rfl rfl rfl ⟨rfl, rfl, rfl, rfl, rfl⟩ rfl rfl rfl rfl rfl (by kernel_rfl) Try.func8 (by kernel_rfl)
    (of_decide_eq_true (by kernel_rfl)) (by unfold Func.isWrapper; first | (rw [if_pos (by decide +kernel)]; kernel_rfl) | (rw [if_neg (by decide +kernel)]; exact ⟨rfl, rfl⟩))
    (fun os started H enc _ => builds_lifted os started H enc)
end Go.Proofs.Ytfhbgelpmbkooaa
