/-
  What the rows of words share: arguments.
-/
import Derived.Test.YthkfffheppfieaaRows
import Derived.Test.YthkfffheppfieaaVcM
import Derived.Test.YthkfffheppfieaaW3
set_option linter.unusedVariables false
set_option linter.unusedSimpArgs false
set_option maxRecDepth 8000
namespace Go.Proofs.Ythkfffheppfieaa
open Go.ChangeShapes Go.WideShapes Go.ChangeAt Go.RowKit Go.Vc Go.Proofs

theorem own_knob : ownKnob Try.prog.godebug = none := by kernel_rfl
theorem laid_out : laidOutB Try.prog = true := by kernel_rfl
/-- the types that the arguments of the laws lead to -/
def argTypes : List TypeId := [3, 5, 9, 30]
theorem arg_closed : closedB Try.prog argTypes = true := by kernel_rfl
theorem pures_one {w : World} {X : Nat → Prop} {cs : List Value} {d : Dc} (h : Pures w X cs [d]) : ∃ v, cs = [v] ∧ PureC w X v d := by
  cases h with
  | cons h1 h =>
    cases h
    exact ⟨_, rfl, h1⟩
theorem arg_str {H : Type} {enc : TypeId × Value → H} {w : World} {base : Nat} {v : Value} {d : DataW H} {ps : List MemPlace} (ho : Value.okWide Try.prog w .any base 9 v) (h : DataW.Trod enc Try.prog w 0 (fun _ => true) true 9 v d ps) :
    ∃ s : List UInt8, v = .string (bs s) ∧ s.length ≤ maxLen := by
  obtain ⟨fuel, ds, hp, hf⟩ := args_ok arg_closed (by decide) h
  obtain ⟨v0, rfl⟩ := okWide_string Try.underlying9 ho
  cases fuel with
  | zero => exact hf.elim
  | succ n =>
    unfold Fits at hf
    rw [Try.underlying9] at hf
    obtain ⟨s, rfl, hl⟩ := hf
    obtain ⟨u, hu, hp⟩ := pures_one hp
    cases hp with
    | str =>
      refine ⟨s, ?_, hl⟩
      simpa [Value.cells] using hu
end Go.Proofs.Ythkfffheppfieaa
