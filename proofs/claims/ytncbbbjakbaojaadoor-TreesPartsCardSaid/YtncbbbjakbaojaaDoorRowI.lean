/-
  Rows of numbers as arguments.
-/
import Derived.Test.YtncbbbjakbaojaaDoorRowT
import Derived.Test.YtncbbbjakbaojaaDoorTM
set_option linter.unusedVariables false
set_option linter.unusedSimpArgs false
set_option maxRecDepth 8000
namespace Go.Proofs.YtncbbbjakbaojaaDoor
open Go.ChangeShapes Go.WideShapes Go.ChangeAt Go.RowKit Go.Vc Go.Proofs
theorem pures_one' {w : World} {X : Nat → Prop} {cs : List Value} {d : Dc} (h : Pures w X cs [d]) : ∃ v, cs = [v] ∧ PureC w X v d := by
  cases h with
  | cons h1 h =>
    cases h
    exact ⟨_, rfl, h1⟩
theorem arg_ints {H : Type} {enc : TypeId × Value → H} {w : World} {base : Nat} {v : Value} {d : DataW H} {ps : List MemPlace} (ho : Value.okWide Tryd.prog w .any base 44 v) (h : DataW.Trod enc Tryd.prog w 0 (fun _ => true) true 44 v d ps) :
    ∃ (l : List Int) (a : Option Addr) (n c : Nat), v = .slice a n c ∧ (∀ m ∈ l, i64b m) ∧ PureC w (fun _ => False) (.slice a n c) (.slice 1 (l.map eI64)) := by
  obtain ⟨fuel, ds, hp, hf⟩ := args_ok arg_closed (by decide) h
  obtain ⟨a, n0, c, rfl⟩ := okWide_slice Tryd.underlying44 ho
  cases fuel with
  | zero => exact hf.elim
  | succ n =>
    unfold Fits at hf
    rw [Tryd.underlying44] at hf
    obtain ⟨xs, rfl, hl, hx⟩ := hf
    obtain ⟨l, rfl, hm⟩ := fits_list (enc := eI64) (ok := i64b) (fun ds h => by
      obtain ⟨m, rfl, hm⟩ := fits_int Tryd.underlying3 h
      exact ⟨m, rfl, i64_wf hm⟩) hx
    obtain ⟨u, hu, hp⟩ := pures_one' hp
    have e : Tryd.prog.cellsOf 3 = 1 := by kernel_rfl
    rw [e] at hp
    have hv : Value.slice a n0 c = u := by simpa [Value.cells] using hu
    subst hv
    exact ⟨l, _, _, _, rfl, hm, hp⟩
end Go.Proofs.YtncbbbjakbaojaaDoor
