/-
  Definitions are read: the scanner's words, then the plain reader.
-/
import Derived.Test.YtdbnoblklhgdoaaGreatDoorRB
import Derived.Test.YtdbnoblklhgdoaaGreatDoorSH
set_option linter.unusedVariables false
set_option linter.unusedSimpArgs false
set_option linter.unusedSectionVars false
namespace Go.Vc
open Go
def d0 : Def := ⟨[], [], [], [], [], [], []⟩
def prsP (s : List UInt8) : Def × Fault := match scT 400000 s with
  | .error (m, o, e) => (d0, ⟨((s.length - m : Nat) : Int) + o, e⟩)
  | .ok l => match allW 400000 d0 false false (wds s l ++ [endW s]) with
    | .ok d => (d, ⟨0, 0⟩)
    | .error f => (d0, f)
theorem er_core {l l' : List Word} (h : l.map core = l'.map core) : Eq' l l' := by
  have : ∀ w : Word, er w = (fun c : Int × List UInt8 × List Int × S4 × Int => (⟨c.1, c.2.1, c.2.2.1, c.2.2.2.1, c.2.2.2.2, 0, 0, 0⟩ : Word)) (core w) := fun _ => rfl
  unfold Eq'
  rw [show er = (fun c : Int × List UInt8 × List Int × S4 × Int => (⟨c.1, c.2.1, c.2.2.1, c.2.2.2.1, c.2.2.2.2, 0, 0, 0⟩ : Word)) ∘ core from funext this, ← List.map_map, ← List.map_map, h]
end Go.Vc
