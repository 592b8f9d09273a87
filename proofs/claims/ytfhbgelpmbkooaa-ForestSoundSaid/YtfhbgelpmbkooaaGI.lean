/-
  A part of a text has as many trees as stand there in the whole; a rule more.
-/
import Derived.Test.YtfhbgelpmbkooaaGH
set_option linter.unusedVariables false
set_option linter.unusedSimpArgs false
namespace Go.Vc.Ea
section
variable {γ σ : Type} (lhs : γ → Nat) (rhs : γ → List σ)
end
end Go.Vc.Ea
