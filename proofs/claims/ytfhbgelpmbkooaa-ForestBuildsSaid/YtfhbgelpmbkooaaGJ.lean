/-
  A rule more, of a nonterminal more: two of the start's, one behind the other.
-/
import Derived.Test.YtfhbgelpmbkooaaGH
set_option linter.unusedVariables false
set_option linter.unusedSimpArgs false
namespace Go.Vc.Ea
variable {R : List Ru}
def Below (R : List Ru) (N : Nat) : Prop := ∀ r ∈ R, r.lhs < N ∧ ∀ b, Sy.nt b ∈ r.rhs → b < N
end Go.Vc.Ea
