/-
  Sets as bits: the program's and the document's 'has' are one.
-/
import Derived.Test.YtfhbgelpmbkooaaFU
set_option linter.unusedVariables false
set_option linter.unusedSimpArgs false
namespace Go.Vc
open Go
def okW (w : Int) : Prop := 0 ≤ w ∧ w < 18446744073709551616
def okS (s : S4) : Prop := okW s.w0 ∧ okW s.w1 ∧ okW s.w2 ∧ okW s.w3
def WordsG (g : Gram) : Prop := ∀ r ∈ g.Rules, ∀ s ∈ r.Rhs, okS s.Set
end Go.Vc
