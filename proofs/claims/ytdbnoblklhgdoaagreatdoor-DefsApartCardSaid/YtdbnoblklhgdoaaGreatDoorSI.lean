/-
  Words: the law WordsAgain.
-/
import Derived.Test.YtdbnoblklhgdoaaGreatDoorSH
import Derived.Test.YtdbnoblklhgdoaaGreatDoorWQ
set_option linter.unusedVariables false
set_option linter.unusedSimpArgs false
namespace Go.Vc
open Go
def Gd (w : List UInt8) (x : Tk) : Prop := w ≠ [] ∧ x.kind ≠ 7 ∧ (∀ t, stop x.kind t → tok (w ++ t) = .ok (x, w.length)) ∧ ∀ b, skL false (w ++ b) = w ++ b
end Go.Vc
