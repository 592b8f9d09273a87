import Derived.Test.YtdbnoblklhgdoaaGreatDoorSH
import Derived.Test.YtdbnoblklhgdoaaGreatDoorWQ
set_option linter.unusedVariables false
set_option linter.unusedSimpArgs false
namespace Go.Vc
open Go
def Gd (w : List UInt8) (x : Tk) : Prop := w ≠ [] /\ x.kind ≠ 7 /\ (∀ t, uz x.kind t -> kD (w ++ t) = .ok (x, w.length)) /\ ∀ b, vx false (w ++ b) = w ++ b
end Go.Vc
