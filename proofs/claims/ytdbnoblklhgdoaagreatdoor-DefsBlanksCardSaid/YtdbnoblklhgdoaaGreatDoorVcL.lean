/-
  From a row's reading of an argument to data: 'Fits'.
-/
import Derived.Test.YtdbnoblklhgdoaaGreatDoorVcK
import Derived.ProofKit
import Derived.OpenShut
import Derived.SizedLaws
set_option linter.unusedVariables false
set_option linter.unusedSimpArgs false
namespace Go.Vc
open Go
end Go.Vc
