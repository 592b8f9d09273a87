import Derived.Test.YtdbnoblklhgdoaaGreatDoorFF
import Derived.KernelRfl
set_option linter.unusedVariables false
set_option linter.unusedSimpArgs false
namespace Go.Vc
theorem alive_K (m : Nat) : qv.alive (m + 200000) = some true := by kernel_rfl
end Go.Vc
