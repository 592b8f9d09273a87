import Derived.Test.YtncbbbjakbaojaaDoorFF
import Derived.KernelRfl
set_option linter.unusedVariables false
set_option linter.unusedSimpArgs false
namespace Go.Vc
theorem alive_300 : F.law09.alive 300 = some true := by kernel_rfl
theorem alive_K : F.law09.alive 100000 = some true := by kernel_rfl
end Go.Vc
