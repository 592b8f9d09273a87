import Derived.Test.YtfhbgelpmbkooaaFF
import Derived.KernelRfl
set_option linter.unusedVariables false
set_option linter.unusedSimpArgs false
namespace Go.Vc
theorem alive_K : F.law08.alive 1000000 = some true := by kernel_rfl
end Go.Vc
