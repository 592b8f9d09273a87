import Derived.Test.YthkfffheppfieaaFF
import Derived.KernelRfl
set_option linter.unusedVariables false
set_option linter.unusedSimpArgs false
namespace Go.Vc
theorem alive_K : F.law02.alive 200000 = some true := by kernel_rfl
end Go.Vc
