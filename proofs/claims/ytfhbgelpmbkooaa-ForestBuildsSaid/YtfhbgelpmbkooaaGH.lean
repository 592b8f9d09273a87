/-
  Trees: how far they reach; none is told twice.
-/
import Derived.Test.YtfhbgelpmbkooaaGG
set_option linter.unusedVariables false
set_option linter.unusedSimpArgs false
namespace Go.Vc.Ea
variable {R : List Ru}
mutual
def sp : Tr → Nat
  | .leaf _ => 1
  | .node _ ks => sps ks
def sps : List Tr → Nat
  | [] => 0
  | t :: ts => sp t + sps ts
end
def Spans (L : Nat → Nat → Nat → List Tr) : Prop := ∀ a i j t, t ∈ L a i j → j = i + sp t
end Go.Vc.Ea
