import Derived.Test.YtfhbgelpmbkooaaGK
set_option linter.unusedVariables false
set_option linter.unusedSimpArgs false
namespace Go.Vc.Ea
variable {R : List Ru}
end Go.Vc.Ea
namespace Go.Vc.Ea
variable {R : List Ru}
def size (R : List Ru) : Nat := (R.map fun r => r.rhs.length + 1).sum
end Go.Vc.Ea
namespace Go.Vc.Ea
variable {R : List Ru}
inductive Tb (β : Type) where
 | leaf (b : β)
 | node (r : Nat) (kids : List (Tb β))
mutual
def dress {β : Type} (f : Nat -> β) : Tr -> Tb β
 | .leaf m => .leaf (f m)
 | .node q ks => .node q (dressS f ks)
def dressS {β : Type} (f : Nat -> β) : List Tr -> List (Tb β)
 | [] => []
 | t :: ts => dress f t :: dressS f ts
end
end Go.Vc.Ea
