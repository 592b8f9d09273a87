/-
  More operations: panics, values in interfaces, texts appended to bytes, nil slices, cuts of what reads as data, results that may be panics.
-/
import Derived.Test.YtfhbgelpmbkooaaVcK
import Derived.Lib.UnsafeStr
import Derived.Lib.Builder
set_option linter.unusedVariables false
set_option linter.unusedSimpArgs false
namespace Go.Vc
open Go
inductive Pn (α β : Type) where
  | ok (a : α)
  | pan (b : β)
def Pn.go {α β γ : Type} (x : Pn α β) (f : α → Option γ) (g : β → Option γ) : Option γ := match x with
  | .ok a => f a
  | .pan b => g b
theorem cp_of {Φ : List (Value × Dc)} {vs : List Value} {ds ds' : List Dc} (h : ds' = ds) (hc : CP Φ vs ds) : CP Φ vs ds' := h ▸ hc
section
variable {E : Env} {ops : Array Oper} {os : List Oper} {l : List (Nat × Value)} {H : List HB} {Φ : List (Value × Dc)} {N : SP} {Q : QS}
variable {ty : TypeId} {pos : String} {aft : Array Edge} {d : Nat}
end
end Go.Vc
