/-
 The rules once more, with what is checked left to 'rfl' and with short names: for long walks.
-/
import Derived.Test.YtfhbgelpmbkooaaVcU
set_option linter.unusedVariables false
set_option linter.unusedSimpArgs false
namespace Go.Vc
open Go
@[reducible] def sl (a : Option Addr) (n c : Nat) : Value := .slice a n c
section
variable {E : Env} {ops : Array Oper} {os : List Oper} {l : List (Nat × Value)} {H H0 : List HB} {Φ Φ0 : List (Value × Dc)} {N : SP} {Q : QS} {fuel : Nat} {listed : Array Bool}
variable {op : Op} {ty : TypeId} {pos : String} {aft : Array Edge} {d : Nat}
end
end Go.Vc
