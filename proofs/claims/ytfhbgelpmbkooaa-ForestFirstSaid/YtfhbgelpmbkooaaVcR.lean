/-
  Ranges over a text: its runes, one by one.
-/
import Derived.Test.YtfhbgelpmbkooaaVcP
import Derived.Lib.OthersKept
import Derived.Laws.RangeAny
set_option linter.unusedVariables false
set_option linter.unusedSimpArgs false
namespace Go.Vc
open Go
section
variable {E : Env} {ops : Array Oper} {os : List Oper} {l : List (Nat × Value)} {H : List HB} {Φ : List (Value × Dc)} {N : SP} {Q : QS}
variable {ty : TypeId} {ps : String} {aft : Array Edge} {d : Nat}
end
end Go.Vc
