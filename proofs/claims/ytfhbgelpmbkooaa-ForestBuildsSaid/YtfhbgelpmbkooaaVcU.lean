/-
  The same rules again, with what is checked left to 'rfl'.
-/
import Derived.Test.YtfhbgelpmbkooaaVcT
set_option linter.unusedVariables false
set_option linter.unusedSimpArgs false
namespace Go.Vc
open Go
section
variable {E : Env} {ops : Array Oper} {os : List Oper} {l : List (Nat × Value)} {H H0 : List HB} {Φ Φ0 : List (Value × Dc)} {N : SP} {Q : QS} {fuel : Nat} {listed : Array Bool}
variable {op : Op} {ty : TypeId} {pos : String} {aft : Array Edge} {d : Nat}
theorem cT {c : Code} (R : Env → List HB → List (Value × Dc) → SP → Prop) (h1 : ∀ N', R E H Φ N' → WC E c l H Φ N' Q) (h2 : R E H Φ N) : WC E c l H Φ N Q := h1 N h2
theorem cL {c : Code} (J : Env → List HB → List (Value × Dc) → Nat → SP) (k : Nat) (h : Sat E l H Φ (J E H Φ k)) (round : ∀ k, ∀ a w, J E H Φ k a w → c.wpIn E.F 1 E.P (K (fun a' w' => ∃ j, j < k ∧ J E H Φ j a' w') Q) a w) : WC E (.loop c) l H Φ N Q :=
  c_loopE (fun E j => J E H Φ j) k h round
end
end Go.Vc
