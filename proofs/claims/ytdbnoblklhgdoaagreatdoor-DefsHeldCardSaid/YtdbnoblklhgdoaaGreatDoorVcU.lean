/-
  The same rules again, with what is checked left to 'rfl'.
-/
import Derived.Test.YtdbnoblklhgdoaaGreatDoorVcT
set_option linter.unusedVariables false
set_option linter.unusedSimpArgs false
namespace Go.Vc
open Go
section
variable {E : Env} {ops : Array Oper} {os : List Oper} {l : List (Nat × Value)} {H H0 : List HB} {Φ Φ0 : List (Value × Dc)} {N : SP} {Q : QS} {fuel : Nat} {listed : Array Bool}
variable {op : Op} {ty : TypeId} {pos : String} {aft : Array Edge} {d : Nat}
/-- nothing here gives up -/
theorem c_noP {c : Code} {Xs : List (Nat × SP)} {R : SP} {Pn : Value → SP} (h : WC E c l H Φ N ⟨Xs, R, fun _ _ _ => False⟩) : WC E c l H Φ N ⟨Xs, R, Pn⟩ := by
  intro a w hs
  refine wpIn_mono (h a w hs) ?_
  intro e a' w' he
  cases e with
  | panic ch => obtain ⟨_, _, h⟩ := he; exact h.elim
  | normal => exact he
  | ret => exact he
  | exit id => exact he
  | goto _ => exact he
  | outgrown => exact he
theorem v_nn {T : TypeId} {x : Operand} {b : Bool} (hx : opv l x = some (.bool (!b))) : Val E l H Φ (.unOp .not T x) ty (.bool b) := by
  have := v_not (E := E) (H := H) (Φ := Φ) (ty := ty) (T := T) hx
  rwa [Bool.not_not] at this
end
end Go.Vc
