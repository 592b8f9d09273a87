/-
  The same rules again, with what is checked left to 'rfl'.
-/
import Derived.Test.YtdbnoblklhgdoaaGreatDoorVcT
set_option linter.unusedVariables false
set_option linter.unusedSimpArgs false
namespace Go.Vc
open Go
section
variable {E : Env} {ops : Array Oper} {os : List Oper} {l : List (Nat × Value)} {H H0 : List HB} {Φ Φ0 : List (Value × Dc)} {N : SP} {Q : QS} {fuel : Nat} {listed : Array Bool}
variable {op : Op} {ty : TypeId} {pos : String} {aft : Array Edge} {d : Nat}
theorem c_noP {c : Code} {Xs : List (Nat × SP)} {R : SP} {Pn : Value → SP} (h : WC E c l H Φ N ⟨Xs, R, fun _ _ _ => False⟩) : WC E c l H Φ N ⟨Xs, R, Pn⟩ := by
  intro a w hs
  refine wpIn_mono (h a w hs) ?_
  intro e a' w' he
  cases e with
  | panic ch => obtain ⟨_, _, h⟩ := he; exact h.elim
  | normal => exact he
  | ret => exact he
  | exit id => exact he
  | goto _ => exact he
  | outgrown => exact he
theorem v_nn {T : TypeId} {x : Operand} {b : Bool} (hx : opv l x = some (.bool (!b))) : Val E l H Φ (.unOp .not T x) ty (.bool b) := by
  have := v_not (E := E) (H := H) (Φ := Φ) (ty := ty) (T := T) hx
  rwa [Bool.not_not] at this
theorem cT {c : Code} (R : Env → List HB → List (Value × Dc) → SP → Prop) (h1 : ∀ N', R E H Φ N' → WC E c l H Φ N' Q) (h2 : R E H Φ N) : WC E c l H Φ N Q := h1 N h2
theorem cL {c : Code} (J : Env → List HB → List (Value × Dc) → Nat → SP) (k : Nat) (h : Sat E l H Φ (J E H Φ k)) (round : ∀ k, ∀ a w, J E H Φ k a w → c.wpIn E.F 1 E.P (K (fun a' w' => ∃ j, j < k ∧ J E H Φ j a' w') Q) a w) : WC E (.loop c) l H Φ N Q :=
  c_loopE (fun E j => J E H Φ j) k h round
end
end Go.Vc
