/-
  Words: the law WordsTwo.
-/
import Derived.Test.YtdbnoblklhgdoaaGreatDoorSG
set_option linter.unusedVariables false
set_option linter.unusedSimpArgs false
namespace Go.Vc
open Go
def core (w : Word) : Int × List UInt8 × List Int × S4 × Int := (w.Kind, w.Text, w.Bytes, w.Set, w.N_)
theorem skL_f (c : UInt8) (r : List UInt8) : skL false (c :: r) = if blank c.toNat then skL false r else if c.toNat = 35 then skL true r else c :: r := by rw [skL]
theorem scT_ok {j : Nat} {r y : List UInt8} {x : Tk} {n : Nat} (hk : skL false r = y) (hy : y ≠ []) (ht : tok y = .ok (x, n)) : scT (j + 1) r = match scT j (y.drop n) with
    | .error z => .error z
    | .ok l => .ok ((y.length, y.take n, x) :: l) := by
  rw [scT, hk]
  cases y with
  | nil => exact absurd rfl hy
  | cons c t =>
    simp only
    rw [ht]
    simp only
    cases scT j (List.drop n (c :: t)) <;> rfl
end Go.Vc
