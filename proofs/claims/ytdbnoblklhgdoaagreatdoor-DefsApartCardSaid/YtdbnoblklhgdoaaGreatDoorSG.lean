/-
  Words: the program's scanner is the plain one.
-/
import Derived.Test.YtdbnoblklhgdoaaGreatDoorSSD
set_option linter.unusedVariables false
set_option linter.unusedSimpArgs false
namespace Go.Vc
open Go
def scT : Nat → List UInt8 → Except (Nat × Int × Int) (List (Nat × List UInt8 × Tk))
  | 0, _ => .ok []
  | j + 1, r => match skL false r with
    | [] => .ok []
    | c :: t => match tok (c :: t) with
      | .error (o, e) => .error ((c :: t).length, o, e)
      | .ok (x, n) => match scT j ((c :: t).drop n) with
        | .error z => .error z
        | .ok l => .ok (((c :: t).length, (c :: t).take n, x) :: l)
def wds (s : List UInt8) (l : List (Nat × List UInt8 × Tk)) : List Word := l.map fun p => wd s (s.length - p.1) p.2.1 p.2.2
def endW (s : List UInt8) : Word := wd s s.length [] ⟨7, [], noS, 0⟩
end Go.Vc
