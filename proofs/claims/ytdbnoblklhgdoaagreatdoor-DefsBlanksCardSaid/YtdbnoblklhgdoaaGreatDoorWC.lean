/-
  Words: what bytes are in quotes; the program's and the document's Quote.
-/
import Derived.Test.YtdbnoblklhgdoaaGreatDoorWA
set_option linter.unusedVariables false
set_option linter.unusedSimpArgs false
namespace Go.Vc
open Go
theorem WB_ok {a : Bool} {B : List Int} {c : Int} (h : B.length < 1000000000) : F.strings.Builder_WriteByte ⟨a, B⟩ c = some ⟨true, B ++ [c]⟩ := by
  unfold F.strings.Builder_WriteByte F.strings.copyCheck
  rw [Option.bind_some]
  rw [if_pos (decide_eq_true (by simp; omega)), if_pos (decide_eq_true (by simp; omega))]
theorem WS_ok {a : Bool} {B : List Int} {s : List UInt8} (h : B.length < 1000000000) (hs : s.length < 1000000) : F.strings.Builder_WriteString ⟨a, B⟩ s = some ((s.length : Int), ⟨true, B ++ ofS s⟩) := by
  unfold F.strings.Builder_WriteString F.strings.copyCheck
  rw [Option.bind_some]
  rw [if_pos (decide_eq_true (by simp; omega)), if_pos (decide_eq_true (by simp; omega))]
end Go.Vc
