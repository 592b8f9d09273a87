/-
  Words: the law WordsQuotes.
-/
import Derived.Test.YthkfffheppfieaaWJ
import Derived.Test.YthkfffheppfieaaWD
set_option linter.unusedVariables false
set_option linter.unusedSimpArgs false
namespace Go.Vc
open Go
theorem law_Quotes {b : List Int} (hb : ∀ c ∈ b, u8b c) (s : List UInt8) : F.law02.WordsQuotes 200000 b s = some true := by
  unfold F.law02.WordsQuotes
  by_cases h1 : 65536 < b.length
  · rw [if_pos (decide_eq_true (by omega)), alive_K]; rfl
  rw [if_neg (by simp; omega)]
  by_cases h2 : 65538 < s.length
  · rw [if_pos (decide_eq_true (by omega)), alive_K]; rfl
  rw [if_neg (by simp; omega), if_pos (decide_eq_true (by simp; omega)), if_pos (decide_eq_true (by simp; omega))]
  rw [Unquote_ok, refUnquote_ok, alive_K]
  simp only [Option.bind_some, if_true, List.nil_append]
  rw [Quote_ok (by omega) hb (by omega), refQuote_ok (by omega) hb (by omega)]
  simp [F.law02.WordsQuotes_j1]
end Go.Vc
