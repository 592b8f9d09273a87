/-
  No cell of these rows narrows 'for every input' (looked for: loops, veiled, ifaces, maps, wideKeys, modest, calm, conditions, laid).
  DERIVED. THE GIVEN ROWS OF THIS SEAT. 8 by the template 'for every input the law returns true; each argument reads behind the call as it read before'; 0 by the template 'total and deterministic' (their statements: YthkfffheppfieaaTotals.lean).
  GIVEN WITH THE SEED: the statements are not yours to turn. If you find one false, say at which input.
  Laid BY PROGRAM, IN A SANDBOX (cutbox-rows.mjs): the forced cells as the released guide's own fill.sh prints them over the translation 45ed716c6a62a129… (all of the seat's roots in one cut). By AI agents, Wed Nov 11 2026. No macro, syntax, notation, axiom, sorry.
-/
import Derived.Test.YthkfffheppfieaaChecked
import GoSem.Claim
import GoSem.ClaimJoined
import GoSem.ClaimMapViews
import Derived.JoinedTies
import Derived.KernelRfl
namespace Go.Proofs.Ythkfffheppfieaa
/- THE CELL 'sum', in the pinned program and in every row, IS THE sha256 OF THE DUMP (.gsa) THAT YthkfffheppfieaaProg.lean LOADS. Nothing in Lean hashes anything: it is a label: what it is worth is what the hold of that sum in a sandbox is worth. -/
noncomputable def Try.pinned : Pinned := { name := "ythkfffheppfieaa", sum := "45ed716c6a62a129091ec9e5a9548e16d636a08bea556a64663efbf13e724b27", checked := Try.checked }
namespace Rows
def none {H : Type} : Left H := { results := [], args := [] }

/-- 'tracerylaw02.WordsScans': WHATEVER THE INPUT: true; the input reads as it did. -/
def wordsScansSpec : ChangeSpec := { name := "wordsScans", fn := fun _ => fun
  | [d] => { results := [.lit (.bool true)], args := [d] }
  | _ => none }
def wordsScansRow : OpenClaim := { program := "ythkfffheppfieaa", sum := "45ed716c6a62a129091ec9e5a9548e16d636a08bea556a64663efbf13e724b27", func := "tracery/tracerylaw02.WordsScans", spec := "wordsScans", inPlace := ["internal/bytealg.IndexByteString", "internal/bytealg.CountString", "internal/bytealg.IndexString"], named := ["internal/bytealg.MaxLen"], apart := false }
def WordsScansSaid : Prop := wordsScansRow.holds Try.pinned (OpenSpec.ofChange wordsScansSpec)

/-- ITS FALSE NEIGHBOUR: 'it returns false'. Refute it at one input. -/
def wordsScansWrong : ChangeSpec := { name := "wordsScans", fn := fun _ => fun
  | [d] => { results := [.lit (.bool false)], args := [d] }
  | _ => none }
def WordsScansWrongFalsely : Prop := wordsScansRow.holds Try.pinned (OpenSpec.ofChange wordsScansWrong)

/-- 'tracerylaw02.WordsPlaces': WHATEVER THE INPUT: true; the input reads as it did. -/
def wordsPlacesSpec : ChangeSpec := { name := "wordsPlaces", fn := fun _ => fun
  | [d1, d2] => { results := [.lit (.bool true)], args := [d1, d2] }
  | _ => none }
def wordsPlacesRow : OpenClaim := { program := "ythkfffheppfieaa", sum := "45ed716c6a62a129091ec9e5a9548e16d636a08bea556a64663efbf13e724b27", func := "tracery/tracerylaw02.WordsPlaces", spec := "wordsPlaces", inPlace := ["internal/bytealg.IndexByteString", "internal/bytealg.CountString", "internal/bytealg.IndexString"], named := ["internal/bytealg.MaxLen"], apart := false }
def WordsPlacesSaid : Prop := wordsPlacesRow.holds Try.pinned (OpenSpec.ofChange wordsPlacesSpec)

/-- ITS FALSE NEIGHBOUR: 'it returns false'. Refute it at one input. -/
def wordsPlacesWrong : ChangeSpec := { name := "wordsPlaces", fn := fun _ => fun
  | [d1, d2] => { results := [.lit (.bool false)], args := [d1, d2] }
  | _ => none }
def WordsPlacesWrongFalsely : Prop := wordsPlacesRow.holds Try.pinned (OpenSpec.ofChange wordsPlacesWrong)

/-- 'tracerylaw02.WordsTwo': WHATEVER THE INPUT: true; the input reads as it did. -/
def wordsTwoSpec : ChangeSpec := { name := "wordsTwo", fn := fun _ => fun
  | [d1, d2] => { results := [.lit (.bool true)], args := [d1, d2] }
  | _ => none }
def wordsTwoRow : OpenClaim := { program := "ythkfffheppfieaa", sum := "45ed716c6a62a129091ec9e5a9548e16d636a08bea556a64663efbf13e724b27", func := "tracery/tracerylaw02.WordsTwo", spec := "wordsTwo", inPlace := ["internal/bytealg.IndexByteString", "internal/bytealg.CountString", "internal/bytealg.IndexString"], named := ["internal/bytealg.MaxLen"], apart := false }
def WordsTwoSaid : Prop := wordsTwoRow.holds Try.pinned (OpenSpec.ofChange wordsTwoSpec)

/-- ITS FALSE NEIGHBOUR: 'it returns false'. Refute it at one input. -/
def wordsTwoWrong : ChangeSpec := { name := "wordsTwo", fn := fun _ => fun
  | [d1, d2] => { results := [.lit (.bool false)], args := [d1, d2] }
  | _ => none }
def WordsTwoWrongFalsely : Prop := wordsTwoRow.holds Try.pinned (OpenSpec.ofChange wordsTwoWrong)

/-- 'tracerylaw02.WordsStand': WHATEVER THE INPUT: true; the input reads as it did. -/
def wordsStandSpec : ChangeSpec := { name := "wordsStand", fn := fun _ => fun
  | [d] => { results := [.lit (.bool true)], args := [d] }
  | _ => none }
def wordsStandRow : OpenClaim := { program := "ythkfffheppfieaa", sum := "45ed716c6a62a129091ec9e5a9548e16d636a08bea556a64663efbf13e724b27", func := "tracery/tracerylaw02.WordsStand", spec := "wordsStand", inPlace := ["internal/bytealg.IndexByteString", "internal/bytealg.CountString", "internal/bytealg.IndexString"], named := ["internal/bytealg.MaxLen"], apart := false }
def WordsStandSaid : Prop := wordsStandRow.holds Try.pinned (OpenSpec.ofChange wordsStandSpec)

/-- ITS FALSE NEIGHBOUR: 'it returns false'. Refute it at one input. -/
def wordsStandWrong : ChangeSpec := { name := "wordsStand", fn := fun _ => fun
  | [d] => { results := [.lit (.bool false)], args := [d] }
  | _ => none }
def WordsStandWrongFalsely : Prop := wordsStandRow.holds Try.pinned (OpenSpec.ofChange wordsStandWrong)

/-- 'tracerylaw02.WordsNames': WHATEVER THE INPUT: true; the input reads as it did. -/
def wordsNamesSpec : ChangeSpec := { name := "wordsNames", fn := fun _ => fun
  | [d] => { results := [.lit (.bool true)], args := [d] }
  | _ => none }
def wordsNamesRow : OpenClaim := { program := "ythkfffheppfieaa", sum := "45ed716c6a62a129091ec9e5a9548e16d636a08bea556a64663efbf13e724b27", func := "tracery/tracerylaw02.WordsNames", spec := "wordsNames", inPlace := ["internal/bytealg.IndexByteString", "internal/bytealg.CountString", "internal/bytealg.IndexString"], named := ["internal/bytealg.MaxLen"], apart := false }
def WordsNamesSaid : Prop := wordsNamesRow.holds Try.pinned (OpenSpec.ofChange wordsNamesSpec)

/-- ITS FALSE NEIGHBOUR: 'it returns false'. Refute it at one input. -/
def wordsNamesWrong : ChangeSpec := { name := "wordsNames", fn := fun _ => fun
  | [d] => { results := [.lit (.bool false)], args := [d] }
  | _ => none }
def WordsNamesWrongFalsely : Prop := wordsNamesRow.holds Try.pinned (OpenSpec.ofChange wordsNamesWrong)

/-- 'tracerylaw02.WordsAgain': WHATEVER THE INPUT: true; the input reads as it did. -/
def wordsAgainSpec : ChangeSpec := { name := "wordsAgain", fn := fun _ => fun
  | [d] => { results := [.lit (.bool true)], args := [d] }
  | _ => none }
def wordsAgainRow : OpenClaim := { program := "ythkfffheppfieaa", sum := "45ed716c6a62a129091ec9e5a9548e16d636a08bea556a64663efbf13e724b27", func := "tracery/tracerylaw02.WordsAgain", spec := "wordsAgain", inPlace := ["internal/bytealg.IndexByteString", "internal/bytealg.CountString", "internal/bytealg.IndexString", "internal/abi.NoEscape"], named := ["internal/bytealg.MaxLen"], apart := false }
def WordsAgainSaid : Prop := wordsAgainRow.holds Try.pinned (OpenSpec.ofChange wordsAgainSpec)

/-- ITS FALSE NEIGHBOUR: 'it returns false'. Refute it at one input. -/
def wordsAgainWrong : ChangeSpec := { name := "wordsAgain", fn := fun _ => fun
  | [d] => { results := [.lit (.bool false)], args := [d] }
  | _ => none }
def WordsAgainWrongFalsely : Prop := wordsAgainRow.holds Try.pinned (OpenSpec.ofChange wordsAgainWrong)

/-- 'tracerylaw02.WordsQuotes': WHATEVER THE INPUT: true; the input reads as it did. -/
def wordsQuotesSpec : ChangeSpec := { name := "wordsQuotes", fn := fun _ => fun
  | [d1, d2] => { results := [.lit (.bool true)], args := [d1, d2] }
  | _ => none }
def wordsQuotesRow : OpenClaim := { program := "ythkfffheppfieaa", sum := "45ed716c6a62a129091ec9e5a9548e16d636a08bea556a64663efbf13e724b27", func := "tracery/tracerylaw02.WordsQuotes", spec := "wordsQuotes", inPlace := ["internal/bytealg.IndexByteString", "internal/bytealg.CountString", "internal/bytealg.IndexString", "internal/abi.NoEscape"], named := ["internal/bytealg.MaxLen"], apart := false }
def WordsQuotesSaid : Prop := wordsQuotesRow.holds Try.pinned (OpenSpec.ofChange wordsQuotesSpec)

/-- ITS FALSE NEIGHBOUR: 'it returns false'. Refute it at one input. -/
def wordsQuotesWrong : ChangeSpec := { name := "wordsQuotes", fn := fun _ => fun
  | [d1, d2] => { results := [.lit (.bool false)], args := [d1, d2] }
  | _ => none }
def WordsQuotesWrongFalsely : Prop := wordsQuotesRow.holds Try.pinned (OpenSpec.ofChange wordsQuotesWrong)

/-- 'tracerylaw02.WordsBack': WHATEVER THE INPUT: true; the input reads as it did. -/
def wordsBackSpec : ChangeSpec := { name := "wordsBack", fn := fun _ => fun
  | [d1, d2] => { results := [.lit (.bool true)], args := [d1, d2] }
  | _ => none }
def wordsBackRow : OpenClaim := { program := "ythkfffheppfieaa", sum := "45ed716c6a62a129091ec9e5a9548e16d636a08bea556a64663efbf13e724b27", func := "tracery/tracerylaw02.WordsBack", spec := "wordsBack", inPlace := ["internal/bytealg.IndexByteString", "internal/bytealg.CountString", "internal/bytealg.IndexString", "internal/abi.NoEscape"], named := ["internal/bytealg.MaxLen"], apart := false }
def WordsBackSaid : Prop := wordsBackRow.holds Try.pinned (OpenSpec.ofChange wordsBackSpec)

/-- ITS FALSE NEIGHBOUR: 'it returns false'. Refute it at one input. -/
def wordsBackWrong : ChangeSpec := { name := "wordsBack", fn := fun _ => fun
  | [d1, d2] => { results := [.lit (.bool false)], args := [d1, d2] }
  | _ => none }
def WordsBackWrongFalsely : Prop := wordsBackRow.holds Try.pinned (OpenSpec.ofChange wordsBackWrong)

/- THE SECOND FORM. 'bulk': how many values and letters a reading holds, each counted each time it is reached (what is shared counts as often as it is met; a slice's spare places count too). A statement '..UptoSaid' is the law's where the arguments, and the package variables that the reading takes, are together of bulk at most 1048576: NARROWER than '..Said'. Prove '..Said' where nothing that the law and all that it calls make is longer than what came in: it says more and counts as full. Else prove '..UptoSaid'. A law counts once. -/
mutual
def uptoBulk {H : Type} : DataW H → Nat
  | .lit (.string bytes) => bytes.length + 1
  | .lit _ => 1
  | .nil => 1
  | .ptr d => uptoBulk d + 1
  | .slice elems spare => uptoBulkAll elems + uptoBulkAll spare + 1
  | .agg parts => uptoBulkAll parts + 1
  | .iface _ d => uptoBulk d + 1
  | .map entries => uptoBulkEntries entries + 1
  | .held _ => 1
def uptoBulkAll {H : Type} : List (DataW H) → Nat
  | [] => 0
  | d :: r => uptoBulk d + uptoBulkAll r
def uptoBulkEntries {H : Type} : List (Lit × DataW H) → Nat
  | [] => 0
  | x :: r => uptoBulkEntry x + uptoBulkEntries r
def uptoBulkEntry {H : Type} : Lit × DataW H → Nat
  | (.string bytes, d) => bytes.length + uptoBulk d + 1
  | (_, d) => uptoBulk d + 1
 end
def uptoSmall : (H : Type) → List (DataW H) → Bool := fun _ ds => decide (uptoBulkAll ds ≤ 1048576)
def OpenSpec.upto (s : _root_.Go.ChangeSpec) : _root_.Go.OpenSpec := { _root_.Go.OpenSpec.ofChange s with cond := some uptoSmall }

/-- 'tracerylaw02.WordsScans', WHERE WHAT IT READS IS OF BULK AT MOST 1048576: true; the input reads as it did. -/
def wordsScansUptoRow : OpenClaim := { program := "ythkfffheppfieaa", sum := "45ed716c6a62a129091ec9e5a9548e16d636a08bea556a64663efbf13e724b27", func := "tracery/tracerylaw02.WordsScans", spec := "wordsScans", inPlace := ["internal/bytealg.IndexByteString", "internal/bytealg.CountString", "internal/bytealg.IndexString"], named := ["internal/bytealg.MaxLen"], apart := false, narrowed := true }
def WordsScansUptoSaid : Prop := wordsScansUptoRow.holds Try.pinned (OpenSpec.upto wordsScansSpec)

/-- 'tracerylaw02.WordsPlaces', WHERE WHAT IT READS IS OF BULK AT MOST 1048576: true; the input reads as it did. -/
def wordsPlacesUptoRow : OpenClaim := { program := "ythkfffheppfieaa", sum := "45ed716c6a62a129091ec9e5a9548e16d636a08bea556a64663efbf13e724b27", func := "tracery/tracerylaw02.WordsPlaces", spec := "wordsPlaces", inPlace := ["internal/bytealg.IndexByteString", "internal/bytealg.CountString", "internal/bytealg.IndexString"], named := ["internal/bytealg.MaxLen"], apart := false, narrowed := true }
def WordsPlacesUptoSaid : Prop := wordsPlacesUptoRow.holds Try.pinned (OpenSpec.upto wordsPlacesSpec)

/-- 'tracerylaw02.WordsTwo', WHERE WHAT IT READS IS OF BULK AT MOST 1048576: true; the input reads as it did. -/
def wordsTwoUptoRow : OpenClaim := { program := "ythkfffheppfieaa", sum := "45ed716c6a62a129091ec9e5a9548e16d636a08bea556a64663efbf13e724b27", func := "tracery/tracerylaw02.WordsTwo", spec := "wordsTwo", inPlace := ["internal/bytealg.IndexByteString", "internal/bytealg.CountString", "internal/bytealg.IndexString"], named := ["internal/bytealg.MaxLen"], apart := false, narrowed := true }
def WordsTwoUptoSaid : Prop := wordsTwoUptoRow.holds Try.pinned (OpenSpec.upto wordsTwoSpec)

/-- 'tracerylaw02.WordsStand', WHERE WHAT IT READS IS OF BULK AT MOST 1048576: true; the input reads as it did. -/
def wordsStandUptoRow : OpenClaim := { program := "ythkfffheppfieaa", sum := "45ed716c6a62a129091ec9e5a9548e16d636a08bea556a64663efbf13e724b27", func := "tracery/tracerylaw02.WordsStand", spec := "wordsStand", inPlace := ["internal/bytealg.IndexByteString", "internal/bytealg.CountString", "internal/bytealg.IndexString"], named := ["internal/bytealg.MaxLen"], apart := false, narrowed := true }
def WordsStandUptoSaid : Prop := wordsStandUptoRow.holds Try.pinned (OpenSpec.upto wordsStandSpec)

/-- 'tracerylaw02.WordsNames', WHERE WHAT IT READS IS OF BULK AT MOST 1048576: true; the input reads as it did. -/
def wordsNamesUptoRow : OpenClaim := { program := "ythkfffheppfieaa", sum := "45ed716c6a62a129091ec9e5a9548e16d636a08bea556a64663efbf13e724b27", func := "tracery/tracerylaw02.WordsNames", spec := "wordsNames", inPlace := ["internal/bytealg.IndexByteString", "internal/bytealg.CountString", "internal/bytealg.IndexString"], named := ["internal/bytealg.MaxLen"], apart := false, narrowed := true }
def WordsNamesUptoSaid : Prop := wordsNamesUptoRow.holds Try.pinned (OpenSpec.upto wordsNamesSpec)

/-- 'tracerylaw02.WordsAgain', WHERE WHAT IT READS IS OF BULK AT MOST 1048576: true; the input reads as it did. -/
def wordsAgainUptoRow : OpenClaim := { program := "ythkfffheppfieaa", sum := "45ed716c6a62a129091ec9e5a9548e16d636a08bea556a64663efbf13e724b27", func := "tracery/tracerylaw02.WordsAgain", spec := "wordsAgain", inPlace := ["internal/bytealg.IndexByteString", "internal/bytealg.CountString", "internal/bytealg.IndexString", "internal/abi.NoEscape"], named := ["internal/bytealg.MaxLen"], apart := false, narrowed := true }
def WordsAgainUptoSaid : Prop := wordsAgainUptoRow.holds Try.pinned (OpenSpec.upto wordsAgainSpec)

/-- 'tracerylaw02.WordsQuotes', WHERE WHAT IT READS IS OF BULK AT MOST 1048576: true; the input reads as it did. -/
def wordsQuotesUptoRow : OpenClaim := { program := "ythkfffheppfieaa", sum := "45ed716c6a62a129091ec9e5a9548e16d636a08bea556a64663efbf13e724b27", func := "tracery/tracerylaw02.WordsQuotes", spec := "wordsQuotes", inPlace := ["internal/bytealg.IndexByteString", "internal/bytealg.CountString", "internal/bytealg.IndexString", "internal/abi.NoEscape"], named := ["internal/bytealg.MaxLen"], apart := false, narrowed := true }
def WordsQuotesUptoSaid : Prop := wordsQuotesUptoRow.holds Try.pinned (OpenSpec.upto wordsQuotesSpec)

/-- 'tracerylaw02.WordsBack', WHERE WHAT IT READS IS OF BULK AT MOST 1048576: true; the input reads as it did. -/
def wordsBackUptoRow : OpenClaim := { program := "ythkfffheppfieaa", sum := "45ed716c6a62a129091ec9e5a9548e16d636a08bea556a64663efbf13e724b27", func := "tracery/tracerylaw02.WordsBack", spec := "wordsBack", inPlace := ["internal/bytealg.IndexByteString", "internal/bytealg.CountString", "internal/bytealg.IndexString", "internal/abi.NoEscape"], named := ["internal/bytealg.MaxLen"], apart := false, narrowed := true }
def WordsBackUptoSaid : Prop := wordsBackUptoRow.holds Try.pinned (OpenSpec.upto wordsBackSpec)

end Rows
end Go.Proofs.Ythkfffheppfieaa
