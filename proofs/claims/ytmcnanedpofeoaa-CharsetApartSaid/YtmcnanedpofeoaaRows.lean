/-
  No cell of these rows narrows 'for every input' (looked for: loops, veiled, ifaces, maps, wideKeys, modest, calm, conditions, laid).
  DERIVED. THE GIVEN ROWS OF THIS SEAT. 9 by the template 'for every input the law returns true; each argument reads behind the call as it read before'; 0 by the template 'total and deterministic' (their statements: YtmcnanedpofeoaaTotals.lean).
  GIVEN WITH THE SEED: the statements are not yours to turn. If you find one false, say at which input.
  Laid BY PROGRAM, IN A SANDBOX (cutbox-rows.mjs): the forced cells as the released guide's own fill.sh prints them over the translation 36dd4efdb742c118… (all of the seat's roots in one cut). By AI agents, Wed Nov 11 2026. No macro, syntax, notation, axiom, sorry.
-/
import Derived.Test.YtmcnanedpofeoaaChecked
import GoSem.Claim
import GoSem.ClaimJoined
import GoSem.ClaimMapViews
import Derived.JoinedTies
import Derived.KernelRfl
namespace Go.Proofs.Ytmcnanedpofeoaa
/- THE CELL 'sum', in the pinned program and in every row, IS THE sha256 OF THE DUMP (.gsa) THAT YtmcnanedpofeoaaProg.lean LOADS. Nothing in Lean hashes anything: it is a label: what it is worth is what the hold of that sum in a sandbox is worth. -/
noncomputable def Try.pinned : Pinned := { name := "ytmcnanedpofeoaa", sum := "36dd4efdb742c118f6e510e22a24ce7b6917b1d1cd7edfe57b3cd86be02ca48d", checked := Try.checked }
namespace Rows
def none {H : Type} : Left H := { results := [], args := [] }

/-- 'tracerylaw01.CharsetMakes': WHATEVER THE INPUT: true; the input reads as it did. -/
def charsetMakesSpec : ChangeSpec := { name := "charsetMakes", fn := fun _ => fun
  | [d1, d2, d3, d4] => { results := [.lit (.bool true)], args := [d1, d2, d3, d4] }
  | _ => none }
def charsetMakesRow : OpenClaim := { program := "ytmcnanedpofeoaa", sum := "36dd4efdb742c118f6e510e22a24ce7b6917b1d1cd7edfe57b3cd86be02ca48d", func := "tracery/tracerylaw01.CharsetMakes", spec := "charsetMakes", unfollowed := true, recurses := true, apart := false }
def CharsetMakesSaid : Prop := charsetMakesRow.holds Try.pinned (OpenSpec.ofChange charsetMakesSpec)

/-- ITS FALSE NEIGHBOUR: 'it returns false'. Refute it at one input. -/
def charsetMakesWrong : ChangeSpec := { name := "charsetMakes", fn := fun _ => fun
  | [d1, d2, d3, d4] => { results := [.lit (.bool false)], args := [d1, d2, d3, d4] }
  | _ => none }
def CharsetMakesWrongFalsely : Prop := charsetMakesRow.holds Try.pinned (OpenSpec.ofChange charsetMakesWrong)

/-- 'tracerylaw01.CharsetPrints': WHATEVER THE INPUT: true; the input reads as it did. -/
def charsetPrintsSpec : ChangeSpec := { name := "charsetPrints", fn := fun _ => fun
  | [d] => { results := [.lit (.bool true)], args := [d] }
  | _ => none }
def charsetPrintsRow : OpenClaim := { program := "ytmcnanedpofeoaa", sum := "36dd4efdb742c118f6e510e22a24ce7b6917b1d1cd7edfe57b3cd86be02ca48d", func := "tracery/tracerylaw01.CharsetPrints", spec := "charsetPrints", unfollowed := true, recurses := true, apart := false }
def CharsetPrintsSaid : Prop := charsetPrintsRow.holds Try.pinned (OpenSpec.ofChange charsetPrintsSpec)

/-- ITS FALSE NEIGHBOUR: 'it returns false'. Refute it at one input. -/
def charsetPrintsWrong : ChangeSpec := { name := "charsetPrints", fn := fun _ => fun
  | [d] => { results := [.lit (.bool false)], args := [d] }
  | _ => none }
def CharsetPrintsWrongFalsely : Prop := charsetPrintsRow.holds Try.pinned (OpenSpec.ofChange charsetPrintsWrong)

/-- 'tracerylaw01.CharsetParses': WHATEVER THE INPUT: true; the input reads as it did. -/
def charsetParsesSpec : ChangeSpec := { name := "charsetParses", fn := fun _ => fun
  | [d] => { results := [.lit (.bool true)], args := [d] }
  | _ => none }
def charsetParsesRow : OpenClaim := { program := "ytmcnanedpofeoaa", sum := "36dd4efdb742c118f6e510e22a24ce7b6917b1d1cd7edfe57b3cd86be02ca48d", func := "tracery/tracerylaw01.CharsetParses", spec := "charsetParses", unfollowed := true, recurses := true, apart := false }
def CharsetParsesSaid : Prop := charsetParsesRow.holds Try.pinned (OpenSpec.ofChange charsetParsesSpec)

/-- ITS FALSE NEIGHBOUR: 'it returns false'. Refute it at one input. -/
def charsetParsesWrong : ChangeSpec := { name := "charsetParses", fn := fun _ => fun
  | [d] => { results := [.lit (.bool false)], args := [d] }
  | _ => none }
def CharsetParsesWrongFalsely : Prop := charsetParsesRow.holds Try.pinned (OpenSpec.ofChange charsetParsesWrong)

/-- 'tracerylaw01.CharsetBack': WHATEVER THE INPUT: true; the input reads as it did. -/
def charsetBackSpec : ChangeSpec := { name := "charsetBack", fn := fun _ => fun
  | [d] => { results := [.lit (.bool true)], args := [d] }
  | _ => none }
def charsetBackRow : OpenClaim := { program := "ytmcnanedpofeoaa", sum := "36dd4efdb742c118f6e510e22a24ce7b6917b1d1cd7edfe57b3cd86be02ca48d", func := "tracery/tracerylaw01.CharsetBack", spec := "charsetBack", unfollowed := true, recurses := true, apart := false }
def CharsetBackSaid : Prop := charsetBackRow.holds Try.pinned (OpenSpec.ofChange charsetBackSpec)

/-- ITS FALSE NEIGHBOUR: 'it returns false'. Refute it at one input. -/
def charsetBackWrong : ChangeSpec := { name := "charsetBack", fn := fun _ => fun
  | [d] => { results := [.lit (.bool false)], args := [d] }
  | _ => none }
def CharsetBackWrongFalsely : Prop := charsetBackRow.holds Try.pinned (OpenSpec.ofChange charsetBackWrong)

/-- 'tracerylaw01.CharsetLists': WHATEVER THE INPUT: true; the input reads as it did. -/
def charsetListsSpec : ChangeSpec := { name := "charsetLists", fn := fun _ => fun
  | [d] => { results := [.lit (.bool true)], args := [d] }
  | _ => none }
def charsetListsRow : OpenClaim := { program := "ytmcnanedpofeoaa", sum := "36dd4efdb742c118f6e510e22a24ce7b6917b1d1cd7edfe57b3cd86be02ca48d", func := "tracery/tracerylaw01.CharsetLists", spec := "charsetLists", unfollowed := true, recurses := true, apart := false }
def CharsetListsSaid : Prop := charsetListsRow.holds Try.pinned (OpenSpec.ofChange charsetListsSpec)

/-- ITS FALSE NEIGHBOUR: 'it returns false'. Refute it at one input. -/
def charsetListsWrong : ChangeSpec := { name := "charsetLists", fn := fun _ => fun
  | [d] => { results := [.lit (.bool false)], args := [d] }
  | _ => none }
def CharsetListsWrongFalsely : Prop := charsetListsRow.holds Try.pinned (OpenSpec.ofChange charsetListsWrong)

/-- 'tracerylaw01.CharsetEach': WHATEVER THE INPUT: true; the input reads as it did. -/
def charsetEachSpec : ChangeSpec := { name := "charsetEach", fn := fun _ => fun
  | [d1, d2] => { results := [.lit (.bool true)], args := [d1, d2] }
  | _ => none }
def charsetEachRow : OpenClaim := { program := "ytmcnanedpofeoaa", sum := "36dd4efdb742c118f6e510e22a24ce7b6917b1d1cd7edfe57b3cd86be02ca48d", func := "tracery/tracerylaw01.CharsetEach", spec := "charsetEach", unfollowed := true, recurses := true, apart := false }
def CharsetEachSaid : Prop := charsetEachRow.holds Try.pinned (OpenSpec.ofChange charsetEachSpec)

/-- ITS FALSE NEIGHBOUR: 'it returns false'. Refute it at one input. -/
def charsetEachWrong : ChangeSpec := { name := "charsetEach", fn := fun _ => fun
  | [d1, d2] => { results := [.lit (.bool false)], args := [d1, d2] }
  | _ => none }
def CharsetEachWrongFalsely : Prop := charsetEachRow.holds Try.pinned (OpenSpec.ofChange charsetEachWrong)

/-- 'tracerylaw01.CharsetAlgebra': WHATEVER THE INPUT: true; the input reads as it did. -/
def charsetAlgebraSpec : ChangeSpec := { name := "charsetAlgebra", fn := fun _ => fun
  | [d1, d2, d3] => { results := [.lit (.bool true)], args := [d1, d2, d3] }
  | _ => none }
def charsetAlgebraRow : OpenClaim := { program := "ytmcnanedpofeoaa", sum := "36dd4efdb742c118f6e510e22a24ce7b6917b1d1cd7edfe57b3cd86be02ca48d", func := "tracery/tracerylaw01.CharsetAlgebra", spec := "charsetAlgebra", unfollowed := true, recurses := true, apart := false }
def CharsetAlgebraSaid : Prop := charsetAlgebraRow.holds Try.pinned (OpenSpec.ofChange charsetAlgebraSpec)

/-- ITS FALSE NEIGHBOUR: 'it returns false'. Refute it at one input. -/
def charsetAlgebraWrong : ChangeSpec := { name := "charsetAlgebra", fn := fun _ => fun
  | [d1, d2, d3] => { results := [.lit (.bool false)], args := [d1, d2, d3] }
  | _ => none }
def CharsetAlgebraWrongFalsely : Prop := charsetAlgebraRow.holds Try.pinned (OpenSpec.ofChange charsetAlgebraWrong)

/-- 'tracerylaw01.CharsetGoes': WHATEVER THE INPUT: true; the input reads as it did. -/
def charsetGoesSpec : ChangeSpec := { name := "charsetGoes", fn := fun _ => fun
  | [d1, d2] => { results := [.lit (.bool true)], args := [d1, d2] }
  | _ => none }
def charsetGoesRow : OpenClaim := { program := "ytmcnanedpofeoaa", sum := "36dd4efdb742c118f6e510e22a24ce7b6917b1d1cd7edfe57b3cd86be02ca48d", func := "tracery/tracerylaw01.CharsetGoes", spec := "charsetGoes", unfollowed := true, recurses := true, apart := false }
def CharsetGoesSaid : Prop := charsetGoesRow.holds Try.pinned (OpenSpec.ofChange charsetGoesSpec)

/-- ITS FALSE NEIGHBOUR: 'it returns false'. Refute it at one input. -/
def charsetGoesWrong : ChangeSpec := { name := "charsetGoes", fn := fun _ => fun
  | [d1, d2] => { results := [.lit (.bool false)], args := [d1, d2] }
  | _ => none }
def CharsetGoesWrongFalsely : Prop := charsetGoesRow.holds Try.pinned (OpenSpec.ofChange charsetGoesWrong)

/-- 'tracerylaw01.CharsetApart': WHATEVER THE INPUT: true; the input reads as it did. -/
def charsetApartSpec : ChangeSpec := { name := "charsetApart", fn := fun _ => fun
  | [d1, d2] => { results := [.lit (.bool true)], args := [d1, d2] }
  | _ => none }
def charsetApartRow : OpenClaim := { program := "ytmcnanedpofeoaa", sum := "36dd4efdb742c118f6e510e22a24ce7b6917b1d1cd7edfe57b3cd86be02ca48d", func := "tracery/tracerylaw01.CharsetApart", spec := "charsetApart", unfollowed := true, recurses := true, apart := false }
def CharsetApartSaid : Prop := charsetApartRow.holds Try.pinned (OpenSpec.ofChange charsetApartSpec)

/-- ITS FALSE NEIGHBOUR: 'it returns false'. Refute it at one input. -/
def charsetApartWrong : ChangeSpec := { name := "charsetApart", fn := fun _ => fun
  | [d1, d2] => { results := [.lit (.bool false)], args := [d1, d2] }
  | _ => none }
def CharsetApartWrongFalsely : Prop := charsetApartRow.holds Try.pinned (OpenSpec.ofChange charsetApartWrong)

/- THE SECOND FORM. 'bulk': how many values and letters a reading holds, each counted each time it is reached (what is shared counts as often as it is met; a slice's spare places count too). A statement '..UptoSaid' is the law's where the arguments, and the package variables that the reading takes, are together of bulk at most 1048576: NARROWER than '..Said'. Prove '..Said' where nothing that the law and all that it calls make is longer than what came in: it says more and counts as full. Else prove '..UptoSaid'. A law counts once. -/
mutual
def uptoBulk {H : Type} : DataW H → Nat
  | .lit (.string bytes) => bytes.length + 1
  | .lit _ => 1
  | .nil => 1
  | .ptr d => uptoBulk d + 1
  | .slice elems spare => uptoBulkAll elems + uptoBulkAll spare + 1
  | .agg parts => uptoBulkAll parts + 1
  | .iface _ d => uptoBulk d + 1
  | .map entries => uptoBulkEntries entries + 1
  | .held _ => 1
def uptoBulkAll {H : Type} : List (DataW H) → Nat
  | [] => 0
  | d :: r => uptoBulk d + uptoBulkAll r
def uptoBulkEntries {H : Type} : List (Lit × DataW H) → Nat
  | [] => 0
  | x :: r => uptoBulkEntry x + uptoBulkEntries r
def uptoBulkEntry {H : Type} : Lit × DataW H → Nat
  | (.string bytes, d) => bytes.length + uptoBulk d + 1
  | (_, d) => uptoBulk d + 1
 end
def uptoSmall : (H : Type) → List (DataW H) → Bool := fun _ ds => decide (uptoBulkAll ds ≤ 1048576)
def OpenSpec.upto (s : _root_.Go.ChangeSpec) : _root_.Go.OpenSpec := { _root_.Go.OpenSpec.ofChange s with cond := some uptoSmall }

/-- 'tracerylaw01.CharsetMakes', WHERE WHAT IT READS IS OF BULK AT MOST 1048576: true; the input reads as it did. -/
def charsetMakesUptoRow : OpenClaim := { program := "ytmcnanedpofeoaa", sum := "36dd4efdb742c118f6e510e22a24ce7b6917b1d1cd7edfe57b3cd86be02ca48d", func := "tracery/tracerylaw01.CharsetMakes", spec := "charsetMakes", unfollowed := true, recurses := true, apart := false, narrowed := true }
def CharsetMakesUptoSaid : Prop := charsetMakesUptoRow.holds Try.pinned (OpenSpec.upto charsetMakesSpec)

/-- 'tracerylaw01.CharsetPrints', WHERE WHAT IT READS IS OF BULK AT MOST 1048576: true; the input reads as it did. -/
def charsetPrintsUptoRow : OpenClaim := { program := "ytmcnanedpofeoaa", sum := "36dd4efdb742c118f6e510e22a24ce7b6917b1d1cd7edfe57b3cd86be02ca48d", func := "tracery/tracerylaw01.CharsetPrints", spec := "charsetPrints", unfollowed := true, recurses := true, apart := false, narrowed := true }
def CharsetPrintsUptoSaid : Prop := charsetPrintsUptoRow.holds Try.pinned (OpenSpec.upto charsetPrintsSpec)

/-- 'tracerylaw01.CharsetParses', WHERE WHAT IT READS IS OF BULK AT MOST 1048576: true; the input reads as it did. -/
def charsetParsesUptoRow : OpenClaim := { program := "ytmcnanedpofeoaa", sum := "36dd4efdb742c118f6e510e22a24ce7b6917b1d1cd7edfe57b3cd86be02ca48d", func := "tracery/tracerylaw01.CharsetParses", spec := "charsetParses", unfollowed := true, recurses := true, apart := false, narrowed := true }
def CharsetParsesUptoSaid : Prop := charsetParsesUptoRow.holds Try.pinned (OpenSpec.upto charsetParsesSpec)

/-- 'tracerylaw01.CharsetBack', WHERE WHAT IT READS IS OF BULK AT MOST 1048576: true; the input reads as it did. -/
def charsetBackUptoRow : OpenClaim := { program := "ytmcnanedpofeoaa", sum := "36dd4efdb742c118f6e510e22a24ce7b6917b1d1cd7edfe57b3cd86be02ca48d", func := "tracery/tracerylaw01.CharsetBack", spec := "charsetBack", unfollowed := true, recurses := true, apart := false, narrowed := true }
def CharsetBackUptoSaid : Prop := charsetBackUptoRow.holds Try.pinned (OpenSpec.upto charsetBackSpec)

/-- 'tracerylaw01.CharsetLists', WHERE WHAT IT READS IS OF BULK AT MOST 1048576: true; the input reads as it did. -/
def charsetListsUptoRow : OpenClaim := { program := "ytmcnanedpofeoaa", sum := "36dd4efdb742c118f6e510e22a24ce7b6917b1d1cd7edfe57b3cd86be02ca48d", func := "tracery/tracerylaw01.CharsetLists", spec := "charsetLists", unfollowed := true, recurses := true, apart := false, narrowed := true }
def CharsetListsUptoSaid : Prop := charsetListsUptoRow.holds Try.pinned (OpenSpec.upto charsetListsSpec)

/-- 'tracerylaw01.CharsetEach', WHERE WHAT IT READS IS OF BULK AT MOST 1048576: true; the input reads as it did. -/
def charsetEachUptoRow : OpenClaim := { program := "ytmcnanedpofeoaa", sum := "36dd4efdb742c118f6e510e22a24ce7b6917b1d1cd7edfe57b3cd86be02ca48d", func := "tracery/tracerylaw01.CharsetEach", spec := "charsetEach", unfollowed := true, recurses := true, apart := false, narrowed := true }
def CharsetEachUptoSaid : Prop := charsetEachUptoRow.holds Try.pinned (OpenSpec.upto charsetEachSpec)

/-- 'tracerylaw01.CharsetAlgebra', WHERE WHAT IT READS IS OF BULK AT MOST 1048576: true; the input reads as it did. -/
def charsetAlgebraUptoRow : OpenClaim := { program := "ytmcnanedpofeoaa", sum := "36dd4efdb742c118f6e510e22a24ce7b6917b1d1cd7edfe57b3cd86be02ca48d", func := "tracery/tracerylaw01.CharsetAlgebra", spec := "charsetAlgebra", unfollowed := true, recurses := true, apart := false, narrowed := true }
def CharsetAlgebraUptoSaid : Prop := charsetAlgebraUptoRow.holds Try.pinned (OpenSpec.upto charsetAlgebraSpec)

/-- 'tracerylaw01.CharsetGoes', WHERE WHAT IT READS IS OF BULK AT MOST 1048576: true; the input reads as it did. -/
def charsetGoesUptoRow : OpenClaim := { program := "ytmcnanedpofeoaa", sum := "36dd4efdb742c118f6e510e22a24ce7b6917b1d1cd7edfe57b3cd86be02ca48d", func := "tracery/tracerylaw01.CharsetGoes", spec := "charsetGoes", unfollowed := true, recurses := true, apart := false, narrowed := true }
def CharsetGoesUptoSaid : Prop := charsetGoesUptoRow.holds Try.pinned (OpenSpec.upto charsetGoesSpec)

/-- 'tracerylaw01.CharsetApart', WHERE WHAT IT READS IS OF BULK AT MOST 1048576: true; the input reads as it did. -/
def charsetApartUptoRow : OpenClaim := { program := "ytmcnanedpofeoaa", sum := "36dd4efdb742c118f6e510e22a24ce7b6917b1d1cd7edfe57b3cd86be02ca48d", func := "tracery/tracerylaw01.CharsetApart", spec := "charsetApart", unfollowed := true, recurses := true, apart := false, narrowed := true }
def CharsetApartUptoSaid : Prop := charsetApartUptoRow.holds Try.pinned (OpenSpec.upto charsetApartSpec)

end Rows
end Go.Proofs.Ytmcnanedpofeoaa
