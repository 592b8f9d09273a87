/-
  No cell of these rows narrows 'for every input' (looked for: loops, veiled, ifaces, maps, wideKeys, modest, calm, conditions, laid).
  DERIVED. THE GIVEN ROWS OF THIS SEAT. 8 by the template 'for every input the law returns true; each argument reads behind the call as it read before'; 0 by the template 'total and deterministic' (their statements: YtfhbgelpmbkooaaTotals.lean).
  GIVEN WITH THE SEED: the statements are not yours to turn. If you find one false, say at which input.
  Laid BY PROGRAM, IN A SANDBOX (cutbox-rows.mjs): the forced cells as the released guide's own fill.sh prints them over the translation ce6b9adbe5aef484… (all of the seat's roots in one cut). By AI agents, Wed Nov 11 2026. No macro, syntax, notation, axiom, sorry.
-/
import Derived.Test.YtfhbgelpmbkooaaChecked
import GoSem.Claim
import GoSem.ClaimJoined
import GoSem.ClaimMapViews
import Derived.JoinedTies
import Derived.KernelRfl
namespace Go.Proofs.Ytfhbgelpmbkooaa
/- THE CELL 'sum', in the pinned program and in every row, IS THE sha256 OF THE DUMP (.gsa) THAT YtfhbgelpmbkooaaProg.lean LOADS. Nothing in Lean hashes anything: it is a label: what it is worth is what the hold of that sum in a sandbox is worth. -/
noncomputable def Try.pinned : Pinned := { name := "ytfhbgelpmbkooaa", sum := "ce6b9adbe5aef484f5c81d38bbb7659a11a55a6583230961105ff8252a4a1a40", checked := Try.checked }
namespace Rows
def none {H : Type} : Left H := { results := [], args := [] }

/-- 'tracerylaw08.ForestCounts': WHATEVER THE INPUT: true; the input reads as it did. -/
def forestCountsSpec : ChangeSpec := { name := "forestCounts", fn := fun _ => fun
  | [d1, d2] => { results := [.lit (.bool true)], args := [d1, d2] }
  | _ => none }
def forestCountsRow : OpenClaim := { program := "ytfhbgelpmbkooaa", sum := "ce6b9adbe5aef484f5c81d38bbb7659a11a55a6583230961105ff8252a4a1a40", func := "tracery/tracerylaw08.ForestCounts", spec := "forestCounts", unfollowed := true, recurses := true, plainKeys := false, apart := false }
def ForestCountsSaid : Prop := forestCountsRow.holds Try.pinned (OpenSpec.ofChange forestCountsSpec)

/-- ITS FALSE NEIGHBOUR: 'it returns false'. Refute it at one input. -/
def forestCountsWrong : ChangeSpec := { name := "forestCounts", fn := fun _ => fun
  | [d1, d2] => { results := [.lit (.bool false)], args := [d1, d2] }
  | _ => none }
def ForestCountsWrongFalsely : Prop := forestCountsRow.holds Try.pinned (OpenSpec.ofChange forestCountsWrong)

/-- 'tracerylaw08.ForestTrees': WHATEVER THE INPUT: true; the input reads as it did. -/
def forestTreesSpec : ChangeSpec := { name := "forestTrees", fn := fun _ => fun
  | [d1, d2, d3] => { results := [.lit (.bool true)], args := [d1, d2, d3] }
  | _ => none }
def forestTreesRow : OpenClaim := { program := "ytfhbgelpmbkooaa", sum := "ce6b9adbe5aef484f5c81d38bbb7659a11a55a6583230961105ff8252a4a1a40", func := "tracery/tracerylaw08.ForestTrees", spec := "forestTrees", unfollowed := true, recurses := true, plainKeys := false, apart := false }
def ForestTreesSaid : Prop := forestTreesRow.holds Try.pinned (OpenSpec.ofChange forestTreesSpec)

/-- ITS FALSE NEIGHBOUR: 'it returns false'. Refute it at one input. -/
def forestTreesWrong : ChangeSpec := { name := "forestTrees", fn := fun _ => fun
  | [d1, d2, d3] => { results := [.lit (.bool false)], args := [d1, d2, d3] }
  | _ => none }
def ForestTreesWrongFalsely : Prop := forestTreesRow.holds Try.pinned (OpenSpec.ofChange forestTreesWrong)

/-- 'tracerylaw08.ForestSound': WHATEVER THE INPUT: true; the input reads as it did. -/
def forestSoundSpec : ChangeSpec := { name := "forestSound", fn := fun _ => fun
  | [d1, d2, d3] => { results := [.lit (.bool true)], args := [d1, d2, d3] }
  | _ => none }
def forestSoundRow : OpenClaim := { program := "ytfhbgelpmbkooaa", sum := "ce6b9adbe5aef484f5c81d38bbb7659a11a55a6583230961105ff8252a4a1a40", func := "tracery/tracerylaw08.ForestSound", spec := "forestSound", unfollowed := true, recurses := true, plainKeys := false, apart := false }
def ForestSoundSaid : Prop := forestSoundRow.holds Try.pinned (OpenSpec.ofChange forestSoundSpec)

/-- ITS FALSE NEIGHBOUR: 'it returns false'. Refute it at one input. -/
def forestSoundWrong : ChangeSpec := { name := "forestSound", fn := fun _ => fun
  | [d1, d2, d3] => { results := [.lit (.bool false)], args := [d1, d2, d3] }
  | _ => none }
def ForestSoundWrongFalsely : Prop := forestSoundRow.holds Try.pinned (OpenSpec.ofChange forestSoundWrong)

/-- 'tracerylaw08.ForestFirst': WHATEVER THE INPUT: true; the input reads as it did. -/
def forestFirstSpec : ChangeSpec := { name := "forestFirst", fn := fun _ => fun
  | [d1, d2, d3, d4] => { results := [.lit (.bool true)], args := [d1, d2, d3, d4] }
  | _ => none }
def forestFirstRow : OpenClaim := { program := "ytfhbgelpmbkooaa", sum := "ce6b9adbe5aef484f5c81d38bbb7659a11a55a6583230961105ff8252a4a1a40", func := "tracery/tracerylaw08.ForestFirst", spec := "forestFirst", unfollowed := true, recurses := true, plainKeys := false, apart := false }
def ForestFirstSaid : Prop := forestFirstRow.holds Try.pinned (OpenSpec.ofChange forestFirstSpec)

/-- ITS FALSE NEIGHBOUR: 'it returns false'. Refute it at one input. -/
def forestFirstWrong : ChangeSpec := { name := "forestFirst", fn := fun _ => fun
  | [d1, d2, d3, d4] => { results := [.lit (.bool false)], args := [d1, d2, d3, d4] }
  | _ => none }
def ForestFirstWrongFalsely : Prop := forestFirstRow.holds Try.pinned (OpenSpec.ofChange forestFirstWrong)

/-- 'tracerylaw08.ForestTwo': WHATEVER THE INPUT: true; the input reads as it did. -/
def forestTwoSpec : ChangeSpec := { name := "forestTwo", fn := fun _ => fun
  | [d1, d2] => { results := [.lit (.bool true)], args := [d1, d2] }
  | _ => none }
def forestTwoRow : OpenClaim := { program := "ytfhbgelpmbkooaa", sum := "ce6b9adbe5aef484f5c81d38bbb7659a11a55a6583230961105ff8252a4a1a40", func := "tracery/tracerylaw08.ForestTwo", spec := "forestTwo", unfollowed := true, recurses := true, plainKeys := false, apart := false }
def ForestTwoSaid : Prop := forestTwoRow.holds Try.pinned (OpenSpec.ofChange forestTwoSpec)

/-- ITS FALSE NEIGHBOUR: 'it returns false'. Refute it at one input. -/
def forestTwoWrong : ChangeSpec := { name := "forestTwo", fn := fun _ => fun
  | [d1, d2] => { results := [.lit (.bool false)], args := [d1, d2] }
  | _ => none }
def ForestTwoWrongFalsely : Prop := forestTwoRow.holds Try.pinned (OpenSpec.ofChange forestTwoWrong)

/-- 'tracerylaw08.ForestBuilds': WHATEVER THE INPUT: true; the input reads as it did. -/
def forestBuildsSpec : ChangeSpec := { name := "forestBuilds", fn := fun _ => fun
  | [d1, d2] => { results := [.lit (.bool true)], args := [d1, d2] }
  | _ => none }
def forestBuildsRow : OpenClaim := { program := "ytfhbgelpmbkooaa", sum := "ce6b9adbe5aef484f5c81d38bbb7659a11a55a6583230961105ff8252a4a1a40", func := "tracery/tracerylaw08.ForestBuilds", spec := "forestBuilds", unfollowed := true, recurses := true, plainKeys := false, apart := false }
def ForestBuildsSaid : Prop := forestBuildsRow.holds Try.pinned (OpenSpec.ofChange forestBuildsSpec)

/-- ITS FALSE NEIGHBOUR: 'it returns false'. Refute it at one input. -/
def forestBuildsWrong : ChangeSpec := { name := "forestBuilds", fn := fun _ => fun
  | [d1, d2] => { results := [.lit (.bool false)], args := [d1, d2] }
  | _ => none }
def ForestBuildsWrongFalsely : Prop := forestBuildsRow.holds Try.pinned (OpenSpec.ofChange forestBuildsWrong)

/-- 'tracerylaw08.ForestAccepts': WHATEVER THE INPUT: true; the input reads as it did. -/
def forestAcceptsSpec : ChangeSpec := { name := "forestAccepts", fn := fun _ => fun
  | [d1, d2] => { results := [.lit (.bool true)], args := [d1, d2] }
  | _ => none }
def forestAcceptsRow : OpenClaim := { program := "ytfhbgelpmbkooaa", sum := "ce6b9adbe5aef484f5c81d38bbb7659a11a55a6583230961105ff8252a4a1a40", func := "tracery/tracerylaw08.ForestAccepts", spec := "forestAccepts", unfollowed := true, recurses := true, plainKeys := false, apart := false }
def ForestAcceptsSaid : Prop := forestAcceptsRow.holds Try.pinned (OpenSpec.ofChange forestAcceptsSpec)

/-- ITS FALSE NEIGHBOUR: 'it returns false'. Refute it at one input. -/
def forestAcceptsWrong : ChangeSpec := { name := "forestAccepts", fn := fun _ => fun
  | [d1, d2] => { results := [.lit (.bool false)], args := [d1, d2] }
  | _ => none }
def ForestAcceptsWrongFalsely : Prop := forestAcceptsRow.holds Try.pinned (OpenSpec.ofChange forestAcceptsWrong)

/-- 'tracerylaw08.ForestBound': WHATEVER THE INPUT: true; the input reads as it did. -/
def forestBoundSpec : ChangeSpec := { name := "forestBound", fn := fun _ => fun
  | [d1, d2] => { results := [.lit (.bool true)], args := [d1, d2] }
  | _ => none }
def forestBoundRow : OpenClaim := { program := "ytfhbgelpmbkooaa", sum := "ce6b9adbe5aef484f5c81d38bbb7659a11a55a6583230961105ff8252a4a1a40", func := "tracery/tracerylaw08.ForestBound", spec := "forestBound", unfollowed := true, recurses := true, plainKeys := false, apart := false }
def ForestBoundSaid : Prop := forestBoundRow.holds Try.pinned (OpenSpec.ofChange forestBoundSpec)

/-- ITS FALSE NEIGHBOUR: 'it returns false'. Refute it at one input. -/
def forestBoundWrong : ChangeSpec := { name := "forestBound", fn := fun _ => fun
  | [d1, d2] => { results := [.lit (.bool false)], args := [d1, d2] }
  | _ => none }
def ForestBoundWrongFalsely : Prop := forestBoundRow.holds Try.pinned (OpenSpec.ofChange forestBoundWrong)

/- THE SECOND FORM. 'bulk': how many values and letters a reading holds, each counted each time it is reached (what is shared counts as often as it is met; a slice's spare places count too). A statement '..UptoSaid' is the law's where the arguments, and the package variables that the reading takes, are together of bulk at most 1048576: NARROWER than '..Said'. Prove '..Said' where nothing that the law and all that it calls make is longer than what came in: it says more and counts as full. Else prove '..UptoSaid'. A law counts once. -/
mutual
def uptoBulk {H : Type} : DataW H → Nat
  | .lit (.string bytes) => bytes.length + 1
  | .lit _ => 1
  | .nil => 1
  | .ptr d => uptoBulk d + 1
  | .slice elems spare => uptoBulkAll elems + uptoBulkAll spare + 1
  | .agg parts => uptoBulkAll parts + 1
  | .iface _ d => uptoBulk d + 1
  | .map entries => uptoBulkEntries entries + 1
  | .held _ => 1
def uptoBulkAll {H : Type} : List (DataW H) → Nat
  | [] => 0
  | d :: r => uptoBulk d + uptoBulkAll r
def uptoBulkEntries {H : Type} : List (Lit × DataW H) → Nat
  | [] => 0
  | x :: r => uptoBulkEntry x + uptoBulkEntries r
def uptoBulkEntry {H : Type} : Lit × DataW H → Nat
  | (.string bytes, d) => bytes.length + uptoBulk d + 1
  | (_, d) => uptoBulk d + 1
 end
def uptoSmall : (H : Type) → List (DataW H) → Bool := fun _ ds => decide (uptoBulkAll ds ≤ 1048576)
def OpenSpec.upto (s : _root_.Go.ChangeSpec) : _root_.Go.OpenSpec := { _root_.Go.OpenSpec.ofChange s with cond := some uptoSmall }

/-- 'tracerylaw08.ForestCounts', WHERE WHAT IT READS IS OF BULK AT MOST 1048576: true; the input reads as it did. -/
def forestCountsUptoRow : OpenClaim := { program := "ytfhbgelpmbkooaa", sum := "ce6b9adbe5aef484f5c81d38bbb7659a11a55a6583230961105ff8252a4a1a40", func := "tracery/tracerylaw08.ForestCounts", spec := "forestCounts", unfollowed := true, recurses := true, plainKeys := false, apart := false, narrowed := true }
def ForestCountsUptoSaid : Prop := forestCountsUptoRow.holds Try.pinned (OpenSpec.upto forestCountsSpec)

/-- 'tracerylaw08.ForestTrees', WHERE WHAT IT READS IS OF BULK AT MOST 1048576: true; the input reads as it did. -/
def forestTreesUptoRow : OpenClaim := { program := "ytfhbgelpmbkooaa", sum := "ce6b9adbe5aef484f5c81d38bbb7659a11a55a6583230961105ff8252a4a1a40", func := "tracery/tracerylaw08.ForestTrees", spec := "forestTrees", unfollowed := true, recurses := true, plainKeys := false, apart := false, narrowed := true }
def ForestTreesUptoSaid : Prop := forestTreesUptoRow.holds Try.pinned (OpenSpec.upto forestTreesSpec)

/-- 'tracerylaw08.ForestSound', WHERE WHAT IT READS IS OF BULK AT MOST 1048576: true; the input reads as it did. -/
def forestSoundUptoRow : OpenClaim := { program := "ytfhbgelpmbkooaa", sum := "ce6b9adbe5aef484f5c81d38bbb7659a11a55a6583230961105ff8252a4a1a40", func := "tracery/tracerylaw08.ForestSound", spec := "forestSound", unfollowed := true, recurses := true, plainKeys := false, apart := false, narrowed := true }
def ForestSoundUptoSaid : Prop := forestSoundUptoRow.holds Try.pinned (OpenSpec.upto forestSoundSpec)

/-- 'tracerylaw08.ForestFirst', WHERE WHAT IT READS IS OF BULK AT MOST 1048576: true; the input reads as it did. -/
def forestFirstUptoRow : OpenClaim := { program := "ytfhbgelpmbkooaa", sum := "ce6b9adbe5aef484f5c81d38bbb7659a11a55a6583230961105ff8252a4a1a40", func := "tracery/tracerylaw08.ForestFirst", spec := "forestFirst", unfollowed := true, recurses := true, plainKeys := false, apart := false, narrowed := true }
def ForestFirstUptoSaid : Prop := forestFirstUptoRow.holds Try.pinned (OpenSpec.upto forestFirstSpec)

/-- 'tracerylaw08.ForestTwo', WHERE WHAT IT READS IS OF BULK AT MOST 1048576: true; the input reads as it did. -/
def forestTwoUptoRow : OpenClaim := { program := "ytfhbgelpmbkooaa", sum := "ce6b9adbe5aef484f5c81d38bbb7659a11a55a6583230961105ff8252a4a1a40", func := "tracery/tracerylaw08.ForestTwo", spec := "forestTwo", unfollowed := true, recurses := true, plainKeys := false, apart := false, narrowed := true }
def ForestTwoUptoSaid : Prop := forestTwoUptoRow.holds Try.pinned (OpenSpec.upto forestTwoSpec)

/-- 'tracerylaw08.ForestBuilds', WHERE WHAT IT READS IS OF BULK AT MOST 1048576: true; the input reads as it did. -/
def forestBuildsUptoRow : OpenClaim := { program := "ytfhbgelpmbkooaa", sum := "ce6b9adbe5aef484f5c81d38bbb7659a11a55a6583230961105ff8252a4a1a40", func := "tracery/tracerylaw08.ForestBuilds", spec := "forestBuilds", unfollowed := true, recurses := true, plainKeys := false, apart := false, narrowed := true }
def ForestBuildsUptoSaid : Prop := forestBuildsUptoRow.holds Try.pinned (OpenSpec.upto forestBuildsSpec)

/-- 'tracerylaw08.ForestAccepts', WHERE WHAT IT READS IS OF BULK AT MOST 1048576: true; the input reads as it did. -/
def forestAcceptsUptoRow : OpenClaim := { program := "ytfhbgelpmbkooaa", sum := "ce6b9adbe5aef484f5c81d38bbb7659a11a55a6583230961105ff8252a4a1a40", func := "tracery/tracerylaw08.ForestAccepts", spec := "forestAccepts", unfollowed := true, recurses := true, plainKeys := false, apart := false, narrowed := true }
def ForestAcceptsUptoSaid : Prop := forestAcceptsUptoRow.holds Try.pinned (OpenSpec.upto forestAcceptsSpec)

/-- 'tracerylaw08.ForestBound', WHERE WHAT IT READS IS OF BULK AT MOST 1048576: true; the input reads as it did. -/
def forestBoundUptoRow : OpenClaim := { program := "ytfhbgelpmbkooaa", sum := "ce6b9adbe5aef484f5c81d38bbb7659a11a55a6583230961105ff8252a4a1a40", func := "tracery/tracerylaw08.ForestBound", spec := "forestBound", unfollowed := true, recurses := true, plainKeys := false, apart := false, narrowed := true }
def ForestBoundUptoSaid : Prop := forestBoundUptoRow.holds Try.pinned (OpenSpec.upto forestBoundSpec)

end Rows
end Go.Proofs.Ytfhbgelpmbkooaa
