/-
  NARROWER THAN 'FOR EVERY INPUT', by the rows' own cells (each row's printed sentence says how): TreesRight: loops, laid · TreesWrites: loops, laid · TreesReads: laid · TreesBack: loops, laid · TreesParts: loops, laid · TreesPut: loops, laid · TreesStay: loops, laid · TreesSame: loops, laid · TreesTell: loops, laid · TreesYield: loops, laid.
  DERIVED. THE GIVEN ROWS OF THIS SEAT. 10 by the template 'for every input the law returns true; each argument reads behind the call as it read before'; 0 by the template 'total and deterministic' (their statements: YtncbbbjakbaojaaDoorTotals.lean).
  GIVEN WITH THE SEED: the statements are not yours to turn. If you find one false, say at which input.
  Laid BY PROGRAM, IN A SANDBOX (cutbox-rows.mjs): the forced cells as the released guide's own fill.sh prints them over the translation 332a1e8a2f03c26f… (all of the seat's roots in one cut). By AI agents, Wed Nov 11 2026. No macro, syntax, notation, axiom, sorry.
-/
import Derived.Test.YtncbbbjakbaojaaDoorChecked
import GoSem.Claim
import GoSem.ClaimJoined
import GoSem.ClaimMapViews
import Derived.JoinedTies
import Derived.KernelRfl
namespace Go.Proofs.YtncbbbjakbaojaaDoor
/- THE CELL 'sum', in the pinned program and in every row, IS THE sha256 OF THE DUMP (.gsa) THAT YtncbbbjakbaojaaDoorProg.lean LOADS. Nothing in Lean hashes anything: it is a label: what it is worth is what the hold of that sum in a sandbox is worth. -/
noncomputable def Tryd.pinned : Pinned := { name := "ytncbbbjakbaojaadoor", sum := "332a1e8a2f03c26f33a50955aa021e365f4c5ae354ccf8bb3166126957703afb", checked := Tryd.checked }
namespace Rows
def none {H : Type} : Left H := { results := [], args := [] }

/- WHAT THE LISTED PACKAGE-LEVEL VARIABLES READ AS WHEN THE CALL BEGINS. Each datum BY PROGRAM (the guide's laid-datum.mjs) off the statement by which the dump's own 'gosem.cut.vars' lays the variable. In a bare row this is a premise. The card (YtncbbbjakbaojaaDoorCards.lean) ties it to the program's text. -/
def laid_math_bits_deBruijn32tab {H : Type} : DataW H := .agg [.lit (.int .u8 0), .lit (.int .u8 1), .lit (.int .u8 28), .lit (.int .u8 2), .lit (.int .u8 29), .lit (.int .u8 14), .lit (.int .u8 24), .lit (.int .u8 3), .lit (.int .u8 30), .lit (.int .u8 22), .lit (.int .u8 20), .lit (.int .u8 15), .lit (.int .u8 25), .lit (.int .u8 17), .lit (.int .u8 4), .lit (.int .u8 8), .lit (.int .u8 31), .lit (.int .u8 27), .lit (.int .u8 13), .lit (.int .u8 23), .lit (.int .u8 21), .lit (.int .u8 19), .lit (.int .u8 16), .lit (.int .u8 7), .lit (.int .u8 26), .lit (.int .u8 12), .lit (.int .u8 18), .lit (.int .u8 6), .lit (.int .u8 11), .lit (.int .u8 5), .lit (.int .u8 10), .lit (.int .u8 9)]
def laid_math_bits_deBruijn64tab {H : Type} : DataW H := .agg [.lit (.int .u8 0), .lit (.int .u8 1), .lit (.int .u8 56), .lit (.int .u8 2), .lit (.int .u8 57), .lit (.int .u8 49), .lit (.int .u8 28), .lit (.int .u8 3), .lit (.int .u8 61), .lit (.int .u8 58), .lit (.int .u8 42), .lit (.int .u8 50), .lit (.int .u8 38), .lit (.int .u8 29), .lit (.int .u8 17), .lit (.int .u8 4), .lit (.int .u8 62), .lit (.int .u8 47), .lit (.int .u8 59), .lit (.int .u8 36), .lit (.int .u8 45), .lit (.int .u8 43), .lit (.int .u8 51), .lit (.int .u8 22), .lit (.int .u8 53), .lit (.int .u8 39), .lit (.int .u8 33), .lit (.int .u8 30), .lit (.int .u8 24), .lit (.int .u8 18), .lit (.int .u8 12), .lit (.int .u8 5), .lit (.int .u8 63), .lit (.int .u8 55), .lit (.int .u8 48), .lit (.int .u8 27), .lit (.int .u8 60), .lit (.int .u8 41), .lit (.int .u8 37), .lit (.int .u8 16), .lit (.int .u8 46), .lit (.int .u8 35), .lit (.int .u8 44), .lit (.int .u8 21), .lit (.int .u8 52), .lit (.int .u8 32), .lit (.int .u8 23), .lit (.int .u8 11), .lit (.int .u8 54), .lit (.int .u8 26), .lit (.int .u8 40), .lit (.int .u8 15), .lit (.int .u8 34), .lit (.int .u8 20), .lit (.int .u8 31), .lit (.int .u8 10), .lit (.int .u8 25), .lit (.int .u8 14), .lit (.int .u8 19), .lit (.int .u8 9), .lit (.int .u8 13), .lit (.int .u8 8), .lit (.int .u8 7), .lit (.int .u8 6)]
def laid_internal_strconv_uint64pow10 {H : Type} : DataW H := .agg [.lit (.int .u64 1), .lit (.int .u64 10), .lit (.int .u64 100), .lit (.int .u64 1000), .lit (.int .u64 10000), .lit (.int .u64 100000), .lit (.int .u64 1000000), .lit (.int .u64 10000000), .lit (.int .u64 100000000), .lit (.int .u64 1000000000), .lit (.int .u64 10000000000), .lit (.int .u64 100000000000), .lit (.int .u64 1000000000000), .lit (.int .u64 10000000000000), .lit (.int .u64 100000000000000), .lit (.int .u64 1000000000000000), .lit (.int .u64 10000000000000000), .lit (.int .u64 100000000000000000), .lit (.int .u64 1000000000000000000), .lit (.int .u64 10000000000000000000)]

/-- 'tracerylaw09.TreesRight': WHATEVER THE INPUT: true; the input reads as it did. -/
def treesRightSpec : ChangeSpec := { name := "treesRight", fn := fun _ => fun
  | [d1, d2, d3] => { results := [.lit (.bool true)], args := [d1, d2, d3] }
  | _ => none }
def treesRightRow : OpenClaim := { program := "ytncbbbjakbaojaadoor", sum := "332a1e8a2f03c26f33a50955aa021e365f4c5ae354ccf8bb3166126957703afb", func := "tracery/tracerylaw09.TreesRight", spec := "treesRight", inPlace := ["internal/abi.NoEscape", "internal/bytealg.IndexByteString"], unfollowed := true, recurses := true, named := ["internal/strconv.uint64pow10", "math/bits.deBruijn32tab", "math/bits.deBruijn64tab"], loops := true, apart := false, laid := [("math/bits.deBruijn32tab", laid_math_bits_deBruijn32tab), ("math/bits.deBruijn64tab", laid_math_bits_deBruijn64tab), ("internal/strconv.uint64pow10", laid_internal_strconv_uint64pow10)] }
def TreesRightSaid : Prop := treesRightRow.holds Tryd.pinned (OpenSpec.ofChange treesRightSpec)

/-- ITS FALSE NEIGHBOUR: 'it returns false'. Refute it at one input. -/
def treesRightWrong : ChangeSpec := { name := "treesRight", fn := fun _ => fun
  | [d1, d2, d3] => { results := [.lit (.bool false)], args := [d1, d2, d3] }
  | _ => none }
def TreesRightWrongFalsely : Prop := treesRightRow.holds Tryd.pinned (OpenSpec.ofChange treesRightWrong)

/-- 'tracerylaw09.TreesWrites': WHATEVER THE INPUT: true; the input reads as it did. -/
def treesWritesSpec : ChangeSpec := { name := "treesWrites", fn := fun _ => fun
  | [d] => { results := [.lit (.bool true)], args := [d] }
  | _ => none }
def treesWritesRow : OpenClaim := { program := "ytncbbbjakbaojaadoor", sum := "332a1e8a2f03c26f33a50955aa021e365f4c5ae354ccf8bb3166126957703afb", func := "tracery/tracerylaw09.TreesWrites", spec := "treesWrites", inPlace := ["internal/abi.NoEscape", "internal/bytealg.IndexByteString"], unfollowed := true, recurses := true, named := ["internal/strconv.uint64pow10", "math/bits.deBruijn32tab", "math/bits.deBruijn64tab"], loops := true, apart := false, laid := [("math/bits.deBruijn32tab", laid_math_bits_deBruijn32tab), ("math/bits.deBruijn64tab", laid_math_bits_deBruijn64tab), ("internal/strconv.uint64pow10", laid_internal_strconv_uint64pow10)] }
def TreesWritesSaid : Prop := treesWritesRow.holds Tryd.pinned (OpenSpec.ofChange treesWritesSpec)

/-- ITS FALSE NEIGHBOUR: 'it returns false'. Refute it at one input. -/
def treesWritesWrong : ChangeSpec := { name := "treesWrites", fn := fun _ => fun
  | [d] => { results := [.lit (.bool false)], args := [d] }
  | _ => none }
def TreesWritesWrongFalsely : Prop := treesWritesRow.holds Tryd.pinned (OpenSpec.ofChange treesWritesWrong)

/-- 'tracerylaw09.TreesReads': WHATEVER THE INPUT: true; the input reads as it did. -/
def treesReadsSpec : ChangeSpec := { name := "treesReads", fn := fun _ => fun
  | [d] => { results := [.lit (.bool true)], args := [d] }
  | _ => none }
def treesReadsRow : OpenClaim := { program := "ytncbbbjakbaojaadoor", sum := "332a1e8a2f03c26f33a50955aa021e365f4c5ae354ccf8bb3166126957703afb", func := "tracery/tracerylaw09.TreesReads", spec := "treesReads", inPlace := ["internal/abi.NoEscape", "internal/bytealg.IndexByteString"], unfollowed := true, recurses := true, named := ["internal/strconv.uint64pow10", "math/bits.deBruijn32tab", "math/bits.deBruijn64tab"], apart := false, laid := [("math/bits.deBruijn32tab", laid_math_bits_deBruijn32tab), ("math/bits.deBruijn64tab", laid_math_bits_deBruijn64tab), ("internal/strconv.uint64pow10", laid_internal_strconv_uint64pow10)] }
def TreesReadsSaid : Prop := treesReadsRow.holds Tryd.pinned (OpenSpec.ofChange treesReadsSpec)

/-- ITS FALSE NEIGHBOUR: 'it returns false'. Refute it at one input. -/
def treesReadsWrong : ChangeSpec := { name := "treesReads", fn := fun _ => fun
  | [d] => { results := [.lit (.bool false)], args := [d] }
  | _ => none }
def TreesReadsWrongFalsely : Prop := treesReadsRow.holds Tryd.pinned (OpenSpec.ofChange treesReadsWrong)

/-- 'tracerylaw09.TreesBack': WHATEVER THE INPUT: true; the input reads as it did. -/
def treesBackSpec : ChangeSpec := { name := "treesBack", fn := fun _ => fun
  | [d1, d2] => { results := [.lit (.bool true)], args := [d1, d2] }
  | _ => none }
def treesBackRow : OpenClaim := { program := "ytncbbbjakbaojaadoor", sum := "332a1e8a2f03c26f33a50955aa021e365f4c5ae354ccf8bb3166126957703afb", func := "tracery/tracerylaw09.TreesBack", spec := "treesBack", inPlace := ["internal/abi.NoEscape", "internal/bytealg.IndexByteString"], unfollowed := true, recurses := true, named := ["internal/strconv.uint64pow10", "math/bits.deBruijn32tab", "math/bits.deBruijn64tab"], loops := true, apart := false, laid := [("math/bits.deBruijn32tab", laid_math_bits_deBruijn32tab), ("math/bits.deBruijn64tab", laid_math_bits_deBruijn64tab), ("internal/strconv.uint64pow10", laid_internal_strconv_uint64pow10)] }
def TreesBackSaid : Prop := treesBackRow.holds Tryd.pinned (OpenSpec.ofChange treesBackSpec)

/-- ITS FALSE NEIGHBOUR: 'it returns false'. Refute it at one input. -/
def treesBackWrong : ChangeSpec := { name := "treesBack", fn := fun _ => fun
  | [d1, d2] => { results := [.lit (.bool false)], args := [d1, d2] }
  | _ => none }
def TreesBackWrongFalsely : Prop := treesBackRow.holds Tryd.pinned (OpenSpec.ofChange treesBackWrong)

/-- 'tracerylaw09.TreesParts': WHATEVER THE INPUT: true; the input reads as it did. -/
def treesPartsSpec : ChangeSpec := { name := "treesParts", fn := fun _ => fun
  | [d1, d2, d3] => { results := [.lit (.bool true)], args := [d1, d2, d3] }
  | _ => none }
def treesPartsRow : OpenClaim := { program := "ytncbbbjakbaojaadoor", sum := "332a1e8a2f03c26f33a50955aa021e365f4c5ae354ccf8bb3166126957703afb", func := "tracery/tracerylaw09.TreesParts", spec := "treesParts", inPlace := ["internal/abi.NoEscape", "internal/bytealg.IndexByteString"], unfollowed := true, recurses := true, named := ["internal/strconv.uint64pow10", "math/bits.deBruijn32tab", "math/bits.deBruijn64tab"], loops := true, apart := false, laid := [("math/bits.deBruijn32tab", laid_math_bits_deBruijn32tab), ("math/bits.deBruijn64tab", laid_math_bits_deBruijn64tab), ("internal/strconv.uint64pow10", laid_internal_strconv_uint64pow10)] }
def TreesPartsSaid : Prop := treesPartsRow.holds Tryd.pinned (OpenSpec.ofChange treesPartsSpec)

/-- ITS FALSE NEIGHBOUR: 'it returns false'. Refute it at one input. -/
def treesPartsWrong : ChangeSpec := { name := "treesParts", fn := fun _ => fun
  | [d1, d2, d3] => { results := [.lit (.bool false)], args := [d1, d2, d3] }
  | _ => none }
def TreesPartsWrongFalsely : Prop := treesPartsRow.holds Tryd.pinned (OpenSpec.ofChange treesPartsWrong)

/-- 'tracerylaw09.TreesPut': WHATEVER THE INPUT: true; the input reads as it did. -/
def treesPutSpec : ChangeSpec := { name := "treesPut", fn := fun _ => fun
  | [d1, d2, d3] => { results := [.lit (.bool true)], args := [d1, d2, d3] }
  | _ => none }
def treesPutRow : OpenClaim := { program := "ytncbbbjakbaojaadoor", sum := "332a1e8a2f03c26f33a50955aa021e365f4c5ae354ccf8bb3166126957703afb", func := "tracery/tracerylaw09.TreesPut", spec := "treesPut", inPlace := ["internal/abi.NoEscape", "internal/bytealg.IndexByteString"], unfollowed := true, recurses := true, named := ["internal/strconv.uint64pow10", "math/bits.deBruijn32tab", "math/bits.deBruijn64tab"], loops := true, apart := false, laid := [("math/bits.deBruijn32tab", laid_math_bits_deBruijn32tab), ("math/bits.deBruijn64tab", laid_math_bits_deBruijn64tab), ("internal/strconv.uint64pow10", laid_internal_strconv_uint64pow10)] }
def TreesPutSaid : Prop := treesPutRow.holds Tryd.pinned (OpenSpec.ofChange treesPutSpec)

/-- ITS FALSE NEIGHBOUR: 'it returns false'. Refute it at one input. -/
def treesPutWrong : ChangeSpec := { name := "treesPut", fn := fun _ => fun
  | [d1, d2, d3] => { results := [.lit (.bool false)], args := [d1, d2, d3] }
  | _ => none }
def TreesPutWrongFalsely : Prop := treesPutRow.holds Tryd.pinned (OpenSpec.ofChange treesPutWrong)

/-- 'tracerylaw09.TreesStay': WHATEVER THE INPUT: true; the input reads as it did. -/
def treesStaySpec : ChangeSpec := { name := "treesStay", fn := fun _ => fun
  | [d1, d2, d3, d4] => { results := [.lit (.bool true)], args := [d1, d2, d3, d4] }
  | _ => none }
def treesStayRow : OpenClaim := { program := "ytncbbbjakbaojaadoor", sum := "332a1e8a2f03c26f33a50955aa021e365f4c5ae354ccf8bb3166126957703afb", func := "tracery/tracerylaw09.TreesStay", spec := "treesStay", inPlace := ["internal/abi.NoEscape", "internal/bytealg.IndexByteString"], unfollowed := true, recurses := true, named := ["internal/strconv.uint64pow10", "math/bits.deBruijn32tab", "math/bits.deBruijn64tab"], loops := true, apart := false, laid := [("math/bits.deBruijn32tab", laid_math_bits_deBruijn32tab), ("math/bits.deBruijn64tab", laid_math_bits_deBruijn64tab), ("internal/strconv.uint64pow10", laid_internal_strconv_uint64pow10)] }
def TreesStaySaid : Prop := treesStayRow.holds Tryd.pinned (OpenSpec.ofChange treesStaySpec)

/-- ITS FALSE NEIGHBOUR: 'it returns false'. Refute it at one input. -/
def treesStayWrong : ChangeSpec := { name := "treesStay", fn := fun _ => fun
  | [d1, d2, d3, d4] => { results := [.lit (.bool false)], args := [d1, d2, d3, d4] }
  | _ => none }
def TreesStayWrongFalsely : Prop := treesStayRow.holds Tryd.pinned (OpenSpec.ofChange treesStayWrong)

/-- 'tracerylaw09.TreesSame': WHATEVER THE INPUT: true; the input reads as it did. -/
def treesSameSpec : ChangeSpec := { name := "treesSame", fn := fun _ => fun
  | [d1, d2] => { results := [.lit (.bool true)], args := [d1, d2] }
  | _ => none }
def treesSameRow : OpenClaim := { program := "ytncbbbjakbaojaadoor", sum := "332a1e8a2f03c26f33a50955aa021e365f4c5ae354ccf8bb3166126957703afb", func := "tracery/tracerylaw09.TreesSame", spec := "treesSame", inPlace := ["internal/abi.NoEscape", "internal/bytealg.IndexByteString"], unfollowed := true, recurses := true, named := ["internal/strconv.uint64pow10", "math/bits.deBruijn32tab", "math/bits.deBruijn64tab"], loops := true, apart := false, laid := [("math/bits.deBruijn32tab", laid_math_bits_deBruijn32tab), ("math/bits.deBruijn64tab", laid_math_bits_deBruijn64tab), ("internal/strconv.uint64pow10", laid_internal_strconv_uint64pow10)] }
def TreesSameSaid : Prop := treesSameRow.holds Tryd.pinned (OpenSpec.ofChange treesSameSpec)

/-- ITS FALSE NEIGHBOUR: 'it returns false'. Refute it at one input. -/
def treesSameWrong : ChangeSpec := { name := "treesSame", fn := fun _ => fun
  | [d1, d2] => { results := [.lit (.bool false)], args := [d1, d2] }
  | _ => none }
def TreesSameWrongFalsely : Prop := treesSameRow.holds Tryd.pinned (OpenSpec.ofChange treesSameWrong)

/-- 'tracerylaw09.TreesTell': WHATEVER THE INPUT: true; the input reads as it did. -/
def treesTellSpec : ChangeSpec := { name := "treesTell", fn := fun _ => fun
  | [d] => { results := [.lit (.bool true)], args := [d] }
  | _ => none }
def treesTellRow : OpenClaim := { program := "ytncbbbjakbaojaadoor", sum := "332a1e8a2f03c26f33a50955aa021e365f4c5ae354ccf8bb3166126957703afb", func := "tracery/tracerylaw09.TreesTell", spec := "treesTell", inPlace := ["internal/abi.NoEscape", "internal/bytealg.IndexByteString"], unfollowed := true, recurses := true, named := ["internal/strconv.uint64pow10", "math/bits.deBruijn32tab", "math/bits.deBruijn64tab"], loops := true, apart := false, laid := [("math/bits.deBruijn32tab", laid_math_bits_deBruijn32tab), ("math/bits.deBruijn64tab", laid_math_bits_deBruijn64tab), ("internal/strconv.uint64pow10", laid_internal_strconv_uint64pow10)] }
def TreesTellSaid : Prop := treesTellRow.holds Tryd.pinned (OpenSpec.ofChange treesTellSpec)

/-- ITS FALSE NEIGHBOUR: 'it returns false'. Refute it at one input. -/
def treesTellWrong : ChangeSpec := { name := "treesTell", fn := fun _ => fun
  | [d] => { results := [.lit (.bool false)], args := [d] }
  | _ => none }
def TreesTellWrongFalsely : Prop := treesTellRow.holds Tryd.pinned (OpenSpec.ofChange treesTellWrong)

/-- 'tracerylaw09.TreesYield': WHATEVER THE INPUT: true; the input reads as it did. -/
def treesYieldSpec : ChangeSpec := { name := "treesYield", fn := fun _ => fun
  | [d] => { results := [.lit (.bool true)], args := [d] }
  | _ => none }
def treesYieldRow : OpenClaim := { program := "ytncbbbjakbaojaadoor", sum := "332a1e8a2f03c26f33a50955aa021e365f4c5ae354ccf8bb3166126957703afb", func := "tracery/tracerylaw09.TreesYield", spec := "treesYield", inPlace := ["internal/abi.NoEscape", "internal/bytealg.IndexByteString"], unfollowed := true, recurses := true, named := ["internal/strconv.uint64pow10", "math/bits.deBruijn32tab", "math/bits.deBruijn64tab"], loops := true, apart := false, laid := [("math/bits.deBruijn32tab", laid_math_bits_deBruijn32tab), ("math/bits.deBruijn64tab", laid_math_bits_deBruijn64tab), ("internal/strconv.uint64pow10", laid_internal_strconv_uint64pow10)] }
def TreesYieldSaid : Prop := treesYieldRow.holds Tryd.pinned (OpenSpec.ofChange treesYieldSpec)

/-- ITS FALSE NEIGHBOUR: 'it returns false'. Refute it at one input. -/
def treesYieldWrong : ChangeSpec := { name := "treesYield", fn := fun _ => fun
  | [d] => { results := [.lit (.bool false)], args := [d] }
  | _ => none }
def TreesYieldWrongFalsely : Prop := treesYieldRow.holds Tryd.pinned (OpenSpec.ofChange treesYieldWrong)

/- THE SECOND FORM. 'bulk': how many values and letters a reading holds, each counted each time it is reached (what is shared counts as often as it is met; a slice's spare places count too). A statement '..UptoSaid' is the law's where the arguments, and the package variables that the reading takes, are together of bulk at most 1048576: NARROWER than '..Said'. Prove '..Said' where nothing that the law and all that it calls make is longer than what came in: it says more and counts as full. Else prove '..UptoSaid'. A law counts once. -/
mutual
def uptoBulk {H : Type} : DataW H → Nat
  | .lit (.string bytes) => bytes.length + 1
  | .lit _ => 1
  | .nil => 1
  | .ptr d => uptoBulk d + 1
  | .slice elems spare => uptoBulkAll elems + uptoBulkAll spare + 1
  | .agg parts => uptoBulkAll parts + 1
  | .iface _ d => uptoBulk d + 1
  | .map entries => uptoBulkEntries entries + 1
  | .held _ => 1
def uptoBulkAll {H : Type} : List (DataW H) → Nat
  | [] => 0
  | d :: r => uptoBulk d + uptoBulkAll r
def uptoBulkEntries {H : Type} : List (Lit × DataW H) → Nat
  | [] => 0
  | x :: r => uptoBulkEntry x + uptoBulkEntries r
def uptoBulkEntry {H : Type} : Lit × DataW H → Nat
  | (.string bytes, d) => bytes.length + uptoBulk d + 1
  | (_, d) => uptoBulk d + 1
 end
def uptoSmall : (H : Type) → List (DataW H) → Bool := fun _ ds => decide (uptoBulkAll ds ≤ 1048576)
def OpenSpec.upto (s : _root_.Go.ChangeSpec) : _root_.Go.OpenSpec := { _root_.Go.OpenSpec.ofChange s with cond := some uptoSmall }

/-- 'tracerylaw09.TreesRight', WHERE WHAT IT READS IS OF BULK AT MOST 1048576: true; the input reads as it did. -/
def treesRightUptoRow : OpenClaim := { program := "ytncbbbjakbaojaadoor", sum := "332a1e8a2f03c26f33a50955aa021e365f4c5ae354ccf8bb3166126957703afb", func := "tracery/tracerylaw09.TreesRight", spec := "treesRight", inPlace := ["internal/abi.NoEscape", "internal/bytealg.IndexByteString"], unfollowed := true, recurses := true, named := ["internal/strconv.uint64pow10", "math/bits.deBruijn32tab", "math/bits.deBruijn64tab"], loops := true, apart := false, laid := [("math/bits.deBruijn32tab", laid_math_bits_deBruijn32tab), ("math/bits.deBruijn64tab", laid_math_bits_deBruijn64tab), ("internal/strconv.uint64pow10", laid_internal_strconv_uint64pow10)], narrowed := true }
def TreesRightUptoSaid : Prop := treesRightUptoRow.holds Tryd.pinned (OpenSpec.upto treesRightSpec)

/-- 'tracerylaw09.TreesWrites', WHERE WHAT IT READS IS OF BULK AT MOST 1048576: true; the input reads as it did. -/
def treesWritesUptoRow : OpenClaim := { program := "ytncbbbjakbaojaadoor", sum := "332a1e8a2f03c26f33a50955aa021e365f4c5ae354ccf8bb3166126957703afb", func := "tracery/tracerylaw09.TreesWrites", spec := "treesWrites", inPlace := ["internal/abi.NoEscape", "internal/bytealg.IndexByteString"], unfollowed := true, recurses := true, named := ["internal/strconv.uint64pow10", "math/bits.deBruijn32tab", "math/bits.deBruijn64tab"], loops := true, apart := false, laid := [("math/bits.deBruijn32tab", laid_math_bits_deBruijn32tab), ("math/bits.deBruijn64tab", laid_math_bits_deBruijn64tab), ("internal/strconv.uint64pow10", laid_internal_strconv_uint64pow10)], narrowed := true }
def TreesWritesUptoSaid : Prop := treesWritesUptoRow.holds Tryd.pinned (OpenSpec.upto treesWritesSpec)

/-- 'tracerylaw09.TreesReads', WHERE WHAT IT READS IS OF BULK AT MOST 1048576: true; the input reads as it did. -/
def treesReadsUptoRow : OpenClaim := { program := "ytncbbbjakbaojaadoor", sum := "332a1e8a2f03c26f33a50955aa021e365f4c5ae354ccf8bb3166126957703afb", func := "tracery/tracerylaw09.TreesReads", spec := "treesReads", inPlace := ["internal/abi.NoEscape", "internal/bytealg.IndexByteString"], unfollowed := true, recurses := true, named := ["internal/strconv.uint64pow10", "math/bits.deBruijn32tab", "math/bits.deBruijn64tab"], apart := false, laid := [("math/bits.deBruijn32tab", laid_math_bits_deBruijn32tab), ("math/bits.deBruijn64tab", laid_math_bits_deBruijn64tab), ("internal/strconv.uint64pow10", laid_internal_strconv_uint64pow10)], narrowed := true }
def TreesReadsUptoSaid : Prop := treesReadsUptoRow.holds Tryd.pinned (OpenSpec.upto treesReadsSpec)

/-- 'tracerylaw09.TreesBack', WHERE WHAT IT READS IS OF BULK AT MOST 1048576: true; the input reads as it did. -/
def treesBackUptoRow : OpenClaim := { program := "ytncbbbjakbaojaadoor", sum := "332a1e8a2f03c26f33a50955aa021e365f4c5ae354ccf8bb3166126957703afb", func := "tracery/tracerylaw09.TreesBack", spec := "treesBack", inPlace := ["internal/abi.NoEscape", "internal/bytealg.IndexByteString"], unfollowed := true, recurses := true, named := ["internal/strconv.uint64pow10", "math/bits.deBruijn32tab", "math/bits.deBruijn64tab"], loops := true, apart := false, laid := [("math/bits.deBruijn32tab", laid_math_bits_deBruijn32tab), ("math/bits.deBruijn64tab", laid_math_bits_deBruijn64tab), ("internal/strconv.uint64pow10", laid_internal_strconv_uint64pow10)], narrowed := true }
def TreesBackUptoSaid : Prop := treesBackUptoRow.holds Tryd.pinned (OpenSpec.upto treesBackSpec)

/-- 'tracerylaw09.TreesParts', WHERE WHAT IT READS IS OF BULK AT MOST 1048576: true; the input reads as it did. -/
def treesPartsUptoRow : OpenClaim := { program := "ytncbbbjakbaojaadoor", sum := "332a1e8a2f03c26f33a50955aa021e365f4c5ae354ccf8bb3166126957703afb", func := "tracery/tracerylaw09.TreesParts", spec := "treesParts", inPlace := ["internal/abi.NoEscape", "internal/bytealg.IndexByteString"], unfollowed := true, recurses := true, named := ["internal/strconv.uint64pow10", "math/bits.deBruijn32tab", "math/bits.deBruijn64tab"], loops := true, apart := false, laid := [("math/bits.deBruijn32tab", laid_math_bits_deBruijn32tab), ("math/bits.deBruijn64tab", laid_math_bits_deBruijn64tab), ("internal/strconv.uint64pow10", laid_internal_strconv_uint64pow10)], narrowed := true }
def TreesPartsUptoSaid : Prop := treesPartsUptoRow.holds Tryd.pinned (OpenSpec.upto treesPartsSpec)

/-- 'tracerylaw09.TreesPut', WHERE WHAT IT READS IS OF BULK AT MOST 1048576: true; the input reads as it did. -/
def treesPutUptoRow : OpenClaim := { program := "ytncbbbjakbaojaadoor", sum := "332a1e8a2f03c26f33a50955aa021e365f4c5ae354ccf8bb3166126957703afb", func := "tracery/tracerylaw09.TreesPut", spec := "treesPut", inPlace := ["internal/abi.NoEscape", "internal/bytealg.IndexByteString"], unfollowed := true, recurses := true, named := ["internal/strconv.uint64pow10", "math/bits.deBruijn32tab", "math/bits.deBruijn64tab"], loops := true, apart := false, laid := [("math/bits.deBruijn32tab", laid_math_bits_deBruijn32tab), ("math/bits.deBruijn64tab", laid_math_bits_deBruijn64tab), ("internal/strconv.uint64pow10", laid_internal_strconv_uint64pow10)], narrowed := true }
def TreesPutUptoSaid : Prop := treesPutUptoRow.holds Tryd.pinned (OpenSpec.upto treesPutSpec)

/-- 'tracerylaw09.TreesStay', WHERE WHAT IT READS IS OF BULK AT MOST 1048576: true; the input reads as it did. -/
def treesStayUptoRow : OpenClaim := { program := "ytncbbbjakbaojaadoor", sum := "332a1e8a2f03c26f33a50955aa021e365f4c5ae354ccf8bb3166126957703afb", func := "tracery/tracerylaw09.TreesStay", spec := "treesStay", inPlace := ["internal/abi.NoEscape", "internal/bytealg.IndexByteString"], unfollowed := true, recurses := true, named := ["internal/strconv.uint64pow10", "math/bits.deBruijn32tab", "math/bits.deBruijn64tab"], loops := true, apart := false, laid := [("math/bits.deBruijn32tab", laid_math_bits_deBruijn32tab), ("math/bits.deBruijn64tab", laid_math_bits_deBruijn64tab), ("internal/strconv.uint64pow10", laid_internal_strconv_uint64pow10)], narrowed := true }
def TreesStayUptoSaid : Prop := treesStayUptoRow.holds Tryd.pinned (OpenSpec.upto treesStaySpec)

/-- 'tracerylaw09.TreesSame', WHERE WHAT IT READS IS OF BULK AT MOST 1048576: true; the input reads as it did. -/
def treesSameUptoRow : OpenClaim := { program := "ytncbbbjakbaojaadoor", sum := "332a1e8a2f03c26f33a50955aa021e365f4c5ae354ccf8bb3166126957703afb", func := "tracery/tracerylaw09.TreesSame", spec := "treesSame", inPlace := ["internal/abi.NoEscape", "internal/bytealg.IndexByteString"], unfollowed := true, recurses := true, named := ["internal/strconv.uint64pow10", "math/bits.deBruijn32tab", "math/bits.deBruijn64tab"], loops := true, apart := false, laid := [("math/bits.deBruijn32tab", laid_math_bits_deBruijn32tab), ("math/bits.deBruijn64tab", laid_math_bits_deBruijn64tab), ("internal/strconv.uint64pow10", laid_internal_strconv_uint64pow10)], narrowed := true }
def TreesSameUptoSaid : Prop := treesSameUptoRow.holds Tryd.pinned (OpenSpec.upto treesSameSpec)

/-- 'tracerylaw09.TreesTell', WHERE WHAT IT READS IS OF BULK AT MOST 1048576: true; the input reads as it did. -/
def treesTellUptoRow : OpenClaim := { program := "ytncbbbjakbaojaadoor", sum := "332a1e8a2f03c26f33a50955aa021e365f4c5ae354ccf8bb3166126957703afb", func := "tracery/tracerylaw09.TreesTell", spec := "treesTell", inPlace := ["internal/abi.NoEscape", "internal/bytealg.IndexByteString"], unfollowed := true, recurses := true, named := ["internal/strconv.uint64pow10", "math/bits.deBruijn32tab", "math/bits.deBruijn64tab"], loops := true, apart := false, laid := [("math/bits.deBruijn32tab", laid_math_bits_deBruijn32tab), ("math/bits.deBruijn64tab", laid_math_bits_deBruijn64tab), ("internal/strconv.uint64pow10", laid_internal_strconv_uint64pow10)], narrowed := true }
def TreesTellUptoSaid : Prop := treesTellUptoRow.holds Tryd.pinned (OpenSpec.upto treesTellSpec)

/-- 'tracerylaw09.TreesYield', WHERE WHAT IT READS IS OF BULK AT MOST 1048576: true; the input reads as it did. -/
def treesYieldUptoRow : OpenClaim := { program := "ytncbbbjakbaojaadoor", sum := "332a1e8a2f03c26f33a50955aa021e365f4c5ae354ccf8bb3166126957703afb", func := "tracery/tracerylaw09.TreesYield", spec := "treesYield", inPlace := ["internal/abi.NoEscape", "internal/bytealg.IndexByteString"], unfollowed := true, recurses := true, named := ["internal/strconv.uint64pow10", "math/bits.deBruijn32tab", "math/bits.deBruijn64tab"], loops := true, apart := false, laid := [("math/bits.deBruijn32tab", laid_math_bits_deBruijn32tab), ("math/bits.deBruijn64tab", laid_math_bits_deBruijn64tab), ("internal/strconv.uint64pow10", laid_internal_strconv_uint64pow10)], narrowed := true }
def TreesYieldUptoSaid : Prop := treesYieldUptoRow.holds Tryd.pinned (OpenSpec.upto treesYieldSpec)

end Rows
end Go.Proofs.YtncbbbjakbaojaaDoor
