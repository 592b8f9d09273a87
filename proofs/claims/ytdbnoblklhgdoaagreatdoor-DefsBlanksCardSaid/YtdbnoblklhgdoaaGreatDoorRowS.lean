/-
  What the rows of texts share: the table that is laid.
-/
import Derived.Test.YtdbnoblklhgdoaaGreatDoorRows
import Derived.Test.YtdbnoblklhgdoaaGreatDoorCards
import Derived.Test.YtdbnoblklhgdoaaGreatDoorTie
import Derived.Lay
import Derived.LaidSub
import Derived.MakeChecks
import Derived.SevenTiedAt
import Derived.Lib.LaidTab
import Derived.Test.YtdbnoblklhgdoaaGreatDoorVcM
import Derived.Test.YtdbnoblklhgdoaaGreatDoorH2
import Derived.ChangeMaps5
import Derived.SizedLaws
set_option linter.unusedVariables false
set_option linter.unusedSimpArgs false
set_option maxRecDepth 8000
namespace Go.Proofs.YtdbnoblklhgdoaaGreatDoor
open Go.ChangeShapes Go.WideShapes Go.ChangeAt Go.RowKit Go.Vc Go.Proofs
theorem own_knob : ownKnob Tryz.prog.godebug = none := by kernel_rfl
theorem laid_out : laidOutB Tryz.prog = true := by kernel_rfl
theorem tab_fact {w : World} (h : laidMet Tryz.prog [("math/bits.deBruijn32tab", Rows.laid_math_bits_deBruijn32tab), ("math/bits.deBruijn64tab", Rows.laid_math_bits_deBruijn64tab), ("internal/strconv.uint64pow10", Rows.laid_internal_strconv_uint64pow10)] w) :
    PureC w (fun _ => False) (gf10 1).1 (gf10 1).2 := by
  have h1 := h.filter fun x => x.1 == "internal/strconv.uint64pow10"
  have h2 : laidMet Tryz.prog (("internal/strconv.uint64pow10", Lib.tabData .u64 Lib.pow10Tab) :: []) w := h1
  have h3 := Lib.tabIs_of_head (by kernel_rfl : Tryz.prog.globalNamed "internal/strconv.uint64pow10" = some 1) (t := 193) (e := 42) (n := 20) (by kernel_rfl) Tryz.underlying193 (by kernel_rfl) (by kernel_rfl) (by kernel_rfl) h2
  unfold Lib.TabIs World.var? at h3
  rw [show Tryz.prog.globalNamed "internal/strconv.uint64pow10" = some 1 by kernel_rfl] at h3
  simp only [Option.bind_some] at h3
  split at h3
  · rename_i cs T fz hc
    simp only [Option.some.injEq] at h3
    refine .at 1 pow10cells T fz (fun h => h) ?_ ?_
    · exact (Array.getElem?_eq_some_iff.1 hc).1
    · rw [hc, h3]; rfl
  · cases h3
end Go.Proofs.YtdbnoblklhgdoaaGreatDoor
