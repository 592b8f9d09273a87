/-
  DERIVED. GIVEN WITH THE SEED: THE CARDS: each row of YtncbbbjakbaojaaDoorRows.lean that lists a variable, with what it lists TIED to the program's text (the seventh form; the later family's looks); each row that meets fmt, with fmt's text TOLD by the authors' own Lean function (tested against real Go, not proved from fmt's source: count such statements apart). THE CARD IS WHAT COUNTS. Prove the row's statement (the work); the ties are given (YtncbbbjakbaojaaDoorTie.lean); close each card by the builder's one call (the guide's Derived/Test/ToyasCard.lean, 'card_holds'). Laid BY PROGRAM, IN A SANDBOX (cutbox-door.mjs). By AI agents, Wed Nov 11 2026. No macro, syntax, notation, axiom, sorry.
-/
import Derived.Test.YtncbbbjakbaojaaDoorRows
import GoSem.ClaimSeven
namespace Go.Proofs.YtncbbbjakbaojaaDoor
namespace Rows

/-- THE TIED CARD OF 'tracerylaw09.TreesRight'. -/
def treesRightCard : Claim7 := { stood := { row := treesRightRow, standIns := [], harness := (true, "b65180683d9a68e840aa793359e55265650240a4fa2be5c0b385a3a835645bed"), looks := true }, kinds := [], alts := [], laidByText := true, laidKinds := [.data, .data, .data], laidTests := true, laidLooks := .later }
def TreesRightCardSaid : Prop := Claim7.holds Tryd.pinned (.plain (OpenSpec.ofChange treesRightSpec)) treesRightCard

/-- THE TIED CARD OF 'tracerylaw09.TreesWrites'. -/
def treesWritesCard : Claim7 := { stood := { row := treesWritesRow, standIns := [], harness := (true, "b65180683d9a68e840aa793359e55265650240a4fa2be5c0b385a3a835645bed"), looks := true }, kinds := [], alts := [], laidByText := true, laidKinds := [.data, .data, .data], laidTests := true, laidLooks := .later }
def TreesWritesCardSaid : Prop := Claim7.holds Tryd.pinned (.plain (OpenSpec.ofChange treesWritesSpec)) treesWritesCard

/-- THE TIED CARD OF 'tracerylaw09.TreesReads'. -/
def treesReadsCard : Claim7 := { stood := { row := treesReadsRow, standIns := [], harness := (true, "b65180683d9a68e840aa793359e55265650240a4fa2be5c0b385a3a835645bed"), looks := true }, kinds := [], alts := [], laidByText := true, laidKinds := [.data, .data, .data], laidTests := true, laidLooks := .later }
def TreesReadsCardSaid : Prop := Claim7.holds Tryd.pinned (.plain (OpenSpec.ofChange treesReadsSpec)) treesReadsCard

/-- THE TIED CARD OF 'tracerylaw09.TreesBack'. -/
def treesBackCard : Claim7 := { stood := { row := treesBackRow, standIns := [], harness := (true, "b65180683d9a68e840aa793359e55265650240a4fa2be5c0b385a3a835645bed"), looks := true }, kinds := [], alts := [], laidByText := true, laidKinds := [.data, .data, .data], laidTests := true, laidLooks := .later }
def TreesBackCardSaid : Prop := Claim7.holds Tryd.pinned (.plain (OpenSpec.ofChange treesBackSpec)) treesBackCard

/-- THE TIED CARD OF 'tracerylaw09.TreesParts'. -/
def treesPartsCard : Claim7 := { stood := { row := treesPartsRow, standIns := [], harness := (true, "b65180683d9a68e840aa793359e55265650240a4fa2be5c0b385a3a835645bed"), looks := true }, kinds := [], alts := [], laidByText := true, laidKinds := [.data, .data, .data], laidTests := true, laidLooks := .later }
def TreesPartsCardSaid : Prop := Claim7.holds Tryd.pinned (.plain (OpenSpec.ofChange treesPartsSpec)) treesPartsCard

/-- THE TIED CARD OF 'tracerylaw09.TreesPut'. -/
def treesPutCard : Claim7 := { stood := { row := treesPutRow, standIns := [], harness := (true, "b65180683d9a68e840aa793359e55265650240a4fa2be5c0b385a3a835645bed"), looks := true }, kinds := [], alts := [], laidByText := true, laidKinds := [.data, .data, .data], laidTests := true, laidLooks := .later }
def TreesPutCardSaid : Prop := Claim7.holds Tryd.pinned (.plain (OpenSpec.ofChange treesPutSpec)) treesPutCard

/-- THE TIED CARD OF 'tracerylaw09.TreesStay'. -/
def treesStayCard : Claim7 := { stood := { row := treesStayRow, standIns := [], harness := (true, "b65180683d9a68e840aa793359e55265650240a4fa2be5c0b385a3a835645bed"), looks := true }, kinds := [], alts := [], laidByText := true, laidKinds := [.data, .data, .data], laidTests := true, laidLooks := .later }
def TreesStayCardSaid : Prop := Claim7.holds Tryd.pinned (.plain (OpenSpec.ofChange treesStaySpec)) treesStayCard

/-- THE TIED CARD OF 'tracerylaw09.TreesSame'. -/
def treesSameCard : Claim7 := { stood := { row := treesSameRow, standIns := [], harness := (true, "b65180683d9a68e840aa793359e55265650240a4fa2be5c0b385a3a835645bed"), looks := true }, kinds := [], alts := [], laidByText := true, laidKinds := [.data, .data, .data], laidTests := true, laidLooks := .later }
def TreesSameCardSaid : Prop := Claim7.holds Tryd.pinned (.plain (OpenSpec.ofChange treesSameSpec)) treesSameCard

/-- THE TIED CARD OF 'tracerylaw09.TreesTell'. -/
def treesTellCard : Claim7 := { stood := { row := treesTellRow, standIns := [], harness := (true, "b65180683d9a68e840aa793359e55265650240a4fa2be5c0b385a3a835645bed"), looks := true }, kinds := [], alts := [], laidByText := true, laidKinds := [.data, .data, .data], laidTests := true, laidLooks := .later }
def TreesTellCardSaid : Prop := Claim7.holds Tryd.pinned (.plain (OpenSpec.ofChange treesTellSpec)) treesTellCard

/-- THE TIED CARD OF 'tracerylaw09.TreesYield'. -/
def treesYieldCard : Claim7 := { stood := { row := treesYieldRow, standIns := [], harness := (true, "b65180683d9a68e840aa793359e55265650240a4fa2be5c0b385a3a835645bed"), looks := true }, kinds := [], alts := [], laidByText := true, laidKinds := [.data, .data, .data], laidTests := true, laidLooks := .later }
def TreesYieldCardSaid : Prop := Claim7.holds Tryd.pinned (.plain (OpenSpec.ofChange treesYieldSpec)) treesYieldCard

/-- THE SECOND FORM's CARD OF 'tracerylaw09.TreesRight'. -/
def treesRightUptoCard : Claim7 := { stood := { row := treesRightUptoRow, standIns := [], harness := (true, "b65180683d9a68e840aa793359e55265650240a4fa2be5c0b385a3a835645bed"), looks := true }, kinds := [], alts := [], laidByText := true, laidKinds := [.data, .data, .data], laidTests := true, laidLooks := .later }
def TreesRightUptoCardSaid : Prop := Claim7.holds Tryd.pinned (.plain (OpenSpec.upto treesRightSpec)) treesRightUptoCard

/-- THE SECOND FORM's CARD OF 'tracerylaw09.TreesWrites'. -/
def treesWritesUptoCard : Claim7 := { stood := { row := treesWritesUptoRow, standIns := [], harness := (true, "b65180683d9a68e840aa793359e55265650240a4fa2be5c0b385a3a835645bed"), looks := true }, kinds := [], alts := [], laidByText := true, laidKinds := [.data, .data, .data], laidTests := true, laidLooks := .later }
def TreesWritesUptoCardSaid : Prop := Claim7.holds Tryd.pinned (.plain (OpenSpec.upto treesWritesSpec)) treesWritesUptoCard

/-- THE SECOND FORM's CARD OF 'tracerylaw09.TreesReads'. -/
def treesReadsUptoCard : Claim7 := { stood := { row := treesReadsUptoRow, standIns := [], harness := (true, "b65180683d9a68e840aa793359e55265650240a4fa2be5c0b385a3a835645bed"), looks := true }, kinds := [], alts := [], laidByText := true, laidKinds := [.data, .data, .data], laidTests := true, laidLooks := .later }
def TreesReadsUptoCardSaid : Prop := Claim7.holds Tryd.pinned (.plain (OpenSpec.upto treesReadsSpec)) treesReadsUptoCard

/-- THE SECOND FORM's CARD OF 'tracerylaw09.TreesBack'. -/
def treesBackUptoCard : Claim7 := { stood := { row := treesBackUptoRow, standIns := [], harness := (true, "b65180683d9a68e840aa793359e55265650240a4fa2be5c0b385a3a835645bed"), looks := true }, kinds := [], alts := [], laidByText := true, laidKinds := [.data, .data, .data], laidTests := true, laidLooks := .later }
def TreesBackUptoCardSaid : Prop := Claim7.holds Tryd.pinned (.plain (OpenSpec.upto treesBackSpec)) treesBackUptoCard

/-- THE SECOND FORM's CARD OF 'tracerylaw09.TreesParts'. -/
def treesPartsUptoCard : Claim7 := { stood := { row := treesPartsUptoRow, standIns := [], harness := (true, "b65180683d9a68e840aa793359e55265650240a4fa2be5c0b385a3a835645bed"), looks := true }, kinds := [], alts := [], laidByText := true, laidKinds := [.data, .data, .data], laidTests := true, laidLooks := .later }
def TreesPartsUptoCardSaid : Prop := Claim7.holds Tryd.pinned (.plain (OpenSpec.upto treesPartsSpec)) treesPartsUptoCard

/-- THE SECOND FORM's CARD OF 'tracerylaw09.TreesPut'. -/
def treesPutUptoCard : Claim7 := { stood := { row := treesPutUptoRow, standIns := [], harness := (true, "b65180683d9a68e840aa793359e55265650240a4fa2be5c0b385a3a835645bed"), looks := true }, kinds := [], alts := [], laidByText := true, laidKinds := [.data, .data, .data], laidTests := true, laidLooks := .later }
def TreesPutUptoCardSaid : Prop := Claim7.holds Tryd.pinned (.plain (OpenSpec.upto treesPutSpec)) treesPutUptoCard

/-- THE SECOND FORM's CARD OF 'tracerylaw09.TreesStay'. -/
def treesStayUptoCard : Claim7 := { stood := { row := treesStayUptoRow, standIns := [], harness := (true, "b65180683d9a68e840aa793359e55265650240a4fa2be5c0b385a3a835645bed"), looks := true }, kinds := [], alts := [], laidByText := true, laidKinds := [.data, .data, .data], laidTests := true, laidLooks := .later }
def TreesStayUptoCardSaid : Prop := Claim7.holds Tryd.pinned (.plain (OpenSpec.upto treesStaySpec)) treesStayUptoCard

/-- THE SECOND FORM's CARD OF 'tracerylaw09.TreesSame'. -/
def treesSameUptoCard : Claim7 := { stood := { row := treesSameUptoRow, standIns := [], harness := (true, "b65180683d9a68e840aa793359e55265650240a4fa2be5c0b385a3a835645bed"), looks := true }, kinds := [], alts := [], laidByText := true, laidKinds := [.data, .data, .data], laidTests := true, laidLooks := .later }
def TreesSameUptoCardSaid : Prop := Claim7.holds Tryd.pinned (.plain (OpenSpec.upto treesSameSpec)) treesSameUptoCard

/-- THE SECOND FORM's CARD OF 'tracerylaw09.TreesTell'. -/
def treesTellUptoCard : Claim7 := { stood := { row := treesTellUptoRow, standIns := [], harness := (true, "b65180683d9a68e840aa793359e55265650240a4fa2be5c0b385a3a835645bed"), looks := true }, kinds := [], alts := [], laidByText := true, laidKinds := [.data, .data, .data], laidTests := true, laidLooks := .later }
def TreesTellUptoCardSaid : Prop := Claim7.holds Tryd.pinned (.plain (OpenSpec.upto treesTellSpec)) treesTellUptoCard

/-- THE SECOND FORM's CARD OF 'tracerylaw09.TreesYield'. -/
def treesYieldUptoCard : Claim7 := { stood := { row := treesYieldUptoRow, standIns := [], harness := (true, "b65180683d9a68e840aa793359e55265650240a4fa2be5c0b385a3a835645bed"), looks := true }, kinds := [], alts := [], laidByText := true, laidKinds := [.data, .data, .data], laidTests := true, laidLooks := .later }
def TreesYieldUptoCardSaid : Prop := Claim7.holds Tryd.pinned (.plain (OpenSpec.upto treesYieldSpec)) treesYieldUptoCard
end Rows
end Go.Proofs.YtncbbbjakbaojaaDoor
