/-
  DERIVED. GIVEN WITH THE SEED: THE CARDS: each row of YtdbnoblklhgdoaaGreatDoorRows.lean that lists a variable, with what it lists TIED to the program's text (the seventh form; the later family's looks); each row that meets fmt, with fmt's text TOLD by the authors' own Lean function (tested against real Go, not proved from fmt's source: count such statements apart). THE CARD IS WHAT COUNTS. Prove the row's statement (the work); the ties are given (YtdbnoblklhgdoaaGreatDoorTie.lean); close each card by the builder's one call (the guide's Derived/Test/ToyasCard.lean, 'card_holds'). Laid BY PROGRAM, IN A SANDBOX (cutbox-door.mjs). By AI agents, Wed Nov 11 2026. No macro, syntax, notation, axiom, sorry.
-/
import Derived.Test.YtdbnoblklhgdoaaGreatDoorRows
import GoSem.ClaimSeven
namespace Go.Proofs.YtdbnoblklhgdoaaGreatDoor
namespace Rows

/-- THE TIED CARD OF 'tracerylaw03.DefsWrites'. -/
def defsWritesCard : Claim7 := { stood := { row := defsWritesRow, standIns := [], harness := (true, "b49f46c0a6d11c5b03423345913943a559fed5ab422752d570e35605e2650037"), looks := true }, kinds := [], alts := [], laidByText := true, laidKinds := [.data, .data, .data], laidTests := true, laidLooks := .later }
def DefsWritesCardSaid : Prop := Claim7.holds Tryz.pinned (.plain (OpenSpec.ofChange defsWritesSpec)) defsWritesCard

/-- THE TIED CARD OF 'tracerylaw03.DefsBack'. -/
def defsBackCard : Claim7 := { stood := { row := defsBackRow, standIns := [], harness := (true, "b49f46c0a6d11c5b03423345913943a559fed5ab422752d570e35605e2650037"), looks := true }, kinds := [], alts := [], laidByText := true, laidKinds := [.data, .data, .data], laidTests := true, laidLooks := .later }
def DefsBackCardSaid : Prop := Claim7.holds Tryz.pinned (.plain (OpenSpec.ofChange defsBackSpec)) defsBackCard

/-- THE TIED CARD OF 'tracerylaw03.DefsTwo'. -/
def defsTwoCard : Claim7 := { stood := { row := defsTwoRow, standIns := [], harness := (true, "b49f46c0a6d11c5b03423345913943a559fed5ab422752d570e35605e2650037"), looks := true }, kinds := [], alts := [], laidByText := true, laidKinds := [.data, .data, .data], laidTests := true, laidLooks := .later }
def DefsTwoCardSaid : Prop := Claim7.holds Tryz.pinned (.plain (OpenSpec.ofChange defsTwoSpec)) defsTwoCard

/-- THE TIED CARD OF 'tracerylaw03.DefsOne'. -/
def defsOneCard : Claim7 := { stood := { row := defsOneRow, standIns := [], harness := (true, "b49f46c0a6d11c5b03423345913943a559fed5ab422752d570e35605e2650037"), looks := true }, kinds := [], alts := [], laidByText := true, laidKinds := [.data, .data, .data], laidTests := true, laidLooks := .later }
def DefsOneCardSaid : Prop := Claim7.holds Tryz.pinned (.plain (OpenSpec.ofChange defsOneSpec)) defsOneCard

/-- THE TIED CARD OF 'tracerylaw03.DefsBlanks'. -/
def defsBlanksCard : Claim7 := { stood := { row := defsBlanksRow, standIns := [], harness := (true, "b49f46c0a6d11c5b03423345913943a559fed5ab422752d570e35605e2650037"), looks := true }, kinds := [], alts := [], laidByText := true, laidKinds := [.data, .data, .data], laidTests := true, laidLooks := .later }
def DefsBlanksCardSaid : Prop := Claim7.holds Tryz.pinned (.plain (OpenSpec.ofChange defsBlanksSpec)) defsBlanksCard

/-- THE TIED CARD OF 'tracerylaw03.DefsHeld'. -/
def defsHeldCard : Claim7 := { stood := { row := defsHeldRow, standIns := [], harness := (true, "b49f46c0a6d11c5b03423345913943a559fed5ab422752d570e35605e2650037"), looks := true }, kinds := [], alts := [], laidByText := true, laidKinds := [.data, .data, .data], laidTests := true, laidLooks := .later }
def DefsHeldCardSaid : Prop := Claim7.holds Tryz.pinned (.plain (OpenSpec.ofChange defsHeldSpec)) defsHeldCard

/-- THE TIED CARD OF 'tracerylaw03.DefsApart'. -/
def defsApartCard : Claim7 := { stood := { row := defsApartRow, standIns := [], harness := (true, "b49f46c0a6d11c5b03423345913943a559fed5ab422752d570e35605e2650037"), looks := true }, kinds := [], alts := [], laidByText := true, laidKinds := [.data, .data, .data], laidTests := true, laidLooks := .later }
def DefsApartCardSaid : Prop := Claim7.holds Tryz.pinned (.plain (OpenSpec.ofChange defsApartSpec)) defsApartCard

/-- THE SECOND FORM's CARD OF 'tracerylaw03.DefsWrites'. -/
def defsWritesUptoCard : Claim7 := { stood := { row := defsWritesUptoRow, standIns := [], harness := (true, "b49f46c0a6d11c5b03423345913943a559fed5ab422752d570e35605e2650037"), looks := true }, kinds := [], alts := [], laidByText := true, laidKinds := [.data, .data, .data], laidTests := true, laidLooks := .later }
def DefsWritesUptoCardSaid : Prop := Claim7.holds Tryz.pinned (.plain (OpenSpec.upto defsWritesSpec)) defsWritesUptoCard

/-- THE SECOND FORM's CARD OF 'tracerylaw03.DefsBack'. -/
def defsBackUptoCard : Claim7 := { stood := { row := defsBackUptoRow, standIns := [], harness := (true, "b49f46c0a6d11c5b03423345913943a559fed5ab422752d570e35605e2650037"), looks := true }, kinds := [], alts := [], laidByText := true, laidKinds := [.data, .data, .data], laidTests := true, laidLooks := .later }
def DefsBackUptoCardSaid : Prop := Claim7.holds Tryz.pinned (.plain (OpenSpec.upto defsBackSpec)) defsBackUptoCard

/-- THE SECOND FORM's CARD OF 'tracerylaw03.DefsTwo'. -/
def defsTwoUptoCard : Claim7 := { stood := { row := defsTwoUptoRow, standIns := [], harness := (true, "b49f46c0a6d11c5b03423345913943a559fed5ab422752d570e35605e2650037"), looks := true }, kinds := [], alts := [], laidByText := true, laidKinds := [.data, .data, .data], laidTests := true, laidLooks := .later }
def DefsTwoUptoCardSaid : Prop := Claim7.holds Tryz.pinned (.plain (OpenSpec.upto defsTwoSpec)) defsTwoUptoCard

/-- THE SECOND FORM's CARD OF 'tracerylaw03.DefsOne'. -/
def defsOneUptoCard : Claim7 := { stood := { row := defsOneUptoRow, standIns := [], harness := (true, "b49f46c0a6d11c5b03423345913943a559fed5ab422752d570e35605e2650037"), looks := true }, kinds := [], alts := [], laidByText := true, laidKinds := [.data, .data, .data], laidTests := true, laidLooks := .later }
def DefsOneUptoCardSaid : Prop := Claim7.holds Tryz.pinned (.plain (OpenSpec.upto defsOneSpec)) defsOneUptoCard

/-- THE SECOND FORM's CARD OF 'tracerylaw03.DefsBlanks'. -/
def defsBlanksUptoCard : Claim7 := { stood := { row := defsBlanksUptoRow, standIns := [], harness := (true, "b49f46c0a6d11c5b03423345913943a559fed5ab422752d570e35605e2650037"), looks := true }, kinds := [], alts := [], laidByText := true, laidKinds := [.data, .data, .data], laidTests := true, laidLooks := .later }
def DefsBlanksUptoCardSaid : Prop := Claim7.holds Tryz.pinned (.plain (OpenSpec.upto defsBlanksSpec)) defsBlanksUptoCard

/-- THE SECOND FORM's CARD OF 'tracerylaw03.DefsHeld'. -/
def defsHeldUptoCard : Claim7 := { stood := { row := defsHeldUptoRow, standIns := [], harness := (true, "b49f46c0a6d11c5b03423345913943a559fed5ab422752d570e35605e2650037"), looks := true }, kinds := [], alts := [], laidByText := true, laidKinds := [.data, .data, .data], laidTests := true, laidLooks := .later }
def DefsHeldUptoCardSaid : Prop := Claim7.holds Tryz.pinned (.plain (OpenSpec.upto defsHeldSpec)) defsHeldUptoCard

/-- THE SECOND FORM's CARD OF 'tracerylaw03.DefsApart'. -/
def defsApartUptoCard : Claim7 := { stood := { row := defsApartUptoRow, standIns := [], harness := (true, "b49f46c0a6d11c5b03423345913943a559fed5ab422752d570e35605e2650037"), looks := true }, kinds := [], alts := [], laidByText := true, laidKinds := [.data, .data, .data], laidTests := true, laidLooks := .later }
def DefsApartUptoCardSaid : Prop := Claim7.holds Tryz.pinned (.plain (OpenSpec.upto defsApartSpec)) defsApartUptoCard
end Rows
end Go.Proofs.YtdbnoblklhgdoaaGreatDoor
