/-
  DERIVED. GIVEN WITH THE SEED: THE CARDS: each row of YteaokdkfpafmaaaDoorRows.lean that lists a variable, with what it lists TIED to the program's text (the seventh form; the later family's looks); each row that meets fmt, with fmt's text TOLD by the authors' own Lean function (tested against real Go, not proved from fmt's source: count such statements apart). THE CARD IS WHAT COUNTS. Prove the row's statement (the work); the ties are given (YteaokdkfpafmaaaDoorTie.lean); close each card by the builder's one call (the guide's Derived/Test/ToyasCard.lean, 'card_holds'). Laid BY PROGRAM, IN A SANDBOX (cutbox-door.mjs). By AI agents, Wed Nov 11 2026. No macro, syntax, notation, axiom, sorry.
-/
import Derived.Test.YteaokdkfpafmaaaDoorRows
import GoSem.ClaimSeven
namespace Go.Proofs.YteaokdkfpafmaaaDoor
namespace Rows

/-- THE TIED CARD OF 'grommetlaw04.LayoutPlays'. -/
def layoutPlaysCard : Claim7 := { stood := { row := layoutPlaysRow, standIns := [], harness := (true, "60b99ed527bab3fd38da76bdf3d36443e9990b611960ea339ffce9602a18bb2d"), looks := false }, kinds := [], alts := [], laidByText := true, laidKinds := [.data], laidTests := true, laidLooks := .later }
def LayoutPlaysCardSaid : Prop := Claim7.holds Tryd.pinned (.plain (OpenSpec.ofChange layoutPlaysSpec)) layoutPlaysCard

/-- THE TIED CARD OF 'grommetlaw04.LayoutRows'. -/
def layoutRowsCard : Claim7 := { stood := { row := layoutRowsRow, standIns := [], harness := (true, "60b99ed527bab3fd38da76bdf3d36443e9990b611960ea339ffce9602a18bb2d"), looks := false }, kinds := [], alts := [], laidByText := true, laidKinds := [.data], laidTests := true, laidLooks := .later }
def LayoutRowsCardSaid : Prop := Claim7.holds Tryd.pinned (.plain (OpenSpec.ofChange layoutRowsSpec)) layoutRowsCard

/-- THE TIED CARD OF 'grommetlaw04.LayoutFormats'. -/
def layoutFormatsCard : Claim7 := { stood := { row := layoutFormatsRow, standIns := [], harness := (true, "60b99ed527bab3fd38da76bdf3d36443e9990b611960ea339ffce9602a18bb2d"), looks := false }, kinds := [], alts := [], laidByText := true, laidKinds := [.data], laidTests := true, laidLooks := .later }
def LayoutFormatsCardSaid : Prop := Claim7.holds Tryd.pinned (.plain (OpenSpec.ofChange layoutFormatsSpec)) layoutFormatsCard

/-- THE TIED CARD OF 'grommetlaw04.LayoutNew'. -/
def layoutNewCard : Claim7 := { stood := { row := layoutNewRow, standIns := [], harness := (true, "60b99ed527bab3fd38da76bdf3d36443e9990b611960ea339ffce9602a18bb2d"), looks := false }, kinds := [], alts := [], laidByText := true, laidKinds := [.data], laidTests := true, laidLooks := .later }
def LayoutNewCardSaid : Prop := Claim7.holds Tryd.pinned (.plain (OpenSpec.ofChange layoutNewSpec)) layoutNewCard

/-- THE TIED CARD OF 'grommetlaw04.LayoutWhere'. -/
def layoutWhereCard : Claim7 := { stood := { row := layoutWhereRow, standIns := [], harness := (true, "60b99ed527bab3fd38da76bdf3d36443e9990b611960ea339ffce9602a18bb2d"), looks := false }, kinds := [], alts := [], laidByText := true, laidKinds := [.data], laidTests := true, laidLooks := .later }
def LayoutWhereCardSaid : Prop := Claim7.holds Tryd.pinned (.plain (OpenSpec.ofChange layoutWhereSpec)) layoutWhereCard

/-- THE TIED CARD OF 'grommetlaw04.LayoutNone'. -/
def layoutNoneCard : Claim7 := { stood := { row := layoutNoneRow, standIns := [], harness := (true, "60b99ed527bab3fd38da76bdf3d36443e9990b611960ea339ffce9602a18bb2d"), looks := false }, kinds := [], alts := [], laidByText := true, laidKinds := [.data], laidTests := true, laidLooks := .later }
def LayoutNoneCardSaid : Prop := Claim7.holds Tryd.pinned (.plain (OpenSpec.ofChange layoutNoneSpec)) layoutNoneCard

/-- THE TIED CARD OF 'grommetlaw04.LayoutWhole'. -/
def layoutWholeCard : Claim7 := { stood := { row := layoutWholeRow, standIns := [], harness := (true, "60b99ed527bab3fd38da76bdf3d36443e9990b611960ea339ffce9602a18bb2d"), looks := false }, kinds := [], alts := [], laidByText := true, laidKinds := [.data], laidTests := true, laidLooks := .later }
def LayoutWholeCardSaid : Prop := Claim7.holds Tryd.pinned (.plain (OpenSpec.ofChange layoutWholeSpec)) layoutWholeCard

/-- THE SECOND FORM's CARD OF 'grommetlaw04.LayoutPlays'. -/
def layoutPlaysUptoCard : Claim7 := { stood := { row := layoutPlaysUptoRow, standIns := [], harness := (true, "60b99ed527bab3fd38da76bdf3d36443e9990b611960ea339ffce9602a18bb2d"), looks := false }, kinds := [], alts := [], laidByText := true, laidKinds := [.data], laidTests := true, laidLooks := .later }
def LayoutPlaysUptoCardSaid : Prop := Claim7.holds Tryd.pinned (.plain (OpenSpec.upto layoutPlaysSpec)) layoutPlaysUptoCard

/-- THE SECOND FORM's CARD OF 'grommetlaw04.LayoutRows'. -/
def layoutRowsUptoCard : Claim7 := { stood := { row := layoutRowsUptoRow, standIns := [], harness := (true, "60b99ed527bab3fd38da76bdf3d36443e9990b611960ea339ffce9602a18bb2d"), looks := false }, kinds := [], alts := [], laidByText := true, laidKinds := [.data], laidTests := true, laidLooks := .later }
def LayoutRowsUptoCardSaid : Prop := Claim7.holds Tryd.pinned (.plain (OpenSpec.upto layoutRowsSpec)) layoutRowsUptoCard

/-- THE SECOND FORM's CARD OF 'grommetlaw04.LayoutFormats'. -/
def layoutFormatsUptoCard : Claim7 := { stood := { row := layoutFormatsUptoRow, standIns := [], harness := (true, "60b99ed527bab3fd38da76bdf3d36443e9990b611960ea339ffce9602a18bb2d"), looks := false }, kinds := [], alts := [], laidByText := true, laidKinds := [.data], laidTests := true, laidLooks := .later }
def LayoutFormatsUptoCardSaid : Prop := Claim7.holds Tryd.pinned (.plain (OpenSpec.upto layoutFormatsSpec)) layoutFormatsUptoCard

/-- THE SECOND FORM's CARD OF 'grommetlaw04.LayoutNew'. -/
def layoutNewUptoCard : Claim7 := { stood := { row := layoutNewUptoRow, standIns := [], harness := (true, "60b99ed527bab3fd38da76bdf3d36443e9990b611960ea339ffce9602a18bb2d"), looks := false }, kinds := [], alts := [], laidByText := true, laidKinds := [.data], laidTests := true, laidLooks := .later }
def LayoutNewUptoCardSaid : Prop := Claim7.holds Tryd.pinned (.plain (OpenSpec.upto layoutNewSpec)) layoutNewUptoCard

/-- THE SECOND FORM's CARD OF 'grommetlaw04.LayoutWhere'. -/
def layoutWhereUptoCard : Claim7 := { stood := { row := layoutWhereUptoRow, standIns := [], harness := (true, "60b99ed527bab3fd38da76bdf3d36443e9990b611960ea339ffce9602a18bb2d"), looks := false }, kinds := [], alts := [], laidByText := true, laidKinds := [.data], laidTests := true, laidLooks := .later }
def LayoutWhereUptoCardSaid : Prop := Claim7.holds Tryd.pinned (.plain (OpenSpec.upto layoutWhereSpec)) layoutWhereUptoCard

/-- THE SECOND FORM's CARD OF 'grommetlaw04.LayoutNone'. -/
def layoutNoneUptoCard : Claim7 := { stood := { row := layoutNoneUptoRow, standIns := [], harness := (true, "60b99ed527bab3fd38da76bdf3d36443e9990b611960ea339ffce9602a18bb2d"), looks := false }, kinds := [], alts := [], laidByText := true, laidKinds := [.data], laidTests := true, laidLooks := .later }
def LayoutNoneUptoCardSaid : Prop := Claim7.holds Tryd.pinned (.plain (OpenSpec.upto layoutNoneSpec)) layoutNoneUptoCard

/-- THE SECOND FORM's CARD OF 'grommetlaw04.LayoutWhole'. -/
def layoutWholeUptoCard : Claim7 := { stood := { row := layoutWholeUptoRow, standIns := [], harness := (true, "60b99ed527bab3fd38da76bdf3d36443e9990b611960ea339ffce9602a18bb2d"), looks := false }, kinds := [], alts := [], laidByText := true, laidKinds := [.data], laidTests := true, laidLooks := .later }
def LayoutWholeUptoCardSaid : Prop := Claim7.holds Tryd.pinned (.plain (OpenSpec.upto layoutWholeSpec)) layoutWholeUptoCard
end Rows
end Go.Proofs.YteaokdkfpafmaaaDoor
