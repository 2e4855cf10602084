/-
  DERIVED. GIVEN WITH THE SEED: THE CARDS: each row of YtkhbmendaapojaaGreatDoorRows.lean that lists a variable, with what it lists TIED to the program's text (the seventh form; the later family's looks); each row that meets fmt, with fmt's text TOLD by the authors' own Lean function (tested against real Go, not proved from fmt's source: count such statements apart). THE CARD IS WHAT COUNTS. Prove the row's statement (the work); the ties are given (YtkhbmendaapojaaGreatDoorTie.lean); close each card by the builder's one call (the guide's Derived/Test/ToyasCard.lean, 'card_holds'). Laid BY PROGRAM, IN A SANDBOX (cutbox-door.mjs). By AI agents, Wed Nov 11 2026. No macro, syntax, notation, axiom, sorry.
-/
import Derived.Test.YtkhbmendaapojaaGreatDoorRows
import GoSem.ClaimSeven
namespace Go.Proofs.YtkhbmendaapojaaGreatDoor
namespace Rows

/-- THE TIED CARD OF 'verdigrislaw35.MeshMeasures'. -/
def meshMeasuresCard : Claim7 := { stood := { row := meshMeasuresRow, standIns := [], harness := (true, "41064d927b8550ee3a774af7aafa0f1c5e0adbd75066ec920d62864df12f8d35"), looks := true }, kinds := [], alts := [], laidByText := true, laidKinds := [.data, .data, .data, .sentinel, .sentinel], laidTests := true, laidLooks := .later }
def MeshMeasuresCardSaid : Prop := Claim7.holds Tryz.pinned (.plain (OpenSpec.ofChange meshMeasuresSpec)) meshMeasuresCard

/-- THE TIED CARD OF 'verdigrislaw35.MeshChanges'. -/
def meshChangesCard : Claim7 := { stood := { row := meshChangesRow, standIns := [], harness := (true, "41064d927b8550ee3a774af7aafa0f1c5e0adbd75066ec920d62864df12f8d35"), looks := true }, kinds := [], alts := [], laidByText := true, laidKinds := [.data, .data, .data, .sentinel, .sentinel], laidTests := true, laidLooks := .later }
def MeshChangesCardSaid : Prop := Claim7.holds Tryz.pinned (.plain (OpenSpec.ofChange meshChangesSpec)) meshChangesCard

/-- THE TIED CARD OF 'verdigrislaw35.MeshClosed'. -/
def meshClosedCard : Claim7 := { stood := { row := meshClosedRow, standIns := [], harness := (true, "41064d927b8550ee3a774af7aafa0f1c5e0adbd75066ec920d62864df12f8d35"), looks := true }, kinds := [], alts := [], laidByText := true, laidKinds := [.data, .data, .data, .sentinel, .sentinel], laidTests := true, laidLooks := .later }
def MeshClosedCardSaid : Prop := Claim7.holds Tryz.pinned (.plain (OpenSpec.ofChange meshClosedSpec)) meshClosedCard

/-- THE TIED CARD OF 'verdigrislaw35.MeshTetra'. -/
def meshTetraCard : Claim7 := { stood := { row := meshTetraRow, standIns := [], harness := (true, "41064d927b8550ee3a774af7aafa0f1c5e0adbd75066ec920d62864df12f8d35"), looks := true }, kinds := [], alts := [], laidByText := true, laidKinds := [.data, .data, .data, .sentinel, .sentinel], laidTests := true, laidLooks := .later }
def MeshTetraCardSaid : Prop := Claim7.holds Tryz.pinned (.plain (OpenSpec.ofChange meshTetraSpec)) meshTetraCard

/-- THE TIED CARD OF 'verdigrislaw35.MeshFlaws'. -/
def meshFlawsCard : Claim7 := { stood := { row := meshFlawsRow, standIns := [], harness := (true, "41064d927b8550ee3a774af7aafa0f1c5e0adbd75066ec920d62864df12f8d35"), looks := true }, kinds := [], alts := [], laidByText := true, laidKinds := [.data, .data, .data, .sentinel, .sentinel], laidTests := true, laidLooks := .later }
def MeshFlawsCardSaid : Prop := Claim7.holds Tryz.pinned (.plain (OpenSpec.ofChange meshFlawsSpec)) meshFlawsCard

/-- THE TIED CARD OF 'verdigrislaw35.MeshKnown'. -/
def meshKnownCard : Claim7 := { stood := { row := meshKnownRow, standIns := [], harness := (true, "41064d927b8550ee3a774af7aafa0f1c5e0adbd75066ec920d62864df12f8d35"), looks := true }, kinds := [], alts := [], laidByText := true, laidKinds := [.data, .data, .data, .sentinel, .sentinel], laidTests := true, laidLooks := .later }
def MeshKnownCardSaid : Prop := Claim7.holds Tryz.pinned (.plain (OpenSpec.ofChange meshKnownSpec)) meshKnownCard

/-- THE TIED CARD OF 'verdigrislaw35.MeshMoves'. -/
def meshMovesCard : Claim7 := { stood := { row := meshMovesRow, standIns := [], harness := (true, "41064d927b8550ee3a774af7aafa0f1c5e0adbd75066ec920d62864df12f8d35"), looks := true }, kinds := [], alts := [], laidByText := true, laidKinds := [.data, .data, .data, .sentinel, .sentinel], laidTests := true, laidLooks := .later }
def MeshMovesCardSaid : Prop := Claim7.holds Tryz.pinned (.plain (OpenSpec.ofChange meshMovesSpec)) meshMovesCard

/-- THE SECOND FORM's CARD OF 'verdigrislaw35.MeshMeasures'. -/
def meshMeasuresUptoCard : Claim7 := { stood := { row := meshMeasuresUptoRow, standIns := [], harness := (true, "41064d927b8550ee3a774af7aafa0f1c5e0adbd75066ec920d62864df12f8d35"), looks := true }, kinds := [], alts := [], laidByText := true, laidKinds := [.data, .data, .data, .sentinel, .sentinel], laidTests := true, laidLooks := .later }
def MeshMeasuresUptoCardSaid : Prop := Claim7.holds Tryz.pinned (.plain (OpenSpec.upto meshMeasuresSpec)) meshMeasuresUptoCard

/-- THE SECOND FORM's CARD OF 'verdigrislaw35.MeshChanges'. -/
def meshChangesUptoCard : Claim7 := { stood := { row := meshChangesUptoRow, standIns := [], harness := (true, "41064d927b8550ee3a774af7aafa0f1c5e0adbd75066ec920d62864df12f8d35"), looks := true }, kinds := [], alts := [], laidByText := true, laidKinds := [.data, .data, .data, .sentinel, .sentinel], laidTests := true, laidLooks := .later }
def MeshChangesUptoCardSaid : Prop := Claim7.holds Tryz.pinned (.plain (OpenSpec.upto meshChangesSpec)) meshChangesUptoCard

/-- THE SECOND FORM's CARD OF 'verdigrislaw35.MeshClosed'. -/
def meshClosedUptoCard : Claim7 := { stood := { row := meshClosedUptoRow, standIns := [], harness := (true, "41064d927b8550ee3a774af7aafa0f1c5e0adbd75066ec920d62864df12f8d35"), looks := true }, kinds := [], alts := [], laidByText := true, laidKinds := [.data, .data, .data, .sentinel, .sentinel], laidTests := true, laidLooks := .later }
def MeshClosedUptoCardSaid : Prop := Claim7.holds Tryz.pinned (.plain (OpenSpec.upto meshClosedSpec)) meshClosedUptoCard

/-- THE SECOND FORM's CARD OF 'verdigrislaw35.MeshTetra'. -/
def meshTetraUptoCard : Claim7 := { stood := { row := meshTetraUptoRow, standIns := [], harness := (true, "41064d927b8550ee3a774af7aafa0f1c5e0adbd75066ec920d62864df12f8d35"), looks := true }, kinds := [], alts := [], laidByText := true, laidKinds := [.data, .data, .data, .sentinel, .sentinel], laidTests := true, laidLooks := .later }
def MeshTetraUptoCardSaid : Prop := Claim7.holds Tryz.pinned (.plain (OpenSpec.upto meshTetraSpec)) meshTetraUptoCard

/-- THE SECOND FORM's CARD OF 'verdigrislaw35.MeshFlaws'. -/
def meshFlawsUptoCard : Claim7 := { stood := { row := meshFlawsUptoRow, standIns := [], harness := (true, "41064d927b8550ee3a774af7aafa0f1c5e0adbd75066ec920d62864df12f8d35"), looks := true }, kinds := [], alts := [], laidByText := true, laidKinds := [.data, .data, .data, .sentinel, .sentinel], laidTests := true, laidLooks := .later }
def MeshFlawsUptoCardSaid : Prop := Claim7.holds Tryz.pinned (.plain (OpenSpec.upto meshFlawsSpec)) meshFlawsUptoCard

/-- THE SECOND FORM's CARD OF 'verdigrislaw35.MeshKnown'. -/
def meshKnownUptoCard : Claim7 := { stood := { row := meshKnownUptoRow, standIns := [], harness := (true, "41064d927b8550ee3a774af7aafa0f1c5e0adbd75066ec920d62864df12f8d35"), looks := true }, kinds := [], alts := [], laidByText := true, laidKinds := [.data, .data, .data, .sentinel, .sentinel], laidTests := true, laidLooks := .later }
def MeshKnownUptoCardSaid : Prop := Claim7.holds Tryz.pinned (.plain (OpenSpec.upto meshKnownSpec)) meshKnownUptoCard

/-- THE SECOND FORM's CARD OF 'verdigrislaw35.MeshMoves'. -/
def meshMovesUptoCard : Claim7 := { stood := { row := meshMovesUptoRow, standIns := [], harness := (true, "41064d927b8550ee3a774af7aafa0f1c5e0adbd75066ec920d62864df12f8d35"), looks := true }, kinds := [], alts := [], laidByText := true, laidKinds := [.data, .data, .data, .sentinel, .sentinel], laidTests := true, laidLooks := .later }
def MeshMovesUptoCardSaid : Prop := Claim7.holds Tryz.pinned (.plain (OpenSpec.upto meshMovesSpec)) meshMovesUptoCard
end Rows
end Go.Proofs.YtkhbmendaapojaaGreatDoor
