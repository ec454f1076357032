/-
  DERIVED. GIVEN WITH THE SEED: THE CARDS: each row of YtcldaldfonfbgaaGreatDoorRows.lean that lists a variable, with what it lists TIED to the program's text (the seventh form; the later family's looks); each row that meets fmt, with fmt's text TOLD by the authors' own Lean function (tested against real Go, not proved from fmt's source: count such statements apart). THE CARD IS WHAT COUNTS. Prove the row's statement (the work); the ties are given (YtcldaldfonfbgaaGreatDoorTie.lean); close each card by the builder's one call (the guide's Derived/Test/ToyasCard.lean, 'card_holds'). Laid BY PROGRAM, IN A SANDBOX (cutbox-door.mjs). By AI agents, Wed Nov 11 2026. No macro, syntax, notation, axiom, sorry.
-/
import Derived.Test.YtcldaldfonfbgaaGreatDoorRows
import GoSem.ClaimSeven
namespace Go.Proofs.YtcldaldfonfbgaaGreatDoor
namespace Rows

/-- THE TIED CARD OF 'loglaw2.BinTexts'. -/
def binTextsCard : Claim7 := { stood := { row := binTextsRow, standIns := [], harness := (true, "a2451d683ea794afef8b0b4d9510546c932c23902c871c846fda6acc2e530276"), looks := true }, kinds := [], alts := [], laidByText := true, laidKinds := [.data, .data, .data, .data, .sentinel, .sentinel, .pinned], laidTests := true, laidLooks := .later }
def BinTextsCardSaid : Prop := Claim7.holds Tryz.pinned (.plain (OpenSpec.ofChange binTextsSpec)) binTextsCard

/-- THE TIED CARD OF 'loglaw2.ArrivalTexts'. -/
def arrivalTextsCard : Claim7 := { stood := { row := arrivalTextsRow, standIns := [], harness := (true, "a2451d683ea794afef8b0b4d9510546c932c23902c871c846fda6acc2e530276"), looks := true }, kinds := [], alts := [], laidByText := true, laidKinds := [.data, .data, .data, .data, .sentinel, .sentinel, .pinned], laidTests := true, laidLooks := .later }
def ArrivalTextsCardSaid : Prop := Claim7.holds Tryz.pinned (.plain (OpenSpec.ofChange arrivalTextsSpec)) arrivalTextsCard

/-- THE TIED CARD OF 'logkeep2.SeriesAreOne'. -/
def seriesAreOneCard : Claim7 := { stood := { row := seriesAreOneRow, standIns := [], harness := (true, "a2451d683ea794afef8b0b4d9510546c932c23902c871c846fda6acc2e530276"), looks := true }, kinds := [], alts := [], laidByText := true, laidKinds := [.data, .data, .data, .data, .sentinel, .sentinel, .pinned], laidTests := true, laidLooks := .later }
def SeriesAreOneCardSaid : Prop := Claim7.holds Tryz.pinned (.plain (OpenSpec.ofChange seriesAreOneSpec)) seriesAreOneCard

/-- THE TIED CARD OF 'logkeep2.RetainsStay'. -/
def retainsStayCard : Claim7 := { stood := { row := retainsStayRow, standIns := [], harness := (true, "a2451d683ea794afef8b0b4d9510546c932c23902c871c846fda6acc2e530276"), looks := true }, kinds := [], alts := [], laidByText := true, laidKinds := [.data, .data, .data, .sentinel, .sentinel], laidTests := true, laidLooks := .later }
def RetainsStayCardSaid : Prop := Claim7.holds Tryz.pinned (.plain (OpenSpec.ofChange retainsStaySpec)) retainsStayCard

/-- THE TIED CARD OF 'logkeep2.BlocksStay'. -/
def blocksStayCard : Claim7 := { stood := { row := blocksStayRow, standIns := [], harness := (true, "a2451d683ea794afef8b0b4d9510546c932c23902c871c846fda6acc2e530276"), looks := true }, kinds := [], alts := [], laidByText := true, laidKinds := [.data, .data, .data, .sentinel, .sentinel], laidTests := true, laidLooks := .later }
def BlocksStayCardSaid : Prop := Claim7.holds Tryz.pinned (.plain (OpenSpec.ofChange blocksStaySpec)) blocksStayCard

/-- THE TIED CARD OF 'logkeep2.SamplesStay'. -/
def samplesStayCard : Claim7 := { stood := { row := samplesStayRow, standIns := [], harness := (true, "a2451d683ea794afef8b0b4d9510546c932c23902c871c846fda6acc2e530276"), looks := true }, kinds := [], alts := [], laidByText := true, laidKinds := [.data, .data, .data, .sentinel, .sentinel], laidTests := true, laidLooks := .later }
def SamplesStayCardSaid : Prop := Claim7.holds Tryz.pinned (.plain (OpenSpec.ofChange samplesStaySpec)) samplesStayCard

/-- THE TIED CARD OF 'logkeep2.BuffersStay'. -/
def buffersStayCard : Claim7 := { stood := { row := buffersStayRow, standIns := [], harness := (true, "a2451d683ea794afef8b0b4d9510546c932c23902c871c846fda6acc2e530276"), looks := true }, kinds := [], alts := [], laidByText := true, laidKinds := [.data, .data, .data, .sentinel, .sentinel], laidTests := true, laidLooks := .later }
def BuffersStayCardSaid : Prop := Claim7.holds Tryz.pinned (.plain (OpenSpec.ofChange buffersStaySpec)) buffersStayCard

/-- THE SECOND FORM's CARD OF 'loglaw2.BinTexts'. -/
def binTextsUptoCard : Claim7 := { stood := { row := binTextsUptoRow, standIns := [], harness := (true, "a2451d683ea794afef8b0b4d9510546c932c23902c871c846fda6acc2e530276"), looks := true }, kinds := [], alts := [], laidByText := true, laidKinds := [.data, .data, .data, .data, .sentinel, .sentinel, .pinned], laidTests := true, laidLooks := .later }
def BinTextsUptoCardSaid : Prop := Claim7.holds Tryz.pinned (.plain (OpenSpec.upto binTextsSpec)) binTextsUptoCard

/-- THE SECOND FORM's CARD OF 'loglaw2.ArrivalTexts'. -/
def arrivalTextsUptoCard : Claim7 := { stood := { row := arrivalTextsUptoRow, standIns := [], harness := (true, "a2451d683ea794afef8b0b4d9510546c932c23902c871c846fda6acc2e530276"), looks := true }, kinds := [], alts := [], laidByText := true, laidKinds := [.data, .data, .data, .data, .sentinel, .sentinel, .pinned], laidTests := true, laidLooks := .later }
def ArrivalTextsUptoCardSaid : Prop := Claim7.holds Tryz.pinned (.plain (OpenSpec.upto arrivalTextsSpec)) arrivalTextsUptoCard

/-- THE SECOND FORM's CARD OF 'logkeep2.SeriesAreOne'. -/
def seriesAreOneUptoCard : Claim7 := { stood := { row := seriesAreOneUptoRow, standIns := [], harness := (true, "a2451d683ea794afef8b0b4d9510546c932c23902c871c846fda6acc2e530276"), looks := true }, kinds := [], alts := [], laidByText := true, laidKinds := [.data, .data, .data, .data, .sentinel, .sentinel, .pinned], laidTests := true, laidLooks := .later }
def SeriesAreOneUptoCardSaid : Prop := Claim7.holds Tryz.pinned (.plain (OpenSpec.upto seriesAreOneSpec)) seriesAreOneUptoCard

/-- THE SECOND FORM's CARD OF 'logkeep2.RetainsStay'. -/
def retainsStayUptoCard : Claim7 := { stood := { row := retainsStayUptoRow, standIns := [], harness := (true, "a2451d683ea794afef8b0b4d9510546c932c23902c871c846fda6acc2e530276"), looks := true }, kinds := [], alts := [], laidByText := true, laidKinds := [.data, .data, .data, .sentinel, .sentinel], laidTests := true, laidLooks := .later }
def RetainsStayUptoCardSaid : Prop := Claim7.holds Tryz.pinned (.plain (OpenSpec.upto retainsStaySpec)) retainsStayUptoCard

/-- THE SECOND FORM's CARD OF 'logkeep2.BlocksStay'. -/
def blocksStayUptoCard : Claim7 := { stood := { row := blocksStayUptoRow, standIns := [], harness := (true, "a2451d683ea794afef8b0b4d9510546c932c23902c871c846fda6acc2e530276"), looks := true }, kinds := [], alts := [], laidByText := true, laidKinds := [.data, .data, .data, .sentinel, .sentinel], laidTests := true, laidLooks := .later }
def BlocksStayUptoCardSaid : Prop := Claim7.holds Tryz.pinned (.plain (OpenSpec.upto blocksStaySpec)) blocksStayUptoCard

/-- THE SECOND FORM's CARD OF 'logkeep2.SamplesStay'. -/
def samplesStayUptoCard : Claim7 := { stood := { row := samplesStayUptoRow, standIns := [], harness := (true, "a2451d683ea794afef8b0b4d9510546c932c23902c871c846fda6acc2e530276"), looks := true }, kinds := [], alts := [], laidByText := true, laidKinds := [.data, .data, .data, .sentinel, .sentinel], laidTests := true, laidLooks := .later }
def SamplesStayUptoCardSaid : Prop := Claim7.holds Tryz.pinned (.plain (OpenSpec.upto samplesStaySpec)) samplesStayUptoCard

/-- THE SECOND FORM's CARD OF 'logkeep2.BuffersStay'. -/
def buffersStayUptoCard : Claim7 := { stood := { row := buffersStayUptoRow, standIns := [], harness := (true, "a2451d683ea794afef8b0b4d9510546c932c23902c871c846fda6acc2e530276"), looks := true }, kinds := [], alts := [], laidByText := true, laidKinds := [.data, .data, .data, .sentinel, .sentinel], laidTests := true, laidLooks := .later }
def BuffersStayUptoCardSaid : Prop := Claim7.holds Tryz.pinned (.plain (OpenSpec.upto buffersStaySpec)) buffersStayUptoCard
end Rows
end Go.Proofs.YtcldaldfonfbgaaGreatDoor
