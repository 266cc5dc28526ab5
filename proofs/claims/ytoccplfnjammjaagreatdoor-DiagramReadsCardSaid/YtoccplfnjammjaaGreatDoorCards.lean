/-
  DERIVED. GIVEN WITH THE SEED: THE CARDS: each row of YtoccplfnjammjaaGreatDoorRows.lean that lists a variable, with what it lists TIED to the program's text (the seventh form; the later family's looks); each row that meets fmt, with fmt's text TOLD by the authors' own Lean function (tested against real Go, not proved from fmt's source: count such statements apart). THE CARD IS WHAT COUNTS. Prove the row's statement (the work); the ties are given (YtoccplfnjammjaaGreatDoorTie.lean); close each card by the builder's one call (the guide's Derived/Test/ToyasCard.lean, 'card_holds'). Laid BY PROGRAM, IN A SANDBOX (cutbox-door.mjs). By AI agents, Wed Nov 11 2026. No macro, syntax, notation, axiom, sorry.
-/
import Derived.Test.YtoccplfnjammjaaGreatDoorRows
import GoSem.ClaimSeven
namespace Go.Proofs.YtoccplfnjammjaaGreatDoor
namespace Rows

/-- THE TIED CARD OF 'torchonlaw14.DiagramReads'. -/
def diagramReadsCard : Claim7 := { stood := { row := diagramReadsRow, standIns := [], harness := (true, "9af8064c31e739af9d421cf477a04a5b6e0611a6368573a182d9d4d357d8adc3"), looks := true }, kinds := [], alts := [], laidByText := true, laidKinds := [.data, .data, .data, .data, .sentinel, .sentinel, .pinned], laidTests := true, laidLooks := .later }
def DiagramReadsCardSaid : Prop := Claim7.holds Tryz.pinned (.plain (OpenSpec.ofChange diagramReadsSpec)) diagramReadsCard

/-- THE TIED CARD OF 'torchonlaw14.DiagramSame'. -/
def diagramSameCard : Claim7 := { stood := { row := diagramSameRow, standIns := [], harness := (true, "9af8064c31e739af9d421cf477a04a5b6e0611a6368573a182d9d4d357d8adc3"), looks := true }, kinds := [], alts := [], laidByText := true, laidKinds := [.data, .data, .data, .data, .sentinel, .sentinel, .pinned], laidTests := true, laidLooks := .later }
def DiagramSameCardSaid : Prop := Claim7.holds Tryz.pinned (.plain (OpenSpec.ofChange diagramSameSpec)) diagramSameCard

/-- THE TIED CARD OF 'torchonlaw14.DiagramGrows'. -/
def diagramGrowsCard : Claim7 := { stood := { row := diagramGrowsRow, standIns := [], harness := (true, "9af8064c31e739af9d421cf477a04a5b6e0611a6368573a182d9d4d357d8adc3"), looks := true }, kinds := [], alts := [], laidByText := true, laidKinds := [.data, .data, .data, .data, .sentinel, .sentinel, .pinned], laidTests := true, laidLooks := .later }
def DiagramGrowsCardSaid : Prop := Claim7.holds Tryz.pinned (.plain (OpenSpec.ofChange diagramGrowsSpec)) diagramGrowsCard

/-- THE TIED CARD OF 'torchonlaw14.DiagramDraws'. -/
def diagramDrawsCard : Claim7 := { stood := { row := diagramDrawsRow, standIns := [], harness := (true, "9af8064c31e739af9d421cf477a04a5b6e0611a6368573a182d9d4d357d8adc3"), looks := true }, kinds := [], alts := [], laidByText := true, laidKinds := [.data, .data, .data, .data, .sentinel, .sentinel, .pinned], laidTests := true, laidLooks := .later }
def DiagramDrawsCardSaid : Prop := Claim7.holds Tryz.pinned (.plain (OpenSpec.ofChange diagramDrawsSpec)) diagramDrawsCard

/-- THE TIED CARD OF 'torchonlaw14.DiagramStands'. -/
def diagramStandsCard : Claim7 := { stood := { row := diagramStandsRow, standIns := [], harness := (true, "9af8064c31e739af9d421cf477a04a5b6e0611a6368573a182d9d4d357d8adc3"), looks := true }, kinds := [], alts := [], laidByText := true, laidKinds := [.data, .data, .data, .data, .sentinel, .sentinel, .pinned], laidTests := true, laidLooks := .later }
def DiagramStandsCardSaid : Prop := Claim7.holds Tryz.pinned (.plain (OpenSpec.ofChange diagramStandsSpec)) diagramStandsCard

/-- THE TIED CARD OF 'torchonlaw14.DiagramKnown'. -/
def diagramKnownCard : Claim7 := { stood := { row := diagramKnownRow, standIns := [], harness := (true, "9af8064c31e739af9d421cf477a04a5b6e0611a6368573a182d9d4d357d8adc3"), looks := true }, kinds := [], alts := [], laidByText := true, laidKinds := [.data, .data, .data, .data, .sentinel, .sentinel, .pinned], laidTests := true, laidLooks := .later }
def DiagramKnownCardSaid : Prop := Claim7.holds Tryz.pinned (.plain (OpenSpec.ofChange diagramKnownSpec)) diagramKnownCard

/-- THE TIED CARD OF 'torchonlaw14.DiagramRows'. -/
def diagramRowsCard : Claim7 := { stood := { row := diagramRowsRow, standIns := [], harness := (true, "9af8064c31e739af9d421cf477a04a5b6e0611a6368573a182d9d4d357d8adc3"), looks := true }, kinds := [], alts := [], laidByText := true, laidKinds := [.data, .data, .data, .data, .sentinel, .sentinel, .pinned], laidTests := true, laidLooks := .later }
def DiagramRowsCardSaid : Prop := Claim7.holds Tryz.pinned (.plain (OpenSpec.ofChange diagramRowsSpec)) diagramRowsCard

/-- THE SECOND FORM's CARD OF 'torchonlaw14.DiagramReads'. -/
def diagramReadsUptoCard : Claim7 := { stood := { row := diagramReadsUptoRow, standIns := [], harness := (true, "9af8064c31e739af9d421cf477a04a5b6e0611a6368573a182d9d4d357d8adc3"), looks := true }, kinds := [], alts := [], laidByText := true, laidKinds := [.data, .data, .data, .data, .sentinel, .sentinel, .pinned], laidTests := true, laidLooks := .later }
def DiagramReadsUptoCardSaid : Prop := Claim7.holds Tryz.pinned (.plain (OpenSpec.upto diagramReadsSpec)) diagramReadsUptoCard

/-- THE SECOND FORM's CARD OF 'torchonlaw14.DiagramSame'. -/
def diagramSameUptoCard : Claim7 := { stood := { row := diagramSameUptoRow, standIns := [], harness := (true, "9af8064c31e739af9d421cf477a04a5b6e0611a6368573a182d9d4d357d8adc3"), looks := true }, kinds := [], alts := [], laidByText := true, laidKinds := [.data, .data, .data, .data, .sentinel, .sentinel, .pinned], laidTests := true, laidLooks := .later }
def DiagramSameUptoCardSaid : Prop := Claim7.holds Tryz.pinned (.plain (OpenSpec.upto diagramSameSpec)) diagramSameUptoCard

/-- THE SECOND FORM's CARD OF 'torchonlaw14.DiagramGrows'. -/
def diagramGrowsUptoCard : Claim7 := { stood := { row := diagramGrowsUptoRow, standIns := [], harness := (true, "9af8064c31e739af9d421cf477a04a5b6e0611a6368573a182d9d4d357d8adc3"), looks := true }, kinds := [], alts := [], laidByText := true, laidKinds := [.data, .data, .data, .data, .sentinel, .sentinel, .pinned], laidTests := true, laidLooks := .later }
def DiagramGrowsUptoCardSaid : Prop := Claim7.holds Tryz.pinned (.plain (OpenSpec.upto diagramGrowsSpec)) diagramGrowsUptoCard

/-- THE SECOND FORM's CARD OF 'torchonlaw14.DiagramDraws'. -/
def diagramDrawsUptoCard : Claim7 := { stood := { row := diagramDrawsUptoRow, standIns := [], harness := (true, "9af8064c31e739af9d421cf477a04a5b6e0611a6368573a182d9d4d357d8adc3"), looks := true }, kinds := [], alts := [], laidByText := true, laidKinds := [.data, .data, .data, .data, .sentinel, .sentinel, .pinned], laidTests := true, laidLooks := .later }
def DiagramDrawsUptoCardSaid : Prop := Claim7.holds Tryz.pinned (.plain (OpenSpec.upto diagramDrawsSpec)) diagramDrawsUptoCard

/-- THE SECOND FORM's CARD OF 'torchonlaw14.DiagramStands'. -/
def diagramStandsUptoCard : Claim7 := { stood := { row := diagramStandsUptoRow, standIns := [], harness := (true, "9af8064c31e739af9d421cf477a04a5b6e0611a6368573a182d9d4d357d8adc3"), looks := true }, kinds := [], alts := [], laidByText := true, laidKinds := [.data, .data, .data, .data, .sentinel, .sentinel, .pinned], laidTests := true, laidLooks := .later }
def DiagramStandsUptoCardSaid : Prop := Claim7.holds Tryz.pinned (.plain (OpenSpec.upto diagramStandsSpec)) diagramStandsUptoCard

/-- THE SECOND FORM's CARD OF 'torchonlaw14.DiagramKnown'. -/
def diagramKnownUptoCard : Claim7 := { stood := { row := diagramKnownUptoRow, standIns := [], harness := (true, "9af8064c31e739af9d421cf477a04a5b6e0611a6368573a182d9d4d357d8adc3"), looks := true }, kinds := [], alts := [], laidByText := true, laidKinds := [.data, .data, .data, .data, .sentinel, .sentinel, .pinned], laidTests := true, laidLooks := .later }
def DiagramKnownUptoCardSaid : Prop := Claim7.holds Tryz.pinned (.plain (OpenSpec.upto diagramKnownSpec)) diagramKnownUptoCard

/-- THE SECOND FORM's CARD OF 'torchonlaw14.DiagramRows'. -/
def diagramRowsUptoCard : Claim7 := { stood := { row := diagramRowsUptoRow, standIns := [], harness := (true, "9af8064c31e739af9d421cf477a04a5b6e0611a6368573a182d9d4d357d8adc3"), looks := true }, kinds := [], alts := [], laidByText := true, laidKinds := [.data, .data, .data, .data, .sentinel, .sentinel, .pinned], laidTests := true, laidLooks := .later }
def DiagramRowsUptoCardSaid : Prop := Claim7.holds Tryz.pinned (.plain (OpenSpec.upto diagramRowsSpec)) diagramRowsUptoCard
end Rows
end Go.Proofs.YtoccplfnjammjaaGreatDoor
