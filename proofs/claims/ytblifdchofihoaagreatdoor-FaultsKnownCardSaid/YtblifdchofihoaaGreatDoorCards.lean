/-
  DERIVED. GIVEN WITH THE SEED: THE CARDS: each row of YtblifdchofihoaaGreatDoorRows.lean that lists a variable, with what it lists TIED to the program's text (the seventh form; the later family's looks); each row that meets fmt, with fmt's text TOLD by the authors' own Lean function (tested against real Go, not proved from fmt's source: count such statements apart). THE CARD IS WHAT COUNTS. Prove the row's statement (the work); the ties are given (YtblifdchofihoaaGreatDoorTie.lean); close each card by the builder's one call (the guide's Derived/Test/ToyasCard.lean, 'card_holds'). Laid BY PROGRAM, IN A SANDBOX (cutbox-door.mjs). By AI agents, Wed Nov 11 2026. No macro, syntax, notation, axiom, sorry.
-/
import Derived.Test.YtblifdchofihoaaGreatDoorRows
import GoSem.ClaimSeven
namespace Go.Proofs.YtblifdchofihoaaGreatDoor
namespace Rows

/-- THE TIED CARD OF 'torchonlaw25.FaultsTexts'. -/
def faultsTextsCard : Claim7 := { stood := { row := faultsTextsRow, standIns := [], harness := (true, "1c0b87e6974e2e2ed88e6c468d144b25da81e81076b801d7921caa1d4e861e9c"), looks := true }, kinds := [], alts := [], laidByText := true, laidKinds := [.data, .data, .data, .data, .sentinel, .sentinel, .pinned], laidTests := true, laidLooks := .later }
def FaultsTextsCardSaid : Prop := Claim7.holds Tryz.pinned (.plain (OpenSpec.ofChange faultsTextsSpec)) faultsTextsCard

/-- THE TIED CARD OF 'torchonlaw25.FaultsKnown'. -/
def faultsKnownCard : Claim7 := { stood := { row := faultsKnownRow, standIns := [], harness := (true, "1c0b87e6974e2e2ed88e6c468d144b25da81e81076b801d7921caa1d4e861e9c"), looks := true }, kinds := [], alts := [], laidByText := true, laidKinds := [.data, .data, .data, .data, .sentinel, .sentinel, .pinned], laidTests := true, laidLooks := .later }
def FaultsKnownCardSaid : Prop := Claim7.holds Tryz.pinned (.plain (OpenSpec.ofChange faultsKnownSpec)) faultsKnownCard

/-- THE SECOND FORM's CARD OF 'torchonlaw25.FaultsTexts'. -/
def faultsTextsUptoCard : Claim7 := { stood := { row := faultsTextsUptoRow, standIns := [], harness := (true, "1c0b87e6974e2e2ed88e6c468d144b25da81e81076b801d7921caa1d4e861e9c"), looks := true }, kinds := [], alts := [], laidByText := true, laidKinds := [.data, .data, .data, .data, .sentinel, .sentinel, .pinned], laidTests := true, laidLooks := .later }
def FaultsTextsUptoCardSaid : Prop := Claim7.holds Tryz.pinned (.plain (OpenSpec.upto faultsTextsSpec)) faultsTextsUptoCard

/-- THE SECOND FORM's CARD OF 'torchonlaw25.FaultsKnown'. -/
def faultsKnownUptoCard : Claim7 := { stood := { row := faultsKnownUptoRow, standIns := [], harness := (true, "1c0b87e6974e2e2ed88e6c468d144b25da81e81076b801d7921caa1d4e861e9c"), looks := true }, kinds := [], alts := [], laidByText := true, laidKinds := [.data, .data, .data, .data, .sentinel, .sentinel, .pinned], laidTests := true, laidLooks := .later }
def FaultsKnownUptoCardSaid : Prop := Claim7.holds Tryz.pinned (.plain (OpenSpec.upto faultsKnownSpec)) faultsKnownUptoCard
end Rows
end Go.Proofs.YtblifdchofihoaaGreatDoor
