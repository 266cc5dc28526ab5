/-
  DERIVED. GIVEN WITH THE SEED: THE CARDS: each row of YtmfklcnocekdlaaGreatDoorRows.lean that lists a variable, with what it lists TIED to the program's text (the seventh form; the later family's looks); each row that meets fmt, with fmt's text TOLD by the authors' own Lean function (tested against real Go, not proved from fmt's source: count such statements apart). THE CARD IS WHAT COUNTS. Prove the row's statement (the work); the ties are given (YtmfklcnocekdlaaGreatDoorTie.lean); close each card by the builder's one call (the guide's Derived/Test/ToyasCard.lean, 'card_holds'). Laid BY PROGRAM, IN A SANDBOX (cutbox-door.mjs). By AI agents, Wed Nov 11 2026. No macro, syntax, notation, axiom, sorry.
-/
import Derived.Test.YtmfklcnocekdlaaGreatDoorRows
import GoSem.ClaimSeven
namespace Go.Proofs.YtmfklcnocekdlaaGreatDoor
namespace Rows

/-- THE TIED CARD OF 'torchonlaw15.CompileTexts'. -/
def compileTextsCard : Claim7 := { stood := { row := compileTextsRow, standIns := [], harness := (true, "985ac54d8c49b082f98ea2a9315df45fcb9557a55242d1057efe6477b02fb837"), looks := true }, kinds := [], alts := [], laidByText := true, laidKinds := [.data, .data, .data, .sentinel, .sentinel], laidTests := true, laidLooks := .later }
def CompileTextsCardSaid : Prop := Claim7.holds Tryz.pinned (.plain (OpenSpec.ofChange compileTextsSpec)) compileTextsCard

/-- THE TIED CARD OF 'torchonlaw15.CompileWider'. -/
def compileWiderCard : Claim7 := { stood := { row := compileWiderRow, standIns := [], harness := (true, "985ac54d8c49b082f98ea2a9315df45fcb9557a55242d1057efe6477b02fb837"), looks := true }, kinds := [], alts := [], laidByText := true, laidKinds := [.data, .data, .data, .sentinel, .sentinel], laidTests := true, laidLooks := .later }
def CompileWiderCardSaid : Prop := Claim7.holds Tryz.pinned (.plain (OpenSpec.ofChange compileWiderSpec)) compileWiderCard

/-- THE TIED CARD OF 'torchonlaw25.FaultsTexts'. -/
def faultsTextsCard : Claim7 := { stood := { row := faultsTextsRow, standIns := [], harness := (true, "985ac54d8c49b082f98ea2a9315df45fcb9557a55242d1057efe6477b02fb837"), looks := true }, kinds := [], alts := [], laidByText := true, laidKinds := [.data, .data, .data, .data, .sentinel, .sentinel, .pinned], laidTests := true, laidLooks := .later }
def FaultsTextsCardSaid : Prop := Claim7.holds Tryz.pinned (.plain (OpenSpec.ofChange faultsTextsSpec)) faultsTextsCard

/-- THE SECOND FORM's CARD OF 'torchonlaw15.CompileTexts'. -/
def compileTextsUptoCard : Claim7 := { stood := { row := compileTextsUptoRow, standIns := [], harness := (true, "985ac54d8c49b082f98ea2a9315df45fcb9557a55242d1057efe6477b02fb837"), looks := true }, kinds := [], alts := [], laidByText := true, laidKinds := [.data, .data, .data, .sentinel, .sentinel], laidTests := true, laidLooks := .later }
def CompileTextsUptoCardSaid : Prop := Claim7.holds Tryz.pinned (.plain (OpenSpec.upto compileTextsSpec)) compileTextsUptoCard

/-- THE SECOND FORM's CARD OF 'torchonlaw15.CompileWider'. -/
def compileWiderUptoCard : Claim7 := { stood := { row := compileWiderUptoRow, standIns := [], harness := (true, "985ac54d8c49b082f98ea2a9315df45fcb9557a55242d1057efe6477b02fb837"), looks := true }, kinds := [], alts := [], laidByText := true, laidKinds := [.data, .data, .data, .sentinel, .sentinel], laidTests := true, laidLooks := .later }
def CompileWiderUptoCardSaid : Prop := Claim7.holds Tryz.pinned (.plain (OpenSpec.upto compileWiderSpec)) compileWiderUptoCard

/-- THE SECOND FORM's CARD OF 'torchonlaw25.FaultsTexts'. -/
def faultsTextsUptoCard : Claim7 := { stood := { row := faultsTextsUptoRow, standIns := [], harness := (true, "985ac54d8c49b082f98ea2a9315df45fcb9557a55242d1057efe6477b02fb837"), looks := true }, kinds := [], alts := [], laidByText := true, laidKinds := [.data, .data, .data, .data, .sentinel, .sentinel, .pinned], laidTests := true, laidLooks := .later }
def FaultsTextsUptoCardSaid : Prop := Claim7.holds Tryz.pinned (.plain (OpenSpec.upto faultsTextsSpec)) faultsTextsUptoCard
end Rows
end Go.Proofs.YtmfklcnocekdlaaGreatDoor
