/-
  DERIVED. GIVEN WITH THE SEED: THE CARDS: each row of YtogkgoabonbkkaaDoorRows.lean that lists a variable, with what it lists TIED to the program's text (the seventh form; the later family's looks); each row that meets fmt, with fmt's text TOLD by the authors' own Lean function (tested against real Go, not proved from fmt's source: count such statements apart). THE CARD IS WHAT COUNTS. Prove the row's statement (the work); the ties are given (YtogkgoabonbkkaaDoorTie.lean); close each card by the builder's one call (the guide's Derived/Test/ToyasCard.lean, 'card_holds'). Laid BY PROGRAM, IN A SANDBOX (cutbox-door.mjs). By AI agents, Wed Nov 11 2026. No macro, syntax, notation, axiom, sorry.
-/
import Derived.Test.YtogkgoabonbkkaaDoorRows
import GoSem.ClaimSeven
namespace Go.Proofs.YtogkgoabonbkkaaDoor
namespace Rows

/-- THE TIED CARD OF 'torchonlaw15.CompileKnown'. -/
def compileKnownCard : Claim7 := { stood := { row := compileKnownRow, standIns := [], harness := (true, "ff13b5c7b48395a1552abc7cd090446e5a55fb9db4bdd757f6a3a77d30461a30"), looks := false }, kinds := [], alts := [], laidByText := true, laidKinds := [.data, .data, .data], laidTests := true, laidLooks := .later }
def CompileKnownCardSaid : Prop := Claim7.holds Tryd.pinned (.plain (OpenSpec.ofChange compileKnownSpec)) compileKnownCard

/-- THE SECOND FORM's CARD OF 'torchonlaw15.CompileKnown'. -/
def compileKnownUptoCard : Claim7 := { stood := { row := compileKnownUptoRow, standIns := [], harness := (true, "ff13b5c7b48395a1552abc7cd090446e5a55fb9db4bdd757f6a3a77d30461a30"), looks := false }, kinds := [], alts := [], laidByText := true, laidKinds := [.data, .data, .data], laidTests := true, laidLooks := .later }
def CompileKnownUptoCardSaid : Prop := Claim7.holds Tryd.pinned (.plain (OpenSpec.upto compileKnownSpec)) compileKnownUptoCard
end Rows
end Go.Proofs.YtogkgoabonbkkaaDoor
