/-
  No cell of these rows narrows 'for every input' (looked for: loops, veiled, ifaces, maps, wideKeys, modest, calm, conditions, laid).
  DERIVED. THE GIVEN ROWS OF THIS SEAT. 7 by the template 'for every input the law returns true; each argument reads behind the call as it read before'; 0 by the template 'total and deterministic' (their statements: YtogkgoabonbkkaaTotals.lean).
  GIVEN WITH THE SEED: the statements are not yours to turn. If you find one false, say at which input.
  Laid BY PROGRAM, IN A SANDBOX (cutbox-rows.mjs): the forced cells as the released guide's own fill.sh prints them over the translation 4da1ee0012841516… (all of the seat's roots in one cut). By AI agents, Wed Nov 11 2026. No macro, syntax, notation, axiom, sorry.
-/
import Derived.Test.YtogkgoabonbkkaaChecked
import GoSem.Claim
import GoSem.ClaimJoined
import GoSem.ClaimMapViews
import Derived.JoinedTies
import Derived.KernelRfl
namespace Go.Proofs.Ytogkgoabonbkkaa
/- THE CELL 'sum', in the pinned program and in every row, IS THE sha256 OF THE DUMP (.gsa) THAT YtogkgoabonbkkaaProg.lean LOADS. Nothing in Lean hashes anything: it is a label: what it is worth is what the hold of that sum in a sandbox is worth. -/
noncomputable def Try.pinned : Pinned := { name := "ytogkgoabonbkkaa", sum := "4da1ee00128415169976a375b4abeb4bd201ab33495f62b9c3103faf0efce2ef", checked := Try.checked }
namespace Rows
def none {H : Type} : Left H := { results := [], args := [] }

/-- 'torchonlaw15.CompileQuick': WHATEVER THE INPUT: true; the input reads as it did. -/
def compileQuickSpec : ChangeSpec := { name := "compileQuick", fn := fun _ => fun
  | [d1, d2] => { results := [.lit (.bool true)], args := [d1, d2] }
  | _ => none }
def compileQuickRow : OpenClaim := { program := "ytogkgoabonbkkaa", sum := "4da1ee00128415169976a375b4abeb4bd201ab33495f62b9c3103faf0efce2ef", func := "torchon/torchonlaw15.CompileQuick", spec := "compileQuick", inPlace := ["internal/bytealg.IndexByteString"], unfollowed := true, recurses := true, plainKeys := false, apart := false }
def CompileQuickSaid : Prop := compileQuickRow.holds Try.pinned (OpenSpec.ofChange compileQuickSpec)

/-- ITS FALSE NEIGHBOUR: 'it returns false'. Refute it at one input. -/
def compileQuickWrong : ChangeSpec := { name := "compileQuick", fn := fun _ => fun
  | [d1, d2] => { results := [.lit (.bool false)], args := [d1, d2] }
  | _ => none }
def CompileQuickWrongFalsely : Prop := compileQuickRow.holds Try.pinned (OpenSpec.ofChange compileQuickWrong)

/-- 'torchonlaw15.CompileBest': WHATEVER THE INPUT: true; the input reads as it did. -/
def compileBestSpec : ChangeSpec := { name := "compileBest", fn := fun _ => fun
  | [d1, d2] => { results := [.lit (.bool true)], args := [d1, d2] }
  | _ => none }
def compileBestRow : OpenClaim := { program := "ytogkgoabonbkkaa", sum := "4da1ee00128415169976a375b4abeb4bd201ab33495f62b9c3103faf0efce2ef", func := "torchon/torchonlaw15.CompileBest", spec := "compileBest", inPlace := ["internal/bytealg.IndexByteString"], unfollowed := true, recurses := true, plainKeys := false, apart := false }
def CompileBestSaid : Prop := compileBestRow.holds Try.pinned (OpenSpec.ofChange compileBestSpec)

/-- ITS FALSE NEIGHBOUR: 'it returns false'. Refute it at one input. -/
def compileBestWrong : ChangeSpec := { name := "compileBest", fn := fun _ => fun
  | [d1, d2] => { results := [.lit (.bool false)], args := [d1, d2] }
  | _ => none }
def CompileBestWrongFalsely : Prop := compileBestRow.holds Try.pinned (OpenSpec.ofChange compileBestWrong)

/-- 'torchonlaw15.CompileMakes': WHATEVER THE INPUT: true; the input reads as it did. -/
def compileMakesSpec : ChangeSpec := { name := "compileMakes", fn := fun _ => fun
  | [d1, d2] => { results := [.lit (.bool true)], args := [d1, d2] }
  | _ => none }
def compileMakesRow : OpenClaim := { program := "ytogkgoabonbkkaa", sum := "4da1ee00128415169976a375b4abeb4bd201ab33495f62b9c3103faf0efce2ef", func := "torchon/torchonlaw15.CompileMakes", spec := "compileMakes", inPlace := ["internal/bytealg.IndexByteString"], unfollowed := true, recurses := true, plainKeys := false, apart := false }
def CompileMakesSaid : Prop := compileMakesRow.holds Try.pinned (OpenSpec.ofChange compileMakesSpec)

/-- ITS FALSE NEIGHBOUR: 'it returns false'. Refute it at one input. -/
def compileMakesWrong : ChangeSpec := { name := "compileMakes", fn := fun _ => fun
  | [d1, d2] => { results := [.lit (.bool false)], args := [d1, d2] }
  | _ => none }
def CompileMakesWrongFalsely : Prop := compileMakesRow.holds Try.pinned (OpenSpec.ofChange compileMakesWrong)

/-- 'torchonlaw15.CompileSides': WHATEVER THE INPUT: true; the input reads as it did. -/
def compileSidesSpec : ChangeSpec := { name := "compileSides", fn := fun _ => fun
  | [d1, d2] => { results := [.lit (.bool true)], args := [d1, d2] }
  | _ => none }
def compileSidesRow : OpenClaim := { program := "ytogkgoabonbkkaa", sum := "4da1ee00128415169976a375b4abeb4bd201ab33495f62b9c3103faf0efce2ef", func := "torchon/torchonlaw15.CompileSides", spec := "compileSides", inPlace := ["internal/bytealg.IndexByteString"], unfollowed := true, recurses := true, plainKeys := false, apart := false }
def CompileSidesSaid : Prop := compileSidesRow.holds Try.pinned (OpenSpec.ofChange compileSidesSpec)

/-- ITS FALSE NEIGHBOUR: 'it returns false'. Refute it at one input. -/
def compileSidesWrong : ChangeSpec := { name := "compileSides", fn := fun _ => fun
  | [d1, d2] => { results := [.lit (.bool false)], args := [d1, d2] }
  | _ => none }
def CompileSidesWrongFalsely : Prop := compileSidesRow.holds Try.pinned (OpenSpec.ofChange compileSidesWrong)

/-- 'torchonlaw15.CompileSteps': WHATEVER THE INPUT: true; the input reads as it did. -/
def compileStepsSpec : ChangeSpec := { name := "compileSteps", fn := fun _ => fun
  | [d1, d2] => { results := [.lit (.bool true)], args := [d1, d2] }
  | _ => none }
def compileStepsRow : OpenClaim := { program := "ytogkgoabonbkkaa", sum := "4da1ee00128415169976a375b4abeb4bd201ab33495f62b9c3103faf0efce2ef", func := "torchon/torchonlaw15.CompileSteps", spec := "compileSteps", inPlace := ["internal/bytealg.IndexByteString"], unfollowed := true, recurses := true, plainKeys := false, apart := false }
def CompileStepsSaid : Prop := compileStepsRow.holds Try.pinned (OpenSpec.ofChange compileStepsSpec)

/-- ITS FALSE NEIGHBOUR: 'it returns false'. Refute it at one input. -/
def compileStepsWrong : ChangeSpec := { name := "compileSteps", fn := fun _ => fun
  | [d1, d2] => { results := [.lit (.bool false)], args := [d1, d2] }
  | _ => none }
def CompileStepsWrongFalsely : Prop := compileStepsRow.holds Try.pinned (OpenSpec.ofChange compileStepsWrong)

/-- 'torchonlaw15.CompileFewest': WHATEVER THE INPUT: true; the input reads as it did. -/
def compileFewestSpec : ChangeSpec := { name := "compileFewest", fn := fun _ => fun
  | [d1, d2, d3] => { results := [.lit (.bool true)], args := [d1, d2, d3] }
  | _ => none }
def compileFewestRow : OpenClaim := { program := "ytogkgoabonbkkaa", sum := "4da1ee00128415169976a375b4abeb4bd201ab33495f62b9c3103faf0efce2ef", func := "torchon/torchonlaw15.CompileFewest", spec := "compileFewest", inPlace := ["internal/bytealg.IndexByteString"], unfollowed := true, recurses := true, plainKeys := false, apart := false }
def CompileFewestSaid : Prop := compileFewestRow.holds Try.pinned (OpenSpec.ofChange compileFewestSpec)

/-- ITS FALSE NEIGHBOUR: 'it returns false'. Refute it at one input. -/
def compileFewestWrong : ChangeSpec := { name := "compileFewest", fn := fun _ => fun
  | [d1, d2, d3] => { results := [.lit (.bool false)], args := [d1, d2, d3] }
  | _ => none }
def CompileFewestWrongFalsely : Prop := compileFewestRow.holds Try.pinned (OpenSpec.ofChange compileFewestWrong)

/-- 'torchonlaw15.CompileSheets': WHATEVER THE INPUT: true; the input reads as it did. -/
def compileSheetsSpec : ChangeSpec := { name := "compileSheets", fn := fun _ => fun
  | [d1, d2, d3] => { results := [.lit (.bool true)], args := [d1, d2, d3] }
  | _ => none }
def compileSheetsRow : OpenClaim := { program := "ytogkgoabonbkkaa", sum := "4da1ee00128415169976a375b4abeb4bd201ab33495f62b9c3103faf0efce2ef", func := "torchon/torchonlaw15.CompileSheets", spec := "compileSheets", inPlace := ["internal/bytealg.IndexByteString"], unfollowed := true, recurses := true, plainKeys := false, apart := false }
def CompileSheetsSaid : Prop := compileSheetsRow.holds Try.pinned (OpenSpec.ofChange compileSheetsSpec)

/-- ITS FALSE NEIGHBOUR: 'it returns false'. Refute it at one input. -/
def compileSheetsWrong : ChangeSpec := { name := "compileSheets", fn := fun _ => fun
  | [d1, d2, d3] => { results := [.lit (.bool false)], args := [d1, d2, d3] }
  | _ => none }
def CompileSheetsWrongFalsely : Prop := compileSheetsRow.holds Try.pinned (OpenSpec.ofChange compileSheetsWrong)

/- THE SECOND FORM. 'bulk': how many values and letters a reading holds, each counted each time it is reached (what is shared counts as often as it is met; a slice's spare places count too). A statement '..UptoSaid' is the law's where the arguments, and the package variables that the reading takes, are together of bulk at most 1048576: NARROWER than '..Said'. Prove '..Said' where nothing that the law and all that it calls make is longer than what came in: it says more and counts as full. Else prove '..UptoSaid'. A law counts once. -/
mutual
def uptoBulk {H : Type} : DataW H → Nat
  | .lit (.string bytes) => bytes.length + 1
  | .lit _ => 1
  | .nil => 1
  | .ptr d => uptoBulk d + 1
  | .slice elems spare => uptoBulkAll elems + uptoBulkAll spare + 1
  | .agg parts => uptoBulkAll parts + 1
  | .iface _ d => uptoBulk d + 1
  | .map entries => uptoBulkEntries entries + 1
  | .held _ => 1
def uptoBulkAll {H : Type} : List (DataW H) → Nat
  | [] => 0
  | d :: r => uptoBulk d + uptoBulkAll r
def uptoBulkEntries {H : Type} : List (Lit × DataW H) → Nat
  | [] => 0
  | x :: r => uptoBulkEntry x + uptoBulkEntries r
def uptoBulkEntry {H : Type} : Lit × DataW H → Nat
  | (.string bytes, d) => bytes.length + uptoBulk d + 1
  | (_, d) => uptoBulk d + 1
 end
def uptoSmall : (H : Type) → List (DataW H) → Bool := fun _ ds => decide (uptoBulkAll ds ≤ 1048576)
def OpenSpec.upto (s : _root_.Go.ChangeSpec) : _root_.Go.OpenSpec := { _root_.Go.OpenSpec.ofChange s with cond := some uptoSmall }

/-- 'torchonlaw15.CompileQuick', WHERE WHAT IT READS IS OF BULK AT MOST 1048576: true; the input reads as it did. -/
def compileQuickUptoRow : OpenClaim := { program := "ytogkgoabonbkkaa", sum := "4da1ee00128415169976a375b4abeb4bd201ab33495f62b9c3103faf0efce2ef", func := "torchon/torchonlaw15.CompileQuick", spec := "compileQuick", inPlace := ["internal/bytealg.IndexByteString"], unfollowed := true, recurses := true, plainKeys := false, apart := false, narrowed := true }
def CompileQuickUptoSaid : Prop := compileQuickUptoRow.holds Try.pinned (OpenSpec.upto compileQuickSpec)

/-- 'torchonlaw15.CompileBest', WHERE WHAT IT READS IS OF BULK AT MOST 1048576: true; the input reads as it did. -/
def compileBestUptoRow : OpenClaim := { program := "ytogkgoabonbkkaa", sum := "4da1ee00128415169976a375b4abeb4bd201ab33495f62b9c3103faf0efce2ef", func := "torchon/torchonlaw15.CompileBest", spec := "compileBest", inPlace := ["internal/bytealg.IndexByteString"], unfollowed := true, recurses := true, plainKeys := false, apart := false, narrowed := true }
def CompileBestUptoSaid : Prop := compileBestUptoRow.holds Try.pinned (OpenSpec.upto compileBestSpec)

/-- 'torchonlaw15.CompileMakes', WHERE WHAT IT READS IS OF BULK AT MOST 1048576: true; the input reads as it did. -/
def compileMakesUptoRow : OpenClaim := { program := "ytogkgoabonbkkaa", sum := "4da1ee00128415169976a375b4abeb4bd201ab33495f62b9c3103faf0efce2ef", func := "torchon/torchonlaw15.CompileMakes", spec := "compileMakes", inPlace := ["internal/bytealg.IndexByteString"], unfollowed := true, recurses := true, plainKeys := false, apart := false, narrowed := true }
def CompileMakesUptoSaid : Prop := compileMakesUptoRow.holds Try.pinned (OpenSpec.upto compileMakesSpec)

/-- 'torchonlaw15.CompileSides', WHERE WHAT IT READS IS OF BULK AT MOST 1048576: true; the input reads as it did. -/
def compileSidesUptoRow : OpenClaim := { program := "ytogkgoabonbkkaa", sum := "4da1ee00128415169976a375b4abeb4bd201ab33495f62b9c3103faf0efce2ef", func := "torchon/torchonlaw15.CompileSides", spec := "compileSides", inPlace := ["internal/bytealg.IndexByteString"], unfollowed := true, recurses := true, plainKeys := false, apart := false, narrowed := true }
def CompileSidesUptoSaid : Prop := compileSidesUptoRow.holds Try.pinned (OpenSpec.upto compileSidesSpec)

/-- 'torchonlaw15.CompileSteps', WHERE WHAT IT READS IS OF BULK AT MOST 1048576: true; the input reads as it did. -/
def compileStepsUptoRow : OpenClaim := { program := "ytogkgoabonbkkaa", sum := "4da1ee00128415169976a375b4abeb4bd201ab33495f62b9c3103faf0efce2ef", func := "torchon/torchonlaw15.CompileSteps", spec := "compileSteps", inPlace := ["internal/bytealg.IndexByteString"], unfollowed := true, recurses := true, plainKeys := false, apart := false, narrowed := true }
def CompileStepsUptoSaid : Prop := compileStepsUptoRow.holds Try.pinned (OpenSpec.upto compileStepsSpec)

/-- 'torchonlaw15.CompileFewest', WHERE WHAT IT READS IS OF BULK AT MOST 1048576: true; the input reads as it did. -/
def compileFewestUptoRow : OpenClaim := { program := "ytogkgoabonbkkaa", sum := "4da1ee00128415169976a375b4abeb4bd201ab33495f62b9c3103faf0efce2ef", func := "torchon/torchonlaw15.CompileFewest", spec := "compileFewest", inPlace := ["internal/bytealg.IndexByteString"], unfollowed := true, recurses := true, plainKeys := false, apart := false, narrowed := true }
def CompileFewestUptoSaid : Prop := compileFewestUptoRow.holds Try.pinned (OpenSpec.upto compileFewestSpec)

/-- 'torchonlaw15.CompileSheets', WHERE WHAT IT READS IS OF BULK AT MOST 1048576: true; the input reads as it did. -/
def compileSheetsUptoRow : OpenClaim := { program := "ytogkgoabonbkkaa", sum := "4da1ee00128415169976a375b4abeb4bd201ab33495f62b9c3103faf0efce2ef", func := "torchon/torchonlaw15.CompileSheets", spec := "compileSheets", inPlace := ["internal/bytealg.IndexByteString"], unfollowed := true, recurses := true, plainKeys := false, apart := false, narrowed := true }
def CompileSheetsUptoSaid : Prop := compileSheetsUptoRow.holds Try.pinned (OpenSpec.upto compileSheetsSpec)

end Rows
end Go.Proofs.Ytogkgoabonbkkaa
