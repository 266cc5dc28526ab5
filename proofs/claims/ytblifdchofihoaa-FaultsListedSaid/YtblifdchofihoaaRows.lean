/-
  No cell of these rows narrows 'for every input' (looked for: loops, veiled, ifaces, maps, wideKeys, modest, calm, conditions, laid).
  DERIVED. THE GIVEN ROWS OF THIS SEAT. 6 by the template 'for every input the law returns true; each argument reads behind the call as it read before'; 0 by the template 'total and deterministic' (their statements: YtblifdchofihoaaTotals.lean).
  GIVEN WITH THE SEED: the statements are not yours to turn. If you find one false, say at which input.
  Laid BY PROGRAM, IN A SANDBOX (cutbox-rows.mjs): the forced cells as the released guide's own fill.sh prints them over the translation 1746813844aaf5ca… (all of the seat's roots in one cut). By AI agents, Wed Nov 11 2026. No macro, syntax, notation, axiom, sorry.
-/
import Derived.Test.YtblifdchofihoaaChecked
import GoSem.Claim
import GoSem.ClaimJoined
import GoSem.ClaimMapViews
import Derived.JoinedTies
import Derived.KernelRfl
namespace Go.Proofs.Ytblifdchofihoaa
/- THE CELL 'sum', in the pinned program and in every row, IS THE sha256 OF THE DUMP (.gsa) THAT YtblifdchofihoaaProg.lean LOADS. Nothing in Lean hashes anything: it is a label: what it is worth is what the hold of that sum in a sandbox is worth. -/
noncomputable def Try.pinned : Pinned := { name := "ytblifdchofihoaa", sum := "1746813844aaf5cac7876d3193446c6b5ce0c9c3bea21807a8d36ab616cacf0a", checked := Try.checked }
namespace Rows
def none {H : Type} : Left H := { results := [], args := [] }

/-- 'torchonlaw25.FaultsPut': WHATEVER THE INPUT: true; the input reads as it did. -/
def faultsPutSpec : ChangeSpec := { name := "faultsPut", fn := fun _ => fun
  | [d] => { results := [.lit (.bool true)], args := [d] }
  | _ => none }
def faultsPutRow : OpenClaim := { program := "ytblifdchofihoaa", sum := "1746813844aaf5cac7876d3193446c6b5ce0c9c3bea21807a8d36ab616cacf0a", func := "torchon/torchonlaw25.FaultsPut", spec := "faultsPut", inPlace := ["internal/bytealg.IndexByteString", "internal/abi.NoEscape", "internal/bytealg.MakeNoZero"], unfollowed := true, recurses := true, apart := false }
def FaultsPutSaid : Prop := faultsPutRow.holds Try.pinned (OpenSpec.ofChange faultsPutSpec)

/-- ITS FALSE NEIGHBOUR: 'it returns false'. Refute it at one input. -/
def faultsPutWrong : ChangeSpec := { name := "faultsPut", fn := fun _ => fun
  | [d] => { results := [.lit (.bool false)], args := [d] }
  | _ => none }
def FaultsPutWrongFalsely : Prop := faultsPutRow.holds Try.pinned (OpenSpec.ofChange faultsPutWrong)

/-- 'torchonlaw25.FaultsUnseen': WHATEVER THE INPUT: true; the input reads as it did. -/
def faultsUnseenSpec : ChangeSpec := { name := "faultsUnseen", fn := fun _ => fun
  | [d] => { results := [.lit (.bool true)], args := [d] }
  | _ => none }
def faultsUnseenRow : OpenClaim := { program := "ytblifdchofihoaa", sum := "1746813844aaf5cac7876d3193446c6b5ce0c9c3bea21807a8d36ab616cacf0a", func := "torchon/torchonlaw25.FaultsUnseen", spec := "faultsUnseen", inPlace := ["internal/bytealg.IndexByteString", "internal/abi.NoEscape", "internal/bytealg.MakeNoZero"], unfollowed := true, recurses := true, apart := false }
def FaultsUnseenSaid : Prop := faultsUnseenRow.holds Try.pinned (OpenSpec.ofChange faultsUnseenSpec)

/-- ITS FALSE NEIGHBOUR: 'it returns false'. Refute it at one input. -/
def faultsUnseenWrong : ChangeSpec := { name := "faultsUnseen", fn := fun _ => fun
  | [d] => { results := [.lit (.bool false)], args := [d] }
  | _ => none }
def FaultsUnseenWrongFalsely : Prop := faultsUnseenRow.holds Try.pinned (OpenSpec.ofChange faultsUnseenWrong)

/-- 'torchonlaw25.FaultsBack': WHATEVER THE INPUT: true; the input reads as it did. -/
def faultsBackSpec : ChangeSpec := { name := "faultsBack", fn := fun _ => fun
  | [d] => { results := [.lit (.bool true)], args := [d] }
  | _ => none }
def faultsBackRow : OpenClaim := { program := "ytblifdchofihoaa", sum := "1746813844aaf5cac7876d3193446c6b5ce0c9c3bea21807a8d36ab616cacf0a", func := "torchon/torchonlaw25.FaultsBack", spec := "faultsBack", inPlace := ["internal/bytealg.IndexByteString", "internal/abi.NoEscape", "internal/bytealg.MakeNoZero"], unfollowed := true, recurses := true, apart := false }
def FaultsBackSaid : Prop := faultsBackRow.holds Try.pinned (OpenSpec.ofChange faultsBackSpec)

/-- ITS FALSE NEIGHBOUR: 'it returns false'. Refute it at one input. -/
def faultsBackWrong : ChangeSpec := { name := "faultsBack", fn := fun _ => fun
  | [d] => { results := [.lit (.bool false)], args := [d] }
  | _ => none }
def FaultsBackWrongFalsely : Prop := faultsBackRow.holds Try.pinned (OpenSpec.ofChange faultsBackWrong)

/-- 'torchonlaw25.FaultsAlike': WHATEVER THE INPUT: true; the input reads as it did. -/
def faultsAlikeSpec : ChangeSpec := { name := "faultsAlike", fn := fun _ => fun
  | [d] => { results := [.lit (.bool true)], args := [d] }
  | _ => none }
def faultsAlikeRow : OpenClaim := { program := "ytblifdchofihoaa", sum := "1746813844aaf5cac7876d3193446c6b5ce0c9c3bea21807a8d36ab616cacf0a", func := "torchon/torchonlaw25.FaultsAlike", spec := "faultsAlike", inPlace := ["internal/bytealg.IndexByteString", "internal/abi.NoEscape", "internal/bytealg.MakeNoZero"], unfollowed := true, recurses := true, apart := false }
def FaultsAlikeSaid : Prop := faultsAlikeRow.holds Try.pinned (OpenSpec.ofChange faultsAlikeSpec)

/-- ITS FALSE NEIGHBOUR: 'it returns false'. Refute it at one input. -/
def faultsAlikeWrong : ChangeSpec := { name := "faultsAlike", fn := fun _ => fun
  | [d] => { results := [.lit (.bool false)], args := [d] }
  | _ => none }
def FaultsAlikeWrongFalsely : Prop := faultsAlikeRow.holds Try.pinned (OpenSpec.ofChange faultsAlikeWrong)

/-- 'torchonlaw25.FaultsAll': WHATEVER THE INPUT: true; the input reads as it did. -/
def faultsAllSpec : ChangeSpec := { name := "faultsAll", fn := fun _ => fun
  | [d1, d2, d3] => { results := [.lit (.bool true)], args := [d1, d2, d3] }
  | _ => none }
def faultsAllRow : OpenClaim := { program := "ytblifdchofihoaa", sum := "1746813844aaf5cac7876d3193446c6b5ce0c9c3bea21807a8d36ab616cacf0a", func := "torchon/torchonlaw25.FaultsAll", spec := "faultsAll", inPlace := ["internal/bytealg.IndexByteString", "internal/abi.NoEscape", "internal/bytealg.MakeNoZero"], unfollowed := true, recurses := true, apart := false }
def FaultsAllSaid : Prop := faultsAllRow.holds Try.pinned (OpenSpec.ofChange faultsAllSpec)

/-- ITS FALSE NEIGHBOUR: 'it returns false'. Refute it at one input. -/
def faultsAllWrong : ChangeSpec := { name := "faultsAll", fn := fun _ => fun
  | [d1, d2, d3] => { results := [.lit (.bool false)], args := [d1, d2, d3] }
  | _ => none }
def FaultsAllWrongFalsely : Prop := faultsAllRow.holds Try.pinned (OpenSpec.ofChange faultsAllWrong)

/-- 'torchonlaw25.FaultsListed': WHATEVER THE INPUT: true; the input reads as it did. -/
def faultsListedSpec : ChangeSpec := { name := "faultsListed", fn := fun _ => fun
  | [d] => { results := [.lit (.bool true)], args := [d] }
  | _ => none }
def faultsListedRow : OpenClaim := { program := "ytblifdchofihoaa", sum := "1746813844aaf5cac7876d3193446c6b5ce0c9c3bea21807a8d36ab616cacf0a", func := "torchon/torchonlaw25.FaultsListed", spec := "faultsListed", inPlace := ["internal/bytealg.IndexByteString", "internal/abi.NoEscape", "internal/bytealg.MakeNoZero"], unfollowed := true, recurses := true, apart := false }
def FaultsListedSaid : Prop := faultsListedRow.holds Try.pinned (OpenSpec.ofChange faultsListedSpec)

/-- ITS FALSE NEIGHBOUR: 'it returns false'. Refute it at one input. -/
def faultsListedWrong : ChangeSpec := { name := "faultsListed", fn := fun _ => fun
  | [d] => { results := [.lit (.bool false)], args := [d] }
  | _ => none }
def FaultsListedWrongFalsely : Prop := faultsListedRow.holds Try.pinned (OpenSpec.ofChange faultsListedWrong)

/- THE SECOND FORM. 'bulk': how many values and letters a reading holds, each counted each time it is reached (what is shared counts as often as it is met; a slice's spare places count too). A statement '..UptoSaid' is the law's where the arguments, and the package variables that the reading takes, are together of bulk at most 1048576: NARROWER than '..Said'. Prove '..Said' where nothing that the law and all that it calls make is longer than what came in: it says more and counts as full. Else prove '..UptoSaid'. A law counts once. -/
mutual
def uptoBulk {H : Type} : DataW H → Nat
  | .lit (.string bytes) => bytes.length + 1
  | .lit _ => 1
  | .nil => 1
  | .ptr d => uptoBulk d + 1
  | .slice elems spare => uptoBulkAll elems + uptoBulkAll spare + 1
  | .agg parts => uptoBulkAll parts + 1
  | .iface _ d => uptoBulk d + 1
  | .map entries => uptoBulkEntries entries + 1
  | .held _ => 1
def uptoBulkAll {H : Type} : List (DataW H) → Nat
  | [] => 0
  | d :: r => uptoBulk d + uptoBulkAll r
def uptoBulkEntries {H : Type} : List (Lit × DataW H) → Nat
  | [] => 0
  | x :: r => uptoBulkEntry x + uptoBulkEntries r
def uptoBulkEntry {H : Type} : Lit × DataW H → Nat
  | (.string bytes, d) => bytes.length + uptoBulk d + 1
  | (_, d) => uptoBulk d + 1
 end
def uptoSmall : (H : Type) → List (DataW H) → Bool := fun _ ds => decide (uptoBulkAll ds ≤ 1048576)
def OpenSpec.upto (s : _root_.Go.ChangeSpec) : _root_.Go.OpenSpec := { _root_.Go.OpenSpec.ofChange s with cond := some uptoSmall }

/-- 'torchonlaw25.FaultsPut', WHERE WHAT IT READS IS OF BULK AT MOST 1048576: true; the input reads as it did. -/
def faultsPutUptoRow : OpenClaim := { program := "ytblifdchofihoaa", sum := "1746813844aaf5cac7876d3193446c6b5ce0c9c3bea21807a8d36ab616cacf0a", func := "torchon/torchonlaw25.FaultsPut", spec := "faultsPut", inPlace := ["internal/bytealg.IndexByteString", "internal/abi.NoEscape", "internal/bytealg.MakeNoZero"], unfollowed := true, recurses := true, apart := false, narrowed := true }
def FaultsPutUptoSaid : Prop := faultsPutUptoRow.holds Try.pinned (OpenSpec.upto faultsPutSpec)

/-- 'torchonlaw25.FaultsUnseen', WHERE WHAT IT READS IS OF BULK AT MOST 1048576: true; the input reads as it did. -/
def faultsUnseenUptoRow : OpenClaim := { program := "ytblifdchofihoaa", sum := "1746813844aaf5cac7876d3193446c6b5ce0c9c3bea21807a8d36ab616cacf0a", func := "torchon/torchonlaw25.FaultsUnseen", spec := "faultsUnseen", inPlace := ["internal/bytealg.IndexByteString", "internal/abi.NoEscape", "internal/bytealg.MakeNoZero"], unfollowed := true, recurses := true, apart := false, narrowed := true }
def FaultsUnseenUptoSaid : Prop := faultsUnseenUptoRow.holds Try.pinned (OpenSpec.upto faultsUnseenSpec)

/-- 'torchonlaw25.FaultsBack', WHERE WHAT IT READS IS OF BULK AT MOST 1048576: true; the input reads as it did. -/
def faultsBackUptoRow : OpenClaim := { program := "ytblifdchofihoaa", sum := "1746813844aaf5cac7876d3193446c6b5ce0c9c3bea21807a8d36ab616cacf0a", func := "torchon/torchonlaw25.FaultsBack", spec := "faultsBack", inPlace := ["internal/bytealg.IndexByteString", "internal/abi.NoEscape", "internal/bytealg.MakeNoZero"], unfollowed := true, recurses := true, apart := false, narrowed := true }
def FaultsBackUptoSaid : Prop := faultsBackUptoRow.holds Try.pinned (OpenSpec.upto faultsBackSpec)

/-- 'torchonlaw25.FaultsAlike', WHERE WHAT IT READS IS OF BULK AT MOST 1048576: true; the input reads as it did. -/
def faultsAlikeUptoRow : OpenClaim := { program := "ytblifdchofihoaa", sum := "1746813844aaf5cac7876d3193446c6b5ce0c9c3bea21807a8d36ab616cacf0a", func := "torchon/torchonlaw25.FaultsAlike", spec := "faultsAlike", inPlace := ["internal/bytealg.IndexByteString", "internal/abi.NoEscape", "internal/bytealg.MakeNoZero"], unfollowed := true, recurses := true, apart := false, narrowed := true }
def FaultsAlikeUptoSaid : Prop := faultsAlikeUptoRow.holds Try.pinned (OpenSpec.upto faultsAlikeSpec)

/-- 'torchonlaw25.FaultsAll', WHERE WHAT IT READS IS OF BULK AT MOST 1048576: true; the input reads as it did. -/
def faultsAllUptoRow : OpenClaim := { program := "ytblifdchofihoaa", sum := "1746813844aaf5cac7876d3193446c6b5ce0c9c3bea21807a8d36ab616cacf0a", func := "torchon/torchonlaw25.FaultsAll", spec := "faultsAll", inPlace := ["internal/bytealg.IndexByteString", "internal/abi.NoEscape", "internal/bytealg.MakeNoZero"], unfollowed := true, recurses := true, apart := false, narrowed := true }
def FaultsAllUptoSaid : Prop := faultsAllUptoRow.holds Try.pinned (OpenSpec.upto faultsAllSpec)

/-- 'torchonlaw25.FaultsListed', WHERE WHAT IT READS IS OF BULK AT MOST 1048576: true; the input reads as it did. -/
def faultsListedUptoRow : OpenClaim := { program := "ytblifdchofihoaa", sum := "1746813844aaf5cac7876d3193446c6b5ce0c9c3bea21807a8d36ab616cacf0a", func := "torchon/torchonlaw25.FaultsListed", spec := "faultsListed", inPlace := ["internal/bytealg.IndexByteString", "internal/abi.NoEscape", "internal/bytealg.MakeNoZero"], unfollowed := true, recurses := true, apart := false, narrowed := true }
def FaultsListedUptoSaid : Prop := faultsListedUptoRow.holds Try.pinned (OpenSpec.upto faultsListedSpec)

end Rows
end Go.Proofs.Ytblifdchofihoaa
