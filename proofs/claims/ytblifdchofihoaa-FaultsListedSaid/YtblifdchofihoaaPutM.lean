/- Plain: what the kinds of faults make of instructions. -/
import Derived.Test.YtblifdchofihoaaFaultM
set_option linter.unusedSimpArgs false
set_option linter.unusedVariables false
namespace Go.Proofs.Ytblifdchofihoaa
open Go Go.RowKit Tor

theorem putF_miss (l : List Tri) (n m : Nat) (wi : Int) : putF l ⟨1, n, m, wi⟩ = setW l n (cutW (xAt l n).s m 1 .empty) := by unfold putF; simp
theorem putF_extra (l : List Tri) (n m : Nat) (wi : Int) : putF l ⟨2, n, m, wi⟩ = setW l n (cutW (xAt l n).s m 0 ⟨#[wi.toNat.toUInt8]⟩) := by unfold putF; simp
theorem putF_turn (l : List Tri) (n m : Nat) (wi : Int) : putF l ⟨3, n, m, wi⟩ = setW l n (cutW (xAt l n).s m 1 ⟨#[undo (byteAt (xAt l n).s m)]⟩) := by unfold putF; simp
theorem putF_skip (l : List Tri) (n : Nat) (lt wi : Int) : putF l ⟨4, n, lt, wi⟩ = l.eraseIdx n := by unfold putF; simp
theorem putF_place (l : List Tri) (n : Nat) (lt wi : Int) : putF l ⟨5, n, lt, wi⟩ = l.set n ⟨(xAt l n).a, (xAt l n).b + wi, (xAt l n).s⟩ := by unfold putF; simp
theorem putF_swap (l : List Tri) (n : Nat) (lt wi : Int) : putF l ⟨6, n, lt, wi⟩ = (l.set n (xAt l (n + 1))).set (n + 1) (xAt l n) := by unfold putF; simp

end Go.Proofs.Ytblifdchofihoaa
