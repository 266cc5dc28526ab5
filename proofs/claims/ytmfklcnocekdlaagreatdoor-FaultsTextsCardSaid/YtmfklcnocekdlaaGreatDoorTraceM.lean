/- Plain: sheets that are the same lace; matching by places. -/
import Derived.Test.YtmfklcnocekdlaaGreatDoorOldB
set_option linter.unusedSimpArgs false
set_option linter.unusedVariables false
namespace Go.Proofs.YtmfklcnocekdlaaGreatDoor
open Go Go.RowKit Tor

/-- the work that is ready and equal to y -/
def mfind (l : List Tri) (M : List Nat) (y : Tri) : Option Nat :=
  match front (rowsOf l M) y.b.toNat with
  | some i => if xAt l i = y then some i else none
  | none => none
def mgo (l : List Tri) : List Tri → List Nat → Option (List Nat)
  | [], M => some M
  | y :: r, M => match mfind l M y with
    | some i => mgo l r (M ++ [i])
    | none => none

/-- are two sheets of so many pairs the same lace? -/
def traceB (p : Int) (l : List Tri) (q : Int) (m : List Tri) : Bool := decide (p = q) && decide (l.length = m.length) && (mgo l m []).isSome

section
variable {l : List Tri}
/-- the same lace: one sheet is an order of the other one -/
def TrEq (l m : List Tri) : Prop := ∃ A, LinExt l [] A ∧ A.length = l.length ∧ m = A.map (xAt l)
theorem TrEq.refl (l : List Tri) : TrEq l l := ⟨_, lin_id, by simp, map_id'.symm⟩
theorem TrEq.euclid {l m n : List Tri} (h1 : TrEq l m) (h2 : TrEq l n) : TrEq m n := by
  obtain ⟨A, hA, hl, rfl⟩ := h1
  obtain ⟨B, hB, hlB, rfl⟩ := h2
  have hc := lin_comp hA hl B [] (by simp) hB
  exact ⟨_, by simpa using hc, by rw [List.length_map, List.length_map, hlB, hl], (comp_map hA hl (fun i hi => lin_lt B [] hB i hi)).symm⟩
theorem TrEq.symm {l m : List Tri} (h : TrEq l m) : TrEq m l := h.euclid (TrEq.refl l)
theorem TrEq.trans {l m n : List Tri} (h1 : TrEq l m) (h2 : TrEq m n) : TrEq l n := h1.symm.euclid h2
theorem TrEq.len {l m : List Tri} (h : TrEq l m) : m.length = l.length := by
  obtain ⟨A, _, hl, rfl⟩ := h
  rw [List.length_map, hl]

end
end Go.Proofs.YtmfklcnocekdlaaGreatDoor

