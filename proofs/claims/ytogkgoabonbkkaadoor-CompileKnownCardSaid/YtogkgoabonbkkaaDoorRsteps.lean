/- torchonref15.steps. -/
import Derived.Test.YtogkgoabonbkkaaDoorApp
set_option linter.unusedSimpArgs false
set_option linter.unusedVariables false
namespace Go.Proofs.YtogkgoabonbkkaaDoor
open Go Go.RowKit Tor

/-- the least of the places below k from which most can be made -/
def bestUpto (f : Nat → Nat) : Nat → Nat
  | 0 => 0
  | k + 1 => if f (bestUpto f k) < f k then k else bestUpto f k
theorem bestUpto_le (f : Nat → Nat) : ∀ k, bestUpto f k ≤ k
  | 0 => Nat.le_refl _
  | k + 1 => by unfold bestUpto; have := bestUpto_le f k; split <;> omega


/-- the instructions in the order of a sheet, hands at a place -/
def rst (p s : Int) : List Tri → Int → List Tri
  | [], _ => []
  | x :: r, h => if heldB h s x.b = true then stepOf x :: rst p s r h
    else ⟨1, bestUpto (fun h : Nat => runN (x :: r) h s) (p - s + 1).toNat, .empty⟩ :: stepOf x :: rst p s r (bestUpto (fun h : Nat => runN (x :: r) h s) (p - s + 1).toNat)

theorem rst_held {p s h : Int} {l : List Tri} {i : Nat} (hi : i < l.length) (hh : heldB h s l[i].b = true) : rst p s (l.drop i) h = stepOf l[i] :: rst p s (l.drop (i + 1)) h := by
  rw [List.drop_eq_getElem_cons hi, rst, if_pos hh]
theorem rst_reach {p s h : Int} {l : List Tri} {i b : Nat} (hi : i < l.length) (hh : heldB h s l[i].b = false) (hb : b = bestUpto (fun h : Nat => runN (l.drop i) h s) (p - s + 1).toNat) :
    rst p s (l.drop i) h = ⟨1, b, .empty⟩ :: stepOf l[i] :: rst p s (l.drop (i + 1)) b := by
  subst hb
  rw [List.drop_eq_getElem_cons hi, rst, if_neg (by simp [hh])]
theorem rst_end {p s h : Int} {l : List Tri} {i : Nat} (hi : ¬ i < l.length) : rst p s (l.drop i) h = [] := by
  rw [List.drop_of_length_le (by omega)]; rfl


end Go.Proofs.YtogkgoabonbkkaaDoor
