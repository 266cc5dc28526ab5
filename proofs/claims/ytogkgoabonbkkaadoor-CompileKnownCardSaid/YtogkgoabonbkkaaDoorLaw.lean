/- far, the reference's Steps, what a checked sheet is. -/
import Derived.Test.YtogkgoabonbkkaaDoorAwake2
set_option linter.unusedSimpArgs false
set_option linter.unusedVariables false
namespace Go.Proofs.YtogkgoabonbkkaaDoor
open Go Go.RowKit Tor

/-- is it more than is looked at? -/
def farB (n : Nat) (m : Int) : Bool := (decide (m < (n : Int)) && decide (n ≤ 400)) || decide (450 < n)


/-- a sheet that is checked -/
structure Good (p : Int) (l : List Tri) (s : Int) : Prop where
  b1 : 2 ≤ s
  b2 : s ≤ p
  b3 : p ≤ 24
  n : l.length ≤ 400
  b : ∀ (k : Nat) (hk : k < l.length), 0 ≤ l[k].b ∧ l[k].b ≤ p - 2
  sh : sheetE p l = 0
theorem good_of {p s : Int} {l : List Tri} (h : chkE p l s = 0) : Good p l s := by
  unfold chkE at h
  by_cases hs : sheetE p l = 0
  · rw [if_pos hs] at h
    have hsp : spansB p s = true := by
      cases hsp : spansB p s
      · rw [hsp] at h; simp at h
      · rfl
    unfold spansB at hsp
    simp only [Bool.and_eq_true, decide_eq_true_eq] at hsp
    have hs2 := hs
    unfold sheetE at hs2
    split at hs2
    · cases hs2
    · rename_i h3
      split at hs2
      · cases hs2
      · split at hs2
        · cases hs2
        · rename_i hbad
          have hbad' : l.any (badW p) = false := by simpa using hbad
          have h24 : ¬ 24 < p := fun h => h3 (Or.inl h)
          have h400 : ¬ 400 < l.length := fun h => h3 (Or.inr (Or.inl h))
          refine ⟨by omega, by omega, by omega, by omega, fun k hk => ?_, hs⟩
          have := any_not hbad' k hk
          rw [badW_false] at this
          omega
  · rw [if_neg hs] at h; exact absurd h hs
end Go.Proofs.YtogkgoabonbkkaaDoor
