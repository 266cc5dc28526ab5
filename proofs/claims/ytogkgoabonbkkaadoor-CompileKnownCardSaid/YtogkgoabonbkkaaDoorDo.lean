/- torchonref15: shaped, Do, Work; compile.shaped. -/
import Derived.Test.YtogkgoabonbkkaaDoorCsteps
set_option linter.unusedSimpArgs false
set_option linter.unusedVariables false
namespace Go.Proofs.YtogkgoabonbkkaaDoor
open Go Go.RowKit Tor

/-- an Op, and a Word only if it may -/
def shapedB (x : Tri) : Bool := decide (x.a = 2) || (decide (x.a = 1) || decide (x.a = 3)) && decide (x.s.size = 0)
theorem bempt (s : ByteArray) : s.toList.isEmpty = decide (s.size = 0) := by
  have h := bemp s
  by_cases e : s.size = 0
  · simp only [e, ne_eq, not_true_eq_false, decide_false, Bool.not_eq_false'] at h
    rw [h]; simp [e]
  · simp only [e, ne_eq, not_false_eq_true, decide_true, Bool.not_eq_true'] at h
    rw [h]; simp [e]

theorem cshaped_any (x : Tri) (w : World) :
    Calls Tryd.prog 20 #[.agg #[.int .i64 x.a, .int .i64 x.b, .string x.s]] w (Ret (.bool (shapedB x)) w) := by
  rcases (show x.a = 2 ∨ x.a = 1 ∨ x.a = 3 ∨ (x.a ≠ 2 ∧ x.a ≠ 1 ∧ x.a ≠ 3) from by omega) with h | h | h | ⟨h, h', h''⟩
  all_goals
    have g2 : (x.a == 2) = decide (x.a = 2) := rfl
    have g1 : (x.a == 1) = decide (x.a = 1) := rfl
    have g3 : (x.a == 3) = decide (x.a = 3) := rfl
    simp only [h, decide_true, decide_false, *] at g1 g2 g3
    have HH : Hid (shapedB x = (decide (x.a = 2) || (decide (x.a = 1) || decide (x.a = 3)) && x.s.toList.isEmpty)) := by rw [Hid, bempt]; rfl
    go_enter Tryd.func20, Tryd.ntmps20
    go_wp2_with fail
    go_ret
    exact Ret.bool (by rw [HH.out]; simp [*]) ((Below.refl _ _).alloc (Nat.le_refl _) _)


/-- the work of a step -/
def workOf (x : Tri) : Tri := if x.a = 3 then ⟨2, x.b, .empty⟩ else ⟨1, x.b, x.s⟩

/-- the error of a step -/
def doE (p s h n : Int) (x : Tri) : Int :=
  if shapedB x = false then 2 else if wordE x.s ≠ 0 then wordE x.s
  else if x.b < 0 ∨ p - 2 < x.b ∨ (x.a = 1 ∧ p - s < x.b) then 7
  else if x.a ≠ 1 ∧ heldB h s x.b = false then 9
  else if x.a ≠ 1 ∧ 400 ≤ n then 3 else 0

theorem doE_sh {p s h n : Int} {x : Tri} (h1 : shapedB x = false) : doE p s h n x = 2 := by unfold doE; rw [if_pos h1]
theorem doE_w {p s h n : Int} {x : Tri} (h1 : shapedB x = true) (h2 : wordE x.s ≠ 0) : doE p s h n x = wordE x.s := by
  unfold doE; rw [if_neg (by simp [h1]), if_pos h2]
theorem doE_r {p s h n : Int} {x : Tri} (h1 : shapedB x = true) (h2 : wordE x.s = 0) (h3 : x.b < 0 ∨ p - 2 < x.b ∨ (x.a = 1 ∧ p - s < x.b)) : doE p s h n x = 7 := by
  unfold doE; rw [if_neg (by simp [h1]), if_neg (by simp [h2]), if_pos h3]
theorem doE_d {p s h n : Int} {x : Tri} (h1 : shapedB x = true) (h2 : wordE x.s = 0) (h3 : ¬ (x.b < 0 ∨ p - 2 < x.b ∨ (x.a = 1 ∧ p - s < x.b))) (h4 : x.a ≠ 1) (h5 : heldB h s x.b = false) : doE p s h n x = 9 := by
  unfold doE; rw [if_neg (by simp [h1]), if_neg (by simp [h2]), if_neg h3, if_pos ⟨h4, h5⟩]
theorem doE_l {p s h n : Int} {x : Tri} (h1 : shapedB x = true) (h2 : wordE x.s = 0) (h3 : ¬ (x.b < 0 ∨ p - 2 < x.b ∨ (x.a = 1 ∧ p - s < x.b))) (h4 : x.a ≠ 1) (h5 : heldB h s x.b = true) (h6 : 400 ≤ n) : doE p s h n x = 3 := by
  unfold doE; rw [if_neg (by simp [h1]), if_neg (by simp [h2]), if_neg h3, if_neg (by simp [h5]), if_pos ⟨h4, h6⟩]
theorem doE_0 {p s h n : Int} {x : Tri} (h1 : shapedB x = true) (h2 : wordE x.s = 0) (h3 : ¬ (x.b < 0 ∨ p - 2 < x.b ∨ (x.a = 1 ∧ p - s < x.b))) (h4 : x.a = 1 ∨ (heldB h s x.b = true ∧ ¬ 400 ≤ n)) : doE p s h n x = 0 := by
  unfold doE
  rw [if_neg (by simp [h1]), if_neg (by simp [h2]), if_neg h3, if_neg ?_, if_neg ?_]
  · rintro ⟨a, b⟩
    rcases h4 with h4 | h4
    · exact a h4
    · exact h4.2 b
  · rintro ⟨a, b⟩
    rcases h4 with h4 | h4
    · exact a h4
    · rw [h4.1] at b; cases b


end Go.Proofs.YtogkgoabonbkkaaDoor
