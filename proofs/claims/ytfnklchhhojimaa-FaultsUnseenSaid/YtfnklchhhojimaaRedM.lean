/- Plain: how large syllables can be; a word and its reduced word. -/
import Derived.Test.YtfnklchhhojimaaStitchM
set_option linter.unusedSimpArgs false
set_option linter.unusedVariables false
namespace Tor

def Syl.inB (k : Int) (x : Syl) : Prop := (-k ≤ x.m ∧ x.m ≤ k) ∧ (-k ≤ x.l ∧ x.l ≤ k) ∧ (-k ≤ x.r ∧ x.r ≤ k)
theorem tw_in (c : UInt8) : (-1 ≤ twL c ∧ twL c ≤ 1) ∧ (-1 ≤ twM c ∧ twM c ≤ 1) ∧ (-1 ≤ twR c ∧ twR c ≤ 1) := by
  unfold twL twM twR
  refine ⟨?_, ?_, ?_⟩ <;> (repeat' split) <;> omega
theorem Syl.inB.mono {k j : Int} {x : Syl} (h : x.inB k) (hk : k ≤ j) : x.inB j := by unfold Syl.inB at *; omega
theorem sylStep_in {st : List Syl} {k : Int} (hk : 0 ≤ k) (h : ∀ x ∈ st, x.inB k) (c : UInt8) : ∀ x ∈ sylStep st c, x.inB (k + 1) := by
  have ht := tw_in c
  have h' : ∀ x ∈ st, x.inB (k + 1) := fun x hx => (h x hx).mono (by omega)
  have z1 : Syl.inB (k + 1) ⟨0, 0, 0, false⟩ := by unfold Syl.inB; simp only; omega
  have z2 : Syl.inB (k + 1) ⟨0, 0, 0, true⟩ := by unfold Syl.inB; simp only; omega
  unfold sylStep
  split
  · intro x hx
    simp only [List.mem_cons] at hx
    rcases hx with rfl | rfl | hx
    · exact z1
    · exact z2
    · exact h' x hx
  · cases st with
    | nil => intro x hx; simp at hx
    | cons y r =>
      have hy := h y (by simp)
      have hr : ∀ x ∈ r, x.inB (k + 1) := fun x hx => h' x (by simp [hx])
      have hy' := h' y (by simp)
      simp only
      split
      · intro x hx
        rcases List.mem_cons.1 hx with rfl | hx
        · unfold Syl.inB at hy ⊢; simp only; omega
        · exact hr x hx
      · split
        · split
          · exact hr
          · intro x hx
            rcases List.mem_cons.1 hx with rfl | hx
            · unfold Syl.inB at hy ⊢; simp only; omega
            · exact hr x hx
        · intro x hx
          rcases List.mem_cons.1 hx with rfl | hx
          · unfold Syl.inB; simp only; omega
          · rcases List.mem_cons.1 hx with rfl | hx
            · exact hy'
            · exact hr x hx
theorem foldl_in : ∀ (s : List UInt8) (st : List Syl) (k : Int), 0 ≤ k → (∀ x ∈ st, x.inB k) → ∀ x ∈ s.foldl sylStep st, x.inB (k + s.length)
  | [], st, k, _, h => by simpa using h
  | c :: s, st, k, hk, h => by
    intro x hx
    have := foldl_in s (sylStep st c) (k + 1) (by omega) (sylStep_in hk h c) x hx
    refine this.mono ?_
    simp only [List.length_cons]; omega
theorem sylOf_in (s : List UInt8) : ∀ x ∈ sylOf s, x.inB s.length := by
  intro x hx
  have := foldl_in s [⟨0, 0, 0, false⟩] 0 (by omega) (by intro y hy; simp at hy; subst hy; unfold Syl.inB; simp) x hx
  simpa using this
theorem sylStep_len (st : List Syl) (c : UInt8) : (sylStep st c).length ≤ st.length + 2 := by
  unfold sylStep
  split
  · simp
  · cases st with
    | nil => simp
    | cons y r => simp only; (repeat' split) <;> simp <;> omega
theorem foldl_len : ∀ (s : List UInt8) (st : List Syl), (s.foldl sylStep st).length ≤ st.length + 2 * s.length
  | [], st => by simp
  | c :: s, st => by
    have := foldl_len s (sylStep st c)
    have := sylStep_len st c
    simp only [List.foldl_cons, List.length_cons]; omega
theorem sylOf_len (s : List UInt8) : (sylOf s).length ≤ 1 + 2 * s.length := foldl_len s _
theorem sylOf_take (s : List UInt8) (k : Nat) (h : k < s.length) : sylOf (s.take (k + 1)) = sylStep (sylOf (s.take k)) s[k] := by
  unfold sylOf; rw [Tor.take_snoc s k h, List.foldl_append]; rfl

/-- a good list of syllables has a first one that is no pin -/
theorem goodS_ne {st : List Syl} (h : goodS st) : ∃ x r, st = x :: r ∧ x.pin = false := by
  cases st with
  | nil => exact h.elim
  | cons x r => exact ⟨x, r, rfl, goodS_pin h⟩
end Tor
