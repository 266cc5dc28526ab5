/- Plain: windows of places, and the place from which the most works are in reach. -/
import Derived.Test.YtogkgoabonbkkaaDoorRsteps
set_option linter.unusedSimpArgs false
set_option linter.unusedVariables false
namespace Go.Proofs.YtogkgoabonbkkaaDoor
open Go Go.RowKit Tor

theorem bestUpto_is (f : Nat → Nat) (b : Nat) : ∀ n, b < n → (∀ k, k < n → f k ≤ f b) → (∀ k, k < b → f k < f b) → bestUpto f n = b
  | 0, h, _, _ => absurd h (by omega)
  | n + 1, h, h1, h2 => by
    unfold bestUpto
    by_cases hb : b = n
    · subst hb
      by_cases h0 : b = 0
      · subst h0; simp [bestUpto]
      · have hlt : bestUpto f b < b := by
          have aux : ∀ n, 0 < n → bestUpto f n < n := by
            intro n hn
            induction n with
            | zero => omega
            | succ n ih =>
              unfold bestUpto
              split
              · omega
              · by_cases hz : n = 0
                · subst hz; simp [bestUpto]
                · have := ih (by omega); omega
          exact aux b (by omega)
        rw [if_pos (h2 _ hlt)]
    · rw [bestUpto_is f b n (by omega) (fun k hk => h1 k (by omega)) h2, if_neg (by have := h1 n (by omega); omega)]

theorem runN_ge {l : List Tri} {h s : Int} : ∀ {m : Nat}, m ≤ runN l h s ↔ ∀ j, j < m → ∃ x, l[j]? = some x ∧ heldB h s x.b = true := by
  induction l with
  | nil =>
    intro m
    simp only [runN, List.takeWhile_nil, List.length_nil, Nat.le_zero]
    constructor
    · rintro rfl j hj; omega
    · intro h
      rcases Nat.eq_zero_or_pos m with h0 | h0
      · exact h0
      · obtain ⟨x, hx, _⟩ := h 0 h0; simp at hx
  | cons y r ih =>
    intro m
    cases hy : heldB h s y.b
    · have e : runN (y :: r) h s = 0 := by unfold runN; rw [List.takeWhile_cons, if_neg (by simp [hy])]; rfl
      rw [e]
      constructor
      · intro hm j hj; omega
      · intro hh
        rcases Nat.eq_zero_or_pos m with h0 | h0
        · omega
        · obtain ⟨x, hx, hv⟩ := hh 0 h0; simp at hx; subst hx; rw [hy] at hv; cases hv
    · have e : runN (y :: r) h s = runN r h s + 1 := by unfold runN; rw [List.takeWhile_cons, if_pos hy]; rfl
      rw [e]
      cases m with
      | zero => simp
      | succ m =>
        rw [Nat.add_le_add_iff_right, ih]
        constructor
        · intro hh j hj
          cases j with
          | zero => exact ⟨y, rfl, hy⟩
          | succ j => simpa using hh j (by omega)
        · intro hh j hj
          simpa using hh (j + 1) (by omega)


/-- lo..hi is where the hands may lie for the works from i up to m -/
def Win (p s : Int) (l : List Tri) (i m : Nat) (lo hi : Int) : Prop :=
  i < m ∧ m ≤ l.length ∧ 0 ≤ lo ∧ hi ≤ p - s ∧ lo ≤ hi ∧ ∀ h : Int, (lo ≤ h ∧ h ≤ hi) ↔ (0 ≤ h ∧ h ≤ p - s ∧ ∀ j, i ≤ j → j < m → ∃ x, l[j]? = some x ∧ heldB h s x.b = true)

theorem held_iff (h s b : Int) : heldB h s b = true ↔ 0 ≤ h ∧ h ≤ b ∧ b + 2 ≤ h + s := by
  simp [heldB, and_assoc]

theorem Win.start {p s : Int} {l : List Tri} {i : Nat} (hi : i < l.length) (h1 : 0 ≤ l[i].b) (h2 : l[i].b ≤ p - 2) (h3 : 2 ≤ s) (h4 : s ≤ p) : Win p s l i (i + 1) (max 0 (l[i].b + 2 - s)) (min l[i].b (p - s)) := by
  refine ⟨by omega, by omega, by omega, by omega, by omega, fun h => ?_⟩
  constructor
  · rintro ⟨a, b⟩
    refine ⟨by omega, by omega, fun j hj hj' => ?_⟩
    obtain rfl : j = i := by omega
    exact ⟨l[j], List.getElem?_eq_getElem hi, (held_iff _ _ _).2 (by omega)⟩
  · rintro ⟨a, b, hh⟩
    obtain ⟨x, hx, hv⟩ := hh i (Nat.le_refl _) (by omega)
    rw [List.getElem?_eq_getElem hi] at hx
    simp only [Option.some.injEq] at hx
    subst hx
    rw [held_iff] at hv
    omega

theorem Win.next {p s : Int} {l : List Tri} {i m : Nat} {lo hi : Int} (hw : Win p s l i m lo hi) (hm : m < l.length)
    (ho : max lo (max 0 (l[m].b + 2 - s)) ≤ min hi (min l[m].b (p - s))) : Win p s l i (m + 1) (max lo (max 0 (l[m].b + 2 - s))) (min hi (min l[m].b (p - s))) := by
  obtain ⟨h1, h2, h3, h4, h5, h6⟩ := hw
  refine ⟨by omega, by omega, by omega, by omega, ho, fun h => ?_⟩
  constructor
  · rintro ⟨a, b⟩
    obtain ⟨c1, c2, c3⟩ := (h6 h).1 ⟨by omega, by omega⟩
    refine ⟨c1, c2, fun j hj hj' => ?_⟩
    rcases Nat.lt_or_ge j m with hjm | hjm
    · exact c3 j hj hjm
    · obtain rfl : j = m := by omega
      exact ⟨l[j], List.getElem?_eq_getElem hm, (held_iff _ _ _).2 (by omega)⟩
  · rintro ⟨a, b, hh⟩
    obtain ⟨d1, d2⟩ := (h6 h).2 ⟨a, b, fun j hj hj' => hh j hj (by omega)⟩
    obtain ⟨x, hx, hv⟩ := hh m (by omega) (by omega)
    rw [List.getElem?_eq_getElem hm] at hx
    simp only [Option.some.injEq] at hx
    subst hx
    rw [held_iff] at hv
    omega


/-- the window is as long as can be -/
def WinEnd (p s : Int) (l : List Tri) (i m : Nat) (lo : Int) : Prop :=
  (∃ hi, Win p s l i m lo hi) ∧ (∀ hm : m < l.length, ∀ h : Int, 0 ≤ h → h ≤ p - s → (∀ j, i ≤ j → j < m → ∃ x, l[j]? = some x ∧ heldB h s x.b = true) → heldB h s l[m].b = false)

theorem WinEnd.all {p s : Int} {l : List Tri} {i m : Nat} {lo hi : Int} (hw : Win p s l i m lo hi) (hm : ¬ m < l.length) : WinEnd p s l i m lo := ⟨⟨hi, hw⟩, fun h => absurd h hm⟩
theorem WinEnd.shut {p s : Int} {l : List Tri} {i m : Nat} {lo hi : Int} (hw : Win p s l i m lo hi) (hm : m < l.length)
    (ho : ¬ max lo (max 0 (l[m].b + 2 - s)) ≤ min hi (min l[m].b (p - s))) : WinEnd p s l i m lo := by
  refine ⟨⟨hi, hw⟩, fun _ h a b hh => ?_⟩
  obtain ⟨d1, d2⟩ := (hw.2.2.2.2.2 h).2 ⟨a, b, hh⟩
  cases hv : heldB h s l[m].b
  · rfl
  · rw [held_iff] at hv
    omega

theorem WinEnd.held {p s : Int} {l : List Tri} {i m : Nat} {lo : Int} (hw : WinEnd p s l i m lo) (j : Nat) (hj : i ≤ j) (hj' : j < m) (hl : j < l.length) : heldB lo s l[j].b = true := by
  obtain ⟨⟨hi, h1, h2, h3, h4, h5, h6⟩, _⟩ := hw
  obtain ⟨_, _, c⟩ := (h6 lo).1 ⟨by omega, h5⟩
  obtain ⟨x, hx, hv⟩ := c j hj hj'
  rw [List.getElem?_eq_getElem hl] at hx
  simp only [Option.some.injEq] at hx
  subst hx
  exact hv
theorem WinEnd.next {p s : Int} {l : List Tri} {i m : Nat} {lo : Int} (hw : WinEnd p s l i m lo) (hm : m < l.length) : heldB lo s l[m].b = false := by
  obtain ⟨⟨hi, h1, h2, h3, h4, h5, h6⟩, h7⟩ := hw
  obtain ⟨c1, c2, c⟩ := (h6 lo).1 ⟨by omega, h5⟩
  exact h7 hm lo c1 c2 c

theorem WinEnd.best {p s : Int} {l : List Tri} {i m b : Nat} (hw : WinEnd p s l i m b) : bestUpto (fun h : Nat => runN (l.drop i) h s) (p - s + 1).toNat = b := by
  obtain ⟨⟨hi, h1, h2, h3, h4, h5, h6⟩, h7⟩ := hw
  have key : ∀ h : Int, 0 ≤ h → h ≤ p - s → (m - i ≤ runN (l.drop i) h s ↔ ((b : Int) ≤ h ∧ h ≤ hi)) := by
    intro h a a'
    rw [runN_ge, h6]
    constructor
    · intro hh
      refine ⟨a, a', fun j hj hj' => ?_⟩
      obtain ⟨x, hx, hv⟩ := hh (j - i) (by omega)
      rw [List.getElem?_drop, show i + (j - i) = j from by omega] at hx
      exact ⟨x, hx, hv⟩
    · rintro ⟨_, _, hh⟩ j hj
      obtain ⟨x, hx, hv⟩ := hh (i + j) (by omega) (by omega)
      exact ⟨x, by rw [List.getElem?_drop]; exact hx, hv⟩
  have hup : ∀ h : Int, 0 ≤ h → h ≤ p - s → runN (l.drop i) h s ≤ m - i := by
    intro h a a'
    rcases Nat.lt_or_ge (m - i) (runN (l.drop i) h s) with hgt | hle
    · have hh := (runN_ge (l := l.drop i) (h := h) (s := s) (m := m - i + 1)).1 (by omega)
      have hm : m < l.length := by
        obtain ⟨x, hx, _⟩ := hh (m - i) (by omega)
        rw [List.getElem?_drop, show i + (m - i) = m from by omega] at hx
        exact (List.getElem?_eq_some_iff.1 hx).1
      have hf := h7 hm h a a' (fun j hj hj' => by
        obtain ⟨x, hx, hv⟩ := hh (j - i) (by omega)
        rw [List.getElem?_drop, show i + (j - i) = j from by omega] at hx
        exact ⟨x, hx, hv⟩)
      obtain ⟨x, hx, hv⟩ := hh (m - i) (by omega)
      rw [List.getElem?_drop, show i + (m - i) = m from by omega, List.getElem?_eq_getElem hm] at hx
      simp only [Option.some.injEq] at hx
      subst hx
      rw [hf] at hv; cases hv
    · exact hle
  have hb : m - i ≤ runN (l.drop i) b s := (key b (by omega) (by omega)).2 ⟨by omega, h5⟩
  refine bestUpto_is _ b _ (by omega) (fun k hk => ?_) (fun k hk => ?_)
  · have := hup k (by omega) (by omega)
    show runN _ _ _ ≤ runN _ _ _
    omega
  · have := (not_congr (key k (by omega) (by omega))).2 (by omega)
    show runN _ _ _ < runN _ _ _
    omega
end Go.Proofs.YtogkgoabonbkkaaDoor
