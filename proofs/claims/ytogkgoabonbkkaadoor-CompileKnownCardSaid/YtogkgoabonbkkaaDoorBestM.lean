/- Best: what must be done before, and the order that is taken. -/
import Derived.Test.YtogkgoabonbkkaaDoorLevels
set_option linter.unusedSimpArgs false
set_option linter.unusedVariables false
namespace Go.Proofs.YtogkgoabonbkkaaDoor
open Go Go.RowKit Tor

def bitsUpto (f : Nat → Bool) : Nat → Nat
  | 0 => 0
  | k + 1 => if f k then bitsUpto f k ||| 2 ^ k else bitsUpto f k
theorem bitsUpto_lt (f : Nat → Bool) : ∀ k, bitsUpto f k < 2 ^ k
  | 0 => by simp [bitsUpto]
  | k + 1 => by
    have ih := bitsUpto_lt f k
    unfold bitsUpto
    have h : 2 ^ k < 2 ^ (k + 1) := Nat.pow_lt_pow_right (by omega) (by omega)
    split
    · exact Nat.or_lt_two_pow (by omega) h
    · omega
theorem bitsUpto_bit (f : Nat → Bool) : ∀ k i, (bitsUpto f k).testBit i = (decide (i < k) && f i)
  | 0, i => by simp [bitsUpto]
  | k + 1, i => by
    have ih := bitsUpto_bit f k i
    unfold bitsUpto
    by_cases hf : f k = true
    · rw [if_pos hf, Nat.testBit_or, ih, Nat.testBit_two_pow]
      by_cases e : k = i
      · subst e; simp [hf]
      · have : (i < k + 1) ↔ (i < k) := by omega
        simp [e, this]
    · rw [if_neg hf, ih]
      by_cases e : k = i
      · subst e; simp [hf]
      · have : (i < k + 1) ↔ (i < k) := by omega
        simp [this]
theorem bitsUpto_congr {f g : Nat → Bool} : ∀ k, (∀ i, i < k → f i = g i) → bitsUpto f k = bitsUpto g k
  | 0, _ => rfl
  | k + 1, h => by unfold bitsUpto; rw [h k (by omega), bitsUpto_congr k (fun i hi => h i (by omega))]

def touchAt (l : List Tri) (i k : Nat) : Bool := touchB (xAt l k).b (xAt l i).b

/-- what must be done before work i -/
def bfAt (l : List Tri) (i : Nat) : Nat := bitsUpto (touchAt l i) i
def bfL (l : List Tri) : List Nat := (List.range l.length).map (bfAt l)
theorem bfL_len (l : List Tri) : (bfL l).length = l.length := by simp [bfL]
theorem bfL_get {l : List Tri} {i : Nat} (hi : i < l.length) : (bfL l).getD i 0 = bfAt l i := by
  unfold bfL
  rw [List.getD_eq_getElem?_getD, List.getElem?_map, List.getElem?_range hi]; rfl
theorem bfAt_lt {l : List Tri} {i : Nat} (hi : i < 10) : bfAt l i < 1024 := Nat.lt_of_lt_of_le (bitsUpto_lt _ i) (Nat.le_trans (Nat.pow_le_pow_right (by omega) (show i ≤ 10 by omega)) (by decide))

section
variable (p s : Int) (l : List Tri) (bf : List Nat)
/-- the first work with which the fewest reaches are left -/
def pick (d : Nat) (lo hi : Int) : Option Nat := (List.range l.length).find? fun i => decide (cost p s l bf d lo hi i = some (few p s l bf d lo hi))

/-- the order that is taken -/
def bsel : Nat → Nat → Int → Int → List Nat
  | 0, _, _, _ => []
  | k + 1, d, lo, hi => match pick p s l bf d lo hi with
    | some i => i :: bsel k (d ||| 2 ^ i) (nlo s (xAt l i) lo (joinB p s (xAt l i) lo hi)) (nhi p s (xAt l i) hi (joinB p s (xAt l i) lo hi))
    | none => []
end
variable {p s : Int} {l : List Tri} {bf : List Nat}

theorem minUpto_le {g : Nat → Option Int} {n0 : Int} : ∀ {j i : Nat} {x : Int}, i < j → g i = some x → minUpto g n0 j ≤ x
  | 0, _, _, h, _ => absurd h (by omega)
  | j + 1, i, x, h, hg => by
    unfold minUpto
    by_cases e : i = j
    · subst e; rw [hg]; simp only; omega
    · have := minUpto_le (g := g) (n0 := n0) (j := j) (i := i) (by omega) hg
      cases hj : g j with
      | none => exact this
      | some y => simp only; omega
theorem minUpto_at {g : Nat → Option Int} {n0 : Int} : ∀ {j : Nat}, minUpto g n0 j = n0 ∨ ∃ i, i < j ∧ g i = some (minUpto g n0 j)
  | 0 => Or.inl rfl
  | j + 1 => by
    unfold minUpto
    have ih := minUpto_at (g := g) (n0 := n0) (j := j)
    cases hj : g j with
    | none =>
      rcases ih with h | ⟨i, hi, h⟩
      · exact Or.inl h
      · exact Or.inr ⟨i, by omega, h⟩
    | some y =>
      simp only
      by_cases hy : y ≤ minUpto g n0 j
      · exact Or.inr ⟨j, by omega, by rw [hj]; congr 1; omega⟩
      · have e : min (minUpto g n0 j) y = minUpto g n0 j := by omega
        rw [e]
        rcases ih with h | ⟨i, hi, h⟩
        · exact Or.inl h
        · exact Or.inr ⟨i, by omega, h⟩


/-- only what comes earlier must be done before -/
def BfOk (l : List Tri) (bf : List Nat) : Prop := ∀ i k, i < l.length → (bf.getD i 0).testBit k = true → k < i
theorem bfL_ok (l : List Tri) : BfOk l (bfL l) := fun i k hi h => by
  rw [bfL_get hi, bfAt, bitsUpto_bit] at h
  simp only [Bool.and_eq_true, decide_eq_true_eq] at h
  exact h.1

theorem exists_free (hb : BfOk l bf) (hbits : ∀ k, k < l.length → bf.getD k 0 < 1024) (h10 : l.length ≤ 10) {d : Nat} (hd : d < 2 ^ l.length) (h : d ≠ 2 ^ l.length - 1) : ∃ i, i < l.length ∧ freeB bf d i = true := by
  have hp := zeros_pos hd h
  unfold zeros at hp
  cases hf : (List.range l.length).filter (fun i => !d.testBit i) with
  | nil => rw [hf] at hp; simp at hp
  | cons i r =>
    obtain ⟨h1, h2, h3, _⟩ := filter_head hf
    refine ⟨i, h2, ?_⟩
    unfold freeB
    simp only [Bool.not_eq_true'] at h1
    have hd2 := two_pow_le h10
    have hbi := hbits i h2
    have hz : dif (bf.getD i 0) d = 0 := (dif_zero (by omega) (by omega)).2 fun k hk => by
      have := h3 k (hb i k h2 hk)
      simpa using this
    rw [h1, hz]
    rfl

theorem cost_def {d : Nat} {lo hi : Int} {i : Nat} (hf : freeB bf d i = true) : cost p s l bf d lo hi i = some (nn (joinB p s (xAt l i) lo hi) + few p s l bf (d ||| 2 ^ i) (nlo s (xAt l i) lo (joinB p s (xAt l i) lo hi)) (nhi p s (xAt l i) hi (joinB p s (xAt l i) lo hi))) := by
  unfold cost
  rw [if_pos hf]
theorem few_zeros (hb : BfOk l bf) (hbits : ∀ k, k < l.length → bf.getD k 0 < 1024) (h10 : l.length ≤ 10) : ∀ (k d : Nat) (lo hi : Int), zeros l.length d = k → d < 2 ^ l.length → few p s l bf d lo hi ≤ k := by
  intro k
  induction k with
  | zero =>
    intro d lo hi hz hd
    rw [few_full (zeros_full hd hz)]
    exact Int.le_refl _
  | succ k ih =>
    intro d lo hi hz hd
    by_cases h : d = 2 ^ l.length - 1
    · rw [few_full h]; omega
    · obtain ⟨i, hi', hf⟩ := exists_free hb hbits h10 hd h
      rw [few_eq hd h]
      have hz2 := zeros_or hi' (freeB_bit hf)
      have hc := cost_def (p := p) (s := s) (l := l) (lo := lo) (hi := hi) hf
      have h1 := minUpto_le (n0 := (l.length : Int)) hi' hc
      have h2 := ih (d ||| 2 ^ i) (nlo s (xAt l i) lo (joinB p s (xAt l i) lo hi)) (nhi p s (xAt l i) hi (joinB p s (xAt l i) lo hi)) (by omega) (Nat.or_lt_two_pow hd (Nat.pow_lt_pow_right (by omega) hi'))
      have h3 := nn_bd (joinB p s (xAt l i) lo hi)
      omega

theorem pick_some (hb : BfOk l bf) (hbits : ∀ k, k < l.length → bf.getD k 0 < 1024) (h10 : l.length ≤ 10) {d : Nat} {lo hi : Int} (hd : d < 2 ^ l.length) (h : d ≠ 2 ^ l.length - 1) : ∃ i, pick p s l bf d lo hi = some i := by
  have hz := few_zeros (p := p) (s := s) hb hbits h10 (zeros l.length d) d lo hi rfl hd
  obtain ⟨i, hi', hf⟩ := exists_free hb hbits h10 hd h
  have hz2 := zeros_or hi' (freeB_bit hf)
  have hex : ∃ i, i < l.length ∧ cost p s l bf d lo hi i = some (few p s l bf d lo hi) := by
    rw [few_eq hd h]
    rcases minUpto_at (g := cost p s l bf d lo hi) (n0 := (l.length : Int)) (j := l.length) with e | ⟨i, h1, h2⟩
    · refine ⟨i, hi', ?_⟩
      have hc := cost_def (p := p) (s := s) (l := l) (lo := lo) (hi := hi) hf
      have h1 := minUpto_le (n0 := (l.length : Int)) hi' hc
      have h2 := few_zeros (p := p) (s := s) hb hbits h10 _ (d ||| 2 ^ i) (nlo s (xAt l i) lo (joinB p s (xAt l i) lo hi)) (nhi p s (xAt l i) hi (joinB p s (xAt l i) lo hi)) rfl (Nat.or_lt_two_pow hd (Nat.pow_lt_pow_right (by omega) hi'))
      have h3 := nn_bd (joinB p s (xAt l i) lo hi)
      have h4 := zeros_le l.length d
      rw [hc, e]
      congr 1
      omega
    · exact ⟨i, h1, h2⟩
  obtain ⟨i, h1, h2⟩ := hex
  cases hp : pick p s l bf d lo hi with
  | some j => exact ⟨j, rfl⟩
  | none =>
    unfold pick at hp
    rw [List.find?_eq_none] at hp
    exact absurd h2 (by simpa using hp i (by simpa using h1))
theorem pick_spec {d : Nat} {lo hi : Int} {i : Nat} (h : pick p s l bf d lo hi = some i) : i < l.length ∧ cost p s l bf d lo hi i = some (few p s l bf d lo hi) ∧ ∀ j, j < i → cost p s l bf d lo hi j ≠ some (few p s l bf d lo hi) := by
  unfold pick at h
  rw [List.find?_range_eq_some] at h
  exact ⟨by simpa using h.2.1, by simpa using h.1, fun j hj => by simpa using h.2.2 j hj⟩
theorem cost_isfree {d : Nat} {lo hi : Int} {i : Nat} {x : Int} (h : cost p s l bf d lo hi i = some x) : freeB bf d i = true := by
  unfold cost at h
  by_cases hf : freeB bf d i = true
  · exact hf
  · rw [if_neg hf] at h; cases h
end Go.Proofs.YtogkgoabonbkkaaDoor
