/- Plain: all faults, as the program and as the reference list them. -/
import Derived.Test.YtblifdchofihoaaAllM
set_option linter.unusedSimpArgs false
set_option linter.unusedVariables false
namespace Go.Proofs.Ytblifdchofihoaa
open Go Go.RowKit Tor

/-- is a fault accepted? -/
def okF (p s : Int) (l : List Tri) (f : Flt) : Bool := decide ((accF p s l f).2 = 0)
theorem okF_parts {p s : Int} {l : List Tri} {f : Flt} (h : okF p s l f = true) : shapedF f = true ∧ fitsF l f = true ∧ ¬ (f.k = 2 ∧ (xAt l f.st.toNat).s.size = 16) ∧ (sheetR p s (putF l f)).2.2.2 = 0 := by
  have h := of_decide_eq_true h
  unfold accF at h
  split at h
  · cases h
  · split at h
    · cases h
    · split at h
      · cases h
      · split at h
        · cases h
        · rename_i a1 a2 a3 a4
          exact ⟨by simpa using a1, by simpa using a2, a3, by simpa using a4⟩
/-- the numbers -1 to 127 -/
def withsR : List Int := (List.range 129).map fun j : Nat => (j : Int) - 1
def kindsR : List Int := [1, 2, 3, 4, 5, 6]
/-- the faults of a step, of a kind, of a letter -/
def refN (p s : Int) (l : List Tri) (i : Nat) (k : Int) (n : Nat) : List Flt := (withsR.map fun w => (⟨k, i, n, w⟩ : Flt)).filter (okF p s l)
def refK (p s : Int) (l : List Tri) (i : Nat) (k : Int) : List Flt := (List.range ((xAt l i).s.size + 1)).flatMap fun n => refN p s l i k n
def refI (p s : Int) (l : List Tri) (i : Nat) : List Flt := kindsR.flatMap fun k => refK p s l i k
def allF (p s : Int) (l : List Tri) : List Flt := (List.range l.length).flatMap fun i => refI p s l i
def proN (p s : Int) (l : List Tri) (i : Nat) (k : Int) (n : Nat) : List Flt := ((withsL k).map fun w => (⟨k, i, n, w⟩ : Flt)).filter (okF p s l)
def proK (p s : Int) (l : List Tri) (i : Nat) (k : Int) : List Flt := (List.range (letsF k (xAt l i)).toNat).flatMap fun n => proN p s l i k n

theorem withs_in : ∀ k ∈ kindsR, withsR.filter (fun w => decide (w ∈ withsL k)) = withsL k := by decide
theorem shaped_withs {f : Flt} (h : shapedF f = true) : f.wi ∈ withsL f.k ∧ f.k ∈ kindsR ∧ (4 ≤ f.k → f.lt = 0) := by
  obtain ⟨k, st, lt, wi⟩ := f
  unfold shapedF at h
  simp only at h ⊢
  by_cases h1 : k = 1 ∨ k = 3
  · rw [if_pos h1] at h
    have := of_decide_eq_true h
    subst this
    rcases h1 with rfl | rfl <;> exact ⟨by decide, by decide, by omega⟩
  · rw [if_neg h1] at h
    by_cases h2 : k = 2
    · rw [if_pos h2] at h
      subst h2
      have := of_decide_eq_true h
      refine ⟨?_, by decide, by omega⟩
      simp only [faultLetters, List.mem_cons, List.not_mem_nil, or_false] at this
      rcases this with rfl | rfl | rfl | rfl | rfl | rfl | rfl | rfl | rfl <;> decide
    · rw [if_neg h2] at h
      by_cases h3 : k = 4 ∨ k = 6
      · rw [if_pos h3] at h
        have := of_decide_eq_true h
        obtain ⟨rfl, rfl⟩ := this
        rcases h3 with rfl | rfl <;> exact ⟨by decide, by decide, fun _ => rfl⟩
      · rw [if_neg h3] at h
        by_cases h4 : k = 5
        · rw [if_pos h4] at h
          subst h4
          obtain ⟨rfl, h5⟩ := of_decide_eq_true h
          rcases h5 with rfl | rfl <;> exact ⟨by decide, by decide, fun _ => rfl⟩
        · rw [if_neg h4] at h; cases h
theorem refN_eq {p s : Int} {l : List Tri} {i n : Nat} {k : Int} (hk : k ∈ kindsR) : refN p s l i k n = proN p s l i k n := by
  unfold refN proN
  rw [← withs_in k hk, List.filter_map, List.filter_map, List.filter_filter]
  congr 1
  refine List.filter_congr fun w _ => ?_
  cases h : ((okF p s l) ∘ fun w => (⟨k, i, n, w⟩ : Flt)) w
  · rfl
  · have := (shaped_withs (okF_parts h).1).1
    simp only at this
    simp [this]
/-- where a letter lies of a fault that is accepted -/
theorem ok_letter {p s : Int} {l : List Tri} {i n : Nat} {k w : Int} (h : okF p s l ⟨k, i, n, w⟩ = true) : (n : Int) < letsF k (xAt l i) := by
  obtain ⟨h1, h2, _, _⟩ := okF_parts h
  obtain ⟨_, h3, h4⟩ := shaped_withs h1
  simp only [kindsR, List.mem_cons, List.not_mem_nil, or_false] at h3 h4
  unfold fitsF at h2
  simp only [Bool.and_eq_true, Int.toNat_natCast] at h2
  have h2 := h2.2
  unfold letsF
  rcases h3 with rfl | rfl | rfl | rfl | rfl | rfl
  · simp at h2 ⊢; omega
  · simp at h2 ⊢; rw [if_pos h2.1]; omega
  · simp at h2 ⊢; omega
  · have := h4 (by omega); simp; omega
  · have := h4 (by omega); simp; omega
  · have := h4 (by omega); simp; omega
theorem lets_le (k : Int) (x : Tri) : (letsF k x).toNat ≤ x.s.size + 1 := by
  unfold letsF
  (repeat' split) <;> omega
theorem flat_short {α : Type} {g : Nat → List α} {a b : Nat} (hab : a ≤ b) (h : ∀ n, a ≤ n → g n = []) : (List.range b).flatMap g = (List.range a).flatMap g := by
  obtain ⟨d, rfl⟩ : ∃ d, b = a + d := ⟨b - a, by omega⟩
  rw [List.range_eq_range', List.range_eq_range', ← List.range'_append_1 (s := 0) (m := a), List.flatMap_append]
  have : (List.range' (0 + a) d).flatMap g = [] := by
    rw [List.flatMap_eq_nil_iff]
    intro n hn
    have := (List.mem_range'_1.1 hn).1
    exact h n (by omega)
  rw [this, List.append_nil]
theorem refK_eq {p s : Int} {l : List Tri} {i : Nat} {k : Int} (hk : k ∈ kindsR) : refK p s l i k = proK p s l i k := by
  unfold refK proK
  have e : (fun n => refN p s l i k n) = fun n => proN p s l i k n := funext fun n => refN_eq hk
  rw [e]
  refine flat_short (lets_le _ _) fun n hn => ?_
  unfold proN
  refine List.filter_eq_nil_iff.2 fun f hf hok => ?_
  obtain ⟨w, _, rfl⟩ := List.mem_map.1 hf
  have := ok_letter hok
  omega
/-- all faults, as the program lists them -/
theorem allF_eq (p s : Int) (l : List Tri) : allF p s l = (List.range l.length).flatMap fun i => kindsR.flatMap fun k => proK p s l i k := by
  unfold allF refI
  congr 1
  funext i
  rw [List.flatMap_def, List.flatMap_def]
  congr 1
  exact List.map_congr_left fun k hk => refK_eq hk
def allR (p s : Int) (l : List Tri) : List Flt × Int := if (sheetR p s l).2.2.2 ≠ 0 then ([], (sheetR p s l).2.2.2) else if 20000 < (allF p s l).length then ([], 5) else (allF p s l, 0)
end Go.Proofs.Ytblifdchofihoaa
