/- Plain: a reduced word is a word and no longer than the word; plain sheets are sheets. -/
import Derived.Test.YtfnklchhhojimaaFaultM
import Derived.Test.YtfnklchhhojimaaRedM
set_option linter.unusedSimpArgs false
set_option linter.unusedVariables false
namespace Go.Proofs.Ytfnklchhhojimaa
open Go Go.RowKit Tor

theorem repZ_letter {c : UInt8} (h : isLetter c = true) (n : Int) : ∀ d ∈ repZ c n, isLetter d = true := fun d hd => by
  have := (List.mem_replicate.1 hd).2
  rw [this]; exact h
theorem write_letter (x : Syl) : ∀ d ∈ x.write, isLetter d = true := by
  unfold Syl.write
  split
  · intro d hd; simp at hd; subst hd; decide
  · unfold Syl.mid twistW
    intro d hd
    simp only [List.mem_append] at hd
    rcases hd with (hd | hd) | ((((hd | hd) | hd) | hd) | hd) | hd
    all_goals exact repZ_letter (by decide) _ d hd
theorem writeAll_letter (st : List Syl) : ∀ d ∈ writeAll st, isLetter d = true := by
  intro d hd
  obtain ⟨x, _, h⟩ := List.mem_flatMap.1 hd
  exact write_letter x d h


/-- how many letters a syllable is written with -/
def wtS (x : Syl) : Nat := if x.pin = true then 1 else x.m.natAbs + max (max x.l.natAbs x.r.natAbs) (x.l - x.r).natAbs
theorem write_wt (x : Syl) : x.write.length = wtS x := by
  unfold Syl.write wtS
  split
  · rfl
  · unfold Syl.mid twistW repZ signT
    rw [bothT_spec]
    simp only [List.length_append, List.length_replicate]
    (repeat' split) <;> omega
def wts (st : List Syl) : Nat := (st.map wtS).sum
theorem wts_cons (x : Syl) (r : List Syl) : wts (x :: r) = wtS x + wts r := by simp [wts]
theorem writeAll_wt : ∀ st : List Syl, (writeAll st).length = wts st
  | [] => rfl
  | x :: r => by rw [writeAll_cons, List.length_append, writeAll_wt r, write_wt, wts_cons]; omega
theorem wt_twist (x : Syl) (a b : Int) (h : (a = 0 ∨ a = 1 ∨ a = -1) ∧ (b = 0 ∨ b = 1 ∨ b = -1) ∧ (a = 0 ∨ b = 0 ∨ a = b)) : wtS ⟨x.m, x.l + a, x.r + b, x.pin⟩ ≤ wtS x + 1 := by
  unfold wtS
  simp only
  split
  · omega
  · omega
theorem tw_pair (c : UInt8) : (twL c = 0 ∨ twL c = 1 ∨ twL c = -1) ∧ (twR c = 0 ∨ twR c = 1 ∨ twR c = -1) ∧ (twL c = 0 ∨ twR c = 0 ∨ twL c = twR c) := by
  unfold twL twR
  by_cases h1 : c = 76
  · subst h1; decide
  by_cases h2 : c = 84
  · subst h2; decide
  by_cases h3 : c = 108
  · subst h3; decide
  by_cases h4 : c = 116
  · subst h4; decide
  simp only [h1, h2, h3, h4, or_self, or_false, if_false, true_or, true_and]
  by_cases h5 : c = 82
  · subst h5; decide
  by_cases h6 : c = 114
  · subst h6; decide
  simp [h5, h6]
theorem wts_step (st : List Syl) (c : UInt8) : wts (sylStep st c) ≤ wts st + 1 := by
  unfold sylStep
  split
  · simp [wts_cons, wtS]; omega
  · cases st with
    | nil => simp [wts]
    | cons y r =>
      have hm := (tw_in c).2.1
      simp only
      split
      · rw [wts_cons, wts_cons]
        have := wt_twist y _ _ (tw_pair c)
        omega
      · split
        · split
          · rw [wts_cons]; omega
          · rw [wts_cons, wts_cons]
            have : wtS ⟨y.m + twM c, y.l, y.r, y.pin⟩ ≤ wtS y + 1 := by
              unfold wtS; simp only
              split <;> omega
            omega
        · rw [wts_cons]
          have : wtS ⟨twM c, 0, 0, false⟩ ≤ 1 := by
            unfold wtS; simp only [Bool.false_eq_true, if_false]; omega
          omega
theorem wts_fold : ∀ (s : List UInt8) (st : List Syl), wts (s.foldl sylStep st) ≤ wts st + s.length
  | [], st => by simp
  | c :: s, st => by
    have := wts_fold s (sylStep st c)
    have := wts_step st c
    simp only [List.foldl_cons, List.length_cons]; omega
theorem redW_size (s : ByteArray) : (redW s).size ≤ s.size := by
  have h1 : (redW s).size = (writeAll (sylOf s.data.toList)).length := by rw [← bsize]; rfl
  have h2 := wts_fold s.data.toList [⟨0, 0, 0, false⟩]
  rw [h1, writeAll_wt]
  unfold sylOf
  rw [bsize] at h2
  have h3 : wts [⟨0, 0, 0, false⟩] = 0 := rfl
  omega
theorem redW_ok {s : ByteArray} (h : wordE s = 0) : wordE (redW s) = 0 := by
  have h1 := redW_size s
  have h2 := wordE_size h
  unfold wordE
  rw [if_neg (by omega), if_pos]
  rw [List.all_eq_true]
  exact writeAll_letter _
theorem redW_empty : redW .empty = .empty := rfl

theorem plainL_len (l : List Tri) : (plainL l).length ≤ l.length := by
  unfold plainL
  refine Nat.le_trans (List.length_filter_le _ _) (by simp)
theorem plainL_snoc (l : List Tri) (x : Tri) : plainL (l ++ [x]) = plainL l ++ (if (redW x.s).size ≠ 0 ∨ x.a = 2 then [⟨x.a, x.b, redW x.s⟩] else []) := by
  unfold plainL
  rw [List.map_append, List.filter_append]
  congr 1
  by_cases h : (redW x.s).size ≠ 0 ∨ x.a = 2
  · rw [if_pos h, List.map_cons, List.map_nil, List.filter_cons, if_pos (by simpa using h), List.filter_nil]
  · rw [if_neg h, List.map_cons, List.map_nil, List.filter_cons, if_neg (by simpa using h), List.filter_nil]
theorem plain_wok {p : Int} {l : List Tri} (h : ∀ x ∈ l, WOk p x) : ∀ x ∈ plainL l, WOk p x := by
  intro x hx
  unfold plainL at hx
  obtain ⟨y, hy, rfl⟩ := List.mem_map.1 (List.mem_filter.1 hx).1
  have hy := h y hy
  exact ⟨hy.k, hy.b0, hy.b1, fun h2 => by have h3 := redW_size y.s; have h4 := hy.e h2; simp only at h4 ⊢; omega, redW_ok hy.w⟩
end Go.Proofs.Ytfnklchhhojimaa
