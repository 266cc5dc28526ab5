/- Plain: the rows of a sheet to which a work is appended. -/
import Derived.Test.YtoccplfnjammjaaGreatDoorDTrA
set_option linter.unusedSimpArgs false
set_option linter.unusedVariables false
namespace Go.Proofs.YtoccplfnjammjaaGreatDoor
open Go Go.RowKit Tor

section
variable {l : List Tri} {x : Tri}
theorem xAt_snoc_lt {i : Nat} (h : i < l.length) : xAt (l ++ [x]) i = xAt l i := by
  rw [xAt_of (by simp; omega), xAt_of h]
  exact List.getElem_append_left h
theorem xAt_snoc_eq : xAt (l ++ [x]) l.length = x := by rw [xAt_of (by simp)]; simp
theorem levL_snoc_le : ∀ k, k ≤ l.length → levL (l ++ [x]) k = levL l k
  | 0, _ => rfl
  | k + 1, h => by
    rw [levL, levL, levL_snoc_le k (by omega)]
    congr 2
    unfold levAt
    congr 1
    apply List.map_congr_left
    intro j hj
    have hj' : j < k := List.mem_range.1 hj
    rw [xAt_snoc_lt (by omega), xAt_snoc_lt (by omega)]
/-- the row of a work that is appended -/
def growR (l : List Tri) (x : Tri) : Nat := supL ((List.range l.length).map fun k => if touchB (xAt l k).b x.b = true then lv l k + 1 else 0)
theorem levL_snoc : levL (l ++ [x]) (l ++ [x]).length = levL l l.length ++ [growR l x] := by
  rw [List.length_append, List.length_singleton, levL, levL_snoc_le _ (Nat.le_refl _)]
  congr 2
  unfold levAt growR
  congr 1
  apply List.map_congr_left
  intro j hj
  have hj' : j < l.length := List.mem_range.1 hj
  rw [xAt_snoc_lt hj', xAt_snoc_eq]
  rfl
theorem rowsS_snoc_len (p : Nat) : (rowsS p (l ++ [x])).length = max (rowsS p l).length (growR l x + 1) := by
  unfold rowsS
  rw [List.length_map, List.length_range, List.length_map, List.length_range, levL_snoc, rowsN_snoc]
theorem rowsS_get (p : Nat) (l : List Tri) (n : Nat) : (rowsS p l).getD n [] = if n < (rowsS p l).length then rowS p l (levL l l.length) n else [] := by
  rw [List.getD_eq_getElem?_getD]
  split
  · rename_i h
    rw [List.getElem?_eq_getElem h]
    have e : (rowsS p l)[n]? = some (rowS p l (levL l l.length) n) := by
      unfold rowsS at h ⊢
      rw [List.getElem?_map, List.getElem?_range (by simpa using h)]
      rfl
    rw [List.getElem?_eq_getElem h] at e
    rw [Option.some.inj e]
    rfl
  · rename_i h
    rw [List.getElem?_eq_none (by omega)]; rfl
theorem rowS_out (p : Nat) (l : List Tri) {n : Nat} (h : (rowsS p l).length ≤ n) : rowS p l (levL l l.length) n = [] := by
  refine List.eq_nil_iff_forall_not_mem.2 fun i hi => ?_
  have hm := rowS_mem.1 hi
  rw [levL_len] at hm
  have := lev_lt_rows l hm.1
  unfold rowsS at h
  rw [List.length_map, List.length_range] at h
  omega
theorem rowsS_getS (p : Nat) (l : List Tri) (n : Nat) : (rowsS p l).getD n [] = rowS p l (levL l l.length) n := by
  rw [rowsS_get]
  split
  · rfl
  · rename_i h; rw [rowS_out p l (by omega)]
theorem row_left (p : Nat) (n : Nat) : ((rowsS p (l ++ [x])).getD n []).filter (fun i => decide (i ≠ l.length)) = (rowsS p l).getD n [] := by
  rw [rowsS_getS, rowsS_getS, levL_snoc]
  unfold rowS
  rw [List.filter_flatMap]
  congr 1
  funext t
  have hlen : (levL l l.length ++ [growR l x]).length = l.length + 1 := by rw [List.length_append, levL_len]; rfl
  rw [hlen, levL_len, List.range_succ, List.filter_append, List.filter_append, List.filter_filter]
  have e2 : (List.filter (fun i => decide (i ≠ l.length)) (List.filter (fun i => (levL l l.length ++ [growR l x]).getD i 0 == n && decide ((xAt (l ++ [x]) i).b = (t : Int))) [l.length])) = [] := by
    refine List.filter_eq_nil_iff.2 fun i hi => ?_
    have := (List.mem_filter.1 hi).1
    simp at this
    simp [this]
  rw [e2, List.append_nil]
  apply List.filter_congr
  intro i hi
  have hi' : i < l.length := List.mem_range.1 hi
  rw [xAt_snoc_lt hi', List.getD_eq_getElem?_getD, List.getD_eq_getElem?_getD, List.getElem?_append_left (by rw [levL_len]; exact hi')]
  have : decide (i ≠ l.length) = true := by simp; omega
  rw [this, Bool.true_and]
theorem row_new {p : Nat} {t : Nat} (ht : t < p) (hx : x.b = (t : Int)) (n : Nat) : l.length ∈ (rowsS p (l ++ [x])).getD n [] ↔ n = growR l x := by
  rw [rowsS_getS, levL_snoc, rowS_mem, xAt_snoc_eq]
  have e : (levL l l.length ++ [growR l x]).getD l.length 0 = growR l x := by
    rw [List.getD_eq_getElem?_getD, List.getElem?_append_right (by rw [levL_len]; exact Nat.le_refl _)]
    rw [levL_len]; simp
  rw [e, List.length_append, levL_len]
  constructor
  · rintro ⟨_, h, _⟩; exact h.symm
  · rintro rfl; exact ⟨by simp, rfl, t, ht, hx⟩
end
/-- the row behind some works of the rows, as it is met -/
def metR (l : List Tri) (x : Tri) (I : List Nat) : Nat := supL (I.map fun k => if touchB (xAt l k).b x.b = true then lv l k + 1 else 0)
theorem metR_snoc (l : List Tri) (x : Tri) (I : List Nat) (k : Nat) : metR l x (I ++ [k]) = max (metR l x I) (if touchB (xAt l k).b x.b = true then lv l k + 1 else 0) := by
  unfold metR; rw [List.map_append]; exact supL_snoc _ _
theorem supL_perm {a b : List Nat} (h : a.Perm b) : supL a = supL b := Nat.le_antisymm (supL_le.2 fun x hx => le_supL (h.mem_iff.1 hx)) (supL_le.2 fun x hx => le_supL (h.mem_iff.2 hx))
theorem metR_all {p : Nat} {l : List Tri} (h : InP p l) (x : Tri) : metR l x (rowsS p l).flatten = growR l x := supL_perm ((rows_flat_perm h).map _)
/-- the row so far: rows before n, and the first i works of row n -/
def metN (p : Nat) (l : List Tri) (x : Tri) (n i : Nat) : Nat := metR l x (((rowsS p l).take n).flatten ++ ((rowsS p l).getD n []).take i)
theorem metN_le (p : Nat) (l : List Tri) (x : Tri) (n i : Nat) : metN p l x n i ≤ n + 1 := by
  unfold metN metR
  refine supL_le.2 fun y hy => ?_
  obtain ⟨k, hk, rfl⟩ := List.mem_map.1 hy
  split
  · have : lv l k ≤ n := by
      rcases List.mem_append.1 hk with hk | hk
      · obtain ⟨r, hr, hkr⟩ := List.mem_flatten.1 hk
        obtain ⟨j, hj, rfl⟩ := List.getElem_of_mem hr
        rw [List.getElem_take] at hkr
        have hjn : j < n ∧ j < (rowsS p l).length := by rw [List.length_take] at hj; omega
        have e : (rowsS p l)[j] = (rowsS p l).getD j [] := by rw [List.getD_eq_getElem?_getD, List.getElem?_eq_getElem hjn.2]; rfl
        rw [e, rowsS_getS] at hkr
        have := (rowS_mem.1 hkr).2.1
        unfold lv
        omega
      · have h2 := List.mem_of_mem_take hk
        rw [rowsS_getS] at h2
        have := (rowS_mem.1 h2).2.1
        unfold lv
        omega
    omega
  · omega
theorem metN_zero (p : Nat) (l : List Tri) (x : Tri) : metN p l x 0 0 = 0 := rfl
theorem metN_step (p : Nat) (l : List Tri) (x : Tri) (n i : Nat) (hi : i < ((rowsS p l).getD n []).length) : metN p l x n (i + 1) = if touchB (xAt l ((rowsS p l).getD n [])[i]).b x.b = true then n + 1 else metN p l x n i := by
  have hlv : lv l ((rowsS p l).getD n [])[i] = n := by
    have h2 : ((rowsS p l).getD n [])[i] ∈ rowS p l (levL l l.length) n := by rw [← rowsS_getS]; exact List.getElem_mem hi
    exact (rowS_mem.1 h2).2.1
  have h1 := metN_le p l x n i
  have e : metN p l x n (i + 1) = max (metN p l x n i) (if touchB (xAt l ((rowsS p l).getD n [])[i]).b x.b = true then lv l ((rowsS p l).getD n [])[i] + 1 else 0) := by
    unfold metN
    rw [← metR_snoc, take_snoc _ i hi, List.append_assoc]
  rw [e, hlv]
  split <;> omega
theorem metN_next (p : Nat) (l : List Tri) (x : Tri) (n i : Nat) (hn : n < (rowsS p l).length) (hi : ((rowsS p l).getD n []).length ≤ i) : metN p l x (n + 1) 0 = metN p l x n i := by
  unfold metN
  have e : (rowsS p l)[n] = (rowsS p l).getD n [] := by rw [List.getD_eq_getElem?_getD, List.getElem?_eq_getElem hn]; rfl
  rw [List.take_zero, List.append_nil, take_snoc _ n hn, List.flatten_append, List.take_of_length_le hi, e]
  simp
theorem metN_end {p : Nat} {l : List Tri} (h : InP p l) (x : Tri) : metN p l x (rowsS p l).length 0 = growR l x := by
  unfold metN
  rw [List.take_zero, List.append_nil, List.take_length, metR_all h]
theorem okD_words {p : Nat} {l : List Tri} (h : OkD p l) : ∀ (k : Nat) (hk : k < l.length), l[k].s.size ≤ 16 := fun k hk => by
  have h1 := (chk_parts h.chk).1
  simp only [not_or] at h1
  have := any_not (by simpa using h1.2.2) k hk
  simpa [longW] using this
theorem chk_of {p : Int} {l : List Tri} (h : ¬ (24 < p ∨ 400 < l.length ∨ l.any longW = true) ∧ ¬ p < 2 ∧ ¬ l.any (badW p) = true ∧ ¬ l.any wrongW = true) : sheetE p l = 0 := by
  unfold sheetE
  rw [if_neg h.1, if_neg h.2.1, if_neg h.2.2.1, if_neg h.2.2.2]
/-- a work is appended to a sheet -/
theorem okD_snoc {p : Nat} {l : List Tri} {x : Tri} {q : Nat} (h : OkD p l) (hl : l.length < 400) (hb : x.b = (q : Int)) (hq : q + 1 < p) (hw : (x.a = 1 ∨ x.a = 2) ∧ (x.a = 2 → x.s.size = 0) ∧ wordE x.s = 0) : OkD p (l ++ [x]) := by
  obtain ⟨g1, g2, g3, g4⟩ := chk_parts h.chk
  have hs : x.s.size ≤ 16 := by
    have := hw.2.2
    unfold wordE at this
    split at this
    · cases this
    · omega
  have n1 : longW x = false := by unfold longW; simp; omega
  have n2 : badW p x = false := by
    unfold badW
    simp only [Bool.or_eq_false_iff, decide_eq_false_iff_not]
    refine ⟨⟨⟨?_, ?_⟩, ?_⟩, ?_⟩
    · rcases hw.1 with e | e <;> omega
    · omega
    · omega
    · rintro ⟨e1, e2⟩; exact e2 (hw.2.1 e1)
  have n3 : wrongW x = false := by unfold wrongW; simp [hw.2.2]
  refine ⟨chk_of ⟨?_, g2, ?_, ?_⟩, h.p2, h.p24, fun k hk => ?_, by simp; omega⟩
  · have := h.p24
    rintro (e | e | e)
    · omega
    · simp at e; omega
    · rw [List.any_append, List.any_cons, n1] at e
      exact g1 (.inr (.inr (by simpa using e)))
  · rw [List.any_append, List.any_cons, n2]; simpa using g3
  · rw [List.any_append, List.any_cons, n3]; simpa using g4
  · by_cases hkl : k < l.length
    · rw [List.getElem_append_left hkl]; exact h.bd k hkl
    · have e : k = l.length := by simp at hk; omega
      subst e
      simp only [List.getElem_concat_length]
      omega
end Go.Proofs.YtoccplfnjammjaaGreatDoor
