/- Plain: how the works stand in their rows. -/
import Derived.Test.YtoccplfnjammjaaGreatDoorDTrA
set_option linter.unusedSimpArgs false
set_option linter.unusedVariables false
namespace Go.Proofs.YtoccplfnjammjaaGreatDoor
open Go Go.RowKit Tor

theorem rowsS_at (p : Nat) (l : List Tri) {n : Nat} (hn : n < (rowsS p l).length) : (rowsS p l)[n] = rowS p l (levL l l.length) n := by
  have e : (rowsS p l)[n]? = some (rowS p l (levL l l.length) n) := by
    unfold rowsS at hn ⊢
    rw [List.getElem?_map, List.getElem?_range (by simpa using hn)]
    rfl
  rw [List.getElem?_eq_getElem hn] at e
  exact Option.some.inj e
/-- each work of another row than the first one touches one of the row before -/
theorem high_row {p : Nat} {l : List Tri} (h : InP p l) {n : Nat} (hn : n + 1 < (rowsS p l).length) {k : Nat} (hk : k ∈ (rowsS p l)[n + 1]) : ∃ j, j ∈ (rowsS p l)[n] ∧ j < k ∧ touchB (xAt l j).b (xAt l k).b = true := by
  rw [rowsS_at p l hn] at hk
  have hm := rowS_mem.1 hk
  rw [levL_len] at hm
  have hlv : lv l k = n + 1 := hm.2.1
  have heq := lv_eq l hm.1
  have hpos : 0 < supL ((List.range k).map fun j => if touchB (xAt l j).b (xAt l k).b = true then lv l j + 1 else 0) := by rw [← heq, hlv]; omega
  have hmem := supL_mem _ hpos
  rw [← heq, hlv] at hmem
  obtain ⟨j, hj, e⟩ := List.mem_map.1 hmem
  have hj' : j < k := List.mem_range.1 hj
  split at e
  · rename_i ht
    refine ⟨j, ?_, hj', ht⟩
    rw [rowsS_at p l (by omega), rowS_mem, levL_len]
    exact ⟨by omega, (by have : lv l j = n := by omega
                         exact this), h.row j (by omega)⟩
  · omega
/-- in a row the places differ by two at least -/
theorem row_gap {p : Nat} {l : List Tri} {n : Nat} (hn : n < (rowsS p l).length) {i : Nat} (hi : i + 1 < (rowsS p l)[n].length) : (xAt l (rowsS p l)[n][i]).b + 2 ≤ (xAt l (rowsS p l)[n][i + 1]).b := by
  have hs := rowS_sorted p l l.length n
  have ha := rowS_apart p l l.length n
  rw [← rowsS_at p l hn] at hs ha
  have h1 := List.pairwise_iff_getElem.1 hs i (i + 1) (by omega) hi (by omega)
  have h2 := ha _ (List.getElem_mem (show i < (rowsS p l)[n].length by omega)) _ (List.getElem_mem hi) (fun e => by rw [e] at h1; omega)
  omega
/-- the works that were met: all of the rows before n, and i of row n -/
def metL (R : List (List Nat)) (n i : Nat) : List Nat := (R.take n).flatten ++ (R.getD n []).take i
theorem metL_step (R : List (List Nat)) (n i : Nat) (hi : i < (R.getD n []).length) : metL R n (i + 1) = metL R n i ++ [(R.getD n [])[i]] := by
  unfold metL
  rw [take_snoc _ i hi, List.append_assoc]
theorem metL_next (R : List (List Nat)) (n i : Nat) (hn : n < R.length) (hi : (R.getD n []).length ≤ i) : metL R (n + 1) 0 = metL R n i := by
  unfold metL
  have e : R[n] = R.getD n [] := by rw [List.getD_eq_getElem?_getD, List.getElem?_eq_getElem hn]; rfl
  rw [List.take_zero, List.append_nil, take_snoc _ n hn, List.flatten_append, List.take_of_length_le hi, e]
  simp
theorem metL_end (R : List (List Nat)) : metL R R.length 0 = R.flatten := by unfold metL; simp
theorem metL_split (R : List (List Nat)) (n i : Nat) (hn : n < R.length) (hi : i < (R.getD n []).length) : ∃ B, R.flatten = metL R n i ++ (R.getD n [])[i] :: B := by
  have e : R[n] = R.getD n [] := by rw [List.getD_eq_getElem?_getD, List.getElem?_eq_getElem hn]; rfl
  refine ⟨(R.getD n []).drop (i + 1) ++ (R.drop (n + 1)).flatten, ?_⟩
  unfold metL
  have h1 : R = R.take n ++ R[n] :: R.drop (n + 1) := by rw [List.getElem_cons_drop hn, List.take_append_drop]
  conv => lhs; rw [h1]
  rw [List.flatten_append, List.flatten_cons, e]
  clear h1 e
  generalize R.getD n [] = r at *
  have h2 : r = r.take i ++ r[i] :: r.drop (i + 1) := by rw [List.getElem_cons_drop hi, List.take_append_drop]
  have h3 : r ++ (R.drop (n + 1)).flatten = r.take i ++ r[i] :: (r.drop (i + 1) ++ (R.drop (n + 1)).flatten) := by
    conv => lhs; rw [h2]
    rw [List.append_assoc, List.cons_append]
  rw [h3, List.append_assoc]
/-- a work is met once -/
theorem met_fresh {p : Nat} {l : List Tri} {n i : Nat} (hn : n < (rowsS p l).length) (hi : i < ((rowsS p l).getD n []).length) : ((rowsS p l).getD n [])[i] ∉ metL (rowsS p l) n i := by
  obtain ⟨B, e⟩ := metL_split (rowsS p l) n i hn hi
  have hnd := rows_flat_nodup p l
  rw [e] at hnd
  intro hm
  exact (List.nodup_append.1 hnd).2.2 _ hm _ (by simp) rfl
theorem met_all {p : Nat} {l : List Tri} (h : InP p l) : (metL (rowsS p l) (rowsS p l).length 0).length = l.length := by
  rw [metL_end, (rows_flat_perm h).length_eq, List.length_range]
/-- both parts of a sheet that is cut, one after the other -/
theorem cut_both (p : Nat) (l : List Tri) (m : Nat) (hm : m ≤ (rowsS p l).length) : cutD p l 0 m ++ cutD p l m (rowsS p l).length = sheetD p l := by
  unfold cutD sheetD
  rw [← pickL_app]
  congr 1
  rw [List.drop_zero, Nat.sub_zero, List.take_of_length_le (l := (rowsS p l).drop m) (by rw [List.length_drop]; omega), List.take_append_drop]
theorem metL_le (R : List (List Nat)) {m n i : Nat} (hall : (metL R R.length 0).length = m) (hn : n < R.length) (hi : i < (R.getD n []).length) : (metL R n i).length + 1 ≤ m := by
  obtain ⟨B, e⟩ := metL_split R n i hn hi
  rw [metL_end, e] at hall
  simp only [List.length_append, List.length_cons] at hall
  omega
/-- does one of the first works of a row touch k, and come before it? -/
def highL (l : List Tri) (k : Nat) (r : List Nat) (j : Nat) : Bool := (r.take j).any fun x => decide (x < k) && touchB (xAt l x).b (xAt l k).b
theorem highL_zero (l : List Tri) (k : Nat) (r : List Nat) : highL l k r 0 = false := by unfold highL; simp
theorem highL_step (l : List Tri) (k : Nat) (r : List Nat) {j : Nat} (hj : j < r.length) : highL l k r (j + 1) = (highL l k r j || (decide (r[j] < k) && touchB (xAt l r[j]).b (xAt l k).b)) := by
  unfold highL
  rw [take_snoc _ j hj, List.any_append]
  simp
theorem highL_end (l : List Tri) (k : Nat) (r : List Nat) (h : ∃ x, x ∈ r ∧ x < k ∧ touchB (xAt l x).b (xAt l k).b = true) : highL l k r r.length = true := by
  obtain ⟨x, h1, h2, h3⟩ := h
  unfold highL
  rw [List.take_length, List.any_eq_true]
  exact ⟨x, h1, by simp [h2, h3]⟩
theorem own_nil_cap {α : Type} {sz : Nat} {enc : α → List Value} {w : World} {base : Nat} {e : TypeId} {A : Option Addr} {n c : Nat} {l : List α} (h : Own sz enc w base e (.slice A n c) l) : A = none → c = 0 := by
  intro hA
  subst hA
  obtain ⟨_, h2⟩ := h
  rcases h2 with ⟨e, _⟩ | ⟨g, cap, cur, e, _⟩
  · cases e; rfl
  · cases e
end Go.Proofs.YtoccplfnjammjaaGreatDoor
