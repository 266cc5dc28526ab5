/- Plain: the rows hold each work once. -/
import Derived.Test.YtoccplfnjammjaaGreatDoorDiaU
set_option linter.unusedSimpArgs false
set_option linter.unusedVariables false
namespace Go.Proofs.YtoccplfnjammjaaGreatDoor
open Go Go.RowKit Tor

/-- works of a sheet with p pairs -/
def InP (p : Nat) (l : List Tri) : Prop := ∀ i, i < l.length → ∃ t : Nat, t + 2 ≤ p ∧ (xAt l i).b = (t : Int)
theorem InP.row {p : Nat} {l : List Tri} (h : InP p l) : ∀ i, i < l.length → ∃ t : Nat, t < p ∧ (xAt l i).b = (t : Int) := fun i hi => by
  obtain ⟨t, h1, h2⟩ := h i hi
  exact ⟨t, by omega, h2⟩
theorem lev_lt_rows (l : List Tri) {i : Nat} (hi : i < l.length) : (levL l l.length).getD i 0 < rowsN (levL l l.length) := by
  have hl := levL_len l l.length
  have hi' : i < (levL l l.length).length := by omega
  have h1 : (levL l l.length)[i] + 1 ≤ rowsN (levL l l.length) := le_supL (List.mem_map.2 ⟨_, List.getElem_mem hi', rfl⟩)
  rw [List.getD_eq_getElem?_getD, List.getElem?_eq_getElem hi']
  exact h1
theorem rows_flat_mem {p : Nat} {l : List Tri} (h : InP p l) (i : Nat) : i ∈ (rowsS p l).flatten ↔ i < l.length := by
  have hl := levL_len l l.length
  rw [List.mem_flatten]
  constructor
  · rintro ⟨r, hr, hi⟩
    obtain ⟨n, _, rfl⟩ := List.mem_map.1 hr
    have := (rowS_mem.1 hi).1
    omega
  · intro hi
    exact ⟨_, List.mem_map.2 ⟨(levL l l.length).getD i 0, List.mem_range.2 (lev_lt_rows l hi), rfl⟩, rowS_mem.2 ⟨by omega, rfl, h.row i hi⟩⟩
theorem rows_flat_nodup (p : Nat) (l : List Tri) : (rowsS p l).flatten.Nodup := by
  unfold List.Nodup
  rw [List.pairwise_flatten]
  refine ⟨fun r hr => ?_, ?_⟩
  · obtain ⟨n, _, rfl⟩ := List.mem_map.1 hr
    exact rowS_nodup p l l.length n
  · unfold rowsS
    rw [List.pairwise_map]
    refine List.Pairwise.imp (fun {a b} hab i hi k hk e => ?_) (List.nodup_range (n := rowsN (levL l l.length)))
    subst e
    have h1 := (rowS_mem.1 hi).2.1
    have h2 := (rowS_mem.1 hk).2.1
    exact hab (h1.symm.trans h2)
theorem rows_flat_perm {p : Nat} {l : List Tri} (h : InP p l) : (rowsS p l).flatten.Perm (List.range l.length) :=
  (List.perm_ext_iff_of_nodup (rows_flat_nodup p l) List.nodup_range).2 fun i => by rw [rows_flat_mem h, List.mem_range]
theorem pickL_flat (l : List Tri) (R : List (List Nat)) : pickL l R = R.flatten.map (xAt l) := by
  unfold pickL
  induction R with
  | nil => rfl
  | cons r R ih => rw [List.flatMap_cons, ih, List.flatten_cons, List.map_append]
theorem sheetD_len {p : Nat} {l : List Tri} (h : InP p l) : (sheetD p l).length = l.length := by
  unfold sheetD
  rw [pickL_flat, List.length_map, (rows_flat_perm h).length_eq, List.length_range]
theorem row_in {p : Nat} {l : List Tri} {r : List Nat} (hr : r ∈ rowsS p l) : ∀ i ∈ r, i < l.length := fun i hi => by
  obtain ⟨n, _, rfl⟩ := List.mem_map.1 hr
  have := (rowS_mem.1 hi).1
  rw [levL_len] at this
  exact this
theorem row_len {p : Nat} {l : List Tri} (h : InP p l) {r : List Nat} (hr : r ∈ rowsS p l) : r.length ≤ l.length := by
  have h1 := (List.sublist_flatten_of_mem hr).length_le
  rw [(rows_flat_perm h).length_eq, List.length_range] at h1
  exact h1
theorem rowsS_len (p : Nat) (l : List Tri) : (rowsS p l).length ≤ l.length := by
  unfold rowsS
  rw [List.length_map, List.length_range]
  exact rowsN_le l l.length
theorem pick_part (l : List Tri) (R : List (List Nat)) (f t : Nat) : (pickL l ((R.drop f).take t)).length ≤ (pickL l R).length := by
  have h1 : (pickL l R).length = (pickL l (R.take f)).length + (pickL l (R.drop f)).length := by
    conv => lhs; rw [← List.take_append_drop f R]
    unfold pickL
    rw [List.flatMap_append, List.length_append]
  have h2 : (pickL l (R.drop f)).length = (pickL l ((R.drop f).take t)).length + (pickL l ((R.drop f).drop t)).length := by
    conv => lhs; rw [← List.take_append_drop t (R.drop f)]
    unfold pickL
    rw [List.flatMap_append, List.length_append]
  omega
end Go.Proofs.YtoccplfnjammjaaGreatDoor
