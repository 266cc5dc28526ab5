/- Rows of syllables. -/
import Derived.Test.YtfnklchhhojimaaSyl
import Derived.Test.YtfnklchhhojimaaOldA1
set_option linter.unusedSimpArgs false
set_option linter.unusedVariables false
namespace Go.Proofs.Ytfnklchhhojimaa
open Go Go.RowKit Tor

theorem rowG_stored {w : World} {base : Nat} {e : TypeId} {size g n cap : Nat} {xs : List Value} (h : RowG w base e size (.slice (some ⟨g, 0, none⟩) n cap) n xs) (j : Nat) (u : Value) :
    RowG (w.setCell ⟨g, j, none⟩ u) base e size (.slice (some ⟨g, 0, none⟩) n cap) n (xs.set j u) := by
  obtain ⟨h1, g', cap', cur, hv, hb, hg, hnc, hcm, hcs, ht⟩ := h
  simp only [Value.slice.injEq, Option.some.injEq, Addr.mk.injEq, and_true, true_and] at hv
  obtain ⟨rfl, rfl⟩ := hv
  refine ⟨by rw [List.length_set, h1], g, cap, cur.setIfInBounds j u, rfl, hb, Blk.set_ hg j u, hnc, hcm, by simpa using hcs, ?_⟩
  rw [Array.toList_setIfInBounds, ← ht, List.take_set]

theorem rowG_cell {w : World} {base : Nat} {e : TypeId} {size g n cap : Nat} {xs : List Value} (h : RowG w base e size (.slice (some ⟨g, 0, none⟩) n cap) n xs) {j : Nat} {u : Value} (hj : xs[j]? = some u) :
    w.cell? ⟨g, j, none⟩ = some u := by
  obtain ⟨h1, g', cap', cur, hv, hb, hg, hnc, hcm, hcs, ht⟩ := h
  simp only [Value.slice.injEq, Option.some.injEq, Addr.mk.injEq, and_true, true_and] at hv
  obtain ⟨rfl, rfl⟩ := hv
  rw [cell_of_row w g j cur e (0, 0) hg]
  rw [← ht, List.getElem?_take] at hj
  split at hj
  · simpa using hj
  · cases hj


/-- a row of syllables of the call's own, the last one first -/
def SRow (w : World) (base g cap : Nat) (st : List Syl) : Prop := RowG w base 111 4 (.slice (some ⟨g, 0, none⟩) st.length cap) st.length (st.reverse.flatMap Syl.enc)

theorem syl_len (x : Syl) : x.enc.length = 4 := rfl
theorem flat_syl_len (l : List Syl) : (l.flatMap Syl.enc).length = l.length * 4 := by
  induction l with
  | nil => rfl
  | cons x r ih => rw [List.flatMap_cons, List.length_append, ih]; simp [Syl.enc]; omega
theorem flat_last (x : Syl) (r : List Syl) : (x :: r).reverse.flatMap Syl.enc = r.reverse.flatMap Syl.enc ++ x.enc := by simp
theorem flat_rev_len (r : List Syl) : (r.reverse.flatMap Syl.enc).length = r.length * 4 := by rw [flat_syl_len]; simp

section
variable {w w' : World} {base g cap : Nat} {st r : List Syl} {x y : Syl}
theorem SRow.heap (h : SRow w base g cap st) : base ≤ g ∧ g < w.heap.size ∧ st.length ≤ cap ∧ cap ≤ maxLen ∧ ∃ cur, w.heap[g]? = some (.cells cur 111 (0, 0)) := by
  obtain ⟨h1, g', cap', cur, hv, hb, hg, hnc, hcm, hcs, ht⟩ := h
  simp only [Value.slice.injEq, Option.some.injEq, Addr.mk.injEq, and_true, true_and] at hv
  obtain ⟨rfl, rfl⟩ := hv
  exact ⟨hb, (Array.getElem?_eq_some_iff.1 hg).1, hnc, hcm, cur, hg⟩
theorem SRow.cells (h : SRow w base g cap (x :: r)) : w.cell? ⟨g, r.length * 4, none⟩ = some (.int .i64 x.m) ∧ w.cell? ⟨g, r.length * 4 + 1, none⟩ = some (.int .i64 x.l) ∧
    w.cell? ⟨g, r.length * 4 + 2, none⟩ = some (.int .i64 x.r) ∧ w.cell? ⟨g, r.length * 4 + 3, none⟩ = some (.bool x.pin) := by
  have hk : ∀ j u, x.enc[j]? = some u → w.cell? ⟨g, r.length * 4 + j, none⟩ = some u := fun j u hu => by
    apply rowG_cell h
    rw [flat_last, List.getElem?_append_right (by rw [flat_rev_len]; omega), flat_rev_len]
    simpa using hu
  exact ⟨hk 0 _ rfl, hk 1 _ rfl, hk 2 _ rfl, hk 3 _ rfl⟩
theorem SRow.prev (h : SRow w base g cap (x :: y :: r)) : w.cell? ⟨g, r.length * 4 + 3, none⟩ = some (.bool y.pin) := by
  apply rowG_cell h
  rw [flat_last, flat_last, List.append_assoc, List.getElem?_append_right (by rw [flat_rev_len]; omega), flat_rev_len, List.getElem?_append_left (by simp [Syl.enc])]
  have : r.length * 4 + 3 - r.length * 4 = 3 := by omega
  rw [this]; rfl

/-- syllable number k, counted from the first -/
theorem SRow.at (h : SRow w base g cap st) {k : Nat} (hk : k < st.reverse.length) : w.cell? ⟨g, k * 4, none⟩ = some (.int .i64 st.reverse[k].m) ∧ w.cell? ⟨g, k * 4 + 1, none⟩ = some (.int .i64 st.reverse[k].l) ∧
    w.cell? ⟨g, k * 4 + 2, none⟩ = some (.int .i64 st.reverse[k].r) ∧ w.cell? ⟨g, k * 4 + 3, none⟩ = some (.bool st.reverse[k].pin) := by
  have hx : st.reverse[k]? = some st.reverse[k] := List.getElem?_eq_getElem hk
  have hk' : ∀ j u, st.reverse[k].enc[j]? = some u → w.cell? ⟨g, k * 4 + j, none⟩ = some u := fun j u hu => rowG_cell h (flatMap_get syl_len _ k _ hx j u hu)
  exact ⟨hk' 0 _ rfl, hk' 1 _ rfl, hk' 2 _ rfl, hk' 3 _ rfl⟩
theorem SRow.frozen (h : SRow w base g cap st) (i : Nat) : w.frozen? ⟨g, i, none⟩ = false := by
  obtain ⟨_, _, _, _, cur, hg⟩ := h.heap
  exact Blk.frozen hg i
theorem SRow.set_ (h : SRow w base g cap (x :: r)) {j : Nat} {u : Value} (hj : j < 4) (hy : y.enc = x.enc.set j u) : SRow (w.setCell ⟨g, r.length * 4 + j, none⟩ u) base g cap (y :: r) := by
  have h1 := rowG_stored h (r.length * 4 + j) u
  unfold SRow
  have e : ((x :: r).reverse.flatMap Syl.enc).set (r.length * 4 + j) u = (y :: r).reverse.flatMap Syl.enc := by
    rw [flat_last, flat_last, List.set_append_right _ _ (by rw [flat_rev_len]; omega), flat_rev_len, hy]
    congr 2
    omega
  rw [e] at h1
  exact h1
theorem SRow.kept (h : SRow w base g cap st) (hk : w'.heap[g]? = w.heap[g]?) : SRow w' base g cap st := by
  obtain ⟨h1, g', cap', cur, hv, hb, hg, hr⟩ := h
  have hv' := hv
  simp only [Value.slice.injEq, Option.some.injEq, Addr.mk.injEq, and_true, true_and] at hv
  obtain ⟨rfl, rfl⟩ := hv
  exact ⟨h1, g, cap, cur, hv', hb, hk.trans hg, hr⟩
theorem SRow.lt (h : SRow w base g cap st) : g < w.heap.size := h.heap.2.1
theorem SRow.below (h : SRow w base g cap st) (hB : Below w.heap.size w w') : SRow w' base g cap st := h.kept (hB.block g h.lt)
theorem SRow.alloc (h : SRow w base g cap st) (o : Obj) : SRow (w.alloc o) base g cap st := h.kept (Below.heap_alloc w o g h.lt)
theorem SRow.drew (h : SRow w base g cap st) : SRow w.drew base g cap st := h

/-- the last one is taken off, and the capacity ends there -/
theorem SRow.pop (h : SRow w base g cap (x :: r)) (hr : r ≠ []) : SRow w base g r.length r := by
  obtain ⟨h1, g', cap', cur, hv, hb, hg, hnc, hcm, hcs, ht⟩ := h
  simp only [Value.slice.injEq, Option.some.injEq, Addr.mk.injEq, and_true, true_and] at hv
  obtain ⟨rfl, rfl⟩ := hv
  have hle : r.length * 4 ≤ cap * 4 := by have : r.length ≤ cap := by simp at hnc; omega
                                          omega
  refine ⟨flat_rev_len r, g, r.length, cur, rfl, hb, hg, Nat.le_refl _, by simp at hnc; omega, by omega, ?_⟩
  have := congrArg (List.take (r.length * 4)) ht
  rw [List.take_take, flat_last, List.take_append_of_le_length (by rw [flat_rev_len]; omega), Nat.min_eq_left (by simp; omega)] at this
  rw [this]
  exact List.take_of_length_le (by rw [flat_rev_len]; omega)
theorem SRow.of {v : Value} {xs : List Value} {n : Nat} (h : RowG w base 111 4 v n xs) (hn : n = st.length) (hx : xs = st.reverse.flatMap Syl.enc) : ∃ g cap, v = .slice (some ⟨g, 0, none⟩) st.length cap ∧ SRow w base g cap st := by
  subst hn hx
  have h2 := h
  obtain ⟨_, g, cap, cur, hv, _⟩ := h2
  subst hv
  exact ⟨g, cap, rfl, h⟩
theorem SRow.first (w : World) (x : Syl) (base : Nat) (hb : base ≤ w.heap.size) : SRow (w.alloc (.cells x.enc.toArray 111)) base w.heap.size 1 [x] :=
  ⟨by simp [Syl.enc], w.heap.size, 1, _, rfl, hb, Blk.new _ _ _, Nat.le_refl _, by decide, by simp [Syl.enc], by simp [Syl.enc]⟩
theorem infoSyl : (Try.prog.info? 111).map (fun i => (i.zero, i.size, i.bytes)) = some (some (.agg #[.int .i64 0, .int .i64 0, .int .i64 0, .bool false]), 4, 32) := by kernel_rfl
end
end Go.Proofs.Ytfnklchhhojimaa
