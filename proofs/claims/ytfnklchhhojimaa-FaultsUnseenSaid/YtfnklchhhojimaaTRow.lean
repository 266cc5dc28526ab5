/- Rows of the call's own that hold steps or works: cells, stores. -/
import Derived.Test.YtfnklchhhojimaaOldB
set_option linter.unusedSimpArgs false
set_option linter.unusedVariables false
namespace Go.Proofs.Ytfnklchhhojimaa
open Go Go.RowKit Tor

/-- an owned row of steps (or works) at a block -/
def TRow (T : TypeId) (w : World) (base g cap : Nat) (l : List Tri) : Prop := Own 3 Tri.enc w base T (.slice (some ⟨g, 0, none⟩) l.length cap) l

theorem flat_tri_len (l : List Tri) : (l.flatMap Tri.enc).length = l.length * 3 := by
  induction l with
  | nil => rfl
  | cons x r ih => rw [List.flatMap_cons, List.length_append, ih]; simp [Tri.enc]; omega
theorem flat_set : ∀ (l : List Tri) (i j : Nat) (y : Tri) (u : Value), i < l.length → j < 3 → y.enc = (xAt l i).enc.set j u → (l.flatMap Tri.enc).set (i * 3 + j) u = (l.set i y).flatMap Tri.enc
  | [], i, j, y, u, hi, _, _ => by simp at hi
  | x :: r, 0, j, y, u, _, hj, hy => by
    have hy' : y.enc = x.enc.set j u := by simpa [xAt] using hy
    rw [List.flatMap_cons, List.set_cons_zero, List.flatMap_cons, hy', Nat.zero_mul, Nat.zero_add, List.set_append_left _ _ (by simp [Tri.enc]; omega)]
  | x :: r, i + 1, j, y, u, hi, hj, hy => by
    have ih := flat_set r i j y u (by simpa using hi) hj (by simpa [xAt] using hy)
    rw [List.flatMap_cons, List.set_cons_succ, List.flatMap_cons, ← ih, List.set_append_right _ _ (by simp [Tri.enc]; omega)]
    congr 2
    simp [Tri.enc]; omega

section
variable {T : TypeId} {w w' : World} {base g cap : Nat} {l : List Tri}
theorem TRow.heap (h : TRow T w base g cap l) : base ≤ g ∧ g < w.heap.size ∧ l.length ≤ cap ∧ ∃ cur, w.heap[g]? = some (.cells cur T (0, 0)) := by
  rcases h.2 with ⟨h', _⟩ | ⟨g', cap', cur, h', hb, hg, hn, _⟩
  · simp at h'
  · simp only [Value.slice.injEq, Option.some.injEq, Addr.mk.injEq, and_true, true_and] at h'
    obtain ⟨rfl, rfl⟩ := h'
    exact ⟨hb, (Array.getElem?_eq_some_iff.1 hg).1, hn, cur, hg⟩
theorem TRow.lt (h : TRow T w base g cap l) : g < w.heap.size := h.heap.2.1
theorem TRow.rd (h : TRow T w base g cap l) : RdT w w.heap.size (some ⟨g, 0, none⟩) l := by
  obtain ⟨A, c, e, _, hr⟩ := Own.rd tri_len h
  injection e with e1 _ _
  rw [e1]; exact hr
theorem TRow.cells (h : TRow T w base g cap l) {i : Nat} (hi : i < l.length) :
    w.cell? ⟨g, i * 3, none⟩ = some (.int .i64 (xAt l i).a) ∧ w.cell? ⟨g, i * 3 + 1, none⟩ = some (.int .i64 (xAt l i).b) ∧ w.cell? ⟨g, i * 3 + 2, none⟩ = some (.string (xAt l i).s) := by
  obtain ⟨b, o, e, _, h0, h1, h2⟩ := Rd.tri h.rd hi
  injection e with e
  injection e with e1 e2 _
  subst e1; subst e2
  rw [xAt_of hi]
  simp only [Nat.zero_add] at h0 h1 h2
  exact ⟨h0, h1, h2⟩
theorem TRow.frozen (h : TRow T w base g cap l) (i : Nat) : w.frozen? ⟨g, i, none⟩ = false := by
  have h' := h
  unfold TRow Own at h'
  exact h'.frozenAt i
theorem TRow.below (h : TRow T w base g cap l) (hB : Below w.heap.size w w') : TRow T w' base g cap l := Own.below h hB
theorem TRow.alloc (h : TRow T w base g cap l) (o : Obj) : TRow T (w.alloc o) base g cap l := Own.alloc h o
theorem TRow.drew (h : TRow T w base g cap l) : TRow T w.drew base g cap l := h
theorem TRow.set_ (h : TRow T w base g cap l) {i j : Nat} {y : Tri} {u : Value} (hi : i < l.length) (hj : j < 3) (hy : y.enc = (xAt l i).enc.set j u) :
    TRow T (w.setCell ⟨g, i * 3 + j, none⟩ u) base g cap (l.set i y) := by
  have h' := h
  unfold TRow Own at h' ⊢
  obtain ⟨h1, h2⟩ := h'.stored (i * 3 + j) u
  rw [flat_set l i j y u hi hj hy] at h1
  rw [List.length_set]
  exact h1

/-- a row of n > 0 has an address -/
theorem TRow.of {v : Value} (hl : l ≠ []) (h : Own 3 Tri.enc w base T v l) : ∃ g cap, v = .slice (some ⟨g, 0, none⟩) l.length cap ∧ TRow T w base g cap l := by
  have h2 := h.2
  rcases h2 with ⟨_, h0⟩ | ⟨g, cap, cur, hv, _⟩
  · exact absurd (List.eq_nil_of_length_eq_zero h0) hl
  · subst hv
    exact ⟨g, cap, rfl, h⟩
theorem TRow.own (h : TRow T w base g cap l) : Own 3 Tri.enc w base T (.slice (some ⟨g, 0, none⟩) l.length cap) l := h
end
end Go.Proofs.Ytfnklchhhojimaa
