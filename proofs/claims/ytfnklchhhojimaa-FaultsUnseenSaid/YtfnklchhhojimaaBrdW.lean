/- Rows of simple braids: a slice of slices of numbers of the call's own; the inner slices are not written again. -/
import Derived.Test.YtfnklchhhojimaaGrid
set_option linter.unusedSimpArgs false
set_option linter.unusedVariables false
namespace Go.Proofs.Ytfnklchhhojimaa
open Go Go.RowKit Tor

theorem flat_nenc2 : ∀ q : List Nat, q.flatMap nenc = q.map fun i => Value.int .i64 (i : Nat)
  | [] => rfl
  | x :: r => by rw [List.flatMap_cons, flat_nenc2 r]; rfl
structure FacW (w : World) (base : Nat) (v : Value) (vs : List Value) (R : List (List Nat)) : Prop where
  out : Own 1 venc w base 38 v vs
  len : vs.length = R.length
  inn : ∀ k (h : k < vs.length), Own 1 nenc w base 3 vs[k] (R.getD k [])
section
variable {w w' : World} {base : Nat} {v : Value} {vs : List Value} {R : List (List Nat)}
theorem FacW.nil (w : World) (base : Nat) : FacW w base (.slice none 0 0) [] [] := ⟨Own.nil _ _ _, rfl, fun k h => absurd h (by simp)⟩
theorem FacW.alloc (h : FacW w base v vs R) (o : Obj) : FacW (w.alloc o) base v vs R := ⟨h.out.alloc o, h.len, fun k hk => (h.inn k hk).alloc o⟩
theorem FacW.below (h : FacW w base v vs R) (hB : Below w.heap.size w w') : FacW w' base v vs R := ⟨h.out.below hB, h.len, fun k hk => (h.inn k hk).below hB⟩
theorem FacW.far (h : FacW w base v vs R) {p : Addr} (hp : p.block < base) (u : Value) : FacW (w.setCell p u) base v vs R := ⟨Own.far h.out hp u, h.len, fun k hk => Own.far (h.inn k hk) hp u⟩
theorem FacW.ne (h : FacW w base v vs R) {u : Value} {r : List Nat} (hu : Own 1 nenc w base 3 u r) : u.ownBlock = none ∨ u.ownBlock ≠ v.ownBlock := by
  cases hv : u.ownBlock with
  | none => exact .inl rfl
  | some g =>
    right
    obtain ⟨cs, hc⟩ := own_heap hu hv
    exact Own.ne_block h.out hc (by decide)
/-- a factor is put behind the others -/
theorem FacW.more (h : FacW w base v vs R) {v' u : Value} {r : List Nat} (hu : Own 1 nenc w base 3 u r) (ho : Own 1 venc w' base 38 v' (vs ++ [u])) (hg : w.grownBy w' v.ownBlock) : FacW w' base v' (vs ++ [u]) (R ++ [r]) := by
  have hl := h.len
  refine ⟨ho, by simp [hl], fun k hk => ?_⟩
  simp only [List.length_append, List.length_cons, List.length_nil] at hk
  by_cases e : k < vs.length
  · rw [List.getElem_append_left e, List.getD_eq_getElem?_getD, List.getElem?_append_left (by omega), ← List.getD_eq_getElem?_getD]
    exact World.ownsRow.kept (h.inn k e) hg (h.ne (h.inn k e))
  · obtain rfl : k = vs.length := by omega
    rw [List.getElem_append_right (by omega), List.getD_eq_getElem?_getD, List.getElem?_append_right (by omega)]
    simp only [Nat.sub_self, List.getElem_cons_zero, hl, List.getElem?_cons_zero, Option.getD_some]
    exact World.ownsRow.kept hu hg (h.ne hu)
/-- factor n is another one -/
theorem FacW.put (h : FacW w base v vs R) {n : Nat} (hn : n < vs.length) {u : Value} {r : List Nat} {g c : Nat} (hv : v = .slice (some ⟨g, 0, none⟩) vs.length c) (hu : Own 1 nenc w base 3 u r) :
    FacW (w.setCell ⟨g, n, none⟩ u) base v (vs.set n u) (R.set n r) := by
  have hl := h.len
  have hgb : v.ownBlock = some g := by rw [hv]; rfl
  have hst := h.out
  unfold Own at hst
  rw [flat_venc, hv] at hst
  obtain ⟨s1, s2⟩ := World.ownsRow.stored hst n u
  refine ⟨?_, by simp [hl], fun k hk => ?_⟩
  · unfold Own
    rw [flat_venc, List.length_set, hv]
    exact s1
  · simp only [List.length_set] at hk
    by_cases e : k = n
    · subst e
      rw [List.getElem_set_self, List.getD_eq_getElem?_getD, List.getElem?_set_self (by omega)]
      have h2 := h.ne hu
      rw [hgb] at h2
      exact World.ownsRow.kept hu s2 h2
    · rw [List.getElem_set_ne (fun e' => e e'.symm), List.getD_eq_getElem?_getD, List.getElem?_set_ne (fun e' => e e'.symm), ← List.getD_eq_getElem?_getD]
      have h2 := h.ne (h.inn k hk)
      rw [hgb] at h2
      exact World.ownsRow.kept (h.inn k hk) s2 h2
/-- a row of numbers: number n is another one -/
theorem own_setn {g c : Nat} {p : List Nat} (h : Own 1 nenc w base 3 (.slice (some ⟨g, 0, none⟩) p.length c) p) (n : Nat) (x : Nat) :
    Own 1 nenc (w.setCell ⟨g, n, none⟩ (.int .i64 x)) base 3 (.slice (some ⟨g, 0, none⟩) p.length c) (p.set n x) := by
  have h' := h
  unfold Own at h' ⊢
  obtain ⟨h1, h2⟩ := World.ownsRow.stored h' n (.int .i64 x)
  have e : (p.flatMap nenc).set n (.int .i64 x) = (p.set n x).flatMap nenc := by
    rw [flat_nenc2, flat_nenc2, List.map_set]
  rw [← e, List.length_set]
  exact h1
end
end Go.Proofs.Ytfnklchhhojimaa
