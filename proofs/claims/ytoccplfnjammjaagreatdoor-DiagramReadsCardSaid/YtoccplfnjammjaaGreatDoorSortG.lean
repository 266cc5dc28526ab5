/- Rows of rows, while they are sorted; what slices.SortFunc does with one. -/
import Derived.Test.YtoccplfnjammjaaGreatDoorDRows
set_option linter.unusedSimpArgs false
set_option linter.unusedVariables false
namespace Go.Proofs.YtoccplfnjammjaaGreatDoor
open Go Go.RowKit Tor

theorem own_addr {w : World} {base g n c : Nat} {vs : List Value} (h : Own 1 venc w base 45 (.slice (some ⟨g, 0, none⟩) n c) vs) :
    base ≤ g ∧ g < w.heap.size ∧ (∀ k (hk : k < vs.length), w.cell? ⟨g, k, none⟩ = some vs[k]) ∧ (∀ i, w.frozen? ⟨g, i, none⟩ = false) := by
  have hfz : ∀ i, w.frozen? ⟨g, i, none⟩ = false := fun i => by
    obtain ⟨cs, hc⟩ := own_heap h (g := g) rfl
    exact (show Blk w g 45 cs from hc).frozen i
  obtain ⟨h1, h2⟩ := h
  rcases h2 with ⟨h', _⟩ | ⟨g', cap, cur, h', hb, hh, hnc, hcm, hcs, ht⟩
  · simp at h'
  · simp only [Value.slice.injEq, Option.some.injEq, Addr.mk.injEq, and_true, true_and] at h'
    obtain ⟨rfl, _, _⟩ := h'
    have kB : Blk w g 45 cur := hh
    refine ⟨hb, kB.lt, fun k hk => kB.cell k _ ?_, hfz⟩
    rw [flat_venc] at ht
    have e : cur.toList[k]? = vs[k]? := by
      rw [← ht, List.getElem?_take, if_pos (by omega)]
    rw [← Array.getElem?_toList, e, List.getElem?_eq_getElem hk]
theorem GridW.addr {w : World} {base : Nat} {v : Value} {vs : List Value} {R : List (List Nat)} (h : GridW w base v vs R) (hn : 0 < vs.length) : ∃ g c, v = .slice (some ⟨g, 0, none⟩) vs.length c := by
  obtain ⟨_, h2⟩ := h.out
  rcases h2 with ⟨_, h0⟩ | ⟨g, cap, cur, hv, _⟩
  · omega
  · exact ⟨g, cap, hv⟩
/-- what slices.SortFunc does with a row, by the works' places -/
def SortSaid : Prop := ∀ (p : Int) (A : Option Addr) (l : List Tri) (c sB base : Nat) (w : World) (H : Nat) (v : Value) (r : List Nat) (hown : Own 1 nenc w base 3 v r) (hri : ∀ i ∈ r, i < l.length) (hrl : r.length ≤ 1000000)
    (hS : w.cell? ⟨sB, 1, none⟩ = some (.slice A l.length c)) (hsb : sB < base) (hr : RdT w H A l) (hH : H ≤ base) (hHs : H ≤ w.heap.size)
    (hb : ∀ (k : Nat) (hk : k < l.length), 0 ≤ l[k].b ∧ l[k].b ≤ 100) (hl : l.length ≤ 400),
    Calls Tryz.prog 57 #[v, .func (.func 58) #[] #[.pointer (some ⟨sB, 0, none⟩)]] w fun e w' =>
      e = .returned (.tuple #[]) ∧ ∃ d, d.Perm r ∧ d.Pairwise (fun i k => (xAt l i).b ≤ (xAt l k).b) ∧ Own 1 nenc w' base 3 v d ∧ w.grownBy w' v.ownBlock
/-- a row of a grid is written over -/
theorem GridW.over {w w' : World} {base : Nat} {v : Value} {vs : List Value} {R : List (List Nat)} (h : GridW w base v vs R) {k : Nat} (hk : k < vs.length) {d : List Nat} (ho : Own 1 nenc w' base 3 vs[k] d) (hg : w.grownBy w' vs[k].ownBlock) : GridW w' base v vs (R.set k d) := by
  have hl := h.len
  refine ⟨World.ownsRow.kept h.out hg (h.ne' hk), by simp [hl], fun j hj => ?_, h.sep⟩
  by_cases e : j = k
  · subst e
    rw [List.getD_eq_getElem?_getD, List.getElem?_set_self (by omega)]
    exact ho
  · rw [List.getD_eq_getElem?_getD, List.getElem?_set_ne (fun e' => e e'.symm), ← List.getD_eq_getElem?_getD]
    exact World.ownsRow.kept (h.inn j hj) hg (h.sep j k hj hk e)
theorem GridW.base {w : World} {base base' : Nat} {v : Value} {vs : List Value} {R : List (List Nat)} (h : GridW w base v vs R) (hb : base' ≤ base) : GridW w base' v vs R := ⟨h.out.base hb, h.len, fun k hk => (h.inn k hk).base hb, h.sep⟩
/-- the rows of which the first j are sorted -/
def mixR (p : Nat) (l : List Tri) (L : List Nat) (j : Nat) : List (List Nat) := (List.range (rowsN L)).map fun n => if n < j then rowS p l L n else rowF L n
theorem mixR_zero (p : Nat) (l : List Tri) (L : List Nat) : mixR p l L 0 = rowsU L := by unfold mixR rowsU; simp
theorem mixR_all (p : Nat) (l : List Tri) (L : List Nat) : mixR p l L (rowsN L) = (List.range (rowsN L)).map (rowS p l L) := by
  unfold mixR
  apply List.map_congr_left
  intro n hn
  rw [if_pos (List.mem_range.1 hn)]
theorem mixR_set (p : Nat) (l : List Tri) (L : List Nat) (j : Nat) (hj : j < rowsN L) : (mixR p l L j).set j (rowS p l L j) = mixR p l L (j + 1) := by
  unfold mixR
  apply List.ext_getElem?
  intro n
  rw [List.getElem?_set]
  by_cases e : j = n
  · subst e
    rw [if_pos rfl, if_pos (by simpa using hj), List.getElem?_map, List.getElem?_range hj]
    simp
  · rw [if_neg e, List.getElem?_map, List.getElem?_map]
    cases h : (List.range (rowsN L))[n]? with
    | none => rfl
    | some m =>
      have : m = n := by
        have := List.getElem?_eq_some_iff.1 h
        obtain ⟨h1, h2⟩ := this
        simpa using h2.symm
      subst this
      simp only [Option.map_some, Option.some.injEq]
      by_cases h1 : m < j
      · rw [if_pos h1, if_pos (by omega)]
      · rw [if_neg h1, if_neg (by omega)]
theorem mixR_get (p : Nat) (l : List Tri) (L : List Nat) (j : Nat) (hj : j < rowsN L) : (mixR p l L j).getD j [] = rowF L j := by
  unfold mixR
  rw [List.getD_eq_getElem?_getD, List.getElem?_map, List.getElem?_range hj]
  simp
end Go.Proofs.YtoccplfnjammjaaGreatDoor
