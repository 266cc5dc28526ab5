/- torchonref15.Sheet. -/
import Derived.Test.YtogkgoabonbkkaaDoorSheetM
set_option linter.unusedSimpArgs false
set_option linter.unusedVariables false
namespace Go.Proofs.YtogkgoabonbkkaaDoor
open Go Go.RowKit Tor


/-- what Sheet gives -/
def SheetPost (p s : Int) (l : List Tri) (w : World) (e : Ending) (w' : World) : Prop :=
  ∃ v, e = .returned (.tuple #[.agg #[.int .i64 (sheetR p s l).1, v], .int .i64 (sheetR p s l).2.2.1, .int .i64 (sheetR p s l).2.2.2]) ∧ Own 3 Tri.enc w' w.heap.size 46 v (sheetR p s l).2.1 ∧ Below w.heap.size w w'
theorem sheetPost_bad {p s : Int} {l : List Tri} {w w' : World} {i e : Int} (h : sheetR p s l = (0, [], i, e)) (hB : Below w.heap.size w w') : SheetPost p s l w (.returned (.tuple #[.agg #[.int .i64 0, .slice none 0 0], .int .i64 i, .int .i64 e])) w' := by
  unfold SheetPost
  rw [h]
  exact ⟨.slice none 0 0, rfl, Own.nil _ _ _, hB⟩
theorem sheetR_hands {p s : Int} {l : List Tri} (h : handsE p s ≠ 0) : sheetR p s l = (0, [], 0, handsE p s) := by unfold sheetR; rw [if_pos h]
theorem sheetR_long {p s : Int} {l : List Tri} (h : handsE p s = 0) (hl : 1000 < l.length) : sheetR p s l = (0, [], 0, 3) := by unfold sheetR; rw [if_neg (by simp [h]), if_pos hl]
theorem sheetR_fin {p s : Int} {l : List Tri} (h : handsE p s = 0) (hl : ¬ 1000 < l.length) : sheetR p s l = finS p s l (l.length - 0) 0 := by unfold sheetR; rw [if_neg (by simp [h]), if_neg hl]; rfl
theorem hands_bd {p s : Int} (h : handsE p s = 0) : 2 ≤ p ∧ p ≤ 24 ∧ 2 ≤ s ∧ s ≤ 8 ∧ s ≤ p := by
  unfold handsE at h
  split at h
  · rename_i h1
    have := h1.2.2
    unfold spansB at this
    simp only [Bool.and_eq_true, decide_eq_true_eq] at this
    omega
  · cases h

theorem sheet_ret {fn : Func} {p u v : Tmp} (h : fn.results = #[.cell p 28, .tmp u, .tmp v]) {R : Ending → World → Prop} {a : Act} {w : World} {g : Nat} {x y : Value} (hp : a.tmps.getD p undef = .pointer (some ⟨g, 0, none⟩))
    (hb : Blk w g 28 #[x, y]) (hd : a.defers = []) (hR : R (.returned (.tuple #[.agg #[x, y], a.tmps.getD u undef, a.tmps.getD v undef])) w) : bodyPost Tryd.prog fn R .ret a w := by
  refine bodyPost_ret (v := .tuple #[.agg #[x, y], a.tmps.getD u undef, a.tmps.getD v undef]) ?_ hd hR
  have c0 := hb.cell 0 x rfl
  have c1 := hb.cell 1 y rfl
  have hp' : a.tmps[p]?.getD undef = .pointer (some ⟨g, 0, none⟩) := by simpa using hp
  simp only [results, h]
  simp [Sem.run_bind, Result.andThen, hp']
  go_simp


end Go.Proofs.YtogkgoabonbkkaaDoor
