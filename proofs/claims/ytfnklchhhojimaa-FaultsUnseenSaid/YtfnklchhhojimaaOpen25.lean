/- Opening the argument: a case (pairs, span, instructions, two faults). -/
import Derived.Test.YtfnklchhhojimaaOpen
import Derived.Test.YtfnklchhhojimaaFaultM
set_option linter.unusedSimpArgs false
set_option linter.unusedVariables false
namespace Go.Proofs.Ytfnklchhhojimaa
open Go Go.RowKit Tor Go.WideShapes Go.ChangeShapes Go.Deep Go.Joins

theorem cellsCase : Try.prog.cellsOf 26 = 11 := by kernel_rfl
theorem cellsFault : Try.prog.cellsOf 24 = 4 := by kernel_rfl
theorem cellsInt25 : Try.prog.cellsOf 3 = 1 := by kernel_rfl
theorem cellsSlice : Try.prog.cellsOf 22 = 1 := by kernel_rfl

theorem some_of_len {α : Type} {xs : List α} {n i : Nat} (h : xs.length = n) (hi : i < n) : ∃ y, xs[i]? = some y := ⟨xs[i], List.getElem?_eq_getElem (by omega)⟩

section
variable {H : Type} {enc : TypeId × Value → H} {W : World} {base : Nat} {sp : Nat → Bool} {held : Bool}
set_option maxRecDepth 100000 in
theorem fault_of {fuel : Nat} {c0 c1 c2 c3 : Value} {x : DataW H × List MemPlace} (h : DataW.trod enc Try.prog W base sp held fuel 24 [c0, c1, c2, c3] = some x) :
    ∃ f : Flt, c0 = .int .i64 f.k ∧ c1 = .int .i64 f.st ∧ c2 = .int .i64 f.lt ∧ c3 = .int .i64 f.wi := by
  obtain ⟨ys, n, _, _, _, hl, hg⟩ := DataW.trod_struct Try.underlying24 h
  have g0 := hg 0 _ rfl
  have g1 := hg 1 _ rfl
  have g2 := hg 2 _ rfl
  have g3 := hg 3 _ rfl
  simp only [List.getElem_toArray, List.getElem_cons_zero, List.getElem_cons_succ, cellsInt25, List.drop_zero, List.drop_succ_cons, List.take_succ_cons, List.take_zero] at g0 g1 g2 g3
  have hl4 : ys.length = 4 := hl
  obtain ⟨y0, r0⟩ := some_of_len (i := 0) hl4 (by omega)
  obtain ⟨y1, r1⟩ := some_of_len (i := 1) hl4 (by omega)
  obtain ⟨y2, r2⟩ := some_of_len (i := 2) hl4 (by omega)
  obtain ⟨y3, r3⟩ := some_of_len (i := 3) hl4 (by omega)
  obtain ⟨n0, e0, _, _⟩ := DataW.trod_int Try.underlying3 (g0.trans r0)
  obtain ⟨n1, e1, _, _⟩ := DataW.trod_int Try.underlying3 (g1.trans r1)
  obtain ⟨n2, e2, _, _⟩ := DataW.trod_int Try.underlying3 (g2.trans r2)
  obtain ⟨n3, e3, _, _⟩ := DataW.trod_int Try.underlying3 (g3.trans r3)
  simp at e0 e1 e2 e3
  exact ⟨⟨n0, n1, n2, n3⟩, e0, e1, e2, e3⟩


set_option maxRecDepth 100000 in
theorem open_case {b0 : Nat} {r : Reach} {v : Value} {d : DataW H} {ps : List MemPlace} (hv : Value.okWide Try.prog W r b0 26 v) (h : DataW.Trod enc Try.prog W base sp held 26 v d ps) :
    ∃ (P S : Int) (A : Option Addr) (l : List Tri) (c : Nat) (f g : Flt), v = .agg #[.int .i64 P, .int .i64 S, .slice A l.length c, .int .i64 f.k, .int .i64 f.st, .int .i64 f.lt, .int .i64 f.wi, .int .i64 g.k, .int .i64 g.st, .int .i64 g.lt, .int .i64 g.wi] ∧
      RdT W W.heap.size A l ∧ l.length ≤ c ∧ c ≤ 9223372036854775807 ∧ ∀ (k : Nat) (hk : k < l.length), l[k].s.size ≤ 9223372036854775807 := by
  obtain ⟨cs, rfl, hsz⟩ := okWide_struct Try.underlying26 hv
  rw [cellsCase] at hsz
  obtain ⟨L⟩ := cs
  match L, hsz with
  | [a0, a1, a2, a3, a4, a5, a6, a7, a8, a9, a10], _ =>
    obtain ⟨fuel, hf⟩ := h
    obtain ⟨ys, n, _, _, _, hl, hg⟩ := DataW.trod_struct Try.underlying26 hf
    have g0 := hg 0 _ rfl
    have g1 := hg 1 _ rfl
    have g2 := hg 2 _ rfl
    have g3 := hg 3 _ rfl
    have g4 := hg 4 _ rfl

    simp only [List.getElem_toArray, List.getElem_cons_zero, List.getElem_cons_succ, cellsInt25, cellsSlice, cellsFault, Value.cells, List.drop_zero, List.drop_succ_cons, List.take_succ_cons, List.take_zero] at g0 g1 g2 g3 g4
    have hl4 : ys.length = 5 := hl
    obtain ⟨y0, r0⟩ := some_of_len (i := 0) hl4 (by omega)
    obtain ⟨y1, r1⟩ := some_of_len (i := 1) hl4 (by omega)
    obtain ⟨y2, r2⟩ := some_of_len (i := 2) hl4 (by omega)
    obtain ⟨y3, r3⟩ := some_of_len (i := 3) hl4 (by omega)
    obtain ⟨y4, r4⟩ := some_of_len (i := 4) hl4 (by omega)
    obtain ⟨n0, e0, _, _⟩ := DataW.trod_int Try.underlying3 (g0.trans r0)
    obtain ⟨n1, e1, _, _⟩ := DataW.trod_int Try.underlying3 (g1.trans r1)
    obtain ⟨A, l, c, e2, hr, hlc, hc, hs⟩ := triples Try.underlying22 Try.underlying45 (by kernel_rfl) cellsStep Try.underlying3 Try.underlying3 Try.underlying9 (g2.trans r2)
    obtain ⟨f, f0, f1, f2, f3⟩ := fault_of (g3.trans r3)
    obtain ⟨g, q0, q1, q2, q3⟩ := fault_of (g4.trans r4)
    simp [Value.cells] at e0 e1 e2
    subst e0 e1 e2 f0 f1 f2 f3 q0 q1 q2 q3
    exact ⟨n0, n1, A, l, c, f, g, rfl, hr, hlc, hc, hs⟩
end
end Go.Proofs.Ytfnklchhhojimaa
