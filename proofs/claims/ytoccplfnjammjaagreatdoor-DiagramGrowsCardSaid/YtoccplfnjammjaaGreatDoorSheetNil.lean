/- A nil slice of works has no capacity. -/
import Derived.Test.YtoccplfnjammjaaGreatDoorOpen
import Derived.Test.YtoccplfnjammjaaGreatDoorOpen3
set_option linter.unusedSimpArgs false
set_option linter.unusedVariables false
namespace Go.Proofs.YtoccplfnjammjaaGreatDoor
open Go Go.RowKit Tor Go.WideShapes Go.ChangeShapes Go.ChangeAt Go.Deep Go.Joins Go.ChangeMaps

set_option maxRecDepth 100000 in
theorem sheet_nil {H : Type} {enc : TypeId × Value → H} {W : World} {base b0 : Nat} {r : Reach} {sp : Nat → Bool} {held : Bool} {p : Int} {n c : Nat} {d : DataW H} {ps : List MemPlace}
    (hv : Value.okWide Tryz.prog W r b0 25 (.agg #[.int .i64 p, .slice none n c])) (h : DataW.Trod enc Tryz.prog W base sp held 25 (.agg #[.int .i64 p, .slice none n c]) d ps) : c = 0 := by
  obtain ⟨v0, v1, y0, y1, m, e, _, _, h0, h1⟩ := open_agg2 Tryz.underlying25 (by kernel_rfl) cellsSheet hv h
  simp only [Value.agg.injEq, Array.mk.injEq, List.cons.injEq, and_true] at e
  obtain ⟨rfl, rfl⟩ := e
  rcases open_slice Tryz.underlying23 h1 with ⟨e1, _⟩ | ⟨a, len, cap, mm, nn, D, Pl, e1, _⟩
  · simp at e1; exact e1.2
  · simp at e1

end Go.Proofs.YtoccplfnjammjaaGreatDoor
