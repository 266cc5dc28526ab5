/- Merged: SheetNil OpenHalf. -/
import Derived.Test.YtoccplfnjammjaaGreatDoorOpen
import Derived.Test.YtoccplfnjammjaaGreatDoorOpen3
import Derived.Test.YtoccplfnjammjaaGreatDoorDSwA
set_option linter.unusedSimpArgs false
set_option linter.unusedVariables false
namespace Go.Proofs.YtoccplfnjammjaaGreatDoor
open Go Go.RowKit Tor Go.WideShapes Go.ChangeShapes Go.ChangeAt Go.Deep Go.Joins Go.ChangeMaps

set_option maxRecDepth 100000 in
theorem sheet_nil {H : Type} {enc : TypeId × Value → H} {W : World} {base b0 : Nat} {r : Reach} {sp : Nat → Bool} {held : Bool} {p : Int} {n c : Nat} {d : DataW H} {ps : List MemPlace}
    (hv : Value.okWide Tryz.prog W r b0 25 (.agg #[.int .i64 p, .slice none n c])) (h : DataW.Trod enc Tryz.prog W base sp held 25 (.agg #[.int .i64 p, .slice none n c]) d ps) : c = 0 := by
  obtain ⟨v0, v1, y0, y1, m, e, _, _, h0, h1⟩ := open_agg2 Tryz.underlying25 (by kernel_rfl) cellsSheet hv h
  simp only [Value.agg.injEq, Array.mk.injEq, List.cons.injEq, and_true] at e
  obtain ⟨rfl, rfl⟩ := e
  rcases open_slice Tryz.underlying23 h1 with ⟨e1, _⟩ | ⟨a, len, cap, mm, nn, D, Pl, e1, _⟩
  · simp at e1; exact e1.2
  · simp at e1

end Go.Proofs.YtoccplfnjammjaaGreatDoor

namespace Go.Proofs.YtoccplfnjammjaaGreatDoor
open Go Go.RowKit Tor Go.WideShapes Go.ChangeShapes Go.ChangeAt Go.Deep

theorem open_halfs {H : Type} {enc : TypeId × Value → H} {P : Program} {w : World} {base : Nat} {spare : Nat → Bool} {held : Bool} {t e : TypeId} {fuel : Nat} {cs : List Value} {x : DataW H × List MemPlace} (ht : P.underlying t = some (.slice e)) (he : P.underlying e = some (.int .u16))
    (hC : P.cellsOf e = 1) (h : DataW.trod enc P w base spare held fuel t cs = some x) :
    ∃ (A : Option Addr) (l : List Int) (c : Nat), cs = [.slice A l.length c] ∧ Rd 1 henc w w.heap.size A l ∧ l.length ≤ c ∧ c ≤ 9223372036854775807 ∧ ∀ x ∈ l, 0 ≤ x ∧ x ≤ 65535 := by
  rcases open_ints ht he hC h with ⟨rfl, _⟩ | ⟨a, len, cap, zs, rfl, _, hlc, hcm, hzl, _, hf, hwf⟩
  · exact ⟨none, [], 0, rfl, Rd.nil, Nat.le_refl _, Nat.zero_le _, fun x hx => by simp at hx⟩
  · have hle : len ≤ zs.length := by rw [hzl]; split <;> omega
    have hlen : (zs.take len).length = len := by rw [List.length_take]; omega
    refine ⟨some a, zs.take len, cap, by rw [hlen], fun hl => ?_, by rw [hlen]; exact hlc, hcm, fun x hx => Go.bounds_u16 (hwf x (List.mem_of_mem_take hx))⟩
    obtain ⟨b, off, spot⟩ := a
    have hpos : 0 < len := by
      rcases Nat.eq_zero_or_pos len with h0 | h0
      · exact absurd (List.eq_nil_of_length_eq_zero (by rw [hlen]; exact h0)) hl
      · exact h0
    have hspot : spot = none := by simpa [Addr.add] using World.cell?_spot (hf 0 (by omega))
    subst hspot
    refine ⟨b, off, rfl, ?_, fun k x hk j u hu => ?_⟩
    · have := hf 0 (by omega)
      rw [Go.WideShapes.add_plain] at this
      exact lt_of_cell this
    · obtain ⟨hkl, rfl⟩ := List.getElem?_eq_some_iff.1 hk
      rw [hlen] at hkl
      have hc := hf k (by omega)
      rw [Go.WideShapes.add_plain] at hc
      match j, hu with
      | 0, hu =>
        simp [henc] at hu
        subst hu
        rw [Nat.mul_one, Nat.add_zero, hc]
        have : zs.getD k 0 = zs[k]'(by omega) := by simp [List.getD_eq_getElem?_getD, List.getElem?_eq_getElem (show k < zs.length by omega)]
        rw [this]
end Go.Proofs.YtoccplfnjammjaaGreatDoor
