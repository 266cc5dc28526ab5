/- words.Digits; what is asked of the library's variables. -/
import Derived.Test.YtoccplfnjammjaaGreatDoorTxt
import Derived.Lib.AppendIntMem
import Derived.Lib.SmallJoins
set_option linter.unusedSimpArgs false
set_option linter.unusedVariables false
namespace Go.Proofs.YtoccplfnjammjaaGreatDoor
open Go Go.RowKit Tor

structure DtAt (w : World) : Prop where
  ml : ∃ m, w.cell? ⟨0, 0, none⟩ = some (.int .i64 m)
  tab : Lib.TabIs Tryz.prog w "internal/strconv.uint64pow10" .u64 Lib.pow10Tab
  err : ∃ ev, w.cell? ⟨3, 0, none⟩ = some ev ∧ (ev = .nilIface ∨ ∃ te pe, ev = .iface te pe)
theorem DtAt.below {w w' : World} (h : DtAt w) (hB : Below w.heap.size w w') : DtAt w' := by
  obtain ⟨⟨m, hm⟩, h2, ev, h3, h4⟩ := h
  exact ⟨⟨m, (hB.cell (p := ⟨0, 0, none⟩) (lt_of_cell hm)).trans hm⟩, Joins.tab_stays (g := 1) (by kernel_rfl) h2 hB (Nat.le_refl _), ev, (hB.cell (p := ⟨3, 0, none⟩) (lt_of_cell h3)).trans h3, h4⟩
theorem below_drewW {W w' : World} (h : Below W.drew.heap.size W.drew w') : Below W.heap.size W w' := ⟨h.os, h.tape, h.output, h.size, h.block⟩
theorem below_growF (w : World) (k : Nat) (os : Array Obj) : Below w.heap.size w («Sort».grow (w.drewN k) os) :=
  ⟨rfl, rfl, rfl, by show w.heap.size ≤ (w.heap ++ os).size; rw [Array.size_append]; omega, fun j hj => by
    show (w.heap ++ os)[j]? = w.heap[j]?
    rw [Array.getElem?_append_left hj]⟩
theorem digF_any (n : Int) (h0 : -9223372036854775808 ≤ n) (h1 : n ≤ 9223372036854775807) (w : World) (h : DtAt w) : Calls Tryz.prog 49 #[.int .i64 n] w (Ret (.string (bN (Lib.itoa n))) w) := by
  have ht := h.tab
  clear h
  go_enter Tryz.func49, Tryz.ntmps49
  go_wp2_with fail
  refine (Tryz.strconv_FormatInt_10 n h0 h1 w ht).mono ?_
  rintro e w' ⟨rfl, k, os, hk⟩
  go_wp2_with fail
  go_ret
  subst hk
  exact ⟨rfl, below_growF _ _ _⟩
end Go.Proofs.YtoccplfnjammjaaGreatDoor
