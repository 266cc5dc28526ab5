/- diagram.Rows. -/
import Derived.Test.YtoccplfnjammjaaGreatDoorDRows2
import Derived.Test.YtoccplfnjammjaaGreatDoorSortA
import Derived.Test.YtoccplfnjammjaaGreatDoorDiaA
set_option linter.unusedSimpArgs false
set_option linter.unusedVariables false
namespace Go.Proofs.YtoccplfnjammjaaGreatDoor
open Go Go.RowKit Tor

theorem drows_any (p : Nat) (A : Option Addr) (l : List Tri) (c : Nat) (w : World) (H : Nat) (hr : RdT w H A l) (hH : H ≤ w.heap.size)
    (hw : ∀ (k : Nat) (hk : k < l.length), l[k].s.size ≤ 9223372036854775807) (hchk : sheetE p l = 0) (h2 : 2 ≤ p) (h24 : p ≤ 24)
    (hb : ∀ (k : Nat) (hk : k < l.length), 0 ≤ l[k].b ∧ l[k].b ≤ (p : Int) - 2) (hl : l.length ≤ 400) :
    Calls Tryz.prog 18 #[.agg #[.int .i64 p, .slice A l.length c]] w fun e w' => ∃ v vs, e = .returned (.tuple #[v, .int .i64 0]) ∧ GridW w' w.heap.size v vs (rowsS p l) ∧ Below w.heap.size w w' :=
  drows_of (Lib.hid sort_any) p A l c w H hr hH hw hchk h2 h24 hb hl
end Go.Proofs.YtoccplfnjammjaaGreatDoor
