/- The listed variables hold what strconv reads (rows of torchonlaw14). -/
import Derived.Test.YtoccplfnjammjaaGreatDoorDDig
import Derived.Test.YtoccplfnjammjaaGreatDoorRows
import Derived.Stop.LaidErr
import Derived.Lib.LaidTab
set_option linter.unusedSimpArgs false
set_option linter.unusedVariables false
namespace Go.Proofs.YtoccplfnjammjaaGreatDoor
open Go Go.RowKit Tor

theorem rowErrD (u : TypeId) (h : Tryz.prog.typeName? 3 u = some "*errors.errorString") : u = 192 :=
  typeName_ptr_named (nm := "errors.errorString") (by rw [show "*" ++ "errors.errorString" = "*errors.errorString" by decide]; kernel_rfl) (by kernel_rfl) (by decide) u (by rw [show "*" ++ "errors.errorString" = "*errors.errorString" by decide]; exact h)
theorem dt_of_laid {W : World} (hsh : W.ShapedOpen Tryz.prog) (h : laidMet Tryz.prog Rows.diagramRowsRow.laid W) : DtAt W := by
  have h1 := h.tail.tail
  have h2 := h1.tail.tail
  have hp : Lib.TabIs Tryz.prog W "internal/strconv.uint64pow10" .u64 Lib.pow10Tab :=
    Lib.tabIs_of_head (g := 1) (t := 176) (by kernel_rfl) (by kernel_rfl) Tryz.underlying176 Tryz.underlying139 (by kernel_rfl) (by kernel_rfl) h1
  obtain ⟨a, s, hv, _⟩ := laid_sentinel h2 (g := 3) (ti := 89) (by kernel_rfl) (by kernel_rfl) Tryz.underlying89 rowErrD Tryz.underlying192 Tryz.underlying194 rfl rfl Tryz.underlying9 (by kernel_rfl) (by kernel_rfl)
  refine ⟨Tryz.laysM146.s1_3 W hsh, hp, .iface 192 (.pointer (some a)), ?_, .inr ⟨_, _, rfl⟩⟩
  rw [World.var?_cell (g := 3) (by kernel_rfl) hv 0]; rfl
end Go.Proofs.YtoccplfnjammjaaGreatDoor
