/- The listed variables hold what strconv reads (rows of CompileTexts and CompileWider). -/
import Derived.Test.YtmfklcnocekdlaaGreatDoorCRead
import Derived.Test.YtmfklcnocekdlaaGreatDoorRows
import Derived.Stop.LaidErr
import Derived.Lib.LaidTab
set_option linter.unusedSimpArgs false
set_option linter.unusedVariables false
namespace Go.Proofs.YtmfklcnocekdlaaGreatDoor
open Go Go.RowKit Tor

theorem rowErr (u : TypeId) (h : Tryz.prog.typeName? 3 u = some "*errors.errorString") : u = 229 :=
  typeName_ptr_named (nm := "errors.errorString") (by rw [show "*" ++ "errors.errorString" = "*errors.errorString" by decide]; kernel_rfl) (by kernel_rfl) (by decide) u (by rw [show "*" ++ "errors.errorString" = "*errors.errorString" by decide]; exact h)
theorem cp_of_laid {W : World} (hsh : W.ShapedOpen Tryz.prog) (h : laidMet Tryz.prog Rows.compileTextsRow.laid W) : CpAt W := by
  have h1 := h.tail.tail
  have h2 := h1.tail
  have hp : Lib.TabIs Tryz.prog W "internal/strconv.uint64pow10" .u64 Lib.pow10Tab :=
    Lib.tabIs_of_head (g := 1) (t := 196) (by kernel_rfl) (by kernel_rfl) Tryz.underlying196 Tryz.underlying176 (by kernel_rfl) (by kernel_rfl) h1
  obtain ⟨a, s, hv, _⟩ := laid_sentinel h2 (g := 3) (ti := 68) (by kernel_rfl) (by kernel_rfl) Tryz.underlying68 rowErr Tryz.underlying229 Tryz.underlying231 rfl rfl Tryz.underlying9 (by kernel_rfl) (by kernel_rfl)
  refine ⟨Tryz.laysM146.s1_3 W hsh, hp, ⟨.iface 229 (.pointer (some a)), ?_, .inr ⟨_, _, rfl⟩⟩⟩
  rw [World.var?_cell (g := 3) (by kernel_rfl) hv 0]; rfl
end Go.Proofs.YtmfklcnocekdlaaGreatDoor
