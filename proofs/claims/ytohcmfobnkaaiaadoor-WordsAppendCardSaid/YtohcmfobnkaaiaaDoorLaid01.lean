/- torchonlaw01: the listed variables hold what the functions of words read. -/
import Derived.Test.YtohcmfobnkaaiaaDoorWNum
import Derived.Test.YtohcmfobnkaaiaaDoorShelf
import Derived.Test.YtohcmfobnkaaiaaDoorRows
import Derived.Stop.LaidErr
import Derived.Lib.LaidTab
set_option linter.unusedSimpArgs false
set_option linter.unusedVariables false
namespace Go.Proofs.YtohcmfobnkaaiaaDoor
open Go Go.RowKit Tor

theorem rowErr (u : TypeId) (h : Tryd.prog.typeName? 3 u = some "*errors.errorString") : u = 152 :=
  typeName_ptr_named (nm := "errors.errorString") (by rw [show "*" ++ "errors.errorString" = "*errors.errorString" by decide]; kernel_rfl) (by kernel_rfl) (by decide) u (by rw [show "*" ++ "errors.errorString" = "*errors.errorString" by decide]; exact h)
theorem wd_of_laid {W : World} (hsh : W.ShapedOpen Tryd.prog) (h : laidMet Tryd.prog Rows.wordsNamesRow.laid W) : WdAt W := by
  have h1 := h.tail.tail
  have h2 := h1.tail.tail
  have h3 := h2.tail.tail
  have hp : Lib.TabIs Tryd.prog W "internal/strconv.uint64pow10" .u64 Lib.pow10Tab :=
    Lib.tabIs_of_head (g := 4) (t := 143) (by kernel_rfl) (by kernel_rfl) Tryd.underlying143 Tryd.underlying124 (by kernel_rfl) (by kernel_rfl) h1
  have ht : Lib.TabIs Tryd.prog W "torchon/words.tens" .i64 [10, 100, 1000] :=
    Lib.tabIs_of_head (g := 0) (t := 100) (by kernel_rfl) (by kernel_rfl) Tryd.underlying100 Tryd.underlying3 (by kernel_rfl) (by kernel_rfl) h3
  have hg : Tryd.prog.globalNamed "torchon/words.tens" = some 0 := by kernel_rfl
  obtain ⟨a, s, hv, _⟩ := laid_sentinel h2 (g := 3) (ti := 77) (by kernel_rfl) (by kernel_rfl) Tryd.underlying77 rowErr Tryd.underlying152 Tryd.underlying154 rfl rfl Tryd.underlying9 (by kernel_rfl) (by kernel_rfl)
  refine ⟨Tryd.laysM146.s1_3 W hsh, hp, ⟨.iface 152 (.pointer (some a)), ?_, .inr ⟨_, _, rfl⟩⟩, ?_, ?_, ?_⟩
  · rw [World.var?_cell (g := 3) (by kernel_rfl) hv 0]; rfl
  · rw [World.var?_cell hg ht 0]; rfl
  · rw [World.var?_cell hg ht 1]; rfl
  · rw [World.var?_cell hg ht 2]; rfl
end Go.Proofs.YtohcmfobnkaaiaaDoor
