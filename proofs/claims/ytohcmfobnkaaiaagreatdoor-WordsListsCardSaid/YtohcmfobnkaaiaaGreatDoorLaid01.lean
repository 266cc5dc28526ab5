/- torchonlaw01: the listed variables hold what the functions of words read. -/
import Derived.Test.YtohcmfobnkaaiaaGreatDoorWNum
import Derived.Test.YtohcmfobnkaaiaaGreatDoorShelf
import Derived.Test.YtohcmfobnkaaiaaGreatDoorRows
import Derived.Stop.LaidErr
import Derived.Lib.LaidTab
set_option linter.unusedSimpArgs false
set_option linter.unusedVariables false
namespace Go.Proofs.YtohcmfobnkaaiaaGreatDoor
open Go Go.RowKit Tor

theorem rowErr (u : TypeId) (h : Tryz.prog.typeName? 3 u = some "*errors.errorString") : u = 147 :=
  typeName_ptr_named (nm := "errors.errorString") (by rw [show "*" ++ "errors.errorString" = "*errors.errorString" by decide]; kernel_rfl) (by kernel_rfl) (by decide) u (by rw [show "*" ++ "errors.errorString" = "*errors.errorString" by decide]; exact h)
theorem wd_of_laid {W : World} (hsh : W.ShapedOpen Tryz.prog) (h : laidMet Tryz.prog Rows.wordsListsRow.laid W) : WdAt W := by
  have h1 := h.tail.tail
  have h2 := h1.tail.tail
  have h3 := h2.tail.tail
  have hp : Lib.TabIs Tryz.prog W "internal/strconv.uint64pow10" .u64 Lib.pow10Tab :=
    Lib.tabIs_of_head (g := 4) (t := 127) (by kernel_rfl) (by kernel_rfl) Tryz.underlying127 Tryz.underlying115 (by kernel_rfl) (by kernel_rfl) h1
  have ht : Lib.TabIs Tryz.prog W "torchon/words.tens" .i64 [10, 100, 1000] :=
    Lib.tabIs_of_head (g := 0) (t := 79) (by kernel_rfl) (by kernel_rfl) Tryz.underlying79 Tryz.underlying3 (by kernel_rfl) (by kernel_rfl) h3
  have hg : Tryz.prog.globalNamed "torchon/words.tens" = some 0 := by kernel_rfl
  obtain ⟨a, s, hv, _⟩ := laid_sentinel h2 (g := 6) (ti := 51) (by kernel_rfl) (by kernel_rfl) Tryz.underlying51 rowErr Tryz.underlying147 Tryz.underlying149 rfl rfl Tryz.underlying9 (by kernel_rfl) (by kernel_rfl)
  refine ⟨Tryz.laysM146.s1_3 W hsh, hp, ⟨.iface 147 (.pointer (some a)), ?_, .inr ⟨_, _, rfl⟩⟩, ?_, ?_, ?_⟩
  · rw [World.var?_cell (g := 6) (by kernel_rfl) hv 0]; rfl
  · rw [World.var?_cell hg ht 0]; rfl
  · rw [World.var?_cell hg ht 1]; rfl
  · rw [World.var?_cell hg ht 2]; rfl
end Go.Proofs.YtohcmfobnkaaiaaGreatDoor
