/- Plain: quotations, written and read byte by byte. -/
import Derived.Lib.CountLaws
import Derived.Lib.ReplaceLaws
import Derived.Test.YtmfklcnocekdlaaGreatDoorWdM
set_option linter.unusedSimpArgs false
set_option linter.unusedVariables false
namespace Go.Proofs.YtmfklcnocekdlaaGreatDoor
open Go

section
variable {old new : List UInt8}
theorem idx_hit {c : UInt8} {r : List UInt8} (h : old.isPrefixOf (c :: r) = true) : Lib.index (c :: r) old = 0 := by unfold Lib.index; rw [if_pos h]
theorem idx_miss {c : UInt8} {r : List UInt8} (h : old.isPrefixOf (c :: r) = false) : (Lib.index r old = -1 ∧ Lib.index (c :: r) old = -1) ∨ (∃ i : Nat, Lib.index r old = i ∧ Lib.index (c :: r) old = (i + 1 : Nat)) := by
  have hg := Lib.index_ge r old
  have he : Lib.index (c :: r) old = (if Lib.index r old == -1 then -1 else Lib.index r old + 1) := by
    rw [Lib.index, h]
    simp only [Bool.false_eq_true, if_false]
  rw [he]
  by_cases hm : Lib.index r old = -1
  · left; rw [hm]; exact ⟨rfl, rfl⟩
  · right
    refine ⟨(Lib.index r old).toNat, by omega, ?_⟩
    have : (Lib.index r old == -1) = false := beq_eq_false_iff_ne.2 hm
    rw [this]
    simp only [Bool.false_eq_true, if_false]
    omega
theorem cnt_miss (ho : old ≠ []) {c : UInt8} {r : List UInt8} (h : old.isPrefixOf (c :: r) = false) : Lib.count (c :: r) old = Lib.count r old := by
  rcases idx_miss h with ⟨h1, h2⟩ | ⟨i, h1, h2⟩
  · rw [Lib.count_miss h1, Lib.count_miss h2]
  · rw [Lib.count_hit ho h1, Lib.count_hit ho h2, show i + 1 + old.length = (i + old.length) + 1 by omega, List.drop_succ_cons]
theorem cnt_hit (ho : old ≠ []) {c : UInt8} {r : List UInt8} (h : old.isPrefixOf (c :: r) = true) : Lib.count (c :: r) old = 1 + Lib.count ((c :: r).drop old.length) old := by
  have := Lib.count_hit (s := c :: r) (i := 0) ho (by rw [idx_hit h]; rfl)
  simpa using this
end

/-- each quotation mark is doubled -/
def qd (L : List UInt8) : List UInt8 := L.flatMap fun c => if c = 34 then [34, 34] else [c]
end Go.Proofs.YtmfklcnocekdlaaGreatDoor

