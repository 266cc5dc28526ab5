/- stitches: twists. -/
import Derived.Test.YtfnklchhhojimaaStitchM
import Derived.Test.YtfnklchhhojimaaRowG
set_option linter.unusedSimpArgs false
set_option linter.unusedVariables false
namespace Go.Proofs.Ytfnklchhhojimaa
open Go Go.RowKit Tor

def twV (c : UInt8) : Value := .agg #[.int .i64 (twL c), .int .i64 (twM c), .int .i64 (twR c)]
theorem letters_cases {c : UInt8} (h : isLetter c = true) : c = 67 ∨ c = 84 ∨ c = 76 ∨ c = 82 ∨ c = 80 ∨ c = 99 ∨ c = 116 ∨ c = 108 ∨ c = 114 := by
  simpa [isLetter, lettersL] using h


set_option maxRecDepth 100000 in
theorem twists_any (c : UInt8) (w : World) (hc : isLetter c = true) (hp : c ≠ 80) :
    Calls Try.prog 74 #[.int .u8 c.toNat] w (Ret (twV c) w) := by
  rcases letters_cases hc with rfl | rfl | rfl | rfl | rfl | rfl | rfl | rfl | rfl
  case inr.inr.inr.inr.inl => exact absurd rfl hp
  all_goals
    clear hc hp
    go_enter Try.func74, Try.ntmps74
    go_wp2_with fail
    refine bodyPost_ret (v := _) (by simp [results, Try.results74, go_sem]; rfl) rfl (Ret.val ?_ ?_)
  all_goals first
    | rfl
    | ((repeat' first | exact Below.refl _ _ | apply Below.drew | (refine Below.setCells ?_ _ _ ?_) | (refine Below.setCell ?_ ?_ _) | (refine Below.alloc ?_ ?_ _) | (simp; done) | (simp; omega)))
end Go.Proofs.Ytfnklchhhojimaa
