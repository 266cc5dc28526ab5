/- The planner's map: its keys. -/
import Derived.Test.YtogkgoabonbkkaaDoorNext
import Derived.Maps.OwnSet
import Derived.DeepKeys4
set_option linter.unusedSimpArgs false
set_option linter.unusedVariables false
namespace Go.Proofs.YtogkgoabonbkkaaDoor
open Go Go.RowKit Tor Go.Maps

theorem laidOut : laidOutB Tryd.prog = true := by kernel_rfl
theorem rowState : (95 : TypeId) < Tryd.prog.types.size := of_decide_eq_true (by kernel_rfl)
theorem wideState : (match Tryd.prog.underlying 95 with | some (.array _ _) | some (.struct _) => true | _ => false) = true := by kernel_rfl

set_option maxRecDepth 100000 in
theorem lawState : Keyed Tryd.prog 95 := Keyed.of_law (deep_law_laid laidOut (m := 4) (by omega) rowState (by kernel_rfl) wideState)
theorem zeroInt (w : World) : (zeroValue 3).run Tryd.prog w = .ok (.int .i64 0) w := by kernel_rfl

def keyL (d lo hi : Int) : Lit := .string (keyBytes [.int .i64 d, .int .i64 lo, .int .i64 hi])
theorem wf_small (n : Int) (h0 : 0 ≤ n) (h1 : n ≤ 100000) : (Lit.int .i64 n).wf = true := WalkArith.wf_i64 (by omega)
theorem cellsState : Tryd.prog.cellsOf 95 = 3 := by kernel_rfl
theorem cellsWindow : Tryd.prog.cellsOf 84 = 2 := by kernel_rfl
theorem cellsInt : Tryd.prog.cellsOf 3 = 1 := by kernel_rfl
theorem keyTState : Tryd.prog.keyType 95 = true := by kernel_rfl

theorem key_int (m : Nat) (n : Int) (h0 : 0 ≤ n) (h1 : n ≤ 100000) : Tryd.prog.keyLits (m + 1) 3 [.int .i64 n] = some [.int .i64 n] := by
  unfold Program.keyLits
  simp [Tryd.underlying3, wf_small n h0 h1]
theorem key_window (m : Nat) (a b : Int) (h0 : 0 ≤ a) (h1 : a ≤ 100000) (h2 : 0 ≤ b) (h3 : b ≤ 100000) : Tryd.prog.keyLits (m + 2) 84 [.int .i64 a, .int .i64 b] = some [.int .i64 a, .int .i64 b] := by
  unfold Program.keyLits
  simp [Tryd.underlying84, cellsWindow, cellsInt, key_int m a h0 h1, key_int m b h2 h3]
theorem key_state3 (m : Nat) (d a b : Int) (g0 : 0 ≤ d) (g1 : d ≤ 100000) (h0 : 0 ≤ a) (h1 : a ≤ 100000) (h2 : 0 ≤ b) (h3 : b ≤ 100000) : Tryd.prog.keyLits (m + 3) 95 [.int .i64 d, .int .i64 a, .int .i64 b] = some [.int .i64 d, .int .i64 a, .int .i64 b] := by
  unfold Program.keyLits
  simp [Tryd.underlying95, cellsState, cellsWindow, cellsInt, key_int (m + 1) d g0 g1, key_window m a b h0 h1 h2 h3]

theorem key_state (d a b : Int) (g0 : 0 ≤ d) (g1 : d ≤ 100000) (h0 : 0 ≤ a) (h1 : a ≤ 100000) (h2 : 0 ≤ b) (h3 : b ≤ 100000) : keyOf Tryd.prog 95 (.agg #[.int .i64 d, .int .i64 a, .int .i64 b]) = some (keyL d a b) := by
  have hs : 3 ≤ Tryd.prog.types.size + 1 := of_decide_eq_true (by kernel_rfl)
  obtain ⟨m, hm⟩ : ∃ m, Tryd.prog.types.size + 1 = m + 3 := ⟨_, (Nat.sub_add_cancel hs).symm⟩
  unfold keyOf
  rw [hm]
  simp [Tryd.underlying95, keyTState, Value.formed, cellsState, Value.cells, key_state3 m d a b g0 g1 h0 h1 h2 h3, keyL]

theorem key_inj {d a b d' a' b' : Int} (g0 : 0 ≤ d) (g1 : d ≤ 100000) (h0 : 0 ≤ a) (h1 : a ≤ 100000) (h2 : 0 ≤ b) (h3 : b ≤ 100000) (g0' : 0 ≤ d') (g1' : d' ≤ 100000) (h0' : 0 ≤ a') (h1' : a' ≤ 100000) (h2' : 0 ≤ b') (h3' : b' ≤ 100000)
    (h : keyL d a b = keyL d' a' b') : d = d' ∧ a = a' ∧ b = b' := by
  have e1 := key_state d a b g0 g1 h0 h1 h2 h3
  have e2 := key_state d' a' b' g0' g1' h0' h1' h2' h3'
  rw [← h] at e2
  have := lawState.inj e1 e2
  simpa using this
theorem key_is (d a b : Int) : WideAt.IsKeyLit (keyL d a b) := trivial

end Go.Proofs.YtogkgoabonbkkaaDoor
