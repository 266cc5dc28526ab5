/- Small functions: spans, Held, Touch, windows. -/
import Derived.Test.YtogkgoabonbkkaaDoorFacts
set_option linter.unusedSimpArgs false
set_option linter.unusedVariables false
namespace Go.Proofs.YtogkgoabonbkkaaDoor
open Go Go.RowKit Tor

def spansB (pairs span : Int) : Bool := decide (2 ≤ span) && decide (span ≤ 8) && decide (span ≤ pairs)

theorem cspans_any (p s : Int) (w : World) :
    Calls Tryd.prog 19 #[.int .i64 p, .int .i64 s] w (Ret (.bool (spansB p s)) w) := by
  by_cases h1 : 2 ≤ s <;> by_cases h2 : s ≤ 8 <;> by_cases h3 : s ≤ p
  all_goals
    go_enter Tryd.func19, Tryd.ntmps19
    go_wp2
    all_goals go_ret
    all_goals exact Ret.bool (by rw [Bool.eq_iff_iff]; simp [spansB] <;> omega) (Below.refl _ _)

def heldB (h s at' : Int) : Bool := decide (0 ≤ h) && decide (h ≤ at') && decide (at' + 2 ≤ h + s)

def touchB (x y : Int) : Bool := decide (x - y ≤ 1) && decide (y - x ≤ 1)

theorem open_any (x y : Int) (w : World) :
    Calls Tryd.prog 45 #[.agg #[.int .i64 x, .int .i64 y]] w (Ret (.bool (decide (x ≤ y))) w) := by
  go_enter Tryd.func45, Tryd.ntmps45
  go_wp2
  go_ret
  exact Ret.bool (by simp [*]) ((Below.refl _ _).alloc (Nat.le_refl _) _)

theorem and_any (x y p q : Int) (w : World) :
    Calls Tryd.prog 44 #[.agg #[.int .i64 x, .int .i64 y], .agg #[.int .i64 p, .int .i64 q]] w (Ret (.agg #[.int .i64 (max x p), .int .i64 (min y q)]) w) := by
  by_cases h1 : x ≤ p <;> by_cases h2 : y ≤ q
  all_goals
    go_enter Tryd.func44, Tryd.ntmps44
    go_wp2
    all_goals
      refine bodyPost_ret (v := _) (by simp [results, Tryd.results44, go_sem]; rfl) rfl (Ret.val ?_ ((((Below.refl _ _).alloc (Nat.le_refl _) _).alloc (by simp) _).alloc (by simp; omega) _))
    all_goals simp; omega

theorem nowhere_any (w : World) :
    Calls Tryd.prog 47 #[] w (Ret (.agg #[.int .i64 1, .int .i64 0]) w) := by
  go_enter Tryd.func47, Tryd.ntmps47
  go_wp2
  all_goals
    refine bodyPost_ret (v := _) (by simp [results, Tryd.results47, go_sem]; rfl) rfl (Ret.val ?_ (((Below.refl _ _).alloc (Nat.le_refl _) _)))
  all_goals simp


/-- compile.of: the window of work i -/
theorem of_any (p : Int) (A : Option Addr) (l : List Tri) (c : Nat) (s : Int) (k : Nat) (b o : Nat) (w : World) (H : Nat) (hr : RdT w H A l) (hp : w.cell? ⟨b, o, none⟩ = some (.int .i64 p)) (hq : w.cell? ⟨b, o + 1, none⟩ = some (.slice A l.length c))
    (hi : k < l.length) (b1 : 0 ≤ s) (b2 : s ≤ 1000) (b3 : 0 ≤ p) (b4 : p ≤ 1000) (b5 : 0 ≤ l[k].b) (b6 : l[k].b ≤ 1000) :
    Calls Tryd.prog 43 #[.pointer (some ⟨b, o, none⟩), .int .i64 s, .int .i64 k] w (Ret (.agg #[.int .i64 (max 0 (l[k].b + 2 - s)), .int .i64 (min l[k].b (p - s))]) w) := by
  obtain ⟨b', o', rfl, hb0, h0, h1, h2⟩ := hr.tri hi
  have hbb := lt_of_cell hp
  have hbb' := lt_of_cell h0
  by_cases c1 : l[k].b + 2 - s ≤ 0 <;> by_cases c2 : l[k].b ≤ p - s
  all_goals
    go_enter Tryd.func43, Tryd.ntmps43
    go_wp2
    all_goals
      refine bodyPost_ret (v := _) (by simp [results, Tryd.results43, go_sem]; rfl) rfl (Ret.val ?_ (((Below.refl _ _).alloc (Nat.le_refl _) _)))
  all_goals simp; omega

end Go.Proofs.YtogkgoabonbkkaaDoor
