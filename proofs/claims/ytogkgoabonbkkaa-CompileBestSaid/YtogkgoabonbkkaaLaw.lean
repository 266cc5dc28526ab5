/- far, the reference's Steps, what a checked sheet is. -/
import Derived.Test.YtogkgoabonbkkaaAwake2
set_option linter.unusedSimpArgs false
set_option linter.unusedVariables false
namespace Go.Proofs.Ytogkgoabonbkkaa
open Go Go.RowKit Tor

/-- is it more than is looked at? -/
def farB (n : Nat) (m : Int) : Bool := (decide (m < (n : Int)) && decide (n ≤ 400)) || decide (450 < n)

theorem far_any (p : Int) (A : Option Addr) (l : List Tri) (c : Nat) (m : Int) (w : World) (hl : l.length ≤ 9223372036854775807) :
    Calls Try.prog 10 #[.agg #[.int .i64 p, .slice A l.length c], .int .i64 m] w (Ret (.bool (farB l.length m)) w) := by
  rcases (show (m < (l.length : Int) ∧ (l.length : Int) ≤ 400) ∨ (m < (l.length : Int) ∧ ¬ (l.length : Int) ≤ 400 ∧ (450 : Int) < l.length) ∨ (m < (l.length : Int) ∧ ¬ (l.length : Int) ≤ 400 ∧ ¬ (450 : Int) < l.length) ∨ (¬ m < (l.length : Int) ∧ (450 : Int) < l.length) ∨ (¬ m < (l.length : Int) ∧ ¬ (450 : Int) < l.length) from by omega) with ⟨h1, h2⟩ | ⟨h1, h2, h3⟩ | ⟨h1, h2, h3⟩ | ⟨h1, h3⟩ | ⟨h1, h3⟩
  all_goals
    have t1 : Hid (farB l.length m = (decide (m < (l.length : Int)) && decide ((l.length : Int) ≤ 400) || decide ((450 : Int) < l.length))) := by
      show _ = _
      unfold farB
      rw [show decide (l.length ≤ 400) = decide ((l.length : Int) ≤ 400) by apply decide_eq_decide.2; omega, show decide (450 < l.length) = decide ((450 : Int) < l.length) by apply decide_eq_decide.2; omega]
    go_enter Try.func10, Try.ntmps10
    go_wp2_with fail
    go_ret
    refine Ret.bool ?_ ((Below.refl _ _).alloc (Nat.le_refl _) _)
    rw [t1.out]
    first
      | (simp [*]; done)
      | (simp [*]; omega)

theorem rSteps_ok (P S : Int) (A : Option Addr) (l : List Tri) (c : Nat) (w : World) (H : Nat) (hr : RdT w H A l) (hH : H ≤ w.heap.size)
    (hw : ∀ (k : Nat) (hk : k < l.length), l[k].s.size ≤ 9223372036854775807) (hchk : chkE P l S = 0)
    (hb : ∀ (k : Nat) (hk : k < l.length), 0 ≤ l[k].b ∧ l[k].b ≤ P - 2) (hl : l.length ≤ 1000) (b1 : 2 ≤ S) (b2 : S ≤ P) (b3 : P ≤ 24) :
    Calls Try.prog 26 #[.agg #[.int .i64 P, .slice A l.length c], .int .i64 S] w fun e w' => ∃ v, e = .returned (.tuple #[v, .int .i64 0]) ∧ Own 3 Tri.enc w' w.heap.size 63 v (rst P S l (-1)) ∧ Below w.heap.size w w' := by
  have HC := Lib.hid hchk
  have HB := Lib.hid hb
  have HW := Lib.hid hw
  clear hchk hb hw
  go_enter Try.func26, Try.ntmps26
  go_wp2_with (first
    | (go_at_call 41; refine (rcheck_any P A l c S _ H (hr.below' (B' := w.heap.size) (by (repeat' first | exact Below.refl _ _ | apply Below.drew | (refine Below.setCells ?_ _ _ ?_) | (refine Below.setCell ?_ ?_ _) | (refine Below.alloc ?_ ?_ _) | (simp; done) | (simp; omega))) hH) (by simp; omega) HW.out (by omega)).mono ?_; rintro e w1 ⟨rfl, hB1⟩; rw [HC.out]
       have kS := (Blk.new w 24 #[.int .i64 P, .slice A l.length c]).below' hB1
       have c0 := kS.cell 0 (.int .i64 P) rfl
       have c1 := kS.cell 1 (.slice A l.length c) rfl
       have hBw : Below w.heap.size w w1 := Below.trans (b := w.alloc (.cells #[.int .i64 P, .slice A l.length c] 24)) (by (repeat' first | exact Below.refl _ _ | apply Below.drew | (refine Below.setCells ?_ _ _ ?_) | (refine Below.setCell ?_ ?_ _) | (refine Below.alloc ?_ ?_ _) | (simp; done) | (simp; omega))) (hB1.mono (by simp))
       have hz := hBw.size)
    | (go_at_call 54; refine (rsteps_any P A l c S w1 H (hr.below' hBw hH) (by omega) (fun k hk => by have := HB.out k hk; omega) hl b1 b2 b3).mono ?_; rintro e w9 ⟨vv, rfl, hownF, hBF⟩))
  go_ret2
  exact ⟨vv, rfl, hownF.base hz, hBw.trans (hBF.mono hz)⟩
theorem rSteps_err (P S : Int) (A : Option Addr) (l : List Tri) (c : Nat) (w : World) (H : Nat) (hr : RdT w H A l) (hH : H ≤ w.heap.size)
    (hw : ∀ (k : Nat) (hk : k < l.length), l[k].s.size ≤ 9223372036854775807) (hchk : chkE P l S ≠ 0) (hl : l.length ≤ 9223372036854775807) :
    Calls Try.prog 26 #[.agg #[.int .i64 P, .slice A l.length c], .int .i64 S] w fun e w' => e = .returned (.tuple #[.slice none 0 0, .int .i64 (chkE P l S)]) ∧ Below w.heap.size w w' := by
  have t1 : (chkE P l S != 0) = true := by simpa using hchk
  have HC := Lib.hid hchk
  have HW := Lib.hid hw
  clear hchk hw
  go_enter Try.func26, Try.ntmps26
  go_wp2_with (first
    | (go_at_call 41; refine (rcheck_any P A l c S _ H (hr.below' (B' := w.heap.size) (by (repeat' first | exact Below.refl _ _ | apply Below.drew | (refine Below.setCells ?_ _ _ ?_) | (refine Below.setCell ?_ ?_ _) | (refine Below.alloc ?_ ?_ _) | (simp; done) | (simp; omega))) hH) (by simp; omega) HW.out (by omega)).mono ?_; rintro e w1 ⟨rfl, hB1⟩
       have hBw : Below w.heap.size w w1 := Below.trans (b := w.alloc (.cells #[.int .i64 P, .slice A l.length c] 24)) (by (repeat' first | exact Below.refl _ _ | apply Below.drew | (refine Below.setCells ?_ _ _ ?_) | (refine Below.setCell ?_ ?_ _) | (refine Below.alloc ?_ ?_ _) | (simp; done) | (simp; omega))) (hB1.mono (by simp))))
  go_ret2
  exact ⟨rfl, hBw⟩

/-- a sheet that is checked -/
structure Good (p : Int) (l : List Tri) (s : Int) : Prop where
  b1 : 2 ≤ s
  b2 : s ≤ p
  b3 : p ≤ 24
  n : l.length ≤ 400
  b : ∀ (k : Nat) (hk : k < l.length), 0 ≤ l[k].b ∧ l[k].b ≤ p - 2
  sh : sheetE p l = 0
theorem good_of {p s : Int} {l : List Tri} (h : chkE p l s = 0) : Good p l s := by
  unfold chkE at h
  by_cases hs : sheetE p l = 0
  · rw [if_pos hs] at h
    have hsp : spansB p s = true := by
      cases hsp : spansB p s
      · rw [hsp] at h; simp at h
      · rfl
    unfold spansB at hsp
    simp only [Bool.and_eq_true, decide_eq_true_eq] at hsp
    have hs2 := hs
    unfold sheetE at hs2
    split at hs2
    · cases hs2
    · rename_i h3
      split at hs2
      · cases hs2
      · split at hs2
        · cases hs2
        · rename_i hbad
          have hbad' : l.any (badW p) = false := by simpa using hbad
          have h24 : ¬ 24 < p := fun h => h3 (Or.inl h)
          have h400 : ¬ 400 < l.length := fun h => h3 (Or.inr (Or.inl h))
          refine ⟨by omega, by omega, by omega, by omega, fun k hk => ?_, hs⟩
          have := any_not hbad' k hk
          rw [badW_false] at this
          omega
  · rw [if_neg hs] at h; exact absurd h hs
end Go.Proofs.Ytogkgoabonbkkaa
