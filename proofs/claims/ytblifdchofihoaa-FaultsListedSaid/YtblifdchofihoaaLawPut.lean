/- The law FaultsPut, walked. -/
import Derived.Test.YtblifdchofihoaaLaw25
import Derived.Test.YtblifdchofihoaaRef25d
set_option linter.unusedSimpArgs false
set_option linter.unusedVariables false
namespace Go.Proofs.Ytblifdchofihoaa
open Go Go.RowKit Tor

def farF (n : Nat) (m : Int) : Bool := decide (m < n ∧ n ≤ 1000 ∨ 1100 < n)
set_option maxRecDepth 100000 in
theorem far25_any (A : Option Addr) (n c : Nat) (m : Int) (w : World) (hl : n ≤ 9223372036854775807) :
    Calls Try.prog 9 #[.slice A n c, .int .i64 m] w (Ret (.bool (farF n m)) w) := by
  by_cases h1 : m < (n : Int) <;> by_cases h2 : (n : Int) ≤ 1000 <;> by_cases h3 : (1100 : Int) < (n : Int)
  all_goals
    have hF : Hid (farF n m = (decide (m < (n : Int)) && decide ((n : Int) ≤ 1000) || decide ((1100 : Int) < (n : Int)))) := by
      rw [Hid, Bool.eq_iff_iff]
      unfold farF
      simp
      omega
    rw [hF.out]
    go_enter Try.func9, Try.ntmps9
    go_wp2_with fail
    go_ret
    exact Ret.val (by simp [h1, h2, h3]) (Below.refl _ _)

theorem samesteps_eq (A B : Option Addr) (l : List Tri) (c d : Nat) (w : World) (H : Nat) (hl : l.length ≤ 100000) (ha : RdT w H A l) (hb : RdT w H B l) (hH : H ≤ w.heap.size) :
    Calls Try.prog 13 #[.slice A l.length c, .slice B l.length d] w (Ret (.bool true) w) := by
  have := sameSteps_any A B l l c d w H (by omega) ha hb hH
  simpa using this

set_option maxRecDepth 100000 in
set_option maxHeartbeats 4000000 in
theorem lawPut_any (P S : Int) (A : Option Addr) (l : List Tri) (c : Nat) (f g : Flt) (w : World) (H : Nat) (hr : RdT w H A l) (hH : H ≤ w.heap.size)
    (hw : ∀ (k : Nat) (hk : k < l.length), l[k].s.size ≤ 9223372036854775807) (hl : l.length ≤ 9223372036854775807) (hlc : l.length ≤ c) :
    Calls Try.prog 3 #[.agg #[.int .i64 P, .int .i64 S, .slice A l.length c, .int .i64 f.k, .int .i64 f.st, .int .i64 f.lt, .int .i64 f.wi, .int .i64 g.k, .int .i64 g.st, .int .i64 g.lt, .int .i64 g.wi]] w (Ret (.bool true) w) := by
  have hBB : Below w.heap.size w (w.alloc (.cells #[.int .i64 P, .int .i64 S, .slice A l.length c, .int .i64 f.k, .int .i64 f.st, .int .i64 f.lt, .int .i64 f.wi, .int .i64 g.k, .int .i64 g.st, .int .i64 g.lt, .int .i64 g.wi] 26)) := by (repeat' first | exact Below.refl _ _ | apply Below.drew | (refine Below.setCells ?_ _ _ ?_) | (refine Below.setCell ?_ ?_ _) | (refine Below.alloc ?_ ?_ _) | (simp; done) | (simp; omega))
  have kC := Blk.new w 26 #[.int .i64 P, .int .i64 S, .slice A l.length c, .int .i64 f.k, .int .i64 f.st, .int .i64 f.lt, .int .i64 f.wi, .int .i64 g.k, .int .i64 g.st, .int .i64 g.lt, .int .i64 g.wi]
  have HFR := Lib.hid (fun (w' : World) => far25_any A l.length c 120 w' hl)
  cases hfar : farF l.length 120
  rotate_left
  · rw [hfar] at HFR
    go_enter Try.func3, Try.ntmps3
    go_wp2_with (first
      | (go_at_call 9; refine (HFR.out _).mono ?_; rintro e w1 ⟨rfl, hB1⟩)
      | (go_at_call 10; refine (awake_any _).mono ?_; rintro e w2 ⟨rfl, hB2⟩)
      | fail)
    go_ret
    have hB3 := hBB.trans (hB1.mono hBB.size)
    exact Ret.val rfl (hB3.trans (hB2.mono hB3.size))
  rw [hfar] at HFR
  have hl2 : l.length ≤ 1100 := by
    have := of_decide_eq_false hfar
    omega
  have HP := Lib.hid (fun (w' : World) (hB : Below w.heap.size w w') => fput_any P S A l c f w' H (hr.below' hB hH) (Nat.le_trans hH hB.size) hw (by omega))
  have HR := Lib.hid (fun (w' : World) (hB : Below w.heap.size w w') => rPut_any P S A l c f w' H (hr.below' hB hH) (Nat.le_trans hH hB.size) hw (by omega) hlc)
  have hpl : (putR P S l f).1.length ≤ 100000 := by
    unfold putR accF
    have := putF_len l f
    (repeat' split) <;> simp <;> omega
  unfold PutRet at HP HR
  obtain ⟨E, hE⟩ : ∃ E, Hid ((putR P S l f).2 = E) := ⟨_, Lib.hid rfl⟩
  obtain ⟨L, hL⟩ : ∃ L, Hid ((putR P S l f).1 = L) := ⟨_, Lib.hid rfl⟩
  rw [hE.out, hL.out] at HP HR
  rw [hL.out] at hpl
  have hee : (E == E) = true := by simp
  clear hfar
  go_enter Try.func3, Try.ntmps3
  go_wp2_with (first
    | (go_at_call 9; refine (HFR.out _).mono ?_; rintro e w1 ⟨rfl, hB1⟩
       have hB1' := hBB.trans (hB1.mono hBB.size)
       have kC1 := kC.below' hB1
       have c0 := kC1.cell 0 (.int .i64 P) rfl
       have c1 := kC1.cell 1 (.int .i64 S) rfl
       have c2 := kC1.cell 2 (.slice A l.length c) rfl
       have c3 := kC1.cell 3 (.int .i64 f.k) rfl
       have c4 := kC1.cell 4 (.int .i64 f.st) rfl
       have c5 := kC1.cell 5 (.int .i64 f.lt) rfl
       have c6 := kC1.cell 6 (.int .i64 f.wi) rfl
       have c7 := kC1.cell 7 (.int .i64 g.k) rfl
       have c8 := kC1.cell 8 (.int .i64 g.st) rfl
       have c9 := kC1.cell 9 (.int .i64 g.lt) rfl
       have c10 := kC1.cell 10 (.int .i64 g.wi) rfl)
    | (go_at_call 11; refine (HP.out _ hB1').mono ?_; rintro e w2 ⟨A2, c2', rfl, hr2, hB2⟩
       have hB2' := hB1'.trans (hB2.mono hB1'.size)
       have kC2 := kC1.below' hB2
       have c0 := kC2.cell 0 (.int .i64 P) rfl
       have c1 := kC2.cell 1 (.int .i64 S) rfl
       have c2 := kC2.cell 2 (.slice A l.length c) rfl
       have c3 := kC2.cell 3 (.int .i64 f.k) rfl
       have c4 := kC2.cell 4 (.int .i64 f.st) rfl
       have c5 := kC2.cell 5 (.int .i64 f.lt) rfl
       have c6 := kC2.cell 6 (.int .i64 f.wi) rfl
       have c7 := kC2.cell 7 (.int .i64 g.k) rfl
       have c8 := kC2.cell 8 (.int .i64 g.st) rfl
       have c9 := kC2.cell 9 (.int .i64 g.lt) rfl
       have c10 := kC2.cell 10 (.int .i64 g.wi) rfl)
    | (go_at_call 12; refine (HR.out _ hB2').mono ?_; rintro e w3 ⟨A3, c3', rfl, hr3, hB3⟩
       have hB3' := hB2'.trans (hB3.mono hB2'.size)
       have hr2' := (hr2.below' hB3 (Nat.le_refl _)).more hB3.size)
    | (go_at_call 13; refine (samesteps_eq A2 A3 L _ _ _ _ hpl hr2' hr3 (Nat.le_refl _)).mono ?_; rintro e w4 ⟨rfl, hB4⟩
       have hB4' := hB3'.trans (hB4.mono hB3'.size))
    | (go_at_call 10; refine (awake_any _).mono ?_; rintro e w9 ⟨rfl, hB9⟩)
    | fail)
  go_ret
  exact Ret.val rfl (hB4'.trans (hB9.mono hB4'.size))
end Go.Proofs.Ytblifdchofihoaa
