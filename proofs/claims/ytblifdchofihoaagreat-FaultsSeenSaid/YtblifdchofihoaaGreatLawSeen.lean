/- The law FaultsSeen, walked. -/
import Derived.Test.YtblifdchofihoaaGreatLaw25
import Derived.Test.YtblifdchofihoaaGreatRSeen
set_option linter.unusedSimpArgs false
set_option linter.unusedVariables false
namespace Go.Proofs.YtblifdchofihoaaGreat
open Go Go.RowKit Tor

theorem bt {w w1 w2 : World} (h : Below w.heap.size w w1) (k : Below w1.heap.size w1 w2) : Below w.heap.size w w2 := h.trans (k.mono h.size)
theorem ba {w w1 : World} (h : Below w.heap.size w w1) (o : Obj) : Below w.heap.size w (w1.alloc o) := h.alloc h.size o
def farF (n : Nat) (m : Int) : Bool := decide (m < n ∧ n ≤ 1000 ∨ 1100 < n)
set_option maxRecDepth 100000 in
theorem far25_any (A : Option Addr) (n c : Nat) (m : Int) (w : World) (hl : n ≤ 9223372036854775807) :
    Calls Tryz.prog 4 #[.slice A n c, .int .i64 m] w (Ret (.bool (farF n m)) w) := by
  by_cases h1 : m < (n : Int) <;> by_cases h2 : (n : Int) ≤ 1000 <;> by_cases h3 : (1100 : Int) < (n : Int)
  all_goals
    have hF : Hid (farF n m = (decide (m < (n : Int)) && decide ((n : Int) ≤ 1000) || decide ((1100 : Int) < (n : Int)))) := by
      rw [Hid, Bool.eq_iff_iff]
      unfold farF
      simp
      omega
    rw [hF.out]
    go_enter Tryz.func4, Tryz.ntmps4
    go_wp2_with fail
    go_ret
    exact Ret.val (by simp [h1, h2, h3]) (Below.refl _ _)

set_option maxRecDepth 100000 in
set_option maxHeartbeats 16000000 in
theorem lawSeen_any (P S : Int) (A : Option Addr) (l : List Tri) (c : Nat) (f g : Flt) (p : Int) (B : Option Addr) (m : List Tri) (d : Nat) (w : World) (H : Nat) (hr : RdT w H A l) (hr2 : RdT w H B m) (hH : H ≤ w.heap.size)
    (hw : ∀ (k : Nat) (hk : k < l.length), l[k].s.size ≤ 9223372036854775807) (hw2 : ∀ (k : Nat) (hk : k < m.length), m[k].s.size ≤ 9223372036854775807) (hl : l.length ≤ 9223372036854775807) (hm : m.length ≤ 9223372036854775807) (hlc : l.length ≤ c) :
    Calls Tryz.prog 3 #[.agg #[.int .i64 P, .int .i64 S, .slice A l.length c, .int .i64 f.k, .int .i64 f.st, .int .i64 f.lt, .int .i64 f.wi, .int .i64 g.k, .int .i64 g.st, .int .i64 g.lt, .int .i64 g.wi], .agg #[.int .i64 p, .slice B m.length d]] w (Ret (.bool true) w) := by
  obtain ⟨W0, hW0⟩ : ∃ W0, Hid (W0 = (w.alloc (.cells #[.int .i64 P, .int .i64 S, .slice A l.length c, .int .i64 f.k, .int .i64 f.st, .int .i64 f.lt, .int .i64 f.wi, .int .i64 g.k, .int .i64 g.st, .int .i64 g.lt, .int .i64 g.wi] 26)).alloc (.cells #[.int .i64 p, .slice B m.length d] 29)) := ⟨_, Lib.hid rfl⟩
  have hBB : Below w.heap.size w W0 := by rw [hW0.out]; (repeat' first | exact Below.refl _ _ | apply Below.drew | (refine Below.setCells ?_ _ _ ?_) | (refine Below.setCell ?_ ?_ _) | (refine Below.alloc ?_ ?_ _) | (simp; done) | (simp; omega))
  have kC : Blk W0 w.heap.size 26 #[.int .i64 P, .int .i64 S, .slice A l.length c, .int .i64 f.k, .int .i64 f.st, .int .i64 f.lt, .int .i64 f.wi, .int .i64 g.k, .int .i64 g.st, .int .i64 g.lt, .int .i64 g.wi] := by rw [hW0.out]; exact (Blk.new w _ _).alloc _
  have kS : Blk W0 (w.heap.size + 1) 29 #[.int .i64 p, .slice B m.length d] := by
    rw [hW0.out]
    have := Blk.new (w.alloc (.cells #[.int .i64 P, .int .i64 S, .slice A l.length c, .int .i64 f.k, .int .i64 f.st, .int .i64 f.lt, .int .i64 f.wi, .int .i64 g.k, .int .i64 g.st, .int .i64 g.lt, .int .i64 g.wi] 26)) 29 #[.int .i64 p, .slice B m.length d]
    rw [World.size_alloc] at this
    exact this
  have HFR := Lib.hid (fun (w' : World) => far25_any A l.length c 80 w' hl)
  cases hfar : farF l.length 80
  rotate_left
  · rw [hfar] at HFR
    clear hfar
    go_enter Tryz.func3, Tryz.ntmps3
    go_wp2_with (first
      | (go_at_call 4; refine (HFR.out _).mono ?_; rw [← hW0.out]; rintro e w1 ⟨rfl, hB1⟩)
      | (go_at_call 5; refine (awake_any _).mono ?_; rintro e w2 ⟨rfl, hB2⟩)
      | fail)
    go_ret
    exact Ret.val rfl (bt (bt hBB hB1) hB2)
  rw [hfar] at HFR
  have hl2 : l.length ≤ 80 ∨ 1000 < l.length ∧ l.length ≤ 1100 := by
    have := of_decide_eq_false hfar
    omega
  clear hfar
  by_cases hfm : (100 < m.length ∧ m.length ≤ 400) ∨ 450 < m.length
  · rcases hfm with ⟨h1, h2⟩ | h1
    · have h1' : (100 : Int) < (m.length : Int) := by omega
      have h2' : (m.length : Int) ≤ 400 := by omega
      clear h1 h2
      go_enter Tryz.func3, Tryz.ntmps3
      go_wp2_with (first
        | (go_at_call 4; refine (HFR.out _).mono ?_; rw [← hW0.out]; rintro e w1 ⟨rfl, hB1⟩
           have kS1 := kS.below' hB1
           have s1 := kS1.cell 1 (.slice B m.length d) rfl)
        | (go_at_call 5; refine (awake_any _).mono ?_; rintro e w2 ⟨rfl, hB2⟩)
        | fail)
      go_ret
      exact Ret.val rfl (bt (bt hBB hB1) hB2)
    · have h1' : (450 : Int) < (m.length : Int) := by omega
      have h2' : ¬ (m.length : Int) ≤ 400 := by omega
      have h3' : (100 : Int) < (m.length : Int) := by omega
      clear h1
      go_enter Tryz.func3, Tryz.ntmps3
      go_wp2_with (first
        | (go_at_call 4; refine (HFR.out _).mono ?_; rw [← hW0.out]; rintro e w1 ⟨rfl, hB1⟩
           have kS1 := kS.below' hB1
           have s1 := kS1.cell 1 (.slice B m.length d) rfl)
        | (go_at_call 5; refine (awake_any _).mono ?_; rintro e w2 ⟨rfl, hB2⟩)
        | fail)
      go_ret
      exact Ret.val rfl (bt (bt hBB hB1) hB2)
  have hm2 : m.length ≤ 450 := by omega
  have HA := Lib.hid (fun (w' : World) (hB : Below w.heap.size w w') => fseen_any P S A l c f w' H (hr.below' hB hH) (Nat.le_trans hH hB.size) hw (by omega) (by omega))
  have HB := Lib.hid (fun (w' : World) (hB : Below w.heap.size w w') => rseen_any P S A l c f w' H (hr.below' hB hH) (Nat.le_trans hH hB.size) hw (by omega) (by omega) hlc)
  have HC := Lib.hid (fun (w' : World) (hB : Below w.heap.size w w') => fsame_any P S A l c f g w' H (hr.below' hB hH) (Nat.le_trans hH hB.size) hw (by omega) (by omega))
  have HD := Lib.hid (fun (w' : World) (hB : Below w.heap.size w w') => rsame_any P S A l c f g w' H (hr.below' hB hH) (Nat.le_trans hH hB.size) hw (by omega) (by omega) hlc)
  have HE := Lib.hid (fun (w' : World) (hB : Below w.heap.size w w') => plain_any p B m d w' H (hr2.below' hB hH) (Nat.le_trans hH hB.size) hw2 (by omega))
  have HF := Lib.hid (fun (w' : World) (hB : Below w.heap.size w w') => rplain_any p B m d w' H (hr2.below' hB hH) (Nat.le_trans hH hB.size) hw2 (by omega))
  have hpl : (plainR p m).2.1.length ≤ 100000 := by
    unfold plainR
    have := plainL_len m
    split
    · simp
    · simp only; omega
  unfold PlainPost at HE HF
  generalize (seenR P S l f).1 = xa at *
  generalize (seenR P S l f).2 = ea at *
  generalize (sameR P S l f g).1 = xc at *
  generalize (sameR P S l f g).2 = ec at *
  generalize (plainR p m).1 = pp at *
  generalize (plainR p m).2.1 = L at *
  generalize (plainR p m).2.2 = ep at *
  have y1 : (xa != xa) = false := by simp
  have y2 : (ea != ea) = false := by simp
  have y3 : (xc != xc) = false := by simp
  have y4 : (ec != ec) = false := by simp
  have y5 : (ep == ep) = true := by simp
  have h4 : ¬ (450 : Int) < (m.length : Int) := by omega
  rcases (show m.length ≤ 100 ∨ (100 < m.length ∧ 400 < m.length) by omega) with h5 | ⟨h5, h6⟩
  · have h7 : ¬ (100 : Int) < (m.length : Int) := by omega
    clear h5
    go_enter Tryz.func3, Tryz.ntmps3
    go_wp2_with (first
      | (go_at_call 4; refine (HFR.out _).mono ?_; rw [← hW0.out]; rintro e w1 ⟨rfl, hB1⟩
         have hB1' := bt hBB hB1
         have kC1 := kC.below' hB1
         have kS1 := kS.below' hB1
         have c0 := kC1.cell 0 (.int .i64 P) rfl
         have c1 := kC1.cell 1 (.int .i64 S) rfl
         have c2 := kC1.cell 2 (.slice A l.length c) rfl
         have c3 := kC1.cell 3 (.int .i64 f.k) rfl
         have c4 := kC1.cell 4 (.int .i64 f.st) rfl
         have c5 := kC1.cell 5 (.int .i64 f.lt) rfl
         have c6 := kC1.cell 6 (.int .i64 f.wi) rfl
         have c7 := kC1.cell 7 (.int .i64 g.k) rfl
         have c8 := kC1.cell 8 (.int .i64 g.st) rfl
         have c9 := kC1.cell 9 (.int .i64 g.lt) rfl
         have c10 := kC1.cell 10 (.int .i64 g.wi) rfl
         have s0 := kS1.cell 0 (.int .i64 p) rfl
         have s1 := kS1.cell 1 (.slice B m.length d) rfl
         have lC := kC1.lt
         have lS := kS1.lt)
      | (go_at_call 6; refine (HA.out _ hB1').mono ?_; rintro e w2 ⟨rfl, hB2⟩
         have hB2' := bt hB1' hB2
         have kC2 := kC1.below' hB2
         have kS2 := kS1.below' hB2
         have c0 := kC2.cell 0 (.int .i64 P) rfl
         have c1 := kC2.cell 1 (.int .i64 S) rfl
         have c2 := kC2.cell 2 (.slice A l.length c) rfl
         have c3 := kC2.cell 3 (.int .i64 f.k) rfl
         have c4 := kC2.cell 4 (.int .i64 f.st) rfl
         have c5 := kC2.cell 5 (.int .i64 f.lt) rfl
         have c6 := kC2.cell 6 (.int .i64 f.wi) rfl
         have c7 := kC2.cell 7 (.int .i64 g.k) rfl
         have c8 := kC2.cell 8 (.int .i64 g.st) rfl
         have c9 := kC2.cell 9 (.int .i64 g.lt) rfl
         have c10 := kC2.cell 10 (.int .i64 g.wi) rfl
         have s0 := kS2.cell 0 (.int .i64 p) rfl
         have s1 := kS2.cell 1 (.slice B m.length d) rfl
         have lC := kC2.lt
         have lS := kS2.lt)
      | (go_at_call 7; refine (HB.out _ hB2').mono ?_; rintro e w3 ⟨rfl, hB3⟩
         have hB3' := bt hB2' hB3
         have kC3 := kC2.below' hB3
         have kS3 := kS2.below' hB3
         have c0 := kC3.cell 0 (.int .i64 P) rfl
         have c1 := kC3.cell 1 (.int .i64 S) rfl
         have c2 := kC3.cell 2 (.slice A l.length c) rfl
         have c3 := kC3.cell 3 (.int .i64 f.k) rfl
         have c4 := kC3.cell 4 (.int .i64 f.st) rfl
         have c5 := kC3.cell 5 (.int .i64 f.lt) rfl
         have c6 := kC3.cell 6 (.int .i64 f.wi) rfl
         have c7 := kC3.cell 7 (.int .i64 g.k) rfl
         have c8 := kC3.cell 8 (.int .i64 g.st) rfl
         have c9 := kC3.cell 9 (.int .i64 g.lt) rfl
         have c10 := kC3.cell 10 (.int .i64 g.wi) rfl
         have s0 := kS3.cell 0 (.int .i64 p) rfl
         have s1 := kS3.cell 1 (.slice B m.length d) rfl
         have lC := kC3.lt
         have lS := kS3.lt)
      | (go_at_call 8; refine (HC.out _ hB3').mono ?_; rintro e w4 ⟨rfl, hB4⟩
         have hB4' := bt hB3' hB4
         have kC4 := kC3.below' hB4
         have kS4 := kS3.below' hB4
         have c0 := kC4.cell 0 (.int .i64 P) rfl
         have c1 := kC4.cell 1 (.int .i64 S) rfl
         have c2 := kC4.cell 2 (.slice A l.length c) rfl
         have c3 := kC4.cell 3 (.int .i64 f.k) rfl
         have c4 := kC4.cell 4 (.int .i64 f.st) rfl
         have c5 := kC4.cell 5 (.int .i64 f.lt) rfl
         have c6 := kC4.cell 6 (.int .i64 f.wi) rfl
         have c7 := kC4.cell 7 (.int .i64 g.k) rfl
         have c8 := kC4.cell 8 (.int .i64 g.st) rfl
         have c9 := kC4.cell 9 (.int .i64 g.lt) rfl
         have c10 := kC4.cell 10 (.int .i64 g.wi) rfl
         have s0 := kS4.cell 0 (.int .i64 p) rfl
         have s1 := kS4.cell 1 (.slice B m.length d) rfl
         have lC := kC4.lt
         have lS := kS4.lt)
      | (go_at_call 9; refine (HD.out _ hB4').mono ?_; rintro e w5 ⟨rfl, hB5⟩
         have hB5' := bt hB4' hB5
         have kC5 := kC4.below' hB5
         have kS5 := kS4.below' hB5
         have c0 := kC5.cell 0 (.int .i64 P) rfl
         have c1 := kC5.cell 1 (.int .i64 S) rfl
         have c2 := kC5.cell 2 (.slice A l.length c) rfl
         have c3 := kC5.cell 3 (.int .i64 f.k) rfl
         have c4 := kC5.cell 4 (.int .i64 f.st) rfl
         have c5 := kC5.cell 5 (.int .i64 f.lt) rfl
         have c6 := kC5.cell 6 (.int .i64 f.wi) rfl
         have c7 := kC5.cell 7 (.int .i64 g.k) rfl
         have c8 := kC5.cell 8 (.int .i64 g.st) rfl
         have c9 := kC5.cell 9 (.int .i64 g.lt) rfl
         have c10 := kC5.cell 10 (.int .i64 g.wi) rfl
         have s0 := kS5.cell 0 (.int .i64 p) rfl
         have s1 := kS5.cell 1 (.slice B m.length d) rfl
         have lC := kC5.lt
         have lS := kS5.lt)
      | (go_at_call 10; refine (HE.out _ hB5').mono ?_; rintro e w6 ⟨v6, rfl, hO6, hB6⟩
         obtain ⟨A6, q6, rfl, _, hd6⟩ := Own.rd tri_len hO6
         have hB6' := ba (bt hB5' hB6) (.cells #[.int .i64 pp, .slice A6 L.length q6] 29)
         have kS6 := (kS5.below' hB6).alloc (.cells #[.int .i64 pp, .slice A6 L.length q6] 29)
         have kT6 := Blk.new w6 29 #[.int .i64 pp, .slice A6 L.length q6]
         have hd6' : RdT (w6.alloc (.cells #[.int .i64 pp, .slice A6 L.length q6] 29)) w6.heap.size A6 L := hd6.below ((Below.refl _ _).alloc (Nat.le_refl _) _)
         have s0 := kS6.cell 0 (.int .i64 p) rfl
         have s1 := kS6.cell 1 (.slice B m.length d) rfl
         have lS := kS6.lt)
      | (go_at_call 11; refine (HF.out _ hB6').mono ?_; rintro e w7 ⟨v7, rfl, hO7, hB7⟩
         obtain ⟨A7, q7, rfl, _, hd7⟩ := Own.rd tri_len hO7
         have hB7' := ba (bt hB6' hB7) (.cells #[.int .i64 pp, .slice A7 L.length q7] 29)
         have kT7 := (kT6.below' hB7).alloc (.cells #[.int .i64 pp, .slice A7 L.length q7] 29)
         have kU7 := Blk.new w7 29 #[.int .i64 pp, .slice A7 L.length q7]
         have hz7 := hB7.size
         have hd6s : RdT (w7.alloc (.cells #[.int .i64 pp, .slice A7 L.length q7] 29)) w7.heap.size A6 L := ((hd6'.below' hB7 (by simp)).below' ((Below.refl w7.heap.size _).alloc (Nat.le_refl _) _) (by simp at hz7; omega)).more (by simp at hz7; omega)
         have hd7s : RdT (w7.alloc (.cells #[.int .i64 pp, .slice A7 L.length q7] 29)) w7.heap.size A7 L := hd7.below ((Below.refl _ _).alloc (Nat.le_refl _) _)
         have t0 := kT7.cell 0 (.int .i64 pp) rfl
         have t1 := kT7.cell 1 (.slice A6 L.length q6) rfl
         have lT := kT7.lt)
      | (go_at_call 12; refine (same_eq A6 A7 L pp q6 q7 _ w7.heap.size hpl hd6s hd7s (by simp)).mono ?_; rintro e w8 ⟨rfl, hB8⟩
         have hB8' := bt hB7' hB8)
      | (go_at_call 5; refine (awake_any _).mono ?_; rintro e w9 ⟨rfl, hB9⟩)
      | fail)
    go_ret
    exact Ret.val rfl (bt hB8' hB9)
  · have h7 : (100 : Int) < (m.length : Int) := by omega
    have h8 : ¬ (m.length : Int) ≤ 400 := by omega
    clear h5 h6
    go_enter Tryz.func3, Tryz.ntmps3
    go_wp2_with (first
      | (go_at_call 4; refine (HFR.out _).mono ?_; rw [← hW0.out]; rintro e w1 ⟨rfl, hB1⟩
         have hB1' := bt hBB hB1
         have kC1 := kC.below' hB1
         have kS1 := kS.below' hB1
         have c0 := kC1.cell 0 (.int .i64 P) rfl
         have c1 := kC1.cell 1 (.int .i64 S) rfl
         have c2 := kC1.cell 2 (.slice A l.length c) rfl
         have c3 := kC1.cell 3 (.int .i64 f.k) rfl
         have c4 := kC1.cell 4 (.int .i64 f.st) rfl
         have c5 := kC1.cell 5 (.int .i64 f.lt) rfl
         have c6 := kC1.cell 6 (.int .i64 f.wi) rfl
         have c7 := kC1.cell 7 (.int .i64 g.k) rfl
         have c8 := kC1.cell 8 (.int .i64 g.st) rfl
         have c9 := kC1.cell 9 (.int .i64 g.lt) rfl
         have c10 := kC1.cell 10 (.int .i64 g.wi) rfl
         have s0 := kS1.cell 0 (.int .i64 p) rfl
         have s1 := kS1.cell 1 (.slice B m.length d) rfl
         have lC := kC1.lt
         have lS := kS1.lt)
      | (go_at_call 6; refine (HA.out _ hB1').mono ?_; rintro e w2 ⟨rfl, hB2⟩
         have hB2' := bt hB1' hB2
         have kC2 := kC1.below' hB2
         have kS2 := kS1.below' hB2
         have c0 := kC2.cell 0 (.int .i64 P) rfl
         have c1 := kC2.cell 1 (.int .i64 S) rfl
         have c2 := kC2.cell 2 (.slice A l.length c) rfl
         have c3 := kC2.cell 3 (.int .i64 f.k) rfl
         have c4 := kC2.cell 4 (.int .i64 f.st) rfl
         have c5 := kC2.cell 5 (.int .i64 f.lt) rfl
         have c6 := kC2.cell 6 (.int .i64 f.wi) rfl
         have c7 := kC2.cell 7 (.int .i64 g.k) rfl
         have c8 := kC2.cell 8 (.int .i64 g.st) rfl
         have c9 := kC2.cell 9 (.int .i64 g.lt) rfl
         have c10 := kC2.cell 10 (.int .i64 g.wi) rfl
         have s0 := kS2.cell 0 (.int .i64 p) rfl
         have s1 := kS2.cell 1 (.slice B m.length d) rfl
         have lC := kC2.lt
         have lS := kS2.lt)
      | (go_at_call 7; refine (HB.out _ hB2').mono ?_; rintro e w3 ⟨rfl, hB3⟩
         have hB3' := bt hB2' hB3
         have kC3 := kC2.below' hB3
         have kS3 := kS2.below' hB3
         have c0 := kC3.cell 0 (.int .i64 P) rfl
         have c1 := kC3.cell 1 (.int .i64 S) rfl
         have c2 := kC3.cell 2 (.slice A l.length c) rfl
         have c3 := kC3.cell 3 (.int .i64 f.k) rfl
         have c4 := kC3.cell 4 (.int .i64 f.st) rfl
         have c5 := kC3.cell 5 (.int .i64 f.lt) rfl
         have c6 := kC3.cell 6 (.int .i64 f.wi) rfl
         have c7 := kC3.cell 7 (.int .i64 g.k) rfl
         have c8 := kC3.cell 8 (.int .i64 g.st) rfl
         have c9 := kC3.cell 9 (.int .i64 g.lt) rfl
         have c10 := kC3.cell 10 (.int .i64 g.wi) rfl
         have s0 := kS3.cell 0 (.int .i64 p) rfl
         have s1 := kS3.cell 1 (.slice B m.length d) rfl
         have lC := kC3.lt
         have lS := kS3.lt)
      | (go_at_call 8; refine (HC.out _ hB3').mono ?_; rintro e w4 ⟨rfl, hB4⟩
         have hB4' := bt hB3' hB4
         have kC4 := kC3.below' hB4
         have kS4 := kS3.below' hB4
         have c0 := kC4.cell 0 (.int .i64 P) rfl
         have c1 := kC4.cell 1 (.int .i64 S) rfl
         have c2 := kC4.cell 2 (.slice A l.length c) rfl
         have c3 := kC4.cell 3 (.int .i64 f.k) rfl
         have c4 := kC4.cell 4 (.int .i64 f.st) rfl
         have c5 := kC4.cell 5 (.int .i64 f.lt) rfl
         have c6 := kC4.cell 6 (.int .i64 f.wi) rfl
         have c7 := kC4.cell 7 (.int .i64 g.k) rfl
         have c8 := kC4.cell 8 (.int .i64 g.st) rfl
         have c9 := kC4.cell 9 (.int .i64 g.lt) rfl
         have c10 := kC4.cell 10 (.int .i64 g.wi) rfl
         have s0 := kS4.cell 0 (.int .i64 p) rfl
         have s1 := kS4.cell 1 (.slice B m.length d) rfl
         have lC := kC4.lt
         have lS := kS4.lt)
      | (go_at_call 9; refine (HD.out _ hB4').mono ?_; rintro e w5 ⟨rfl, hB5⟩
         have hB5' := bt hB4' hB5
         have kC5 := kC4.below' hB5
         have kS5 := kS4.below' hB5
         have c0 := kC5.cell 0 (.int .i64 P) rfl
         have c1 := kC5.cell 1 (.int .i64 S) rfl
         have c2 := kC5.cell 2 (.slice A l.length c) rfl
         have c3 := kC5.cell 3 (.int .i64 f.k) rfl
         have c4 := kC5.cell 4 (.int .i64 f.st) rfl
         have c5 := kC5.cell 5 (.int .i64 f.lt) rfl
         have c6 := kC5.cell 6 (.int .i64 f.wi) rfl
         have c7 := kC5.cell 7 (.int .i64 g.k) rfl
         have c8 := kC5.cell 8 (.int .i64 g.st) rfl
         have c9 := kC5.cell 9 (.int .i64 g.lt) rfl
         have c10 := kC5.cell 10 (.int .i64 g.wi) rfl
         have s0 := kS5.cell 0 (.int .i64 p) rfl
         have s1 := kS5.cell 1 (.slice B m.length d) rfl
         have lC := kC5.lt
         have lS := kS5.lt)
      | (go_at_call 10; refine (HE.out _ hB5').mono ?_; rintro e w6 ⟨v6, rfl, hO6, hB6⟩
         obtain ⟨A6, q6, rfl, _, hd6⟩ := Own.rd tri_len hO6
         have hB6' := ba (bt hB5' hB6) (.cells #[.int .i64 pp, .slice A6 L.length q6] 29)
         have kS6 := (kS5.below' hB6).alloc (.cells #[.int .i64 pp, .slice A6 L.length q6] 29)
         have kT6 := Blk.new w6 29 #[.int .i64 pp, .slice A6 L.length q6]
         have hd6' : RdT (w6.alloc (.cells #[.int .i64 pp, .slice A6 L.length q6] 29)) w6.heap.size A6 L := hd6.below ((Below.refl _ _).alloc (Nat.le_refl _) _)
         have s0 := kS6.cell 0 (.int .i64 p) rfl
         have s1 := kS6.cell 1 (.slice B m.length d) rfl
         have lS := kS6.lt)
      | (go_at_call 11; refine (HF.out _ hB6').mono ?_; rintro e w7 ⟨v7, rfl, hO7, hB7⟩
         obtain ⟨A7, q7, rfl, _, hd7⟩ := Own.rd tri_len hO7
         have hB7' := ba (bt hB6' hB7) (.cells #[.int .i64 pp, .slice A7 L.length q7] 29)
         have kT7 := (kT6.below' hB7).alloc (.cells #[.int .i64 pp, .slice A7 L.length q7] 29)
         have kU7 := Blk.new w7 29 #[.int .i64 pp, .slice A7 L.length q7]
         have hz7 := hB7.size
         have hd6s : RdT (w7.alloc (.cells #[.int .i64 pp, .slice A7 L.length q7] 29)) w7.heap.size A6 L := ((hd6'.below' hB7 (by simp)).below' ((Below.refl w7.heap.size _).alloc (Nat.le_refl _) _) (by simp at hz7; omega)).more (by simp at hz7; omega)
         have hd7s : RdT (w7.alloc (.cells #[.int .i64 pp, .slice A7 L.length q7] 29)) w7.heap.size A7 L := hd7.below ((Below.refl _ _).alloc (Nat.le_refl _) _)
         have t0 := kT7.cell 0 (.int .i64 pp) rfl
         have t1 := kT7.cell 1 (.slice A6 L.length q6) rfl
         have lT := kT7.lt)
      | (go_at_call 12; refine (same_eq A6 A7 L pp q6 q7 _ w7.heap.size hpl hd6s hd7s (by simp)).mono ?_; rintro e w8 ⟨rfl, hB8⟩
         have hB8' := bt hB7' hB8)
      | (go_at_call 5; refine (awake_any _).mono ?_; rintro e w9 ⟨rfl, hB9⟩)
      | fail)
    go_ret
    exact Ret.val rfl (bt hB8' hB9)
end Go.Proofs.YtblifdchofihoaaGreat
