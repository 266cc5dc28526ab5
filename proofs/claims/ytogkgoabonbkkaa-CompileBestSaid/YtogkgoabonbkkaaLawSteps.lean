/- The law CompileSteps, walked. -/
import Derived.Test.YtogkgoabonbkkaaLaw
import Derived.Test.YtogkgoabonbkkaaCmp
set_option linter.unusedSimpArgs false
set_option linter.unusedVariables false
namespace Go.Proofs.Ytogkgoabonbkkaa
open Go Go.RowKit Tor

theorem rst_len (p s : Int) : ∀ (l : List Tri) (h : Int), (rst p s l h).length ≤ 2 * l.length
  | [], _ => by simp [rst]
  | x :: r, h => by
    unfold rst
    split
    · have := rst_len p s r h
      simp only [List.length_cons]; omega
    · have := rst_len p s r (bestUpto (fun h : Nat => runN (x :: r) h s) (p - s + 1).toNat)
      simp only [List.length_cons]; omega

/-- steps compared with themselves -/
theorem sameSteps_eq (A B : Option Addr) (l : List Tri) (c d : Nat) (w : World) (H : Nat) (hl : l.length ≤ 100000) (ha : RdT w H A l) (hb : RdT w H B l) (hH : H ≤ w.heap.size) :
    Calls Try.prog 14 #[.slice A l.length c, .slice B l.length d] w (Ret (.bool true) w) :=
  (sameSteps_any A B l l c d w H (by omega) ha hb hH).mono fun e w' ⟨h1, h2⟩ => ⟨by rw [h1]; simp, h2⟩

/-- what Steps gives, program and reference alike -/
def StepsPost (P S : Int) (l : List Tri) (w : World) (e : Ending) (w' : World) : Prop :=
  ∃ (A : Option Addr) (c : Nat), e = .returned (.tuple #[.slice A (if chkE P l S = 0 then rst P S l (-1) else []).length c, .int .i64 (chkE P l S)]) ∧ RdT w' w'.heap.size A (if chkE P l S = 0 then rst P S l (-1) else []) ∧ Below w.heap.size w w'
theorem cSteps_all (P S : Int) (A : Option Addr) (l : List Tri) (c : Nat) (w : World) (H : Nat) (hr : RdT w H A l) (hH : H ≤ w.heap.size)
    (hw : ∀ (k : Nat) (hk : k < l.length), l[k].s.size ≤ 9223372036854775807) (hl : l.length ≤ 9223372036854775807) :
    Calls Try.prog 19 #[.agg #[.int .i64 P, .slice A l.length c], .int .i64 S] w (StepsPost P S l w) := by
  by_cases h : chkE P l S = 0
  · have g := good_of h
    refine (cSteps_ok P S A l c w H hr hH hw h g.b (by have := g.n; omega) g.b1 g.b2 g.b3).mono fun e w' ⟨v, h1, h2, h3⟩ => ?_
    obtain ⟨A', c', hv, _, hd⟩ := Own.rd tri_len h2
    exact ⟨A', c', by rw [h1, hv, if_pos h, h], by rw [if_pos h]; exact hd, h3⟩
  · refine (cSteps_err P S A l c w H hr hH hw h hl).mono fun e w' ⟨h1, h3⟩ => ?_
    exact ⟨none, 0, by rw [h1, if_neg h]; rfl, by rw [if_neg h]; exact Rd.nil, h3⟩
theorem rSteps_all (P S : Int) (A : Option Addr) (l : List Tri) (c : Nat) (w : World) (H : Nat) (hr : RdT w H A l) (hH : H ≤ w.heap.size)
    (hw : ∀ (k : Nat) (hk : k < l.length), l[k].s.size ≤ 9223372036854775807) (hl : l.length ≤ 9223372036854775807) :
    Calls Try.prog 26 #[.agg #[.int .i64 P, .slice A l.length c], .int .i64 S] w (StepsPost P S l w) := by
  by_cases h : chkE P l S = 0
  · have g := good_of h
    refine (rSteps_ok P S A l c w H hr hH hw h g.b (by have := g.n; omega) g.b1 g.b2 g.b3).mono fun e w' ⟨v, h1, h2, h3⟩ => ?_
    obtain ⟨A', c', hv, _, hd⟩ := Own.rd tri_len h2
    exact ⟨A', c', by rw [h1, hv, if_pos h, h], by rw [if_pos h]; exact hd, h3⟩
  · refine (rSteps_err P S A l c w H hr hH hw h hl).mono fun e w' ⟨h1, h3⟩ => ?_
    exact ⟨none, 0, by rw [h1, if_neg h]; rfl, by rw [if_neg h]; exact Rd.nil, h3⟩

set_option maxRecDepth 100000 in
set_option maxHeartbeats 1000000 in
theorem lawSteps_any (P S : Int) (A : Option Addr) (l : List Tri) (c : Nat) (w : World) (H : Nat) (hr : RdT w H A l) (hH : H ≤ w.heap.size)
    (hw : ∀ (k : Nat) (hk : k < l.length), l[k].s.size ≤ 9223372036854775807) (hl : l.length ≤ 9223372036854775807) :
    Calls Try.prog 7 #[.agg #[.int .i64 P, .slice A l.length c], .int .i64 S] w (Ret (.bool true) w) := by
  have HW := Lib.hid hw
  clear hw
  have hrB : ∀ w', Below w.heap.size w w' → RdT w' H A l := fun w' hB => hr.below' hB hH
  have HRB := Lib.hid hrB
  clear hrB
  cases hfar : farB l.length 120
  · have HF := Lib.hid hfar
    clear hfar
    obtain ⟨L, hL⟩ : ∃ L, Hid ((if chkE P l S = 0 then rst P S l (-1) else []) = L) := ⟨_, Lib.hid rfl⟩
    obtain ⟨E, hE⟩ : ∃ E, Hid (chkE P l S = E) := ⟨_, Lib.hid rfl⟩
    have hLn : L.length ≤ 1000 := by
      rw [← hL.out]
      split
      · rename_i h0
        have := (good_of h0).n
        have := rst_len P S l (-1)
        omega
      · simp
    go_enter Try.func7, Try.ntmps7
    go_wp2_with (first
      | (go_at_call 10; refine (far_any P A l c 120 _ hl).mono ?_; rintro e w1 ⟨rfl, hB1⟩; rw [HF.out]
         have hB1' : Below w.heap.size w w1 := Below.trans (b := w.alloc (.cells #[.int .i64 P, .slice A l.length c] 24)) (by (repeat' first | exact Below.refl _ _ | apply Below.drew | (refine Below.setCells ?_ _ _ ?_) | (refine Below.setCell ?_ ?_ _) | (refine Below.alloc ?_ ?_ _) | (simp; done) | (simp; omega))) (hB1.mono (by simp))
         have kS := (Blk.new w 24 #[.int .i64 P, .slice A l.length c]).below' hB1
         have c0 := kS.cell 0 (.int .i64 P) rfl
         have c1 := kS.cell 1 (.slice A l.length c) rfl
         have n1 := kS.lt)
      | (go_at_call 19; refine (cSteps_all P S A l c w1 H (HRB.out _ hB1') (Nat.le_trans hH hB1'.size) HW.out hl).mono ?_; rintro e w2 ⟨A2, k2, rfl, hd2, hB2⟩; rw [hL.out] at hd2 ⊢; rw [hE.out]
         have hB2' := hB1'.trans (hB2.mono hB1'.size)
         have kS2 := kS.below' hB2
         have d0 := kS2.cell 0 (.int .i64 P) rfl
         have d1 := kS2.cell 1 (.slice A l.length c) rfl
         have n2 := kS2.lt)
      | (go_at_call 26; refine (rSteps_all P S A l c w2 H (HRB.out _ hB2') (Nat.le_trans hH hB2'.size) HW.out hl).mono ?_; rintro e w3 ⟨A3, k3, rfl, hd3, hB3⟩; rw [hL.out] at hd3 ⊢; rw [hE.out]
         have hB3' := hB2'.trans (hB3.mono hB2'.size))
      | (go_at_call 14; refine (sameSteps_eq A2 A3 L k2 k3 w3 w3.heap.size (by omega) ((hd2.below hB3).more hB3.size) hd3 (Nat.le_refl _)).mono ?_; rintro e w4 ⟨rfl, hB4⟩
         have hB4' := hB3'.trans (hB4.mono hB3'.size)
         have hd24 := (hd2.below hB3).below' hB4 hB3.size
         have hd34 := hd3.below hB4
         have hz4 := hB4.size
         have hz3 := hB3.size)
      | (go_at_call 27; refine (creaches_any A2 L k2 w4 _ (by omega) hd24 (by omega)).mono ?_; rintro e w5 ⟨rfl, hB5⟩
         have hB5' := hB4'.trans (hB5.mono hB4'.size))
      | (go_at_call 25; refine (rreaches_any A3 L k3 w5 _ (by omega) (hd34.below' hB5 hz4) (by have := hB5.size; omega)).mono ?_; rintro e w6 ⟨rfl, hB6⟩
         have hB6' := hB5'.trans (hB6.mono hB5'.size))
      | (go_at_call 11; refine (awake_any _).mono ?_; rintro e w7 ⟨rfl, hB7⟩))
    go_ret
    exact Ret.bool rfl (hB6'.trans (hB7.mono hB6'.size))
  · have HF := Lib.hid hfar
    clear hfar
    go_enter Try.func7, Try.ntmps7
    go_wp2_with (first
      | (go_at_call 10; refine (far_any P A l c 120 _ hl).mono ?_; rintro e w1 ⟨rfl, hB1⟩; rw [HF.out]
         have hB1' : Below w.heap.size w w1 := Below.trans (b := w.alloc (.cells #[.int .i64 P, .slice A l.length c] 24)) (by (repeat' first | exact Below.refl _ _ | apply Below.drew | (refine Below.setCells ?_ _ _ ?_) | (refine Below.setCell ?_ ?_ _) | (refine Below.alloc ?_ ?_ _) | (simp; done) | (simp; omega))) (hB1.mono (by simp)))
      | (go_at_call 11; refine (awake_any _).mono ?_; rintro e w7 ⟨rfl, hB7⟩))
    go_ret
    exact Ret.bool rfl (hB1'.trans (hB7.mono hB1'.size))
end Go.Proofs.Ytogkgoabonbkkaa
