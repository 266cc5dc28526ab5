/- The law CompileQuick, walked. -/
import Derived.Test.YtogkgoabonbkkaaRQuick
import Derived.Test.YtogkgoabonbkkaaLawSteps
set_option linter.unusedSimpArgs false
set_option linter.unusedVariables false
namespace Go.Proofs.Ytogkgoabonbkkaa
open Go Go.RowKit Tor

theorem rQuick_err (P S : Int) (A : Option Addr) (l : List Tri) (c : Nat) (w : World) (H : Nat) (hr : RdT w H A l) (hH : H ≤ w.heap.size)
    (hw : ∀ (k : Nat) (hk : k < l.length), l[k].s.size ≤ 9223372036854775807) (hchk : chkE P l S ≠ 0) (hl : l.length ≤ 9223372036854775807) :
    Calls Try.prog 13 #[.agg #[.int .i64 P, .slice A l.length c], .int .i64 S] w fun e w' => e = .returned (.tuple #[.slice none 0 0, .int .i64 (chkE P l S)]) ∧ Below w.heap.size w w' := by
  have t1 : (chkE P l S != 0) = true := by simpa using hchk
  have HC := Lib.hid hchk
  have HW := Lib.hid hw
  clear hchk hw
  go_enter Try.func13, Try.ntmps13
  go_wp2_with (first
    | (go_at_call 41; refine (rcheck_any P A l c S _ H (hr.below' (B' := w.heap.size) (by (repeat' first | exact Below.refl _ _ | apply Below.drew | (refine Below.setCells ?_ _ _ ?_) | (refine Below.setCell ?_ ?_ _) | (refine Below.alloc ?_ ?_ _) | (simp; done) | (simp; omega))) hH) (by simp; omega) HW.out (by omega)).mono ?_; rintro e w1 ⟨rfl, hB1⟩
       have hBw : Below w.heap.size w w1 := Below.trans (b := w.alloc (.cells #[.int .i64 P, .slice A l.length c] 24)) (by (repeat' first | exact Below.refl _ _ | apply Below.drew | (refine Below.setCells ?_ _ _ ?_) | (refine Below.setCell ?_ ?_ _) | (refine Below.alloc ?_ ?_ _) | (simp; done) | (simp; omega))) (hB1.mono (by simp))))
  go_ret2
  exact ⟨rfl, hBw⟩
theorem cQuick_err (P S : Int) (A : Option Addr) (l : List Tri) (c : Nat) (w : World) (H : Nat) (hr : RdT w H A l) (hH : H ≤ w.heap.size)
    (hw : ∀ (k : Nat) (hk : k < l.length), l[k].s.size ≤ 9223372036854775807) (hchk : chkE P l S ≠ 0) (hl : l.length ≤ 9223372036854775807) :
    Calls Try.prog 12 #[.agg #[.int .i64 P, .slice A l.length c], .int .i64 S] w fun e w' => e = .returned (.tuple #[.slice none 0 0, .int .i64 (chkE P l S)]) ∧ Below w.heap.size w w' := by
  have t1 : (chkE P l S != 0) = true := by simpa using hchk
  have HC := Lib.hid hchk
  have HW := Lib.hid hw
  clear hchk hw
  go_enter Try.func12, Try.ntmps12
  go_wp2_with (first
    | (go_at_call 34; refine (ccheck_any P A l c S w.heap.size 0 _ H (hr.below' (B' := w.heap.size) (by (repeat' first | exact Below.refl _ _ | apply Below.drew | (refine Below.setCells ?_ _ _ ?_) | (refine Below.setCell ?_ ?_ _) | (refine Below.alloc ?_ ?_ _) | (simp; done) | (simp; omega))) hH) (by simp; omega) (by simp) (by simp) HW.out (by omega)).mono ?_; rintro e w1 ⟨rfl, hB1⟩
       have hBw : Below w.heap.size w w1 := Below.trans (b := (w.alloc (.cells #[.int .i64 P, .slice A l.length c] 24)).alloc (.cells #[.int .i64 S] 3)) (by (repeat' first | exact Below.refl _ _ | apply Below.drew | (refine Below.setCells ?_ _ _ ?_) | (refine Below.setCell ?_ ?_ _) | (refine Below.alloc ?_ ?_ _) | (simp; done) | (simp; omega))) (hB1.mono (by simp; omega))))
  go_ret2
  exact ⟨rfl, hBw⟩

theorem rq_len (l : List Tri) (P S : Nat) : ∀ (k : Nat) (M : List Nat) (h : Int), (rq l P S k M h).length ≤ k
  | 0, _, _ => by simp [rq]
  | k + 1, M, h => by
    unfold rq
    split
    · split
      · have := rq_len l P S k (M ++ [(nextUpto l M h S l.length).toNat]) h; simp only [List.length_cons]; omega
      · have := rq_len l P S k M (rbest l P S M); simp only [List.length_cons]; omega
    · simp

/-- the quick instructions -/
def quickL (P S : Int) (l : List Tri) : List Tri := if chkE P l S = 0 then rq l P.toNat S.toNat (2 * l.length + 1) [] (-1) else []
theorem quick_rq {P S : Nat} {l : List Tri} (hS : 2 ≤ S) (hSP : S ≤ P) (hP : P ≤ 24) (hb : ∀ (k : Nat) (hk : k < l.length), 0 ≤ l[k].b ∧ l[k].b ≤ (P : Int) - 2) (hl : l.length ≤ 400) : qloop l P S 2000 l.length [] = rq l P S (2 * l.length + 1) [] (-1) := by
  refine qloop_rq hS hSP hP hb (by omega) l.length [] (-1) (2 * l.length + 1) List.nodup_nil (by simp) (by simp) (by simp) ?_
  have : nextUpto l [] (-1) S l.length = -1 := next_none fun j hj => by
    unfold canB heldB
    simp
  rw [this]; omega
def QuickPost (P S : Int) (l : List Tri) (w : World) (e : Ending) (w' : World) : Prop :=
  ∃ (A : Option Addr) (c : Nat), e = .returned (.tuple #[.slice A (quickL P S l).length c, .int .i64 (chkE P l S)]) ∧ RdT w' w'.heap.size A (quickL P S l) ∧ Below w.heap.size w w'
theorem cQuick_all (P S : Int) (A : Option Addr) (l : List Tri) (c : Nat) (w : World) (H : Nat) (hr : RdT w H A l) (hH : H ≤ w.heap.size)
    (hw : ∀ (k : Nat) (hk : k < l.length), l[k].s.size ≤ 9223372036854775807) (hl : l.length ≤ 9223372036854775807) :
    Calls Try.prog 12 #[.agg #[.int .i64 P, .slice A l.length c], .int .i64 S] w (QuickPost P S l w) := by
  by_cases h : chkE P l S = 0
  · have g := good_of h
    obtain ⟨p, rfl⟩ : ∃ p : Nat, P = p := ⟨P.toNat, by have := g.b1; have := g.b2; omega⟩
    obtain ⟨s, rfl⟩ : ∃ s : Nat, S = s := ⟨S.toNat, by have := g.b1; omega⟩
    have g1 := g.b1
    have g2 := g.b2
    have g3 := g.b3
    refine (quick_any p s A l c w H hr hH hw h g.b g.n (by omega) (by omega) (by omega)).mono fun e w' ⟨v, h1, h2, h3⟩ => ?_
    rw [quick_rq (by omega) (by omega) (by omega) g.b g.n] at h2
    have e2 : quickL p s l = rq l p s (2 * l.length + 1) [] (-1) := by unfold quickL; rw [if_pos h]; rfl
    rw [← e2] at h2
    obtain ⟨A', c', hv, _, hd⟩ := Own.rd tri_len h2
    exact ⟨A', c', by rw [h1, hv, h], hd, h3⟩
  · refine (cQuick_err P S A l c w H hr hH hw h hl).mono fun e w' ⟨h1, h3⟩ => ?_
    have e2 : quickL P S l = [] := if_neg h
    exact ⟨none, 0, by rw [h1, e2]; rfl, by rw [e2]; exact Rd.nil, h3⟩
theorem rQuick_all (P S : Int) (A : Option Addr) (l : List Tri) (c : Nat) (w : World) (H : Nat) (hr : RdT w H A l) (hH : H ≤ w.heap.size)
    (hw : ∀ (k : Nat) (hk : k < l.length), l[k].s.size ≤ 9223372036854775807) (hl : l.length ≤ 9223372036854775807) :
    Calls Try.prog 13 #[.agg #[.int .i64 P, .slice A l.length c], .int .i64 S] w (QuickPost P S l w) := by
  by_cases h : chkE P l S = 0
  · have g := good_of h
    obtain ⟨p, rfl⟩ : ∃ p : Nat, P = p := ⟨P.toNat, by have := g.b1; have := g.b2; omega⟩
    obtain ⟨s, rfl⟩ : ∃ s : Nat, S = s := ⟨S.toNat, by have := g.b1; omega⟩
    have g1 := g.b1
    have g2 := g.b2
    have g3 := g.b3
    refine (rQuick_ok p s A l c w H hr hH hw h g.b g.n (by omega) (by omega) (by omega)).mono fun e w' ⟨v, h1, h2, h3⟩ => ?_
    have e2 : quickL p s l = rq l p s (2 * l.length + 1) [] (-1) := by unfold quickL; rw [if_pos h]; rfl
    rw [← e2] at h2
    obtain ⟨A', c', hv, _, hd⟩ := Own.rd tri_len h2
    exact ⟨A', c', by rw [h1, hv, h], hd, h3⟩
  · refine (rQuick_err P S A l c w H hr hH hw h hl).mono fun e w' ⟨h1, h3⟩ => ?_
    have e2 : quickL P S l = [] := if_neg h
    exact ⟨none, 0, by rw [h1, e2]; rfl, by rw [e2]; exact Rd.nil, h3⟩

set_option maxRecDepth 100000 in
set_option maxHeartbeats 1000000 in
theorem lawQuick_any (P S : Int) (A : Option Addr) (l : List Tri) (c : Nat) (w : World) (H : Nat) (hr : RdT w H A l) (hH : H ≤ w.heap.size)
    (hw : ∀ (k : Nat) (hk : k < l.length), l[k].s.size ≤ 9223372036854775807) (hl : l.length ≤ 9223372036854775807) :
    Calls Try.prog 3 #[.agg #[.int .i64 P, .slice A l.length c], .int .i64 S] w (Ret (.bool true) w) := by
  have HW := Lib.hid hw
  clear hw
  have hrB : ∀ w', Below w.heap.size w w' → RdT w' H A l := fun w' hB => hr.below' hB hH
  have HRB := Lib.hid hrB
  clear hrB
  cases hfar : farB l.length 30
  · have HF := Lib.hid hfar
    clear hfar
    obtain ⟨L, hL⟩ : ∃ L, Hid (quickL P S l = L) := ⟨_, Lib.hid rfl⟩
    obtain ⟨E, hE⟩ : ∃ E, Hid (chkE P l S = E) := ⟨_, Lib.hid rfl⟩
    have hLn : L.length ≤ 1000 := by
      rw [← hL.out]
      unfold quickL
      split
      · rename_i h0
        have := (good_of h0).n
        have := rq_len l P.toNat S.toNat (2 * l.length + 1) [] (-1)
        omega
      · simp
    go_enter Try.func3, Try.ntmps3
    go_wp2_with (first
      | (go_at_call 10; refine (far_any P A l c 30 _ hl).mono ?_; rintro e w1 ⟨rfl, hB1⟩; rw [HF.out]
         have hB1' : Below w.heap.size w w1 := Below.trans (b := w.alloc (.cells #[.int .i64 P, .slice A l.length c] 24)) (by (repeat' first | exact Below.refl _ _ | apply Below.drew | (refine Below.setCells ?_ _ _ ?_) | (refine Below.setCell ?_ ?_ _) | (refine Below.alloc ?_ ?_ _) | (simp; done) | (simp; omega))) (hB1.mono (by simp))
         have kS := (Blk.new w 24 #[.int .i64 P, .slice A l.length c]).below' hB1
         have c0 := kS.cell 0 (.int .i64 P) rfl
         have c1 := kS.cell 1 (.slice A l.length c) rfl
         have n1 := kS.lt)
      | (go_at_call 12; refine (cQuick_all P S A l c w1 H (HRB.out _ hB1') (Nat.le_trans hH hB1'.size) HW.out hl).mono ?_; rintro e w2 ⟨A2, k2, rfl, hd2, hB2⟩; rw [hL.out] at hd2 ⊢; rw [hE.out]
         have hB2' := hB1'.trans (hB2.mono hB1'.size)
         have kS2 := kS.below' hB2
         have d0 := kS2.cell 0 (.int .i64 P) rfl
         have d1 := kS2.cell 1 (.slice A l.length c) rfl
         have n2 := kS2.lt)
      | (go_at_call 13; refine (rQuick_all P S A l c w2 H (HRB.out _ hB2') (Nat.le_trans hH hB2'.size) HW.out hl).mono ?_; rintro e w3 ⟨A3, k3, rfl, hd3, hB3⟩; rw [hL.out] at hd3 ⊢; rw [hE.out]
         have hB3' := hB2'.trans (hB3.mono hB2'.size))
      | (go_at_call 14; refine (sameSteps_eq A2 A3 L k2 k3 w3 w3.heap.size (by omega) ((hd2.below hB3).more hB3.size) hd3 (Nat.le_refl _)).mono ?_; rintro e w4 ⟨rfl, hB4⟩
         have hB4' := hB3'.trans (hB4.mono hB3'.size))
      | (go_at_call 11; refine (awake_any _).mono ?_; rintro e w7 ⟨rfl, hB7⟩))
    go_ret
    exact Ret.bool rfl (hB4'.trans (hB7.mono hB4'.size))
  · have HF := Lib.hid hfar
    clear hfar
    go_enter Try.func3, Try.ntmps3
    go_wp2_with (first
      | (go_at_call 10; refine (far_any P A l c 30 _ hl).mono ?_; rintro e w1 ⟨rfl, hB1⟩; rw [HF.out]
         have hB1' : Below w.heap.size w w1 := Below.trans (b := w.alloc (.cells #[.int .i64 P, .slice A l.length c] 24)) (by (repeat' first | exact Below.refl _ _ | apply Below.drew | (refine Below.setCells ?_ _ _ ?_) | (refine Below.setCell ?_ ?_ _) | (refine Below.alloc ?_ ?_ _) | (simp; done) | (simp; omega))) (hB1.mono (by simp)))
      | (go_at_call 11; refine (awake_any _).mono ?_; rintro e w7 ⟨rfl, hB7⟩))
    go_ret
    exact Ret.bool rfl (hB1'.trans (hB7.mono hB1'.size))
end Go.Proofs.Ytogkgoabonbkkaa
