/- The law FaultsAll, walked. -/
import Derived.Test.YtblifdchofihoaaLawPut
import Derived.Test.YtblifdchofihoaaRAll
import Derived.Test.YtblifdchofihoaaAllF
set_option linter.unusedSimpArgs false
set_option linter.unusedVariables false
namespace Go.Proofs.Ytblifdchofihoaa
open Go Go.RowKit Tor

set_option maxRecDepth 100000 in
set_option maxHeartbeats 1000000 in
/-- same, of equal lists -/
theorem samef_eq (A B : Option Addr) (l : List Flt) (c d : Nat) (w : World) (H : Nat) (hl : l.length ≤ 100000) (ha : RdFt w H A l) (hb : RdFt w H B l) (hH : H ≤ w.heap.size) :
    Calls Try.prog 23 #[.slice A l.length c, .slice B l.length d] w (Ret (.bool true) w) := by
  go_enter Try.func23, Try.ntmps23
  have hnm' : ((l.length : Int) != (l.length : Int)) = false := by simp
  go_wp2
  go_loopw [5] (fun i wr => ∃ k : Nat, k ≤ l.length ∧ i = .int .i64 k ∧ Below w.heap.size w wr) (fun i _ => l.length - (intOf i).toNat)
  case atStart => exact ⟨0, Nat.zero_le _, rfl, Below.refl _ _⟩
  case round =>
    obtain ⟨k, hk, rfl, hB⟩ := hrel
    by_cases hlt : k < l.length
    · obtain ⟨b, o, rfl, hb0, h0, h1, h2, h3⟩ := Rd.flt (ha.below' hB hH) hlt
      obtain ⟨b', o', rfl, hb0', g0, g1, g2, g3⟩ := Rd.flt (hb.below' hB hH) hlt
      go_wp2
      go_quiet (fail)
      go_wp2
      go_roundw
      case rel => exact ⟨k + 1, by omega, by go_num, hB.drewN nq⟩
      case measure => simp [intOf]; omega
    · go_wp2
      go_ret
      exact Ret.bool rfl hB

set_option maxRecDepth 100000 in
set_option maxHeartbeats 4000000 in
theorem lawAll_any (P S : Int) (A : Option Addr) (l : List Tri) (c : Nat) (w : World) (H : Nat) (hr : RdT w H A l) (hH : H ≤ w.heap.size)
    (hw : ∀ (k : Nat) (hk : k < l.length), l[k].s.size ≤ 9223372036854775807) (hl : l.length ≤ 9223372036854775807) (hlc : l.length ≤ c) :
    Calls Try.prog 7 #[.int .i64 P, .int .i64 S, .slice A l.length c] w (Ret (.bool true) w) := by
  have HFR := Lib.hid (fun (w' : World) => far25_any A l.length c 120 w' hl)
  cases hfar : farF l.length 120
  rotate_left
  · rw [hfar] at HFR
    go_enter Try.func7, Try.ntmps7
    go_wp2_with (first
      | (go_at_call 9; refine (HFR.out _).mono ?_; rintro e w1 ⟨rfl, hB1⟩)
      | (go_at_call 10; refine (awake_any _).mono ?_; rintro e w2 ⟨rfl, hB2⟩)
      | fail)
    go_ret
    exact Ret.val rfl (hB1.trans (hB2.mono hB1.size))
  rw [hfar] at HFR
  have hl2 : l.length ≤ 1100 := by
    have := of_decide_eq_false hfar
    omega
  have HP := Lib.hid (fun (w' : World) (hB : Below w.heap.size w w') => fall_any P S A l c w' H (hr.below' hB hH) (Nat.le_trans hH hB.size) hw (by omega))
  have HR := Lib.hid (fun (w' : World) (hB : Below w.heap.size w w') => rall_any P S A l c w' H (hr.below' hB hH) (Nat.le_trans hH hB.size) hw (by omega) hlc)
  have hpl : (allR P S l).1.length ≤ 100000 := by
    unfold allR
    (repeat' split) <;> simp <;> omega
  unfold FltRet at HP HR
  obtain ⟨E, hE⟩ : ∃ E, Hid ((allR P S l).2 = E) := ⟨_, Lib.hid rfl⟩
  obtain ⟨L, hL⟩ : ∃ L, Hid ((allR P S l).1 = L) := ⟨_, Lib.hid rfl⟩
  rw [hE.out, hL.out] at HP HR
  rw [hL.out] at hpl
  have hee : (E == E) = true := by simp
  clear hfar
  go_enter Try.func7, Try.ntmps7
  go_wp2_with (first
    | (go_at_call 9; refine (HFR.out _).mono ?_; rintro e w1 ⟨rfl, hB1⟩)
    | (go_at_call 21; refine (HP.out _ hB1).mono ?_; rintro e w2 ⟨v2, rfl, hown2, hB2⟩
       have hB2' := hB1.trans (hB2.mono hB1.size)
       obtain ⟨A2, c2, rfl, _, hr2⟩ := Own.rd flt_len hown2)
    | (go_at_call 22; refine (HR.out _ hB2').mono ?_; rintro e w3 ⟨v3, rfl, hown3, hB3⟩
       have hB3' := hB2'.trans (hB3.mono hB2'.size)
       obtain ⟨A3, c3, rfl, _, hr3⟩ := Own.rd flt_len hown3
       have hr2' := (hr2.below' hB3 (Nat.le_refl _)).more hB3.size)
    | (go_at_call 23; refine (samef_eq A2 A3 L _ _ _ _ hpl hr2' hr3 (Nat.le_refl _)).mono ?_; rintro e w4 ⟨rfl, hB4⟩
       have hB4' := hB3'.trans (hB4.mono hB3'.size))
    | (go_at_call 10; refine (awake_any _).mono ?_; rintro e w9 ⟨rfl, hB9⟩)
    | fail)
  go_ret
  exact Ret.val rfl (hB4'.trans (hB9.mono hB4'.size))
end Go.Proofs.Ytblifdchofihoaa
