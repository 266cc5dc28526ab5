/- torchonref15: next. -/
import Derived.Test.YtogkgoabonbkkaaRReady
set_option linter.unusedSimpArgs false
set_option linter.unusedVariables false
namespace Go.Proofs.Ytogkgoabonbkkaa
open Go Go.RowKit Tor

theorem heldR_ex (h s a : Int) (w : World) (g : Ex w) (b1 : -1000 ≤ h) (b2 : h ≤ 1000) (b3 : -1000 ≤ s) (b4 : s ≤ 1000) (b5 : -1000 ≤ a) (b6 : a ≤ 1000) :
    Calls Try.prog 69 #[.int .i64 h, .int .i64 s, .int .i64 a] g.w (fun e w'' => e = .returned (.bool (heldB h s a)) ∧ ∃ g' : Ex w, w'' = g'.w) :=
  calls_ex (held_any h s a g.w b1 b2 b3 b4 b5 b6)
theorem ready_ex (p : Int) (A : Option Addr) (l : List Tri) (c : Nat) (Ad : Option Addr) (M : List Nat) (cd : Nat) (i : Nat) (w : World) (g : Ex w) (H : Nat) (hr : RdT w H A l) (hd : RdB w H Ad (doneL l.length M)) (hH : H ≤ w.heap.size)
    (hb : ∀ (k : Nat) (hk : k < l.length), 0 ≤ l[k].b ∧ l[k].b ≤ 100) (hl : l.length ≤ 1000) (hi : i < l.length) :
    Calls Try.prog 70 #[.agg #[.int .i64 p, .slice A l.length c], .slice Ad l.length cd, .int .i64 i] g.w (fun e w'' => e = .returned (.bool (rdyB l M i)) ∧ ∃ g' : Ex w, w'' = g'.w) :=
  calls_ex (ready_any p A l c Ad M cd i g.w H (hr.below' g.h hH) (hd.below' g.h hH) (Nat.le_trans hH g.h.size) hb hl hi)

set_option maxRecDepth 100000 in
set_option maxHeartbeats 2000000 in
theorem rnext_any (p : Int) (A : Option Addr) (l : List Tri) (c : Nat) (Ad : Option Addr) (M : List Nat) (cd : Nat) (h s : Int) (w : World) (H : Nat) (hr : RdT w H A l) (hd : RdB w H Ad (doneL l.length M)) (hH : H ≤ w.heap.size)
    (hb : ∀ (k : Nat) (hk : k < l.length), 0 ≤ l[k].b ∧ l[k].b ≤ 100) (hl : l.length ≤ 1000) (a1 : -1 ≤ h) (a2 : h ≤ 100) (a3 : 0 ≤ s) (a4 : s ≤ 100) :
    Calls Try.prog 42 #[.agg #[.int .i64 p, .slice A l.length c], .slice Ad l.length cd, .int .i64 h, .int .i64 s] w (Ret (.int .i64 (nextUpto l M h s l.length)) w) := by
  have HH := Lib.hid hb
  have HD := Lib.hid hd
  clear hb hd
  go_enter Try.func42, Try.ntmps42
  go_wp2_with fail
  go_loopw [9, 10] (fun bst k wr => ∃ (j : Nat) (q : Int), j ≤ l.length ∧ k = .int .i64 j ∧ bst = .int .i64 q ∧ -1 ≤ q ∧ q < j ∧ Hid (q = nextUpto l M h s j) ∧ Below (w.heap.size + 1) (w.alloc (.cells #[.int .i64 p, .slice A l.length c] 24)) wr) (fun _ k _ => l.length - (intOf k).toNat)
  case atStart => exact ⟨0, -1, by omega, rfl, rfl, by omega, by omega, rfl, Below.refl _ _⟩
  case round =>
    obtain ⟨j, q, hj, rfl, rfl, hq1, hq2, hqn, hB⟩ := hrel
    have hN0 := box_cell hB 0 (.int .i64 p) rfl
    have hN1 := box_cell hB 1 (.slice A l.length c) rfl
    have hNs := box_lt hB
    have hBw := box_below hB
    have hrr := hr.below' hBw hH
    have hdd := Lib.hid (HD.out.below' hBw hH)
    have hHr : H ≤ wr.heap.size := by have := hBw.size; omega
    by_cases hlt : j < l.length
    · have hstep : Hid (nextUpto l M h s (j + 1) = if heldB h s l[j].b && (decide (q < 0) || decide (l[j].b < (xAt l q.toNat).b)) && rdyB l M j then (j : Int) else q) := by
        rw [Hid, nextUpto, hqn.out, xAt_of hlt]
      obtain ⟨b, o, hA, hb0, h0, h1, h2⟩ := hrr.tri hlt
      have hAA := Lib.hid hA
      subst hA
      have hbb := lt_of_cell h0
      have x1 := HH.out j hlt
      have k0 : (0 : Int) ≤ (j : Int) := by omega
      have k1 : (j : Int) < (l.length : Int) := by omega
      cases hheld : heldB h s l[j].b
      · have HE := Lib.hid hheld
        clear hheld
        go_wp2_with fail
        refine wp_region_ex (by kernel_rfl) (by kernel_rfl) ?_
        repeat (go_big_quiet_step ((go_at_call 69; refine (heldR_ex _ _ _ _ _ (by omega) (by omega) (by omega) (by omega) (by omega) (by omega)).mono ?_; rintro e w' ⟨rfl, hg⟩; rw [HE.out]; exact ⟨rfl, hg⟩)))
        refine wpQuiet_nil ?_
        intro _ hw'
        obtain ⟨g, hw''⟩ := hw'
        subst hw''
        have hq := g.h
        go_wp2_with fail
        go_roundw
        case rel =>
          exact ⟨j + 1, q, by omega, by go_num, rfl, hq1, by omega, (by rw [Hid, hstep.out, HE.out]; simp), hB.trans (hq.mono (by omega))⟩
        case measure => simp [intOf]; omega
      · have HE := Lib.hid hheld
        clear hheld
        by_cases hneg : q < 0
        · cases hrb : rdyB l M j
          · have HR := Lib.hid hrb
            clear hrb
            go_wp2_with fail
            refine wp_region_ex (by kernel_rfl) (by kernel_rfl) ?_
            repeat (go_big_quiet_step (first
              | (go_at_call 69; refine (heldR_ex _ _ _ _ _ (by omega) (by omega) (by omega) (by omega) (by omega) (by omega)).mono ?_; rintro e w' ⟨rfl, hg⟩; rw [HE.out]; exact ⟨rfl, hg⟩)
              | (go_at_call 70; refine (ready_ex p _ l c Ad M cd j _ _ H hrr hdd.out hHr HH.out hl hlt).mono ?_; rintro e w' ⟨rfl, hg⟩; rw [HR.out]; exact ⟨rfl, hg⟩)))
            refine wpQuiet_nil ?_
            intro _ hw'
            obtain ⟨g, hw''⟩ := hw'
            subst hw''
            have hq := g.h
            go_wp2_with fail
            go_roundw
            case rel =>
              exact ⟨j + 1, q, by omega, by go_num, rfl, hq1, by omega, (by rw [Hid, hstep.out, HE.out, HR.out]; simp), hB.trans (hq.mono (by omega))⟩
            case measure => simp [intOf]; omega
          · have HR := Lib.hid hrb
            clear hrb
            go_wp2_with fail
            refine wp_region_ex (by kernel_rfl) (by kernel_rfl) ?_
            repeat (go_big_quiet_step (first
              | (go_at_call 69; refine (heldR_ex _ _ _ _ _ (by omega) (by omega) (by omega) (by omega) (by omega) (by omega)).mono ?_; rintro e w' ⟨rfl, hg⟩; rw [HE.out]; exact ⟨rfl, hg⟩)
              | (go_at_call 70; refine (ready_ex p _ l c Ad M cd j _ _ H hrr hdd.out hHr HH.out hl hlt).mono ?_; rintro e w' ⟨rfl, hg⟩; rw [HR.out]; exact ⟨rfl, hg⟩)))
            refine wpQuiet_nil ?_
            intro _ hw'
            obtain ⟨g, hw''⟩ := hw'
            subst hw''
            have hq := g.h
            go_wp2_with fail
            go_roundw
            case rel =>
              exact ⟨j + 1, (j : Int), by omega, by go_num, rfl, by omega, by omega, (by rw [Hid, hstep.out, HE.out, HR.out]; simp [hneg]), hB.trans (hq.mono (by omega))⟩
            case measure => simp [intOf]; omega
        · have hz : q.toNat < l.length := by omega
          obtain ⟨b', o', hA', hb0', g0, g1, g2⟩ := hrr.tri hz
          rw [hAA.out] at hA'
          injection hA' with hA'
          injection hA' with e1 e2 _
          subst e1
          subst e2
          have k4 : (0 : Int) ≤ q := by omega
          have k6 : decide (q < 0) = false := decide_eq_false hneg
          have k5 : q < (l.length : Int) := by omega
          have hzb := xAt_of hz
          have hzz : Hid ((xAt l q.toNat).b = l[q.toNat].b) := by rw [Hid, hzb]
          clear hzb
          by_cases hlb : l[j].b < l[q.toNat].b
          · cases hrb : rdyB l M j
            · have HR := Lib.hid hrb
              clear hrb
              go_wp2_with fail
              refine wp_region_ex (by kernel_rfl) (by kernel_rfl) ?_
              repeat (go_big_quiet_step (first
                | (go_at_call 69; refine (heldR_ex _ _ _ _ _ (by omega) (by omega) (by omega) (by omega) (by omega) (by omega)).mono ?_; rintro e w' ⟨rfl, hg⟩; rw [HE.out]; exact ⟨rfl, hg⟩)
                | (go_at_call 70; refine (ready_ex p _ l c Ad M cd j _ _ H hrr hdd.out hHr HH.out hl hlt).mono ?_; rintro e w' ⟨rfl, hg⟩; rw [HR.out]; exact ⟨rfl, hg⟩)))
              refine wpQuiet_nil ?_
              intro _ hw'
              obtain ⟨g, hw''⟩ := hw'
              subst hw''
              have hq := g.h
              go_wp2_with fail
              go_roundw
              case rel =>
                exact ⟨j + 1, q, by omega, by go_num, rfl, hq1, by omega, (by rw [Hid, hstep.out, HE.out, HR.out, hzz.out]; simp), hB.trans (hq.mono (by omega))⟩
              case measure => simp [intOf]; omega
            · have HR := Lib.hid hrb
              clear hrb
              go_wp2_with fail
              refine wp_region_ex (by kernel_rfl) (by kernel_rfl) ?_
              repeat (go_big_quiet_step (first
                | (go_at_call 69; refine (heldR_ex _ _ _ _ _ (by omega) (by omega) (by omega) (by omega) (by omega) (by omega)).mono ?_; rintro e w' ⟨rfl, hg⟩; rw [HE.out]; exact ⟨rfl, hg⟩)
                | (go_at_call 70; refine (ready_ex p _ l c Ad M cd j _ _ H hrr hdd.out hHr HH.out hl hlt).mono ?_; rintro e w' ⟨rfl, hg⟩; rw [HR.out]; exact ⟨rfl, hg⟩)))
              refine wpQuiet_nil ?_
              intro _ hw'
              obtain ⟨g, hw''⟩ := hw'
              subst hw''
              have hq := g.h
              go_wp2_with fail
              go_roundw
              case rel =>
                exact ⟨j + 1, (j : Int), by omega, by go_num, rfl, by omega, by omega, (by rw [Hid, hstep.out, HE.out, HR.out, hzz.out]; simp [hneg, hlb]), hB.trans (hq.mono (by omega))⟩
              case measure => simp [intOf]; omega
          · have k7 : decide (l[j].b < l[q.toNat].b) = false := decide_eq_false hlb
            go_wp2_with fail
            refine wp_region_ex (by kernel_rfl) (by kernel_rfl) ?_
            repeat (go_big_quiet_step (first
              | (go_at_call 69; refine (heldR_ex _ _ _ _ _ (by omega) (by omega) (by omega) (by omega) (by omega) (by omega)).mono ?_; rintro e w' ⟨rfl, hg⟩; rw [HE.out]; exact ⟨rfl, hg⟩)
              | (go_at_call 70; refine (ready_ex p _ l c Ad M cd j _ _ H hrr hdd.out hHr HH.out hl hlt).mono ?_; rintro e w' ⟨rfl, hg⟩; rw [HR.out]; exact ⟨rfl, hg⟩)))
            refine wpQuiet_nil ?_
            intro _ hw'
            obtain ⟨g, hw''⟩ := hw'
            subst hw''
            have hq := g.h
            go_wp2_with fail
            go_roundw
            case rel =>
              exact ⟨j + 1, q, by omega, by go_num, rfl, hq1, by omega, (by rw [Hid, hstep.out, HE.out, hzz.out, k6, k7]; simp), hB.trans (hq.mono (by omega))⟩
            case measure => simp [intOf]; omega
    · have e1 : j = l.length := by omega
      subst e1
      go_wp2_with fail
      go_ret
      rw [← hqn.out]
      exact ⟨rfl, hBw⟩

end Go.Proofs.Ytogkgoabonbkkaa
