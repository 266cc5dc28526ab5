/- torchonref15: ready, next. -/
import Derived.Test.YtogkgoabonbkkaaRQuickM
set_option linter.unusedSimpArgs false
set_option linter.unusedVariables false
namespace Go.Proofs.Ytogkgoabonbkkaa
open Go Go.RowKit Tor

/-- which works are made, as the reference keeps it -/
def doneL (n : Nat) (M : List Nat) : List Bool := (List.range n).map fun i => M.contains i
theorem doneL_len (n : Nat) (M : List Nat) : (doneL n M).length = n := by simp [doneL]
theorem doneL_get {n : Nat} {M : List Nat} {i : Nat} (h : i < (doneL n M).length) : (doneL n M)[i] = M.contains i := by simp [doneL]

theorem touch_ex (x y : Tri) (w : World) (g : Ex w) (b1 : -1000 ≤ x.b) (b2 : x.b ≤ 1000) (b3 : -1000 ≤ y.b) (b4 : y.b ≤ 1000) :
    Calls Try.prog 74 #[.agg #[.int .i64 x.a, .int .i64 x.b, .string x.s], .agg #[.int .i64 y.a, .int .i64 y.b, .string y.s]] g.w (fun e w'' => e = .returned (.bool (touchB x.b y.b)) ∧ ∃ g' : Ex w, w'' = g'.w) :=
  calls_ex (touch_any x y g.w b1 b2 b3 b4)

set_option maxRecDepth 100000 in
set_option maxHeartbeats 1000000 in
theorem ready_any (p : Int) (A : Option Addr) (l : List Tri) (c : Nat) (Ad : Option Addr) (M : List Nat) (cd : Nat) (i : Nat) (w : World) (H : Nat) (hr : RdT w H A l) (hd : RdB w H Ad (doneL l.length M)) (hH : H ≤ w.heap.size)
    (hb : ∀ (k : Nat) (hk : k < l.length), 0 ≤ l[k].b ∧ l[k].b ≤ 100) (hl : l.length ≤ 1000) (hi : i < l.length) :
    Calls Try.prog 70 #[.agg #[.int .i64 p, .slice A l.length c], .slice Ad l.length cd, .int .i64 i] w (Ret (.bool (rdyB l M i)) w) := by
  have HH := Lib.hid hb
  have HD := Lib.hid hd
  have hDl := doneL_len l.length M
  have HDL := Lib.hid hDl
  clear hb hd hDl
  go_enter Try.func70, Try.ntmps70
  go_wp2_with fail
  go_loopw [7] (fun k wr => ∃ j : Nat, j ≤ i ∧ k = .int .i64 j ∧ Hid (∀ q, q < j → (M.contains q || !touchAt l i q) = true) ∧ Below (w.heap.size + 1) (w.alloc (.cells #[.int .i64 p, .slice A l.length c] 24)) wr) (fun k _ => i - (intOf k).toNat)
  case atStart => exact ⟨0, by omega, rfl, fun q hq => by omega, Below.refl _ _⟩
  case round =>
    obtain ⟨j, hj, rfl, hno, hB⟩ := hrel
    have hN1 := box_cell hB 1 (.slice A l.length c) rfl
    have hNs := box_lt hB
    have hBw := box_below hB
    have hrr := hr.below' hBw hH
    by_cases hlt : j < i
    · have hjl : j < l.length := by omega
      obtain ⟨b, o, hA, hb0, h0, h1, h2⟩ := hrr.tri hjl
      subst hA
      obtain ⟨_, g0, g1, g2⟩ := hrr.triAt hi
      have hbb := lt_of_cell h0
      obtain ⟨bd, od, hAd, hbd0, e0⟩ := (HD.out.below' hBw hH).bool (k := j) (by rw [HDL.out]; exact hjl)
      rw [doneL_get] at e0
      subst hAd
      have hbdl := lt_of_cell e0
      have x1 := HH.out j hjl
      have x2 := HH.out i hi
      have k0 : (0 : Int) ≤ (j : Int) := by omega
      have k1 : (j : Int) < (l.length : Int) := by omega
      have k2 : (0 : Int) ≤ (i : Int) := by omega
      have k3 : (i : Int) < (l.length : Int) := by omega
      have hTA : Hid (touchAt l i j = touchB l[j].b l[i].b) := by rw [Hid, touchAt, xAt_of hjl, xAt_of hi]
      cases hc : M.contains j
      · rw [hc] at e0
        have HC := Lib.hid hc
        clear hc
        cases ht : touchB l[j].b l[i].b
        · have HT := Lib.hid ht
          clear ht
          go_wp2_with fail
          refine wp_region_ex (by kernel_rfl) (by kernel_rfl) ?_
          repeat (go_big_quiet_step ((go_at_call 74; refine (touch_ex _ _ _ _ (by omega) (by omega) (by omega) (by omega)).mono ?_; rintro e w' ⟨rfl, hg⟩; rw [HT.out]; exact ⟨rfl, hg⟩)))
          refine wpQuiet_nil ?_
          intro _ hw'
          obtain ⟨g, hw''⟩ := hw'
          subst hw''
          have hq := g.h
          go_wp2_with fail
          go_roundw
          case rel =>
            refine ⟨j + 1, by omega, by go_num, fun q hq' => ?_, hB.trans (hq.mono (by omega))⟩
            by_cases e : q = j
            · subst e; rw [hTA.out, HT.out]; simp
            · exact hno.out q (by omega)
          case measure => simp [intOf]; omega
        · have HT := Lib.hid ht
          clear ht
          go_wp2_with fail
          refine wp_region_ex (by kernel_rfl) (by kernel_rfl) ?_
          repeat (go_big_quiet_step ((go_at_call 74; refine (touch_ex _ _ _ _ (by omega) (by omega) (by omega) (by omega)).mono ?_; rintro e w' ⟨rfl, hg⟩; rw [HT.out]; exact ⟨rfl, hg⟩)))
          refine wpQuiet_nil ?_
          intro _ hw'
          obtain ⟨g, hw''⟩ := hw'
          subst hw''
          have hq := g.h
          go_wp2_with fail
          go_ret
          refine Ret.bool ?_ (hBw.trans (hq.mono (by have := hBw.size; omega)))
          have : rdyB l M i = false := by
            unfold rdyB
            simp only [Bool.and_eq_false_iff, List.all_eq_false]
            exact Or.inl ⟨j, by simpa using hlt, by rw [HC.out, hTA.out, HT.out]; simp⟩
          rw [this]
      · rw [hc] at e0
        have HC := Lib.hid hc
        clear hc
        go_wp2_with fail
        go_quiet (fail)
        go_wp2_with fail
        go_roundw
        case rel =>
          refine ⟨j + 1, by omega, by go_num, fun q hq' => ?_, hB.drewN nq⟩
          by_cases e : q = j
          · subst e; rw [HC.out]; simp
          · exact hno.out q (by omega)
        case measure => simp [intOf]; omega
    · have e1 : j = i := by omega
      subst e1
      obtain ⟨bd, od, hAd, hbd0, e0⟩ := (HD.out.below' hBw hH).bool (k := j) (by rw [HDL.out]; exact hi)
      rw [doneL_get] at e0
      subst hAd
      have hbdl := lt_of_cell e0
      have k0 : (0 : Int) ≤ (j : Int) := by omega
      have k1 : (j : Int) < (l.length : Int) := by omega
      have hall : rdyB l M j = !M.contains j := by
        unfold rdyB
        rw [List.all_eq_true.2 (fun q hq => hno.out q (by simpa using hq))]
        simp
      have HALL := Lib.hid hall
      obtain ⟨bb, hbb⟩ : ∃ bb, Hid (M.contains j = bb) := ⟨_, Lib.hid rfl⟩
      rw [hbb.out] at e0
      clear hall
      go_wp2_with fail
      go_ret
      exact Ret.bool (by rw [HALL.out, hbb.out]) hBw

end Go.Proofs.Ytogkgoabonbkkaa
