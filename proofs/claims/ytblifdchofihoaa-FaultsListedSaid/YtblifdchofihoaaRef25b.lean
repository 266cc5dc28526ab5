/- torchonref25: fits. -/
import Derived.Test.YtblifdchofihoaaRef25
set_option linter.unusedSimpArgs false
set_option linter.unusedVariables false
namespace Go.Proofs.Ytblifdchofihoaa
open Go Go.RowKit Tor

theorem byteAt_nat (s : ByteArray) {m : Nat} (h : m < s.size) : byteAt s (m : Int) = s[m] := by
  unfold byteAt
  rw [Int.toNat_natCast, List.getD_eq_getElem?_getD, List.getElem?_eq_getElem (by rw [bsize]; exact h), ← bgetL s m h]; rfl
set_option maxRecDepth 100000 in
set_option maxHeartbeats 4000000 in
theorem fits_any25 (A : Option Addr) (l : List Tri) (c : Nat) (f : Flt) (w : World) (H : Nat) (hr : RdT w H A l) (hH : H ≤ w.heap.size) (hl : l.length ≤ 100000) (hs : ∀ (k : Nat) (hk : k < l.length), l[k].s.size ≤ 1000) :
    Calls Try.prog 48 #[.slice A l.length c, .agg #[.int .i64 f.k, .int .i64 f.st, .int .i64 f.lt, .int .i64 f.wi]] w (Ret (.bool (fitsF l f)) w) := by
  obtain ⟨k, st, lt, wi⟩ := f
  simp only
  have hBB : Below w.heap.size w (w.alloc (.cells #[.int .i64 k, .int .i64 st, .int .i64 lt, .int .i64 wi] 24)) := by (repeat' first | exact Below.refl _ _ | apply Below.drew | (refine Below.setCells ?_ _ _ ?_) | (refine Below.setCell ?_ ?_ _) | (refine Below.alloc ?_ ?_ _) | (simp; done) | (simp; omega))
  have kF := Blk.new w 24 #[.int .i64 k, .int .i64 st, .int .i64 lt, .int .i64 wi]
  have HWK := Lib.hid (fun (i : Int) (w' : World) (hB : Below w.heap.size w w') => work_any25 A l c i w' H (hr.below' hB hH) hl)
  cases hwk : workF l st
  · have hR := Lib.hid (fits_out (l := l) (f := ⟨k, st, lt, wi⟩) hwk)
    rw [hR.out]
    have HW := Lib.hid hwk
    clear hwk
    go_enter Try.func48, Try.ntmps48
    go_wp2_with (first | (go_at_call 87; refine (HWK.out _ _ hBB).mono ?_; rw [HW.out]; rintro e w1 ⟨rfl, hB1⟩) | fail)
    go_ret
    exact Ret.val rfl (hBB.trans (hB1.mono hBB.size))
  have hwk2 := hwk
  unfold workF at hwk2
  simp only [Bool.and_eq_true, decide_eq_true_eq] at hwk2
  obtain ⟨n, rfl⟩ : ∃ n : Nat, st = n := ⟨st.toNat, by omega⟩
  have hn : n < l.length := by omega
  have hsn := hs n hn
  have hx : xAt l n = l[n] := xAt_of hn
  have hF : fitsF l ⟨k, n, lt, wi⟩ = (if k = 1 then decide (0 ≤ lt ∧ lt < l[n].s.size) else if k = 3 then decide (0 ≤ lt ∧ lt < l[n].s.size) && decide (byteAt l[n].s lt ≠ 80)
      else if k = 2 then decide (l[n].a = 2) && decide (0 ≤ lt ∧ lt ≤ l[n].s.size) else if k = 6 then workF l (n + 1) else true) := by
    unfold fitsF
    simp only [hwk, Bool.true_and, Int.toNat_natCast, hx]
  have HW := Lib.hid hwk
  obtain ⟨b, o, rfl, hb0, g0, g1, g2⟩ := hr.tri hn
  have lb := lt_of_cell g0
  have n0 : (n : Int) < (l.length : Int) := by omega
  have n9 : (0 : Int) ≤ (n : Int) := by omega
  have hk2000 : l.length ≤ 100000 := hl
  clear hwk hwk2 hs
  have tk1 : True := trivial
  by_cases hin : k = 1 ∨ k = 3 ∨ k = 2 ∨ k = 6
  rotate_left
  · have x1 : (k == 1) = false := by simp; omega
    have x2 : (k == 2) = false := by simp; omega
    have x3 : (k == 3) = false := by simp; omega
    have x6 : (k == 6) = false := by simp; omega
    have hR : Hid (fitsF l ⟨k, n, lt, wi⟩ = true) := by rw [Hid, hF]; rw [if_neg (by omega), if_neg (by omega), if_neg (by omega), if_neg (by omega)]
    rw [hR.out]
    clear hF hin
    go_enter Try.func48, Try.ntmps48
    go_wp2_with (first
      | (go_at_call 87; have := tk1; refine (HWK.out _ _ hBB).mono ?_; rw [HW.out]; rintro e w1 ⟨rfl, hB1⟩; clear tk1
         have hB2 := hBB.trans (hB1.mono hBB.size)
         have kF1 := kF.below' hB1
         have p0 := kF1.cell 0 (.int .i64 k) rfl
         have p1 := kF1.cell 1 (.int .i64 n) rfl
         have p2 := kF1.cell 2 (.int .i64 lt) rfl
         have p3 := kF1.cell 3 (.int .i64 wi) rfl
         have e0 := (hB2.cell (p := ⟨b, _, none⟩) lb).trans g0
         have e1 := (hB2.cell (p := ⟨b, _, none⟩) lb).trans g1
         have e2 := (hB2.cell (p := ⟨b, _, none⟩) lb).trans g2
         have lw := lt_of_cell p0
         have lw2 := lt_of_cell e0)
      | fail)
    go_ret
    exact Ret.val rfl ((hB2.alloc hB2.size _))
  rcases hin with rfl | rfl | rfl | rfl
  · rcases (show lt < 0 ∨ (0 ≤ lt ∧ (l[n].s.size : Int) ≤ lt) ∨ (0 ≤ lt ∧ lt < (l[n].s.size : Int)) by omega) with h1 | ⟨h1, h2⟩ | ⟨h1, h2⟩
    · skip
      have d1 : ¬ 0 ≤ lt := by omega
      have hR : Hid (fitsF l ⟨1, n, lt, wi⟩ = false) := by rw [Hid, hF]; rw [if_pos rfl]; simp; omega
      rw [hR.out]
      clear hF 
      go_enter Try.func48, Try.ntmps48
      go_wp2_with (first
        | (go_at_call 87; have := tk1; refine (HWK.out _ _ hBB).mono ?_; rw [HW.out]; rintro e w1 ⟨rfl, hB1⟩; clear tk1
           have hB2 := hBB.trans (hB1.mono hBB.size)
           have kF1 := kF.below' hB1
           have p0 := kF1.cell 0 (.int .i64 1) rfl
           have p1 := kF1.cell 1 (.int .i64 n) rfl
           have p2 := kF1.cell 2 (.int .i64 lt) rfl
           have p3 := kF1.cell 3 (.int .i64 wi) rfl
           have e0 := (hB2.cell (p := ⟨b, _, none⟩) lb).trans g0
           have e1 := (hB2.cell (p := ⟨b, _, none⟩) lb).trans g1
           have e2 := (hB2.cell (p := ⟨b, _, none⟩) lb).trans g2
           have lw := lt_of_cell p0
           have lw2 := lt_of_cell e0)
        | fail)
      go_ret
      exact Ret.val rfl ((hB2.alloc hB2.size _))
    · skip
      have d1 : ¬ lt < (l[n].s.size : Int) := by omega
      have d2 : decide (lt < (l[n].s.size : Int)) = false := decide_eq_false d1
      have hR : Hid (fitsF l ⟨1, n, lt, wi⟩ = false) := by rw [Hid, hF]; rw [if_pos rfl]; simp; omega
      rw [hR.out]
      clear hF 
      go_enter Try.func48, Try.ntmps48
      go_wp2_with (first
        | (go_at_call 87; have := tk1; refine (HWK.out _ _ hBB).mono ?_; rw [HW.out]; rintro e w1 ⟨rfl, hB1⟩; clear tk1
           have hB2 := hBB.trans (hB1.mono hBB.size)
           have kF1 := kF.below' hB1
           have p0 := kF1.cell 0 (.int .i64 1) rfl
           have p1 := kF1.cell 1 (.int .i64 n) rfl
           have p2 := kF1.cell 2 (.int .i64 lt) rfl
           have p3 := kF1.cell 3 (.int .i64 wi) rfl
           have e0 := (hB2.cell (p := ⟨b, _, none⟩) lb).trans g0
           have e1 := (hB2.cell (p := ⟨b, _, none⟩) lb).trans g1
           have e2 := (hB2.cell (p := ⟨b, _, none⟩) lb).trans g2
           have lw := lt_of_cell p0
           have lw2 := lt_of_cell e0)
        | fail)
      go_ret
      exact Ret.val rfl ((hB2.alloc hB2.size _))
    · skip
      have hR : Hid (fitsF l ⟨1, n, lt, wi⟩ = true) := by rw [Hid, hF]; rw [if_pos rfl]; simp; omega
      rw [hR.out]
      clear hF 
      go_enter Try.func48, Try.ntmps48
      go_wp2_with (first
        | (go_at_call 87; have := tk1; refine (HWK.out _ _ hBB).mono ?_; rw [HW.out]; rintro e w1 ⟨rfl, hB1⟩; clear tk1
           have hB2 := hBB.trans (hB1.mono hBB.size)
           have kF1 := kF.below' hB1
           have p0 := kF1.cell 0 (.int .i64 1) rfl
           have p1 := kF1.cell 1 (.int .i64 n) rfl
           have p2 := kF1.cell 2 (.int .i64 lt) rfl
           have p3 := kF1.cell 3 (.int .i64 wi) rfl
           have e0 := (hB2.cell (p := ⟨b, _, none⟩) lb).trans g0
           have e1 := (hB2.cell (p := ⟨b, _, none⟩) lb).trans g1
           have e2 := (hB2.cell (p := ⟨b, _, none⟩) lb).trans g2
           have lw := lt_of_cell p0
           have lw2 := lt_of_cell e0)
        | fail)
      go_ret
      exact Ret.val rfl ((hB2.alloc hB2.size _))
  · rcases (show lt < 0 ∨ (0 ≤ lt ∧ (l[n].s.size : Int) ≤ lt) ∨ (0 ≤ lt ∧ lt < (l[n].s.size : Int)) by omega) with h1 | ⟨h1, h2⟩ | ⟨h1, h2⟩
    · skip
      have d1 : ¬ 0 ≤ lt := by omega
      have hR : Hid (fitsF l ⟨3, n, lt, wi⟩ = false) := by rw [Hid, hF]; rw [if_neg (by omega), if_pos rfl]; simp; omega
      rw [hR.out]
      clear hF 
      go_enter Try.func48, Try.ntmps48
      go_wp2_with (first
        | (go_at_call 87; have := tk1; refine (HWK.out _ _ hBB).mono ?_; rw [HW.out]; rintro e w1 ⟨rfl, hB1⟩; clear tk1
           have hB2 := hBB.trans (hB1.mono hBB.size)
           have kF1 := kF.below' hB1
           have p0 := kF1.cell 0 (.int .i64 3) rfl
           have p1 := kF1.cell 1 (.int .i64 n) rfl
           have p2 := kF1.cell 2 (.int .i64 lt) rfl
           have p3 := kF1.cell 3 (.int .i64 wi) rfl
           have e0 := (hB2.cell (p := ⟨b, _, none⟩) lb).trans g0
           have e1 := (hB2.cell (p := ⟨b, _, none⟩) lb).trans g1
           have e2 := (hB2.cell (p := ⟨b, _, none⟩) lb).trans g2
           have lw := lt_of_cell p0
           have lw2 := lt_of_cell e0)
        | fail)
      go_ret
      exact Ret.val rfl ((hB2.alloc hB2.size _))
    · skip
      have d1 : ¬ lt < (l[n].s.size : Int) := by omega
      have d2 : decide (lt < (l[n].s.size : Int)) = false := decide_eq_false d1
      have hR : Hid (fitsF l ⟨3, n, lt, wi⟩ = false) := by rw [Hid, hF]; rw [if_neg (by omega), if_pos rfl]; simp; omega
      rw [hR.out]
      clear hF 
      go_enter Try.func48, Try.ntmps48
      go_wp2_with (first
        | (go_at_call 87; have := tk1; refine (HWK.out _ _ hBB).mono ?_; rw [HW.out]; rintro e w1 ⟨rfl, hB1⟩; clear tk1
           have hB2 := hBB.trans (hB1.mono hBB.size)
           have kF1 := kF.below' hB1
           have p0 := kF1.cell 0 (.int .i64 3) rfl
           have p1 := kF1.cell 1 (.int .i64 n) rfl
           have p2 := kF1.cell 2 (.int .i64 lt) rfl
           have p3 := kF1.cell 3 (.int .i64 wi) rfl
           have e0 := (hB2.cell (p := ⟨b, _, none⟩) lb).trans g0
           have e1 := (hB2.cell (p := ⟨b, _, none⟩) lb).trans g1
           have e2 := (hB2.cell (p := ⟨b, _, none⟩) lb).trans g2
           have lw := lt_of_cell p0
           have lw2 := lt_of_cell e0)
        | fail)
      go_ret
      exact Ret.val rfl ((hB2.alloc hB2.size _))
    · obtain ⟨m, rfl⟩ : ∃ m : Nat, lt = m := ⟨lt.toNat, by omega⟩
      have hm : m < l[n].s.size := by omega
      have hbm : byteAt l[n].s (m : Int) = l[n].s[m] := by rw [byteAt_nat _ hm]
      rw [hbm] at hF
      by_cases h80 : l[n].s[m] = 80
      · have y1 : ((l[n].s[m].toNat : Int) != 80) = false := by rw [h80]; rfl
        have y2 : ((l[n].s[m].toNat : Int) == 80) = true := by rw [h80]; rfl
        have hR : Hid (fitsF l ⟨3, n, m, wi⟩ = false) := by rw [Hid, hF]; rw [if_neg (by omega), if_pos rfl, h80]; simp
        rw [hR.out]
        clear hF hbm h80
        go_enter Try.func48, Try.ntmps48
        go_wp2_with (first
          | (go_at_call 87; have := tk1; refine (HWK.out _ _ hBB).mono ?_; rw [HW.out]; rintro e w1 ⟨rfl, hB1⟩; clear tk1
             have hB2 := hBB.trans (hB1.mono hBB.size)
             have kF1 := kF.below' hB1
             have p0 := kF1.cell 0 (.int .i64 3) rfl
             have p1 := kF1.cell 1 (.int .i64 n) rfl
             have p2 := kF1.cell 2 (.int .i64 m) rfl
             have p3 := kF1.cell 3 (.int .i64 wi) rfl
             have e0 := (hB2.cell (p := ⟨b, _, none⟩) lb).trans g0
             have e1 := (hB2.cell (p := ⟨b, _, none⟩) lb).trans g1
             have e2 := (hB2.cell (p := ⟨b, _, none⟩) lb).trans g2
             have lw := lt_of_cell p0
             have lw2 := lt_of_cell e0)
          | fail)
        go_ret
        exact Ret.val rfl ((hB2.alloc hB2.size _))
      · have y0 : (l[n].s[m].toNat : Int) ≠ 80 := fun e => h80 (UInt8.toNat_inj.1 (by have : (80 : UInt8).toNat = 80 := rfl; omega))
        have y1 : ((l[n].s[m].toNat : Int) != 80) = true := by simpa using y0
        have y2 : ((l[n].s[m].toNat : Int) == 80) = false := by simpa using y0
        have hR : Hid (fitsF l ⟨3, n, m, wi⟩ = true) := by rw [Hid, hF]; rw [if_neg (by omega), if_pos rfl]; simp [h80]; omega
        rw [hR.out]
        clear hF hbm h80 y0
        go_enter Try.func48, Try.ntmps48
        go_wp2_with (first
          | (go_at_call 87; have := tk1; refine (HWK.out _ _ hBB).mono ?_; rw [HW.out]; rintro e w1 ⟨rfl, hB1⟩; clear tk1
             have hB2 := hBB.trans (hB1.mono hBB.size)
             have kF1 := kF.below' hB1
             have p0 := kF1.cell 0 (.int .i64 3) rfl
             have p1 := kF1.cell 1 (.int .i64 n) rfl
             have p2 := kF1.cell 2 (.int .i64 m) rfl
             have p3 := kF1.cell 3 (.int .i64 wi) rfl
             have e0 := (hB2.cell (p := ⟨b, _, none⟩) lb).trans g0
             have e1 := (hB2.cell (p := ⟨b, _, none⟩) lb).trans g1
             have e2 := (hB2.cell (p := ⟨b, _, none⟩) lb).trans g2
             have lw := lt_of_cell p0
             have lw2 := lt_of_cell e0)
          | fail)
        go_ret
        exact Ret.val rfl ((hB2.alloc hB2.size _))
  · by_cases ha : l[n].a = 2
    rotate_left
    · have x1 : (l[n].a == 2) = false := by simpa using ha
      have hR : Hid (fitsF l ⟨2, n, lt, wi⟩ = false) := by rw [Hid, hF]; rw [if_neg (by omega), if_neg (by omega), if_pos rfl]; simp [ha]
      rw [hR.out]
      clear hF ha
      go_enter Try.func48, Try.ntmps48
      go_wp2_with (first
        | (go_at_call 87; have := tk1; refine (HWK.out _ _ hBB).mono ?_; rw [HW.out]; rintro e w1 ⟨rfl, hB1⟩; clear tk1
           have hB2 := hBB.trans (hB1.mono hBB.size)
           have kF1 := kF.below' hB1
           have p0 := kF1.cell 0 (.int .i64 2) rfl
           have p1 := kF1.cell 1 (.int .i64 n) rfl
           have p2 := kF1.cell 2 (.int .i64 lt) rfl
           have p3 := kF1.cell 3 (.int .i64 wi) rfl
           have e0 := (hB2.cell (p := ⟨b, _, none⟩) lb).trans g0
           have e1 := (hB2.cell (p := ⟨b, _, none⟩) lb).trans g1
           have e2 := (hB2.cell (p := ⟨b, _, none⟩) lb).trans g2
           have lw := lt_of_cell p0
           have lw2 := lt_of_cell e0)
        | fail)
      go_ret
      exact Ret.val rfl ((hB2.alloc hB2.size _))
    have x1 : (l[n].a == 2) = true := by simpa using ha
    rcases (show lt < 0 ∨ (0 ≤ lt ∧ (l[n].s.size : Int) < lt) ∨ (0 ≤ lt ∧ lt ≤ (l[n].s.size : Int)) by omega) with h1 | ⟨h1, h2⟩ | ⟨h1, h2⟩
    · skip
      have d1 : ¬ 0 ≤ lt := by omega
      have hR : Hid (fitsF l ⟨2, n, lt, wi⟩ = false) := by rw [Hid, hF]; rw [if_neg (by omega), if_neg (by omega), if_pos rfl]; simp; omega
      rw [hR.out]
      clear hF ha
      go_enter Try.func48, Try.ntmps48
      go_wp2_with (first
        | (go_at_call 87; have := tk1; refine (HWK.out _ _ hBB).mono ?_; rw [HW.out]; rintro e w1 ⟨rfl, hB1⟩; clear tk1
           have hB2 := hBB.trans (hB1.mono hBB.size)
           have kF1 := kF.below' hB1
           have p0 := kF1.cell 0 (.int .i64 2) rfl
           have p1 := kF1.cell 1 (.int .i64 n) rfl
           have p2 := kF1.cell 2 (.int .i64 lt) rfl
           have p3 := kF1.cell 3 (.int .i64 wi) rfl
           have e0 := (hB2.cell (p := ⟨b, _, none⟩) lb).trans g0
           have e1 := (hB2.cell (p := ⟨b, _, none⟩) lb).trans g1
           have e2 := (hB2.cell (p := ⟨b, _, none⟩) lb).trans g2
           have lw := lt_of_cell p0
           have lw2 := lt_of_cell e0)
        | fail)
      go_ret
      exact Ret.val rfl ((hB2.alloc hB2.size _))
    · skip
      have d1 : ¬ lt ≤ (l[n].s.size : Int) := by omega
      have d2 : decide (lt ≤ (l[n].s.size : Int)) = false := decide_eq_false d1
      have hR : Hid (fitsF l ⟨2, n, lt, wi⟩ = false) := by rw [Hid, hF]; rw [if_neg (by omega), if_neg (by omega), if_pos rfl]; simp; omega
      rw [hR.out]
      clear hF ha
      go_enter Try.func48, Try.ntmps48
      go_wp2_with (first
        | (go_at_call 87; have := tk1; refine (HWK.out _ _ hBB).mono ?_; rw [HW.out]; rintro e w1 ⟨rfl, hB1⟩; clear tk1
           have hB2 := hBB.trans (hB1.mono hBB.size)
           have kF1 := kF.below' hB1
           have p0 := kF1.cell 0 (.int .i64 2) rfl
           have p1 := kF1.cell 1 (.int .i64 n) rfl
           have p2 := kF1.cell 2 (.int .i64 lt) rfl
           have p3 := kF1.cell 3 (.int .i64 wi) rfl
           have e0 := (hB2.cell (p := ⟨b, _, none⟩) lb).trans g0
           have e1 := (hB2.cell (p := ⟨b, _, none⟩) lb).trans g1
           have e2 := (hB2.cell (p := ⟨b, _, none⟩) lb).trans g2
           have lw := lt_of_cell p0
           have lw2 := lt_of_cell e0)
        | fail)
      go_ret
      exact Ret.val rfl ((hB2.alloc hB2.size _))
    · skip
      have hR : Hid (fitsF l ⟨2, n, lt, wi⟩ = true) := by rw [Hid, hF]; rw [if_neg (by omega), if_neg (by omega), if_pos rfl]; simp [ha]; omega
      rw [hR.out]
      clear hF ha
      go_enter Try.func48, Try.ntmps48
      go_wp2_with (first
        | (go_at_call 87; have := tk1; refine (HWK.out _ _ hBB).mono ?_; rw [HW.out]; rintro e w1 ⟨rfl, hB1⟩; clear tk1
           have hB2 := hBB.trans (hB1.mono hBB.size)
           have kF1 := kF.below' hB1
           have p0 := kF1.cell 0 (.int .i64 2) rfl
           have p1 := kF1.cell 1 (.int .i64 n) rfl
           have p2 := kF1.cell 2 (.int .i64 lt) rfl
           have p3 := kF1.cell 3 (.int .i64 wi) rfl
           have e0 := (hB2.cell (p := ⟨b, _, none⟩) lb).trans g0
           have e1 := (hB2.cell (p := ⟨b, _, none⟩) lb).trans g1
           have e2 := (hB2.cell (p := ⟨b, _, none⟩) lb).trans g2
           have lw := lt_of_cell p0
           have lw2 := lt_of_cell e0)
        | fail)
      go_ret
      exact Ret.val rfl ((hB2.alloc hB2.size _))
  · have n1 : IntKind.i64.wrap ((n : Int) + 1) = (n : Int) + 1 := IntWalk.i64_in _ (by omega)
    by_cases h1 : n + 1 < l.length
    rotate_left
    · have d1 : ¬ (n : Int) + 1 < (l.length : Int) := by omega
      have hv : workF l ((n : Int) + 1) = false := by unfold workF; simp; omega
      have hR : Hid (fitsF l ⟨6, n, lt, wi⟩ = false) := by rw [Hid, hF]; rw [if_neg (by omega), if_neg (by omega), if_neg (by omega), if_pos rfl, hv]
      rw [hR.out]
      clear hF hv
      go_enter Try.func48, Try.ntmps48
      go_wp2_with (first
        | (go_at_call 87; have := tk1; refine (HWK.out _ _ hBB).mono ?_; rw [HW.out]; rintro e w1 ⟨rfl, hB1⟩; clear tk1
           have hB2 := hBB.trans (hB1.mono hBB.size)
           have kF1 := kF.below' hB1
           have p0 := kF1.cell 0 (.int .i64 6) rfl
           have p1 := kF1.cell 1 (.int .i64 n) rfl
           have p2 := kF1.cell 2 (.int .i64 lt) rfl
           have p3 := kF1.cell 3 (.int .i64 wi) rfl
           have e0 := (hB2.cell (p := ⟨b, _, none⟩) lb).trans g0
           have e1 := (hB2.cell (p := ⟨b, _, none⟩) lb).trans g1
           have e2 := (hB2.cell (p := ⟨b, _, none⟩) lb).trans g2
           have lw := lt_of_cell p0
           have lw2 := lt_of_cell e0)
        | fail)
      go_ret
      exact Ret.val rfl ((hB2.alloc hB2.size _))
    have d1 : (n : Int) + 1 < (l.length : Int) := by omega
    obtain ⟨E, hE⟩ : ∃ E, Hid (workF l ((n : Int) + 1) = E) := ⟨_, Lib.hid rfl⟩
    have hR : Hid (fitsF l ⟨6, n, lt, wi⟩ = E) := by rw [Hid, hF]; rw [if_neg (by omega), if_neg (by omega), if_neg (by omega), if_pos rfl, hE.out]
    rw [hR.out]
    clear hF 
    go_enter Try.func48, Try.ntmps48
    go_wp2_with (first
      | (go_at_call 87; have := tk1; refine (HWK.out _ _ hBB).mono ?_; rw [HW.out]; rintro e w1 ⟨rfl, hB1⟩; clear tk1
         have hB2 := hBB.trans (hB1.mono hBB.size)
         have kF1 := kF.below' hB1
         have p0 := kF1.cell 0 (.int .i64 6) rfl
         have p1 := kF1.cell 1 (.int .i64 n) rfl
         have p2 := kF1.cell 2 (.int .i64 lt) rfl
         have p3 := kF1.cell 3 (.int .i64 wi) rfl
         have e0 := (hB2.cell (p := ⟨b, _, none⟩) lb).trans g0
         have e1 := (hB2.cell (p := ⟨b, _, none⟩) lb).trans g1
         have e2 := (hB2.cell (p := ⟨b, _, none⟩) lb).trans g2
         have lw := lt_of_cell p0
         have lw2 := lt_of_cell e0)
      | (go_at_call 87; refine (HWK.out _ _ (hB2.alloc hB2.size _)).mono ?_; rintro e w3 ⟨rfl, hB3⟩)
      | fail)
    go_ret
    exact Ret.val (congrArg Value.bool hE.out) ((hB2.alloc hB2.size _).trans (hB3.mono (by have := hB2.size; simp; omega)))
end Go.Proofs.Ytblifdchofihoaa
