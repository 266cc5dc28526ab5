/- faults: fits. -/
import Derived.Test.YtfnklchhhojimaaClos
import Derived.BigQuiet
set_option linter.unusedSimpArgs false
set_option linter.unusedVariables false
namespace Go.Proofs.Ytfnklchhhojimaa
open Go Go.RowKit Tor

theorem size_ex (x : Tri) (w : World) (g : Ex w) (hs : x.s.size ≤ 1000000) : Calls Try.prog 30 #[.agg #[.int .i64 x.a, .int .i64 x.b, .string x.s]] g.w fun e w'' => e = .returned (.int .i64 x.s.size) ∧ ∃ g' : Ex w, w'' = g'.w := calls_ex (size_any x g.w hs)
theorem one_ex (x : Tri) (w : World) (g : Ex w) : Calls Try.prog 31 #[.agg #[.int .i64 x.a, .int .i64 x.b, .string x.s]] g.w fun e w'' => e = .returned (.int .i64 1) ∧ ∃ g' : Ex w, w'' = g'.w := calls_ex (one_any x g.w)
theorem extra_ex (x : Tri) (w : World) (g : Ex w) (hs : x.s.size ≤ 1000000) : Calls Try.prog 34 #[.agg #[.int .i64 x.a, .int .i64 x.b, .string x.s]] g.w fun e w'' => e = .returned (.int .i64 (if x.a = 2 then (x.s.size : Int) + 1 else 0)) ∧ ∃ g' : Ex w, w'' = g'.w := calls_ex (extra_any x g.w hs)

theorem fits_out {l : List Tri} {f : Flt} (h : workF l f.st = false) : fitsF l f = false := by unfold fitsF; rw [h]; rfl
theorem workF_iff {l : List Tri} {i : Nat} (h : i < l.length) : workF l (i : Int) = decide (l[i].a ≠ 1) := by
  unfold workF
  have h1 : (0 : Int) ≤ i := by omega
  have h2 : (i : Int) < l.length := by omega
  rw [Int.toNat_natCast, xAt_of h]
  simp [h1, h2]


set_option maxRecDepth 100000 in
set_option maxHeartbeats 4000000 in
theorem fits_any (kb : Nat) (A : Option Addr) (l : List Tri) (c : Nat) (f : Flt) (w : World) (H : Nat) (hr : RdT w H A l) (hH : H ≤ w.heap.size) (k0 : w.cell? ⟨kb, 0, none⟩ = some (.int .i64 f.k)) (k4 : w.cell? ⟨kb, 4, none⟩ = some (.func (.func (klf f.k)) #[] #[]))
    (hsh : shapedF f = true) (hl : l.length ≤ 2000) (hs : ∀ (k : Nat) (hk : k < l.length), l[k].s.size ≤ 1000) :
    Calls Try.prog 28 #[.pointer (some ⟨kb, 0, none⟩), .slice A l.length c, .agg #[.int .i64 f.k, .int .i64 f.st, .int .i64 f.lt, .int .i64 f.wi]] w (Ret (.bool (fitsF l f)) w) := by
  have kbl := lt_of_cell k0
  obtain ⟨k, st, lt, wi⟩ := f
  simp only at k0 k4 ⊢
  have kF := Blk.new w 24 #[.int .i64 k, .int .i64 st, .int .i64 lt, .int .i64 wi]
  have fl := kF.lt
  have hBB : Below w.heap.size w (w.alloc (.cells #[.int .i64 k, .int .i64 st, .int .i64 lt, .int .i64 wi] 24)) := by (repeat' first | exact Below.refl _ _ | apply Below.drew | (refine Below.setCells ?_ _ _ ?_) | (refine Below.setCell ?_ ?_ _) | (refine Below.alloc ?_ ?_ _) | (simp; done) | (simp; omega))
  have k0' := (hBB.cell (p := ⟨kb, 0, none⟩) kbl).trans k0
  have k4' := (hBB.cell (p := ⟨kb, 4, none⟩) kbl).trans k4
  have hr' := hr.below' hBB hH
  have f1 := kF.cell 1 (.int .i64 st) rfl
  have f2 := kF.cell 2 (.int .i64 lt) rfl
  by_cases c1 : st < 0
  · have hR := Lib.hid (fits_out (l := l) (f := ⟨k, st, lt, wi⟩) (by unfold workF; simp; omega))
    rw [hR.out]
    go_enter Try.func28, Try.ntmps28
    go_wp2_with fail
    go_quiet (fail)
    go_wp2_with fail
    go_ret
    exact Ret.val rfl (hBB.drewN _)
  have d1 : decide (st < 0) = false := decide_eq_false c1
  by_cases c2 : (l.length : Int) ≤ st
  · have hR := Lib.hid (fits_out (l := l) (f := ⟨k, st, lt, wi⟩) (by unfold workF; simp; omega))
    rw [hR.out]
    go_enter Try.func28, Try.ntmps28
    go_wp2_with fail
    go_quiet (fail)
    go_wp2_with fail
    go_ret
    exact Ret.val rfl (hBB.drewN _)
  have d2 : decide ((l.length : Int) ≤ st) = false := decide_eq_false c2
  obtain ⟨n, rfl⟩ : ∃ n : Nat, st = n := ⟨st.toNat, by omega⟩
  have hn : n < l.length := by omega
  have d3 : decide (l.length ≤ n) = false := decide_eq_false (by omega)
  have d5 : decide ((n : Int) < 0) = false := decide_eq_false (by omega)
  have c5 : ¬ l.length ≤ n := by omega
  obtain ⟨b, o, rfl, hb0, g0, g1, g2⟩ := hr'.tri hn
  have lb := lt_of_cell g0
  have lkb := lt_of_cell k0'
  have hwk := workF_iff hn
  by_cases c3 : l[n].a = 1
  · have hR := Lib.hid (fits_out (l := l) (f := ⟨k, n, lt, wi⟩) (by rw [hwk]; simp [c3]))
    rw [hR.out]
    have b1 : (l[n].a == 1) = true := by rw [c3]; rfl
    clear c3 hwk
    go_enter Try.func28, Try.ntmps28
    go_wp2_with fail
    go_quiet (fail)
    go_wp2_with fail
    go_ret
    exact Ret.val rfl (hBB.drewN _)
  have b1 : (l[n].a == 1) = false := by simpa using c3
  have hwk' : workF l (n : Int) = true := by rw [hwk]; simpa using c3
  have hsn := hs n hn
  have hx : xAt l n = l[n] := xAt_of hn
  have hF : fitsF l ⟨k, n, lt, wi⟩ = (if k = 1 then decide (0 ≤ lt ∧ lt < l[n].s.size) else if k = 3 then decide (0 ≤ lt ∧ lt < l[n].s.size) && decide (byteAt l[n].s lt ≠ 80)
      else if k = 2 then decide (l[n].a = 2) && decide (0 ≤ lt ∧ lt ≤ l[n].s.size) else if k = 6 then workF l (n + 1) else true) := by
    unfold fitsF
    simp only [hwk', Bool.true_and, Int.toNat_natCast, hx]
  have hk : (1 ≤ k ∧ k ≤ 6) ∧ (k = 4 ∨ k = 5 ∨ k = 6 → lt = 0) := by
    unfold shapedF at hsh
    simp only at hsh
    constructor
    · apply Classical.byContradiction; intro h
      rw [if_neg (by omega), if_neg (by omega), if_neg (by omega), if_neg (by omega)] at hsh; cases hsh
    · rintro (h | h | h)
      · rw [if_neg (by omega), if_neg (by omega), if_pos (by omega)] at hsh; simp at hsh; omega
      · rw [if_neg (by omega), if_neg (by omega), if_neg (by omega), if_pos (by omega)] at hsh; simp at hsh; omega
      · rw [if_neg (by omega), if_neg (by omega), if_pos (by omega)] at hsh; simp at hsh; omega
  clear hwk c3
  by_cases c4 : lt < 0
  · have hR : Hid (fitsF l ⟨k, n, lt, wi⟩ = false) := by
      rw [Hid, hF]
      have e1 : decide (0 ≤ lt ∧ lt < l[n].s.size) = false := decide_eq_false (by omega)
      have e2 : decide (0 ≤ lt ∧ lt ≤ l[n].s.size) = false := decide_eq_false (by omega)
      rw [e1, e2]
      rcases (show k = 1 ∨ k = 2 ∨ k = 3 ∨ k = 4 ∨ k = 5 ∨ k = 6 by omega) with rfl | rfl | rfl | rfl | rfl | rfl
      · rfl
      · simp
      · rfl
      · exact absurd (hk.2 (by omega)) (by omega)
      · exact absurd (hk.2 (by omega)) (by omega)
      · exact absurd (hk.2 (by omega)) (by omega)
    rw [hR.out]
    clear hF hk hsh hs
    go_enter Try.func28, Try.ntmps28
    go_wp2_with fail
    go_quiet (fail)
    go_wp2_with fail
    go_ret
    exact Ret.val rfl (hBB.drewN _)
  have d4 : decide (lt < 0) = false := decide_eq_false c4
  rcases (show k = 1 ∨ k = 2 ∨ k = 3 ∨ k = 4 ∨ k = 5 ∨ k = 6 by omega) with rfl | rfl | rfl | rfl | rfl | rfl
  · -- kind 1
    have ek : klf 1 = 30 := rfl
    rw [ek] at k4'
    by_cases c6 : (l[n].s.size : Int) ≤ lt
    · have hR : Hid (fitsF l ⟨1, n, lt, wi⟩ = false) := by rw [Hid, hF]; simp; omega
      rw [hR.out]
      clear hF hk hsh hs
      go_enter Try.func28, Try.ntmps28
      go_wp2_with fail
      generalize w.alloc (.cells #[.int .i64 1, .int .i64 n, .int .i64 lt, .int .i64 wi] 24) = W at *
      refine wp_region_ex (by kernel_rfl) (by kernel_rfl) ?_
      repeat (go_big_quiet_step (first
        | (go_at_call 30; refine (size_ex l[n] _ _ (by omega)).mono ?_; rintro e w' ⟨rfl, hg⟩; exact ⟨rfl, hg⟩)
        | fail))
      refine wpQuiet_nil ?_
      intro _ hw'
      obtain ⟨g', hw''⟩ := hw'
      subst hw''
      have hq := g'.h
      have hB9 := hBB.trans (hq.mono hBB.size)
      have e0 := (hq.cell (p := ⟨kb, 0, none⟩) (lt_of_cell k0')).trans k0'
      go_wp2_with fail
      go_ret
      exact Ret.val rfl hB9
    · have hR : Hid (fitsF l ⟨1, n, lt, wi⟩ = true) := by rw [Hid, hF]; simp; omega
      rw [hR.out]
      have d6 : decide ((l[n].s.size : Int) ≤ lt) = false := decide_eq_false c6
      clear hF hk hsh hs
      go_enter Try.func28, Try.ntmps28
      go_wp2_with fail
      generalize w.alloc (.cells #[.int .i64 1, .int .i64 n, .int .i64 lt, .int .i64 wi] 24) = W at *
      refine wp_region_ex (by kernel_rfl) (by kernel_rfl) ?_
      repeat (go_big_quiet_step (first
        | (go_at_call 30; refine (size_ex l[n] _ _ (by omega)).mono ?_; rintro e w' ⟨rfl, hg⟩; exact ⟨rfl, hg⟩)
        | fail))
      refine wpQuiet_nil ?_
      intro _ hw'
      obtain ⟨g', hw''⟩ := hw'
      subst hw''
      have hq := g'.h
      have hB9 := hBB.trans (hq.mono hBB.size)
      have e0 := (hq.cell (p := ⟨kb, 0, none⟩) (lt_of_cell k0')).trans k0'
      go_wp2_with fail
      go_ret
      exact Ret.val rfl hB9
  · -- kind 2
    have ek : klf 2 = 34 := rfl
    rw [ek] at k4'
    by_cases c6 : l[n].a = 2
    · have hval : Hid ((if l[n].a = 2 then (l[n].s.size : Int) + 1 else 0) = (l[n].s.size : Int) + 1) := by rw [Hid, if_pos c6]
      by_cases c7 : (l[n].s.size : Int) + 1 ≤ lt
      · have hR : Hid (fitsF l ⟨2, n, lt, wi⟩ = false) := by rw [Hid, hF]; simp; omega
        rw [hR.out]
        clear c6
        have A2 : ∀ (w : World) (g : Ex w), Calls Try.prog 34 #[.agg #[.int .i64 l[n].a, .int .i64 l[n].b, .string l[n].s]] g.w fun e w'' => e = .returned (.int .i64 ((l[n].s.size : Int) + 1)) ∧ ∃ g' : Ex w, w'' = g'.w := fun w g => by rw [← hval.out]; exact extra_ex l[n] w g (by omega)
        have A2 := Lib.hid A2
        clear hF hk hsh hs
        go_enter Try.func28, Try.ntmps28
        go_wp2_with fail
        generalize w.alloc (.cells #[.int .i64 2, .int .i64 n, .int .i64 lt, .int .i64 wi] 24) = W at *
        refine wp_region_ex (by kernel_rfl) (by kernel_rfl) ?_
        repeat (go_big_quiet_step (first
          | (go_at_call 34; refine (A2.out _ _).mono ?_; rintro e w' ⟨rfl, hg⟩; exact ⟨rfl, hg⟩)
          | fail))
        refine wpQuiet_nil ?_
        intro _ hw'
        obtain ⟨g', hw''⟩ := hw'
        subst hw''
        have hq := g'.h
        have hB9 := hBB.trans (hq.mono hBB.size)
        have e0 := (hq.cell (p := ⟨kb, 0, none⟩) (lt_of_cell k0')).trans k0'
        go_wp2_with fail
        go_ret
        exact Ret.val rfl hB9
      · have hR : Hid (fitsF l ⟨2, n, lt, wi⟩ = true) := by rw [Hid, hF]; simp [c6]; omega
        rw [hR.out]
        clear c6
        have d6 : decide ((l[n].s.size : Int) + 1 ≤ lt) = false := decide_eq_false c7
        have A2 : ∀ (w : World) (g : Ex w), Calls Try.prog 34 #[.agg #[.int .i64 l[n].a, .int .i64 l[n].b, .string l[n].s]] g.w fun e w'' => e = .returned (.int .i64 ((l[n].s.size : Int) + 1)) ∧ ∃ g' : Ex w, w'' = g'.w := fun w g => by rw [← hval.out]; exact extra_ex l[n] w g (by omega)
        have A2 := Lib.hid A2
        clear hF hk hsh hs
        go_enter Try.func28, Try.ntmps28
        go_wp2_with fail
        generalize w.alloc (.cells #[.int .i64 2, .int .i64 n, .int .i64 lt, .int .i64 wi] 24) = W at *
        refine wp_region_ex (by kernel_rfl) (by kernel_rfl) ?_
        repeat (go_big_quiet_step (first
          | (go_at_call 34; refine (A2.out _ _).mono ?_; rintro e w' ⟨rfl, hg⟩; exact ⟨rfl, hg⟩)
          | fail))
        refine wpQuiet_nil ?_
        intro _ hw'
        obtain ⟨g', hw''⟩ := hw'
        subst hw''
        have hq := g'.h
        have hB9 := hBB.trans (hq.mono hBB.size)
        have e0 := (hq.cell (p := ⟨kb, 0, none⟩) (lt_of_cell k0')).trans k0'
        go_wp2_with fail
        go_ret
        exact Ret.val rfl hB9
    · have hval : Hid ((if l[n].a = 2 then (l[n].s.size : Int) + 1 else 0) = 0) := by rw [Hid, if_neg c6]
      have hR : Hid (fitsF l ⟨2, n, lt, wi⟩ = false) := by rw [Hid, hF]; simp [c6]
      rw [hR.out]
      clear c6
      have c7 : (0 : Int) ≤ lt := by omega
      have A2 : ∀ (w : World) (g : Ex w), Calls Try.prog 34 #[.agg #[.int .i64 l[n].a, .int .i64 l[n].b, .string l[n].s]] g.w fun e w'' => e = .returned (.int .i64 0) ∧ ∃ g' : Ex w, w'' = g'.w := fun w g => by rw [← hval.out]; exact extra_ex l[n] w g (by omega)
      have A2 := Lib.hid A2
      clear hF hk hsh hs
      go_enter Try.func28, Try.ntmps28
      go_wp2_with fail
      generalize w.alloc (.cells #[.int .i64 2, .int .i64 n, .int .i64 lt, .int .i64 wi] 24) = W at *
      refine wp_region_ex (by kernel_rfl) (by kernel_rfl) ?_
      repeat (go_big_quiet_step (first
        | (go_at_call 34; refine (A2.out _ _).mono ?_; rintro e w' ⟨rfl, hg⟩; exact ⟨rfl, hg⟩)
        | fail))
      refine wpQuiet_nil ?_
      intro _ hw'
      obtain ⟨g', hw''⟩ := hw'
      subst hw''
      have hq := g'.h
      have hB9 := hBB.trans (hq.mono hBB.size)
      have e0 := (hq.cell (p := ⟨kb, 0, none⟩) (lt_of_cell k0')).trans k0'
      go_wp2_with fail
      go_ret
      exact Ret.val rfl hB9
  · -- kind 3
    have ek : klf 3 = 30 := rfl
    rw [ek] at k4'
    by_cases c6 : (l[n].s.size : Int) ≤ lt
    · have hR : Hid (fitsF l ⟨3, n, lt, wi⟩ = false) := by rw [Hid, hF]; simp; omega
      rw [hR.out]
      clear hF hk hsh hs
      go_enter Try.func28, Try.ntmps28
      go_wp2_with fail
      generalize w.alloc (.cells #[.int .i64 3, .int .i64 n, .int .i64 lt, .int .i64 wi] 24) = W at *
      refine wp_region_ex (by kernel_rfl) (by kernel_rfl) ?_
      repeat (go_big_quiet_step (first
        | (go_at_call 30; refine (size_ex l[n] _ _ (by omega)).mono ?_; rintro e w' ⟨rfl, hg⟩; exact ⟨rfl, hg⟩)
        | fail))
      refine wpQuiet_nil ?_
      intro _ hw'
      obtain ⟨g', hw''⟩ := hw'
      subst hw''
      have hq := g'.h
      have hB9 := hBB.trans (hq.mono hBB.size)
      have e0 := (hq.cell (p := ⟨kb, 0, none⟩) (lt_of_cell k0')).trans k0'
      go_wp2_with fail
      go_ret
      exact Ret.val rfl hB9
    · obtain ⟨m, rfl⟩ : ∃ m : Nat, lt = m := ⟨lt.toNat, by omega⟩
      have hm : m < l[n].s.size := by omega
      obtain ⟨B, hBB8⟩ : ∃ B, Hid (decide (byteAt l[n].s (m : Int) ≠ 80) = B) := ⟨_, Lib.hid rfl⟩
      have hR : Hid (fitsF l ⟨3, n, m, wi⟩ = B) := by
        rw [Hid, hF, ← hBB8.out]; simp; omega
      have hby : byteAt l[n].s (m : Int) = l[n].s[m] := by unfold byteAt; rw [Int.toNat_natCast, List.getD_eq_getElem?_getD, bget _ _ hm]; rfl
      have b8 : ((l[n].s[m].toNat : Int) != 80) = B := by
        rw [← hBB8.out, hby]
        by_cases h : l[n].s[m] = 80
        · rw [h]; rfl
        · have h9 : l[n].s[m].toNat ≠ 80 := fun e => h (UInt8.toNat_inj.1 e)
          simp [h]; omega
      rw [hR.out]
      have d6 : decide (l[n].s.size ≤ m) = false := decide_eq_false (by omega)
      have c7 : ¬ l[n].s.size ≤ m := by omega
      clear hby
      clear hF hk hsh hs
      go_enter Try.func28, Try.ntmps28
      go_wp2_with fail
      generalize w.alloc (.cells #[.int .i64 3, .int .i64 n, .int .i64 m, .int .i64 wi] 24) = W at *
      refine wp_region_ex (by kernel_rfl) (by kernel_rfl) ?_
      repeat (go_big_quiet_step (first
        | (go_at_call 30; refine (size_ex l[n] _ _ (by omega)).mono ?_; rintro e w' ⟨rfl, hg⟩; exact ⟨rfl, hg⟩)
        | fail))
      refine wpQuiet_nil ?_
      intro _ hw'
      obtain ⟨g', hw''⟩ := hw'
      subst hw''
      have hq := g'.h
      have hB9 := hBB.trans (hq.mono hBB.size)
      have e0 := (hq.cell (p := ⟨kb, 0, none⟩) (lt_of_cell k0')).trans k0'
      have kF9 := kF.below' hq
      have e1 := kF9.cell 1 (.int .i64 n) rfl
      have e2 := kF9.cell 2 (.int .i64 m) rfl
      have e3 := (hq.cell (p := ⟨b, o + n * 3 + 2, none⟩) (lt_of_cell g2)).trans g2
      go_wp2_with fail
      go_quiet (fail)
      go_wp2_with fail
      go_ret
      exact Ret.val (by simp [b8]) (hB9.drewN _)
  · -- kind 4
    have ek : klf 4 = 31 := rfl
    rw [ek] at k4'
    obtain rfl : lt = 0 := hk.2 (by omega)
    have hR : Hid (fitsF l ⟨4, n, 0, wi⟩ = true) := by rw [Hid, hF]; simp
    rw [hR.out]
    clear c4 d4
    clear hF hk hsh hs
    go_enter Try.func28, Try.ntmps28
    go_wp2_with fail
    generalize w.alloc (.cells #[.int .i64 4, .int .i64 n, .int .i64 0, .int .i64 wi] 24) = W at *
    refine wp_region_ex (by kernel_rfl) (by kernel_rfl) ?_
    repeat (go_big_quiet_step (first
      | (go_at_call 31; refine (one_ex l[n] _ _).mono ?_; rintro e w' ⟨rfl, hg⟩; exact ⟨rfl, hg⟩)
      | fail))
    refine wpQuiet_nil ?_
    intro _ hw'
    obtain ⟨g', hw''⟩ := hw'
    subst hw''
    have hq := g'.h
    have hB9 := hBB.trans (hq.mono hBB.size)
    have e0 := (hq.cell (p := ⟨kb, 0, none⟩) (lt_of_cell k0')).trans k0'
    go_wp2_with fail
    go_ret
    exact Ret.val rfl hB9
  · -- kind 5
    have ek : klf 5 = 31 := rfl
    rw [ek] at k4'
    obtain rfl : lt = 0 := hk.2 (by omega)
    have hR : Hid (fitsF l ⟨5, n, 0, wi⟩ = true) := by rw [Hid, hF]; simp
    rw [hR.out]
    clear c4 d4
    clear hF hk hsh hs
    go_enter Try.func28, Try.ntmps28
    go_wp2_with fail
    generalize w.alloc (.cells #[.int .i64 5, .int .i64 n, .int .i64 0, .int .i64 wi] 24) = W at *
    refine wp_region_ex (by kernel_rfl) (by kernel_rfl) ?_
    repeat (go_big_quiet_step (first
      | (go_at_call 31; refine (one_ex l[n] _ _).mono ?_; rintro e w' ⟨rfl, hg⟩; exact ⟨rfl, hg⟩)
      | fail))
    refine wpQuiet_nil ?_
    intro _ hw'
    obtain ⟨g', hw''⟩ := hw'
    subst hw''
    have hq := g'.h
    have hB9 := hBB.trans (hq.mono hBB.size)
    have e0 := (hq.cell (p := ⟨kb, 0, none⟩) (lt_of_cell k0')).trans k0'
    go_wp2_with fail
    go_ret
    exact Ret.val rfl hB9
  · -- kind 6
    have ek : klf 6 = 31 := rfl
    rw [ek] at k4'
    obtain rfl : lt = 0 := hk.2 (by omega)
    clear c4 d4
    have w1 : IntKind.i64.wrap ((n : Int) + 1) = (n : Int) + 1 := IntWalk.i64_in _ (by omega)
    have w2 : ((n : Int) + 1).toNat = n + 1 := by omega
    by_cases c6 : n + 1 < l.length
    · obtain ⟨b', o', eA, hb1, h0, h1, h2⟩ := hr'.tri c6
      injection eA with eA
      injection eA with e1 e2 _
      subst e1
      subst e2
      have hR : fitsF l ⟨6, n, 0, wi⟩ = decide (l[n + 1].a ≠ 1) := by rw [hF]; simp only [show ¬ (6 : Int) = 1 by omega, show ¬ (6 : Int) = 3 by omega, show ¬ (6 : Int) = 2 by omega, if_false, if_true]; exact workF_iff c6
      have j1 : (n : Int) + 1 < (l.length : Int) := by omega
      have j2 : (0 : Int) ≤ (n : Int) + 1 := by omega
      have hR := Lib.hid hR
      obtain ⟨B, hBB8⟩ : ∃ B, Hid (decide (l[n + 1].a ≠ 1) = B) := ⟨_, Lib.hid rfl⟩
      rw [hR.out, hBB8.out]
      have b8 : (l[n + 1].a != 1) = B := by rw [← hBB8.out]; by_cases h : l[n + 1].a = 1 <;> simp [h]
      clear hF hk hsh hs
      go_enter Try.func28, Try.ntmps28
      go_wp2_with fail
      generalize w.alloc (.cells #[.int .i64 6, .int .i64 n, .int .i64 0, .int .i64 wi] 24) = W at *
      refine wp_region_ex (by kernel_rfl) (by kernel_rfl) ?_
      repeat (go_big_quiet_step (first
        | (go_at_call 31; refine (one_ex l[n] _ _).mono ?_; rintro e w' ⟨rfl, hg⟩; exact ⟨rfl, hg⟩)
        | fail))
      refine wpQuiet_nil ?_
      intro _ hw'
      obtain ⟨g', hw''⟩ := hw'
      subst hw''
      have hq := g'.h
      have hB9 := hBB.trans (hq.mono hBB.size)
      have e0 := (hq.cell (p := ⟨kb, 0, none⟩) (lt_of_cell k0')).trans k0'
      have kF9 := kF.below' hq
      have e1 := kF9.cell 1 (.int .i64 n) rfl
      have e3 := (hq.cell (p := ⟨b, o + (n + 1) * 3, none⟩) (lt_of_cell h0)).trans h0
      go_wp2_with fail
      go_ret
      exact Ret.val (by simp [b8]) hB9
    · have hR : Hid (fitsF l ⟨6, n, 0, wi⟩ = false) := by rw [Hid, hF]; simp [workF]; omega
      rw [hR.out]
      have j1 : ¬ (n : Int) + 1 < (l.length : Int) := by omega
      have j2 : ¬ n + 1 < l.length := by omega
      clear hF hk hsh hs
      go_enter Try.func28, Try.ntmps28
      go_wp2_with fail
      generalize w.alloc (.cells #[.int .i64 6, .int .i64 n, .int .i64 0, .int .i64 wi] 24) = W at *
      refine wp_region_ex (by kernel_rfl) (by kernel_rfl) ?_
      repeat (go_big_quiet_step (first
        | (go_at_call 31; refine (one_ex l[n] _ _).mono ?_; rintro e w' ⟨rfl, hg⟩; exact ⟨rfl, hg⟩)
        | fail))
      refine wpQuiet_nil ?_
      intro _ hw'
      obtain ⟨g', hw''⟩ := hw'
      subst hw''
      have hq := g'.h
      have hB9 := hBB.trans (hq.mono hBB.size)
      have e0 := (hq.cell (p := ⟨kb, 0, none⟩) (lt_of_cell k0')).trans k0'
      have kF9 := kF.below' hq
      have e1 := kF9.cell 1 (.int .i64 n) rfl
      go_wp2_with fail
      go_ret
      exact Ret.val rfl hB9
end Go.Proofs.Ytfnklchhhojimaa
