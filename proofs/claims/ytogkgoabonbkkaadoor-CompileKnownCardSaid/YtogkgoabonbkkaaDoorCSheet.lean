/- compile.Sheet. -/
import Derived.Test.YtogkgoabonbkkaaDoorRSheet
set_option linter.unusedSimpArgs false
set_option linter.unusedVariables false
namespace Go.Proofs.YtogkgoabonbkkaaDoor
open Go Go.RowKit Tor

/-- where the program says that the hands lie -/
def hv (s h : Int) : Int := if h < 0 then -s else h

theorem hv_held {s h b : Int} (hh : -1 ≤ h) (hs : 2 ≤ s) (hb : 0 ≤ b) : heldB h s b = true ↔ hv s h ≤ b ∧ b + 1 < hv s h + s := by
  rw [held_iff]
  unfold hv
  split <;> omega


set_option maxRecDepth 100000 in
set_option maxHeartbeats 4000000 in
theorem csheet_any (p s : Int) (A : Option Addr) (l : List Tri) (c : Nat) (w : World) (H : Nat) (hr : RdT w H A l) (hH : H ≤ w.heap.size)
    (hw : ∀ (k : Nat) (hk : k < l.length), l[k].s.size ≤ 9223372036854775807) (hl : l.length ≤ 100000) :
    Calls Tryd.prog 6 #[.int .i64 p, .int .i64 s, .slice A l.length c] w (SheetPost p s l w) := by
  obtain ⟨i0, hi0, hz0', hz1', hz2'⟩ := info_parts infoWork
  have HW := Lib.hid hw
  clear hw
  rcases (show p < 2 ∨ (¬ p < 2 ∧ 24 < p) ∨ (¬ p < 2 ∧ ¬ 24 < p ∧ spansB p s = false) ∨ (¬ p < 2 ∧ ¬ 24 < p ∧ spansB p s = true) from by
    cases spansB p s <;> simp <;> omega) with h1 | ⟨h1, h2⟩ | ⟨h1, h2, h3⟩ | ⟨h1, h2, h3⟩
  · have HR := Lib.hid (sheetR_hands (p := p) (s := s) (l := l) (by unfold handsE; rw [if_neg (by omega)]; decide))
    have HE := Lib.hid (show handsE p s = 7 by unfold handsE; rw [if_neg (by omega)])
    go_enter Tryd.func6, Tryd.ntmps6
    go_wp2_with fail
    (try simp only [Exit.inBlock, Exit.then])
    have kR := Blk.new w 28 #[.int .i64 0, .slice none 0 0]
    refine sheet_ret rfl rfl (g := w.heap.size) (x := .int .i64 0) (y := .slice none 0 0) (by simpa using kR) rfl ?_
    exact sheetPost_bad (by rw [HR.out, HE.out]) (by (repeat' first | assumption | exact Below.refl _ _ | apply Below.drew | (refine Below.setCells ?_ _ _ ?_) | (refine Below.setCell ?_ ?_ _) | (refine Below.alloc ?_ ?_ _) | (simp; done) | (simp; omega)))
  · have HR := Lib.hid (sheetR_hands (p := p) (s := s) (l := l) (by unfold handsE; rw [if_neg (by omega)]; decide))
    have HE := Lib.hid (show handsE p s = 7 by unfold handsE; rw [if_neg (by omega)])
    go_enter Tryd.func6, Tryd.ntmps6
    go_wp2_with fail
    (try simp only [Exit.inBlock, Exit.then])
    have kR := Blk.new w 28 #[.int .i64 0, .slice none 0 0]
    refine sheet_ret rfl rfl (g := w.heap.size) (x := .int .i64 0) (y := .slice none 0 0) (by simpa using kR) rfl ?_
    exact sheetPost_bad (by rw [HR.out, HE.out]) (by (repeat' first | assumption | exact Below.refl _ _ | apply Below.drew | (refine Below.setCells ?_ _ _ ?_) | (refine Below.setCell ?_ ?_ _) | (refine Below.alloc ?_ ?_ _) | (simp; done) | (simp; omega)))
  · have HR := Lib.hid (sheetR_hands (p := p) (s := s) (l := l) (by unfold handsE; rw [if_neg (by simp [h3])]; decide))
    have HE := Lib.hid (show handsE p s = 7 by unfold handsE; rw [if_neg (by simp [h3])])
    have HSP := Lib.hid h3
    clear h3
    go_enter Tryd.func6, Tryd.ntmps6
    go_wp2_with (first
          | (go_at_call 19; refine (cspans_any p s _).mono ?_; rintro e w1 ⟨rfl, hB1⟩; rw [HSP.out]
             have kR := (Blk.new w 28 #[.int .i64 0, .slice none 0 0]).below' hB1
             have c0 := kR.cell 0 _ rfl
             have c1 := kR.cell 1 _ rfl
             have f0 := kR.frozen 0
             have f1 := kR.frozen 1
             have n1 := kR.lt
             have hBw : Below w.heap.size w w1 := Below.trans (b := w.alloc (.cells #[.int .i64 0, .slice none 0 0] 28)) (by (repeat' first | exact Below.refl _ _ | apply Below.drew | (refine Below.setCells ?_ _ _ ?_) | (refine Below.setCell ?_ ?_ _) | (refine Below.alloc ?_ ?_ _) | (simp; done) | (simp; omega))) (hB1.mono (by simp)))
          | fail)
    (try simp only [Exit.inBlock, Exit.then])
    refine sheet_ret rfl rfl (g := w.heap.size) (x := .int .i64 0) (y := .slice none 0 0) (by simpa using (kR.set_ 0 (.int .i64 0)).set_ 1 (.slice none 0 0)) rfl ?_
    exact sheetPost_bad (by rw [HR.out, HE.out]) (by (repeat' first | assumption | exact Below.refl _ _ | apply Below.drew | (refine Below.setCells ?_ _ _ ?_) | (refine Below.setCell ?_ ?_ _) | (refine Below.alloc ?_ ?_ _) | (simp; done) | (simp; omega)))
  · have hh : handsE p s = 0 := by unfold handsE; rw [if_pos ⟨by omega, by omega, h3⟩]
    have hbd := hands_bd hh
    have HSP := Lib.hid h3
    clear h3
    by_cases hlong : 1000 < l.length
    · have HR := Lib.hid (sheetR_long hh hlong)
      have hl' : (1000 : Int) < (l.length : Int) := by omega
      clear hh
      go_enter Tryd.func6, Tryd.ntmps6
      go_wp2_with (first
        | (go_at_call 19; refine (cspans_any p s _).mono ?_; rintro e w1 ⟨rfl, hB1⟩; rw [HSP.out]
           have kR := (Blk.new w 28 #[.int .i64 0, .slice none 0 0]).below' hB1
           have c0 := kR.cell 0 _ rfl
           have c1 := kR.cell 1 _ rfl
           have f0 := kR.frozen 0
           have f1 := kR.frozen 1
           have n1 := kR.lt
           have hBw : Below w.heap.size w w1 := Below.trans (b := w.alloc (.cells #[.int .i64 0, .slice none 0 0] 28)) (by (repeat' first | exact Below.refl _ _ | apply Below.drew | (refine Below.setCells ?_ _ _ ?_) | (refine Below.setCell ?_ ?_ _) | (refine Below.alloc ?_ ?_ _) | (simp; done) | (simp; omega))) (hB1.mono (by simp)))
        | fail)
      (try simp only [Exit.inBlock, Exit.then])
      refine sheet_ret rfl rfl (g := w.heap.size) (x := .int .i64 0) (y := .slice none 0 0) (by simpa using (kR.set_ 0 (.int .i64 0)).set_ 1 (.slice none 0 0)) rfl ?_
      exact sheetPost_bad HR.out (by (repeat' first | assumption | exact Below.refl _ _ | apply Below.drew | (refine Below.setCells ?_ _ _ ?_) | (refine Below.setCell ?_ ?_ _) | (refine Below.alloc ?_ ?_ _) | (simp; done) | (simp; omega)))
    · have HR := Lib.hid (sheetR_fin hh hlong)
      have hl' : ¬ (1000 : Int) < (l.length : Int) := by omega
      have hl'' : l.length ≤ 1000 := by omega
      clear hh hlong
      go_enter Tryd.func6, Tryd.ntmps6
      go_wp2_with (first
        | (go_at_call 19; refine (cspans_any p s _).mono ?_; rintro e w1 ⟨rfl, hB1⟩; rw [HSP.out]
           have kR := (Blk.new w 28 #[.int .i64 0, .slice none 0 0]).below' hB1
           have c0 := kR.cell 0 _ rfl
           have c1 := kR.cell 1 _ rfl
           have f0 := kR.frozen 0
           have f1 := kR.frozen 1
           have n1 := kR.lt
           have hBw : Below w.heap.size w w1 := Below.trans (b := w.alloc (.cells #[.int .i64 0, .slice none 0 0] 28)) (by (repeat' first | exact Below.refl _ _ | apply Below.drew | (refine Below.setCells ?_ _ _ ?_) | (refine Below.setCell ?_ ?_ _) | (refine Below.alloc ?_ ?_ _) | (simp; done) | (simp; omega))) (hB1.mono (by simp)))
        | fail)
      go_loopw [9, 10, 36] (fun hd mv k wr => ∃ (j : Nat) (h : Int) (d : List Tri), j ≤ l.length ∧ k = .int .i64 j ∧ hd = .int .i64 (hv s h) ∧ -1 ≤ h ∧ h ≤ 24 ∧ d.length ≤ 400 ∧ Hid (stS l j = (h, d)) ∧ Hid (sheetR p s l = finS p s l (l.length - j) j) ∧
        Blk wr w.heap.size 28 #[.int .i64 0, .slice none 0 0] ∧ Own 3 Tri.enc wr (w.heap.size + 1) 46 mv d ∧ Below w.heap.size w wr) (fun _ _ k _ => l.length - (intOf k).toNat)
      case atStart =>
        exact ⟨0, -1, [], Nat.zero_le _, rfl, by simp [hv], by omega, by omega, by simp, rfl, HR, kR, Own.nil _ _ _, hBw⟩
      case round =>
        obtain ⟨j, h, d, hj, rfl, rfl, hh1, hh2, hdl, hst, hinv, hR, hown, hB⟩ := hrel
        obtain ⟨Av, cv, rfl, hcv, hrd⟩ := Own.rd tri_len hown
        have hz := hB.size
        have hrl := hR.lt
        obtain ⟨V, hV⟩ : ∃ V, Hid (hv s h = V) := ⟨_, Lib.hid rfl⟩
        rw [hV.out]
        have hVb : -8 ≤ V ∧ V ≤ 24 := by rw [← hV.out]; unfold hv; split <;> omega
        by_cases hlt : j < l.length
        · obtain ⟨b, o, rfl, hb0, h0, h1', h2'⟩ := (hr.below' hB hH).tri hlt
          have hbb := lt_of_cell h0
          have k0 : (0 : Int) ≤ (j : Int) := by omega
          have k1 : (j : Int) < (l.length : Int) := by omega
          have HWj := Lib.hid (HW.out j hlt)
          cases hsh : shapedB l[j]
          · have HS := Lib.hid hsh
            have hfin := Lib.hid (finS_bad hlt hst.out (doE_sh (p := p) (s := s) (h := h) (n := d.length) hsh) (by decide))
            have HE := HS
            clear hsh
            go_wp2_with (first
          | (go_at_call 20; refine (cshaped_any l[j] _).mono ?_; rintro e w2 ⟨rfl, hB2⟩; rw [HS.out]
             have kX := (Blk.new wr 33 #[.int .i64 l[j].a, .int .i64 l[j].b, .string l[j].s]).below' hB2
             have hq2 : Below wr.heap.size wr w2 := Below.trans (b := wr.alloc (.cells #[.int .i64 l[j].a, .int .i64 l[j].b, .string l[j].s] 33)) (by (repeat' first | exact Below.refl _ _ | apply Below.drew | (refine Below.setCells ?_ _ _ ?_) | (refine Below.setCell ?_ ?_ _) | (refine Below.alloc ?_ ?_ _) | (simp; done) | (simp; omega))) (hB2.mono (by simp))
             have kR := hR.below' hq2
             have a0 := kX.cell 0 _ rfl
             have a1 := kX.cell 1 _ rfl
             have a2 := kX.cell 2 _ rfl
             have a3 := kX.lt
             have r0 := kR.cell 0 _ rfl
             have r1 := kR.cell 1 _ rfl
             have q0 := kR.frozen 0
             have q1 := kR.frozen 1
             have rl := kR.lt)
          | (go_at_call 21; refine (word_any l[j].s _ HWj.out).mono ?_; rintro e w3 ⟨rfl, hB3⟩; rw [HE.out]
             have kX3 := kX.below' hB3
             have hq3 : Below wr.heap.size wr w3 := hq2.trans (hB3.mono hq2.size)
             have kR3 := hR.below' hq3
             have b0' := kX3.cell 0 _ rfl
             have b1' := kX3.cell 1 _ rfl
             have b2' := kX3.cell 2 _ rfl
             have b3' := kX3.lt
             have r0' := kR3.cell 0 _ rfl
             have r1' := kR3.cell 1 _ rfl
             have q0' := kR3.frozen 0
             have q1' := kR3.frozen 1
             have rl' := kR3.lt
             have hown3 := hown.below hq3
             have hz3 := hq3.size)
          | (at_builtin; refine wpList_append_tri rfl (.tmp 57) (.tmp 63) _ rfl (w.heap.size + 1) _ i0 _ Tryd.underlying26 hi0 hz0' hz1' hz2' rfl _ d rfl (hown3.alloc _) w3.heap.size (workOf l[j]) rfl (World.cell?_alloc_new _ _ _ 0) (World.cell?_alloc_new _ _ _ 1) (World.cell?_alloc_new _ _ _ 2) (by omega) (by simp; omega) ?_; intro v8 w8 hown8 hg8))
            (try simp only [Exit.inBlock, Exit.then])
            refine sheet_ret rfl rfl (g := w.heap.size) (x := .int .i64 0) (y := .slice none 0 0) (by simpa using (kR.set_ 0 (.int .i64 0)).set_ 1 (.slice none 0 0)) rfl ?_
            have hBf := hB.trans (hq2.mono hz)
            exact sheetPost_bad (by rw [hinv.out, hfin.out]) (by (repeat' first | assumption | exact Below.refl _ _ | apply Below.drew | (refine Below.setCells ?_ _ _ ?_) | (refine Below.setCell ?_ ?_ _) | (refine Below.alloc ?_ ?_ _) | (simp; done) | (simp; omega)))
          · by_cases hw0 : wordE l[j].s = 0
            · have HE := Lib.hid hw0
              have HS := Lib.hid hsh
              rcases (show (l[j].b < 0) ∨ (¬ l[j].b < 0 ∧ p - 2 < l[j].b) ∨ (¬ l[j].b < 0 ∧ ¬ p - 2 < l[j].b ∧ l[j].a = 1 ∧ p - s < l[j].b) ∨ (¬ l[j].b < 0 ∧ ¬ p - 2 < l[j].b ∧ l[j].a = 1 ∧ ¬ p - s < l[j].b) ∨
                (¬ l[j].b < 0 ∧ ¬ p - 2 < l[j].b ∧ l[j].a ≠ 1 ∧ l[j].b < V) ∨ (¬ l[j].b < 0 ∧ ¬ p - 2 < l[j].b ∧ l[j].a ≠ 1 ∧ ¬ l[j].b < V ∧ V + s ≤ l[j].b + 1) ∨
                (¬ l[j].b < 0 ∧ ¬ p - 2 < l[j].b ∧ l[j].a ≠ 1 ∧ ¬ l[j].b < V ∧ ¬ V + s ≤ l[j].b + 1 ∧ (d.length : Int) = 400) ∨
                (¬ l[j].b < 0 ∧ ¬ p - 2 < l[j].b ∧ l[j].a ≠ 1 ∧ ¬ l[j].b < V ∧ ¬ V + s ≤ l[j].b + 1 ∧ ¬ (d.length : Int) = 400 ∧ l[j].a = 3) ∨
                (¬ l[j].b < 0 ∧ ¬ p - 2 < l[j].b ∧ l[j].a ≠ 1 ∧ ¬ l[j].b < V ∧ ¬ V + s ≤ l[j].b + 1 ∧ ¬ (d.length : Int) = 400 ∧ l[j].a ≠ 3) from by omega) with
                  x1 | ⟨x1, x2⟩ | ⟨x1, x2, x3, x4⟩ | ⟨x1, x2, x3, x4⟩ | ⟨x1, x2, x3, x4⟩ | ⟨x1, x2, x3, x4, x5⟩ | ⟨x1, x2, x3, x4, x5, x6⟩ | ⟨x1, x2, x3, x4, x5, x6, x7⟩ | ⟨x1, x2, x3, x4, x5, x6, x7⟩
              · have hfin := Lib.hid (finS_bad hlt hst.out (doE_r (p := p) (s := s) (h := h) (n := d.length) hsh hw0 (by omega)) (by decide))
                clear hsh hw0
                go_wp2_with (first
              | (go_at_call 20; refine (cshaped_any l[j] _).mono ?_; rintro e w2 ⟨rfl, hB2⟩; rw [HS.out]
                 have kX := (Blk.new wr 33 #[.int .i64 l[j].a, .int .i64 l[j].b, .string l[j].s]).below' hB2
                 have hq2 : Below wr.heap.size wr w2 := Below.trans (b := wr.alloc (.cells #[.int .i64 l[j].a, .int .i64 l[j].b, .string l[j].s] 33)) (by (repeat' first | exact Below.refl _ _ | apply Below.drew | (refine Below.setCells ?_ _ _ ?_) | (refine Below.setCell ?_ ?_ _) | (refine Below.alloc ?_ ?_ _) | (simp; done) | (simp; omega))) (hB2.mono (by simp))
                 have kR := hR.below' hq2
                 have a0 := kX.cell 0 _ rfl
                 have a1 := kX.cell 1 _ rfl
                 have a2 := kX.cell 2 _ rfl
                 have a3 := kX.lt
                 have r0 := kR.cell 0 _ rfl
                 have r1 := kR.cell 1 _ rfl
                 have q0 := kR.frozen 0
                 have q1 := kR.frozen 1
                 have rl := kR.lt)
              | (go_at_call 21; refine (word_any l[j].s _ HWj.out).mono ?_; rintro e w3 ⟨rfl, hB3⟩; rw [HE.out]
                 have kX3 := kX.below' hB3
                 have hq3 : Below wr.heap.size wr w3 := hq2.trans (hB3.mono hq2.size)
                 have kR3 := hR.below' hq3
                 have b0' := kX3.cell 0 _ rfl
                 have b1' := kX3.cell 1 _ rfl
                 have b2' := kX3.cell 2 _ rfl
                 have b3' := kX3.lt
                 have r0' := kR3.cell 0 _ rfl
                 have r1' := kR3.cell 1 _ rfl
                 have q0' := kR3.frozen 0
                 have q1' := kR3.frozen 1
                 have rl' := kR3.lt
                 have hown3 := hown.below hq3
                 have hz3 := hq3.size)
              | (at_builtin; refine wpList_append_tri rfl (.tmp 57) (.tmp 63) _ rfl (w.heap.size + 1) _ i0 _ Tryd.underlying26 hi0 hz0' hz1' hz2' rfl _ d rfl (hown3.alloc _) w3.heap.size (workOf l[j]) rfl (World.cell?_alloc_new _ _ _ 0) (World.cell?_alloc_new _ _ _ 1) (World.cell?_alloc_new _ _ _ 2) (by omega) (by simp; omega) ?_; intro v8 w8 hown8 hg8))
                (try simp only [Exit.inBlock, Exit.then])
                refine sheet_ret rfl rfl (g := w.heap.size) (x := .int .i64 0) (y := .slice none 0 0) (by simpa using (kR3.set_ 0 (.int .i64 0)).set_ 1 (.slice none 0 0)) rfl ?_
                have hBf := hB.trans (hq3.mono hz)
                exact sheetPost_bad (by rw [hinv.out, hfin.out]) (by (repeat' first | assumption | exact Below.refl _ _ | apply Below.drew | (refine Below.setCells ?_ _ _ ?_) | (refine Below.setCell ?_ ?_ _) | (refine Below.alloc ?_ ?_ _) | (simp; done) | (simp; omega)))
              · have hfin := Lib.hid (finS_bad hlt hst.out (doE_r (p := p) (s := s) (h := h) (n := d.length) hsh hw0 (by omega)) (by decide))
                clear hsh hw0
                go_wp2_with (first
              | (go_at_call 20; refine (cshaped_any l[j] _).mono ?_; rintro e w2 ⟨rfl, hB2⟩; rw [HS.out]
                 have kX := (Blk.new wr 33 #[.int .i64 l[j].a, .int .i64 l[j].b, .string l[j].s]).below' hB2
                 have hq2 : Below wr.heap.size wr w2 := Below.trans (b := wr.alloc (.cells #[.int .i64 l[j].a, .int .i64 l[j].b, .string l[j].s] 33)) (by (repeat' first | exact Below.refl _ _ | apply Below.drew | (refine Below.setCells ?_ _ _ ?_) | (refine Below.setCell ?_ ?_ _) | (refine Below.alloc ?_ ?_ _) | (simp; done) | (simp; omega))) (hB2.mono (by simp))
                 have kR := hR.below' hq2
                 have a0 := kX.cell 0 _ rfl
                 have a1 := kX.cell 1 _ rfl
                 have a2 := kX.cell 2 _ rfl
                 have a3 := kX.lt
                 have r0 := kR.cell 0 _ rfl
                 have r1 := kR.cell 1 _ rfl
                 have q0 := kR.frozen 0
                 have q1 := kR.frozen 1
                 have rl := kR.lt)
              | (go_at_call 21; refine (word_any l[j].s _ HWj.out).mono ?_; rintro e w3 ⟨rfl, hB3⟩; rw [HE.out]
                 have kX3 := kX.below' hB3
                 have hq3 : Below wr.heap.size wr w3 := hq2.trans (hB3.mono hq2.size)
                 have kR3 := hR.below' hq3
                 have b0' := kX3.cell 0 _ rfl
                 have b1' := kX3.cell 1 _ rfl
                 have b2' := kX3.cell 2 _ rfl
                 have b3' := kX3.lt
                 have r0' := kR3.cell 0 _ rfl
                 have r1' := kR3.cell 1 _ rfl
                 have q0' := kR3.frozen 0
                 have q1' := kR3.frozen 1
                 have rl' := kR3.lt
                 have hown3 := hown.below hq3
                 have hz3 := hq3.size)
              | (at_builtin; refine wpList_append_tri rfl (.tmp 57) (.tmp 63) _ rfl (w.heap.size + 1) _ i0 _ Tryd.underlying26 hi0 hz0' hz1' hz2' rfl _ d rfl (hown3.alloc _) w3.heap.size (workOf l[j]) rfl (World.cell?_alloc_new _ _ _ 0) (World.cell?_alloc_new _ _ _ 1) (World.cell?_alloc_new _ _ _ 2) (by omega) (by simp; omega) ?_; intro v8 w8 hown8 hg8))
                (try simp only [Exit.inBlock, Exit.then])
                refine sheet_ret rfl rfl (g := w.heap.size) (x := .int .i64 0) (y := .slice none 0 0) (by simpa using (kR3.set_ 0 (.int .i64 0)).set_ 1 (.slice none 0 0)) rfl ?_
                have hBf := hB.trans (hq3.mono hz)
                exact sheetPost_bad (by rw [hinv.out, hfin.out]) (by (repeat' first | assumption | exact Below.refl _ _ | apply Below.drew | (refine Below.setCells ?_ _ _ ?_) | (refine Below.setCell ?_ ?_ _) | (refine Below.alloc ?_ ?_ _) | (simp; done) | (simp; omega)))
              · have hfin := Lib.hid (finS_bad hlt hst.out (doE_r (p := p) (s := s) (h := h) (n := d.length) hsh hw0 (by omega)) (by decide))
                have t3 : (l[j].a == 1) = true := by simp [x3]
                clear hsh hw0 x3
                go_wp2_with (first
              | (go_at_call 20; refine (cshaped_any l[j] _).mono ?_; rintro e w2 ⟨rfl, hB2⟩; rw [HS.out]
                 have kX := (Blk.new wr 33 #[.int .i64 l[j].a, .int .i64 l[j].b, .string l[j].s]).below' hB2
                 have hq2 : Below wr.heap.size wr w2 := Below.trans (b := wr.alloc (.cells #[.int .i64 l[j].a, .int .i64 l[j].b, .string l[j].s] 33)) (by (repeat' first | exact Below.refl _ _ | apply Below.drew | (refine Below.setCells ?_ _ _ ?_) | (refine Below.setCell ?_ ?_ _) | (refine Below.alloc ?_ ?_ _) | (simp; done) | (simp; omega))) (hB2.mono (by simp))
                 have kR := hR.below' hq2
                 have a0 := kX.cell 0 _ rfl
                 have a1 := kX.cell 1 _ rfl
                 have a2 := kX.cell 2 _ rfl
                 have a3 := kX.lt
                 have r0 := kR.cell 0 _ rfl
                 have r1 := kR.cell 1 _ rfl
                 have q0 := kR.frozen 0
                 have q1 := kR.frozen 1
                 have rl := kR.lt)
              | (go_at_call 21; refine (word_any l[j].s _ HWj.out).mono ?_; rintro e w3 ⟨rfl, hB3⟩; rw [HE.out]
                 have kX3 := kX.below' hB3
                 have hq3 : Below wr.heap.size wr w3 := hq2.trans (hB3.mono hq2.size)
                 have kR3 := hR.below' hq3
                 have b0' := kX3.cell 0 _ rfl
                 have b1' := kX3.cell 1 _ rfl
                 have b2' := kX3.cell 2 _ rfl
                 have b3' := kX3.lt
                 have r0' := kR3.cell 0 _ rfl
                 have r1' := kR3.cell 1 _ rfl
                 have q0' := kR3.frozen 0
                 have q1' := kR3.frozen 1
                 have rl' := kR3.lt
                 have hown3 := hown.below hq3
                 have hz3 := hq3.size)
              | (at_builtin; refine wpList_append_tri rfl (.tmp 57) (.tmp 63) _ rfl (w.heap.size + 1) _ i0 _ Tryd.underlying26 hi0 hz0' hz1' hz2' rfl _ d rfl (hown3.alloc _) w3.heap.size (workOf l[j]) rfl (World.cell?_alloc_new _ _ _ 0) (World.cell?_alloc_new _ _ _ 1) (World.cell?_alloc_new _ _ _ 2) (by omega) (by simp; omega) ?_; intro v8 w8 hown8 hg8))
                (try simp only [Exit.inBlock, Exit.then])
                refine sheet_ret rfl rfl (g := w.heap.size) (x := .int .i64 0) (y := .slice none 0 0) (by simpa using (kR3.set_ 0 (.int .i64 0)).set_ 1 (.slice none 0 0)) rfl ?_
                have hBf := hB.trans (hq3.mono hz)
                exact sheetPost_bad (by rw [hinv.out, hfin.out]) (by (repeat' first | assumption | exact Below.refl _ _ | apply Below.drew | (refine Below.setCells ?_ _ _ ?_) | (refine Below.setCell ?_ ?_ _) | (refine Below.alloc ?_ ?_ _) | (simp; done) | (simp; omega)))
              · have hd0 := doE_0 (p := p) (s := s) (h := h) (n := d.length) hsh hw0 (by omega) (Or.inl x3)
                have hfin := Lib.hid (finS_step hlt hst.out hd0)
                have hst2 := Lib.hid (stS_reach hlt hst.out x3)
                have t3 : (l[j].a == 1) = true := by simp [x3]
                clear hsh hw0 x3 hd0
                go_wp2_with (first
              | (go_at_call 20; refine (cshaped_any l[j] _).mono ?_; rintro e w2 ⟨rfl, hB2⟩; rw [HS.out]
                 have kX := (Blk.new wr 33 #[.int .i64 l[j].a, .int .i64 l[j].b, .string l[j].s]).below' hB2
                 have hq2 : Below wr.heap.size wr w2 := Below.trans (b := wr.alloc (.cells #[.int .i64 l[j].a, .int .i64 l[j].b, .string l[j].s] 33)) (by (repeat' first | exact Below.refl _ _ | apply Below.drew | (refine Below.setCells ?_ _ _ ?_) | (refine Below.setCell ?_ ?_ _) | (refine Below.alloc ?_ ?_ _) | (simp; done) | (simp; omega))) (hB2.mono (by simp))
                 have kR := hR.below' hq2
                 have a0 := kX.cell 0 _ rfl
                 have a1 := kX.cell 1 _ rfl
                 have a2 := kX.cell 2 _ rfl
                 have a3 := kX.lt
                 have r0 := kR.cell 0 _ rfl
                 have r1 := kR.cell 1 _ rfl
                 have q0 := kR.frozen 0
                 have q1 := kR.frozen 1
                 have rl := kR.lt)
              | (go_at_call 21; refine (word_any l[j].s _ HWj.out).mono ?_; rintro e w3 ⟨rfl, hB3⟩; rw [HE.out]
                 have kX3 := kX.below' hB3
                 have hq3 : Below wr.heap.size wr w3 := hq2.trans (hB3.mono hq2.size)
                 have kR3 := hR.below' hq3
                 have b0' := kX3.cell 0 _ rfl
                 have b1' := kX3.cell 1 _ rfl
                 have b2' := kX3.cell 2 _ rfl
                 have b3' := kX3.lt
                 have r0' := kR3.cell 0 _ rfl
                 have r1' := kR3.cell 1 _ rfl
                 have q0' := kR3.frozen 0
                 have q1' := kR3.frozen 1
                 have rl' := kR3.lt
                 have hown3 := hown.below hq3
                 have hz3 := hq3.size)
              | (at_builtin; refine wpList_append_tri rfl (.tmp 57) (.tmp 63) _ rfl (w.heap.size + 1) _ i0 _ Tryd.underlying26 hi0 hz0' hz1' hz2' rfl _ d rfl (hown3.alloc _) w3.heap.size (workOf l[j]) rfl (World.cell?_alloc_new _ _ _ 0) (World.cell?_alloc_new _ _ _ 1) (World.cell?_alloc_new _ _ _ 2) (by omega) (by simp; omega) ?_; intro v8 w8 hown8 hg8))
                go_roundw
                case rel => exact ⟨j + 1, l[j].b, d, by omega, by go_num, by simp [hv]; omega, by omega, by omega, hdl, hst2, by rw [Hid, hinv.out, hfin.out], kR3, hown3, hB.trans (hq3.mono hz)⟩
                case measure => simp [intOf]; omega
              · have hheld : heldB h s l[j].b = false := by
                  cases hh : heldB h s l[j].b
                  · rfl
                  · rw [hv_held hh1 hbd.2.2.1 (by omega), hV.out] at hh; omega
                have hfin := Lib.hid (finS_bad hlt hst.out (doE_d (p := p) (s := s) (h := h) (n := d.length) hsh hw0 (by omega) x3 hheld) (by decide))
                have t3 : (l[j].a == 1) = false := by simp [x3]
                clear hsh hw0 x3 hheld
                go_wp2_with (first
              | (go_at_call 20; refine (cshaped_any l[j] _).mono ?_; rintro e w2 ⟨rfl, hB2⟩; rw [HS.out]
                 have kX := (Blk.new wr 33 #[.int .i64 l[j].a, .int .i64 l[j].b, .string l[j].s]).below' hB2
                 have hq2 : Below wr.heap.size wr w2 := Below.trans (b := wr.alloc (.cells #[.int .i64 l[j].a, .int .i64 l[j].b, .string l[j].s] 33)) (by (repeat' first | exact Below.refl _ _ | apply Below.drew | (refine Below.setCells ?_ _ _ ?_) | (refine Below.setCell ?_ ?_ _) | (refine Below.alloc ?_ ?_ _) | (simp; done) | (simp; omega))) (hB2.mono (by simp))
                 have kR := hR.below' hq2
                 have a0 := kX.cell 0 _ rfl
                 have a1 := kX.cell 1 _ rfl
                 have a2 := kX.cell 2 _ rfl
                 have a3 := kX.lt
                 have r0 := kR.cell 0 _ rfl
                 have r1 := kR.cell 1 _ rfl
                 have q0 := kR.frozen 0
                 have q1 := kR.frozen 1
                 have rl := kR.lt)
              | (go_at_call 21; refine (word_any l[j].s _ HWj.out).mono ?_; rintro e w3 ⟨rfl, hB3⟩; rw [HE.out]
                 have kX3 := kX.below' hB3
                 have hq3 : Below wr.heap.size wr w3 := hq2.trans (hB3.mono hq2.size)
                 have kR3 := hR.below' hq3
                 have b0' := kX3.cell 0 _ rfl
                 have b1' := kX3.cell 1 _ rfl
                 have b2' := kX3.cell 2 _ rfl
                 have b3' := kX3.lt
                 have r0' := kR3.cell 0 _ rfl
                 have r1' := kR3.cell 1 _ rfl
                 have q0' := kR3.frozen 0
                 have q1' := kR3.frozen 1
                 have rl' := kR3.lt
                 have hown3 := hown.below hq3
                 have hz3 := hq3.size)
              | (at_builtin; refine wpList_append_tri rfl (.tmp 57) (.tmp 63) _ rfl (w.heap.size + 1) _ i0 _ Tryd.underlying26 hi0 hz0' hz1' hz2' rfl _ d rfl (hown3.alloc _) w3.heap.size (workOf l[j]) rfl (World.cell?_alloc_new _ _ _ 0) (World.cell?_alloc_new _ _ _ 1) (World.cell?_alloc_new _ _ _ 2) (by omega) (by simp; omega) ?_; intro v8 w8 hown8 hg8))
                (try simp only [Exit.inBlock, Exit.then])
                refine sheet_ret rfl rfl (g := w.heap.size) (x := .int .i64 0) (y := .slice none 0 0) (by simpa using (kR3.set_ 0 (.int .i64 0)).set_ 1 (.slice none 0 0)) rfl ?_
                have hBf := hB.trans (hq3.mono hz)
                exact sheetPost_bad (by rw [hinv.out, hfin.out]) (by (repeat' first | assumption | exact Below.refl _ _ | apply Below.drew | (refine Below.setCells ?_ _ _ ?_) | (refine Below.setCell ?_ ?_ _) | (refine Below.alloc ?_ ?_ _) | (simp; done) | (simp; omega)))
              · have hheld : heldB h s l[j].b = false := by
                  cases hh : heldB h s l[j].b
                  · rfl
                  · rw [hv_held hh1 hbd.2.2.1 (by omega), hV.out] at hh; omega
                have hfin := Lib.hid (finS_bad hlt hst.out (doE_d (p := p) (s := s) (h := h) (n := d.length) hsh hw0 (by omega) x3 hheld) (by decide))
                have t3 : (l[j].a == 1) = false := by simp [x3]
                clear hsh hw0 x3 hheld
                go_wp2_with (first
              | (go_at_call 20; refine (cshaped_any l[j] _).mono ?_; rintro e w2 ⟨rfl, hB2⟩; rw [HS.out]
                 have kX := (Blk.new wr 33 #[.int .i64 l[j].a, .int .i64 l[j].b, .string l[j].s]).below' hB2
                 have hq2 : Below wr.heap.size wr w2 := Below.trans (b := wr.alloc (.cells #[.int .i64 l[j].a, .int .i64 l[j].b, .string l[j].s] 33)) (by (repeat' first | exact Below.refl _ _ | apply Below.drew | (refine Below.setCells ?_ _ _ ?_) | (refine Below.setCell ?_ ?_ _) | (refine Below.alloc ?_ ?_ _) | (simp; done) | (simp; omega))) (hB2.mono (by simp))
                 have kR := hR.below' hq2
                 have a0 := kX.cell 0 _ rfl
                 have a1 := kX.cell 1 _ rfl
                 have a2 := kX.cell 2 _ rfl
                 have a3 := kX.lt
                 have r0 := kR.cell 0 _ rfl
                 have r1 := kR.cell 1 _ rfl
                 have q0 := kR.frozen 0
                 have q1 := kR.frozen 1
                 have rl := kR.lt)
              | (go_at_call 21; refine (word_any l[j].s _ HWj.out).mono ?_; rintro e w3 ⟨rfl, hB3⟩; rw [HE.out]
                 have kX3 := kX.below' hB3
                 have hq3 : Below wr.heap.size wr w3 := hq2.trans (hB3.mono hq2.size)
                 have kR3 := hR.below' hq3
                 have b0' := kX3.cell 0 _ rfl
                 have b1' := kX3.cell 1 _ rfl
                 have b2' := kX3.cell 2 _ rfl
                 have b3' := kX3.lt
                 have r0' := kR3.cell 0 _ rfl
                 have r1' := kR3.cell 1 _ rfl
                 have q0' := kR3.frozen 0
                 have q1' := kR3.frozen 1
                 have rl' := kR3.lt
                 have hown3 := hown.below hq3
                 have hz3 := hq3.size)
              | (at_builtin; refine wpList_append_tri rfl (.tmp 57) (.tmp 63) _ rfl (w.heap.size + 1) _ i0 _ Tryd.underlying26 hi0 hz0' hz1' hz2' rfl _ d rfl (hown3.alloc _) w3.heap.size (workOf l[j]) rfl (World.cell?_alloc_new _ _ _ 0) (World.cell?_alloc_new _ _ _ 1) (World.cell?_alloc_new _ _ _ 2) (by omega) (by simp; omega) ?_; intro v8 w8 hown8 hg8))
                (try simp only [Exit.inBlock, Exit.then])
                refine sheet_ret rfl rfl (g := w.heap.size) (x := .int .i64 0) (y := .slice none 0 0) (by simpa using (kR3.set_ 0 (.int .i64 0)).set_ 1 (.slice none 0 0)) rfl ?_
                have hBf := hB.trans (hq3.mono hz)
                exact sheetPost_bad (by rw [hinv.out, hfin.out]) (by (repeat' first | assumption | exact Below.refl _ _ | apply Below.drew | (refine Below.setCells ?_ _ _ ?_) | (refine Below.setCell ?_ ?_ _) | (refine Below.alloc ?_ ?_ _) | (simp; done) | (simp; omega)))
              · have t3 : (l[j].a == 1) = false := by simp [x3]
                have hheld : heldB h s l[j].b = true := by rw [hv_held hh1 hbd.2.2.1 (by omega), hV.out]; omega
                have hfin := Lib.hid (finS_bad hlt hst.out (doE_l (p := p) (s := s) (h := h) (n := d.length) hsh hw0 (by omega) x3 hheld (by omega)) (by decide))
                have t6 : ((d.length : Int) == 400) = true := by simp [x6]
                clear hsh hw0 x3 hheld x6
                go_wp2_with (first
              | (go_at_call 20; refine (cshaped_any l[j] _).mono ?_; rintro e w2 ⟨rfl, hB2⟩; rw [HS.out]
                 have kX := (Blk.new wr 33 #[.int .i64 l[j].a, .int .i64 l[j].b, .string l[j].s]).below' hB2
                 have hq2 : Below wr.heap.size wr w2 := Below.trans (b := wr.alloc (.cells #[.int .i64 l[j].a, .int .i64 l[j].b, .string l[j].s] 33)) (by (repeat' first | exact Below.refl _ _ | apply Below.drew | (refine Below.setCells ?_ _ _ ?_) | (refine Below.setCell ?_ ?_ _) | (refine Below.alloc ?_ ?_ _) | (simp; done) | (simp; omega))) (hB2.mono (by simp))
                 have kR := hR.below' hq2
                 have a0 := kX.cell 0 _ rfl
                 have a1 := kX.cell 1 _ rfl
                 have a2 := kX.cell 2 _ rfl
                 have a3 := kX.lt
                 have r0 := kR.cell 0 _ rfl
                 have r1 := kR.cell 1 _ rfl
                 have q0 := kR.frozen 0
                 have q1 := kR.frozen 1
                 have rl := kR.lt)
              | (go_at_call 21; refine (word_any l[j].s _ HWj.out).mono ?_; rintro e w3 ⟨rfl, hB3⟩; rw [HE.out]
                 have kX3 := kX.below' hB3
                 have hq3 : Below wr.heap.size wr w3 := hq2.trans (hB3.mono hq2.size)
                 have kR3 := hR.below' hq3
                 have b0' := kX3.cell 0 _ rfl
                 have b1' := kX3.cell 1 _ rfl
                 have b2' := kX3.cell 2 _ rfl
                 have b3' := kX3.lt
                 have r0' := kR3.cell 0 _ rfl
                 have r1' := kR3.cell 1 _ rfl
                 have q0' := kR3.frozen 0
                 have q1' := kR3.frozen 1
                 have rl' := kR3.lt
                 have hown3 := hown.below hq3
                 have hz3 := hq3.size)
              | (at_builtin; refine wpList_append_tri rfl (.tmp 57) (.tmp 63) _ rfl (w.heap.size + 1) _ i0 _ Tryd.underlying26 hi0 hz0' hz1' hz2' rfl _ d rfl (hown3.alloc _) w3.heap.size (workOf l[j]) rfl (World.cell?_alloc_new _ _ _ 0) (World.cell?_alloc_new _ _ _ 1) (World.cell?_alloc_new _ _ _ 2) (by omega) (by simp; omega) ?_; intro v8 w8 hown8 hg8))
                (try simp only [Exit.inBlock, Exit.then])
                refine sheet_ret rfl rfl (g := w.heap.size) (x := .int .i64 0) (y := .slice none 0 0) (by simpa using (kR3.set_ 0 (.int .i64 0)).set_ 1 (.slice none 0 0)) rfl ?_
                have hBf := hB.trans (hq3.mono hz)
                exact sheetPost_bad (by rw [hinv.out, hfin.out]) (by (repeat' first | assumption | exact Below.refl _ _ | apply Below.drew | (refine Below.setCells ?_ _ _ ?_) | (refine Below.setCell ?_ ?_ _) | (refine Below.alloc ?_ ?_ _) | (simp; done) | (simp; omega)))
              · have t3 : (l[j].a == 1) = false := by simp [x3]
                have t7 : (l[j].a == 3) = true := by simp [x7]
                have hheld : heldB h s l[j].b = true := by rw [hv_held hh1 hbd.2.2.1 (by omega), hV.out]; omega
                have hd0 := doE_0 (p := p) (s := s) (h := h) (n := d.length) hsh hw0 (by omega) (Or.inr ⟨hheld, by omega⟩)
                have hfin := Lib.hid (finS_step hlt hst.out hd0)
                have hst2 := Lib.hid (stS_work hlt hst.out x3)
                have hwk := Lib.hid (show workOf l[j] = (⟨2, l[j].b, .empty⟩ : Tri) from by unfold workOf; rw [if_pos x7])
                have t6 : ((d.length : Int) == 400) = false := by simp; omega
                clear hsh hw0 x3 hd0 hheld x7
                go_wp2_with (first
              | (go_at_call 20; refine (cshaped_any l[j] _).mono ?_; rintro e w2 ⟨rfl, hB2⟩; rw [HS.out]
                 have kX := (Blk.new wr 33 #[.int .i64 l[j].a, .int .i64 l[j].b, .string l[j].s]).below' hB2
                 have hq2 : Below wr.heap.size wr w2 := Below.trans (b := wr.alloc (.cells #[.int .i64 l[j].a, .int .i64 l[j].b, .string l[j].s] 33)) (by (repeat' first | exact Below.refl _ _ | apply Below.drew | (refine Below.setCells ?_ _ _ ?_) | (refine Below.setCell ?_ ?_ _) | (refine Below.alloc ?_ ?_ _) | (simp; done) | (simp; omega))) (hB2.mono (by simp))
                 have kR := hR.below' hq2
                 have a0 := kX.cell 0 _ rfl
                 have a1 := kX.cell 1 _ rfl
                 have a2 := kX.cell 2 _ rfl
                 have a3 := kX.lt
                 have r0 := kR.cell 0 _ rfl
                 have r1 := kR.cell 1 _ rfl
                 have q0 := kR.frozen 0
                 have q1 := kR.frozen 1
                 have rl := kR.lt)
              | (go_at_call 21; refine (word_any l[j].s _ HWj.out).mono ?_; rintro e w3 ⟨rfl, hB3⟩; rw [HE.out]
                 have kX3 := kX.below' hB3
                 have hq3 : Below wr.heap.size wr w3 := hq2.trans (hB3.mono hq2.size)
                 have kR3 := hR.below' hq3
                 have b0' := kX3.cell 0 _ rfl
                 have b1' := kX3.cell 1 _ rfl
                 have b2' := kX3.cell 2 _ rfl
                 have b3' := kX3.lt
                 have r0' := kR3.cell 0 _ rfl
                 have r1' := kR3.cell 1 _ rfl
                 have q0' := kR3.frozen 0
                 have q1' := kR3.frozen 1
                 have rl' := kR3.lt
                 have hown3 := hown.below hq3
                 have hz3 := hq3.size)
              | (at_builtin; refine wpList_append_tri rfl (.tmp 127) (.tmp 131) _ rfl (w.heap.size + 1) _ i0 _ Tryd.underlying26 hi0 hz0' hz1' hz2' rfl _ d rfl (hown3.alloc _) w3.heap.size (⟨2, l[j].b, .empty⟩ : Tri) rfl (World.cell?_alloc_new _ _ _ 0) (World.cell?_alloc_new _ _ _ 1) (World.cell?_alloc_new _ _ _ 2) (by omega) (by simp; omega) ?_; intro v8 w8 hown8 hg8))
                have hB8 : Below w.heap.size w w8 := ((hown3.base (base' := w.heap.size) (by omega)).alloc _).grown ((hB.trans (hq3.mono hz)).alloc (by omega) _) hg8 (by simp; omega)
                go_roundw
                case rel => exact ⟨j + 1, h, d ++ [workOf l[j]], by omega, by go_num, by rw [hV.out], by omega, by omega, by simp; omega, hst2, by rw [Hid, hinv.out, hfin.out], (kR3.alloc _).grown hg8 (hown3.ne_block kR3 (by decide)), by rw [hwk.out]; exact hown8, hB8⟩
                case measure => simp [intOf]; omega
              · have t3 : (l[j].a == 1) = false := by simp [x3]
                have t7 : (l[j].a == 3) = false := by simp [x7]
                have hheld : heldB h s l[j].b = true := by rw [hv_held hh1 hbd.2.2.1 (by omega), hV.out]; omega
                have hd0 := doE_0 (p := p) (s := s) (h := h) (n := d.length) hsh hw0 (by omega) (Or.inr ⟨hheld, by omega⟩)
                have hfin := Lib.hid (finS_step hlt hst.out hd0)
                have hst2 := Lib.hid (stS_work hlt hst.out x3)
                have hwk := Lib.hid (show workOf l[j] = (⟨1, l[j].b, l[j].s⟩ : Tri) from by unfold workOf; rw [if_neg x7])
                have t6 : ((d.length : Int) == 400) = false := by simp; omega
                clear hsh hw0 x3 hd0 hheld x7
                go_wp2_with (first
              | (go_at_call 20; refine (cshaped_any l[j] _).mono ?_; rintro e w2 ⟨rfl, hB2⟩; rw [HS.out]
                 have kX := (Blk.new wr 33 #[.int .i64 l[j].a, .int .i64 l[j].b, .string l[j].s]).below' hB2
                 have hq2 : Below wr.heap.size wr w2 := Below.trans (b := wr.alloc (.cells #[.int .i64 l[j].a, .int .i64 l[j].b, .string l[j].s] 33)) (by (repeat' first | exact Below.refl _ _ | apply Below.drew | (refine Below.setCells ?_ _ _ ?_) | (refine Below.setCell ?_ ?_ _) | (refine Below.alloc ?_ ?_ _) | (simp; done) | (simp; omega))) (hB2.mono (by simp))
                 have kR := hR.below' hq2
                 have a0 := kX.cell 0 _ rfl
                 have a1 := kX.cell 1 _ rfl
                 have a2 := kX.cell 2 _ rfl
                 have a3 := kX.lt
                 have r0 := kR.cell 0 _ rfl
                 have r1 := kR.cell 1 _ rfl
                 have q0 := kR.frozen 0
                 have q1 := kR.frozen 1
                 have rl := kR.lt)
              | (go_at_call 21; refine (word_any l[j].s _ HWj.out).mono ?_; rintro e w3 ⟨rfl, hB3⟩; rw [HE.out]
                 have kX3 := kX.below' hB3
                 have hq3 : Below wr.heap.size wr w3 := hq2.trans (hB3.mono hq2.size)
                 have kR3 := hR.below' hq3
                 have b0' := kX3.cell 0 _ rfl
                 have b1' := kX3.cell 1 _ rfl
                 have b2' := kX3.cell 2 _ rfl
                 have b3' := kX3.lt
                 have r0' := kR3.cell 0 _ rfl
                 have r1' := kR3.cell 1 _ rfl
                 have q0' := kR3.frozen 0
                 have q1' := kR3.frozen 1
                 have rl' := kR3.lt
                 have hown3 := hown.below hq3
                 have hz3 := hq3.size)
              | (at_builtin; refine wpList_append_tri rfl (.tmp 57) (.tmp 63) _ rfl (w.heap.size + 1) _ i0 _ Tryd.underlying26 hi0 hz0' hz1' hz2' rfl _ d rfl (hown3.alloc _) w3.heap.size (⟨1, l[j].b, l[j].s⟩ : Tri) rfl (World.cell?_alloc_new _ _ _ 0) (World.cell?_alloc_new _ _ _ 1) (World.cell?_alloc_new _ _ _ 2) (by omega) (by simp; omega) ?_; intro v8 w8 hown8 hg8))
                have hB8 : Below w.heap.size w w8 := ((hown3.base (base' := w.heap.size) (by omega)).alloc _).grown ((hB.trans (hq3.mono hz)).alloc (by omega) _) hg8 (by simp; omega)
                go_roundw
                case rel => exact ⟨j + 1, h, d ++ [workOf l[j]], by omega, by go_num, by rw [hV.out], by omega, by omega, by simp; omega, hst2, by rw [Hid, hinv.out, hfin.out], (kR3.alloc _).grown hg8 (hown3.ne_block kR3 (by decide)), by rw [hwk.out]; exact hown8, hB8⟩
                case measure => simp [intOf]; omega
            · obtain ⟨E, HE⟩ : ∃ E, Hid (wordE l[j].s = E) := ⟨_, Lib.hid rfl⟩
              have HS := Lib.hid hsh
              have hfin := Lib.hid (finS_bad hlt hst.out (doE_w (p := p) (s := s) (h := h) (n := d.length) hsh hw0) hw0)
              rw [HE.out] at hw0 hfin
              have tw : (E != 0) = true := by simp [hw0]
              clear hsh hw0
              go_wp2_with (first
            | (go_at_call 20; refine (cshaped_any l[j] _).mono ?_; rintro e w2 ⟨rfl, hB2⟩; rw [HS.out]
               have kX := (Blk.new wr 33 #[.int .i64 l[j].a, .int .i64 l[j].b, .string l[j].s]).below' hB2
               have hq2 : Below wr.heap.size wr w2 := Below.trans (b := wr.alloc (.cells #[.int .i64 l[j].a, .int .i64 l[j].b, .string l[j].s] 33)) (by (repeat' first | exact Below.refl _ _ | apply Below.drew | (refine Below.setCells ?_ _ _ ?_) | (refine Below.setCell ?_ ?_ _) | (refine Below.alloc ?_ ?_ _) | (simp; done) | (simp; omega))) (hB2.mono (by simp))
               have kR := hR.below' hq2
               have a0 := kX.cell 0 _ rfl
               have a1 := kX.cell 1 _ rfl
               have a2 := kX.cell 2 _ rfl
               have a3 := kX.lt
               have r0 := kR.cell 0 _ rfl
               have r1 := kR.cell 1 _ rfl
               have q0 := kR.frozen 0
               have q1 := kR.frozen 1
               have rl := kR.lt)
            | (go_at_call 21; refine (word_any l[j].s _ HWj.out).mono ?_; rintro e w3 ⟨rfl, hB3⟩; rw [HE.out]
               have kX3 := kX.below' hB3
               have hq3 : Below wr.heap.size wr w3 := hq2.trans (hB3.mono hq2.size)
               have kR3 := hR.below' hq3
               have b0' := kX3.cell 0 _ rfl
               have b1' := kX3.cell 1 _ rfl
               have b2' := kX3.cell 2 _ rfl
               have b3' := kX3.lt
               have r0' := kR3.cell 0 _ rfl
               have r1' := kR3.cell 1 _ rfl
               have q0' := kR3.frozen 0
               have q1' := kR3.frozen 1
               have rl' := kR3.lt
               have hown3 := hown.below hq3
               have hz3 := hq3.size)
            | (at_builtin; refine wpList_append_tri rfl (.tmp 57) (.tmp 63) _ rfl (w.heap.size + 1) _ i0 _ Tryd.underlying26 hi0 hz0' hz1' hz2' rfl _ d rfl (hown3.alloc _) w3.heap.size (workOf l[j]) rfl (World.cell?_alloc_new _ _ _ 0) (World.cell?_alloc_new _ _ _ 1) (World.cell?_alloc_new _ _ _ 2) (by omega) (by simp; omega) ?_; intro v8 w8 hown8 hg8))
              (try simp only [Exit.inBlock, Exit.then])
              refine sheet_ret rfl rfl (g := w.heap.size) (x := .int .i64 0) (y := .slice none 0 0) (by simpa using (kR3.set_ 0 (.int .i64 0)).set_ 1 (.slice none 0 0)) rfl ?_
              have hBf := hB.trans (hq3.mono hz)
              exact sheetPost_bad (by rw [hinv.out, hfin.out]) (by (repeat' first | assumption | exact Below.refl _ _ | apply Below.drew | (refine Below.setCells ?_ _ _ ?_) | (refine Below.setCell ?_ ?_ _) | (refine Below.alloc ?_ ?_ _) | (simp; done) | (simp; omega)))
        · have hfin := Lib.hid (finS_end hlt hst.out (p := p) (s := s))
          have q0 := hR.frozen 0
          have q1 := hR.frozen 1
          have r0 := hR.cell 0 _ rfl
          have r1 := hR.cell 1 _ rfl
          go_wp2_with fail
          (try simp only [Exit.inBlock, Exit.then])
          refine sheet_ret rfl rfl (g := w.heap.size) (x := .int .i64 p) (y := .slice Av d.length cv) (by simpa using (hR.set_ 0 (.int .i64 p)).set_ 1 (.slice Av d.length cv)) rfl ?_
          unfold SheetPost
          rw [hinv.out, hfin.out]
          refine ⟨_, rfl, ?_, by (repeat' first | assumption | exact Below.refl _ _ | apply Below.drew | (refine Below.setCells ?_ _ _ ?_) | (refine Below.setCell ?_ ?_ _) | (refine Below.alloc ?_ ?_ _) | (simp; done) | (simp; omega))⟩
          exact Own.base (ownsRow_setCell_below (ownsRow_setCell_below hown (by simp) _) (by simp) _) (by omega)
end Go.Proofs.YtogkgoabonbkkaaDoor
