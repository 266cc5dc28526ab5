/- rows.sweep with the closure that counts. -/
import Derived.Test.YtogkgoabonbkkaaDoorSweep
set_option linter.unusedSimpArgs false
set_option linter.unusedVariables false
namespace Go.Proofs.YtogkgoabonbkkaaDoor
open Go Go.RowKit Tor

theorem count_any (i : Nat) (cb : Nat) (n : Nat) (w : World) (hc : Blk w cb 3 #[.int .i64 n]) (hn : n ≤ 100000) :
    Calls Tryd.prog 16 #[.int .i64 i, .pointer (some ⟨cb, 0, none⟩)] w fun e w' => e = .returned (.tuple #[]) ∧ Blk w' cb 3 #[.int .i64 ((n + 1 : Nat) : Int)] ∧ Same (· ≠ cb) w w' := by
  have h0 := hc.cell 0 (.int .i64 n) rfl
  have f0 := hc.frozen 0
  go_enter Tryd.func16, Tryd.ntmps16
  go_wp2
  go_end0
  exact ⟨rfl, by simpa using hc.set_ 0 (.int .i64 ((n : Int) + 1)), (Same.refl _ _).setCell (by simp) _⟩


set_option maxRecDepth 100000 in
set_option maxHeartbeats 2000000 in
theorem sweep1_any (R B cb hd s : Nat) (f : Nat → List Nat) (n0 : Nat) (w : World) (hr : RowsAt w R B f) (hcb : Blk w cb 3 #[.int .i64 n0]) (hcB : B ≤ cb) (hcR : cb ≠ R) (hh : hd + s ≤ 24) (h2 : 2 ≤ s) (hs : sumTo f 24 ≤ 2000) (hn0 : n0 ≤ 10) (N : Nat) (hN : 2 * sumTo f 24 + s ≤ N)
    (hf : ∀ k, k < 24 → (f k).length ≤ 1000) (hBw : B ≤ w.heap.size) :
    Calls Tryd.prog 15 #[.pointer (some ⟨R, 0, none⟩), .int .i64 hd, .int .i64 s, .func (.func 16) #[] #[.pointer (some ⟨cb, 0, none⟩)]] w
      fun e w' => e = .returned (.tuple #[]) ∧ Blk w' cb 3 #[.int .i64 ((n0 + (swp hd s N hd f).1.length : Nat) : Int)] ∧ Same (fun k => k < w.heap.size ∧ k ≠ cb ∧ k ≠ R) w w' := by
  have HF := Lib.hid hf
  clear hf
  go_enter Tryd.func15, Tryd.ntmps15
  go_wp2
  go_loopg [8] N (fun gk a wr => ∃ (t n : Nat) (f' : Nat → List Nat), a = .int .i64 t ∧ hd ≤ t ∧ t + 1 ≤ hd + s ∧ Hid (n0 + (swp hd s N hd f).1.length = n + (swp hd s gk t f').1.length) ∧ 2 * sumTo f' 24 + (hd + s - t) ≤ gk ∧ n + sumTo f' 24 ≤ 2010 ∧
      Hid (∀ k, k < 24 → (f' k).length ≤ 1000) ∧ RowsAt wr R B f' ∧ Blk wr cb 3 #[.int .i64 n] ∧ Same (fun k => k < w.heap.size ∧ k ≠ cb ∧ k ≠ R) w wr)
  case atStart => exact ⟨hd, n0, f, rfl, Nat.le_refl _, by omega, rfl, by omega, by omega, HF, hr, hcb, Same.refl _ _⟩
  case round =>
    obtain ⟨t, n, f', rfl, ht1, ht2, hinv, hgk, hns, hfl, hrows, hblk, hS⟩ := hrel
    have hBr : B ≤ wr.heap.size := Nat.le_trans hBw hS.size
    have hRw : R < wr.heap.size := by obtain ⟨_, _, r0, _⟩ := hrows 0 (by omega); exact lt_of_cell r0
    by_cases hlt : t + 1 < hd + s
    · obtain ⟨A1, c1, r1, l1, z1, d1, ne1⟩ := hrows t (by omega)
      obtain ⟨A2, c2, r2, l2, z2, d2, ne2⟩ := hrows (t + 1) (by omega)
      have b1 := hfl.out t (by omega)
      have b2 := hfl.out (t + 1) (by omega)
      cases hfr : front f' t with
      | none =>
        have hz := frontZ_none hfr
        have HFR := Lib.hid hfr
        have HZ := Lib.hid hz
        clear hfr hz
        go_wp2_with (go_at_call 33; refine (front_any R t (f' t) (f' (t + 1)) A1 A2 c1 c2 _ B r1 r2 d1 d2 (by omega) b1 b2).mono ?_; rintro e w1 ⟨rfl, hB1⟩; rw [HZ.out])
        go_roundg (gk - 1)
        case measure => omega
        case rel =>
          exact ⟨t + 1, n, f', by go_num, by omega, by omega, by rw [Hid, hinv.out, swp_none hlt HFR.out (by omega)], by omega, hns, hfl, hrows.same ⟨hB1.os, hB1.tape, hB1.output, hB1.size, fun k hk => hB1.block k (by rcases hk with hk | rfl <;> omega)⟩, hblk.below' hB1, hS.trans ((Same.of_below hB1).mono (fun k hk => (by have := hS.size; omega : k < wr.heap.size)))⟩
      | some i =>
        have hz := (frontZ_some hfr).1
        have HFR := Lib.hid hfr
        have HZ := Lib.hid hz
        clear hfr hz
        go_wp2_with (go_at_call 33; refine (front_any R t (f' t) (f' (t + 1)) A1 A2 c1 c2 _ B r1 r2 d1 d2 (by omega) b1 b2).mono ?_; rintro e w1 ⟨rfl, hB1⟩; rw [HZ.out])
        refine (count_any i cb n w1 (hblk.below' hB1) (by omega)).mono ?_
        rintro e w2 ⟨rfl, hblk2, hS2⟩
        obtain ⟨hz, ll1, ll2, hx1, hx2⟩ := frontZ_some HFR.out
        obtain ⟨g1, o1, rfl, hg1, hh1⟩ := d1.head' hx1
        obtain ⟨g2, o2, rfl, hg2, hh2⟩ := d2.head' hx2
        have hRl := lt_of_cell r1
        have k1 := (hS2.cell (p := ⟨R, t, none⟩) (Ne.symm hcR)).trans ((hB1.cell (p := ⟨R, t, none⟩) hRl).trans r1)
        have k2 := (hS2.cell (p := ⟨R, t + 1, none⟩) (Ne.symm hcR)).trans ((hB1.cell (p := ⟨R, t + 1, none⟩) hRl).trans r2)
        have y1 := (hS2.frozen (p := ⟨R, t, none⟩) (Ne.symm hcR)).trans ((hB1.frozen (p := ⟨R, t, none⟩) hRl).trans z1)
        have y2 := (hS2.frozen (p := ⟨R, t + 1, none⟩) (Ne.symm hcR)).trans ((hB1.frozen (p := ⟨R, t + 1, none⟩) hRl).trans z2)
        have p1 : 0 < (f' t).length := by rw [hx1]; simp
        have p2 : 0 < (f' (t + 1)).length := by rw [hx2]; simp
        have HX1 := Lib.hid hx1
        have HX2 := Lib.hid hx2
        clear hz hx1 hx2 r1 r2 z1 z2
        have e1 : IntKind.i64.wrap ((t : Int) + 1) = (t : Int) + 1 := IntWalk.i64_in _ (by omega)
        have e2 : ((t : Int) + 1).toNat = t + 1 := by omega
        go_wp2
        have HS := Lib.hid (swp_some hlt HFR.out (by omega : 0 < gk))
        have HT := sumTo_pop f' t p1 p2 24
        rw [if_pos (by omega), if_pos (by omega)] at HT
        replace HT := Lib.hid HT
        have hrows2 : RowsAt w2 R B f' := (hrows.same ⟨hB1.os, hB1.tape, hB1.output, hB1.size, fun k hk => hB1.block k (by rcases hk with hk | rfl <;> omega)⟩).same (hS2.mono (fun k hk => by rcases hk with hk | rfl <;> omega))
        have HD1 : RdN w2 B (some ⟨g1, o1, none⟩) (f' t) := d1.keep (fun p hp => (hS2.cell (by show p.block ≠ cb; omega)).trans (hB1.cell (by omega)))
        have HD2 : RdN w2 B (some ⟨g2, o2, none⟩) (f' (t + 1)) := d2.keep (fun p hp => (hS2.cell (by show p.block ≠ cb; omega)).trans (hB1.cell (by omega)))
        have HN1 := ne1 (by rw [HX1.out]; simp) g1 o1 none rfl
        have HN2 := ne2 (by rw [HX2.out]; simp) g2 o2 none rfl
        have l1' := l1
        have l2' := l2
        go_region
        all_goals go_wp2_with fail
        all_goals go_roundg (gk - 1)
        all_goals first
          | (case measure => omega)
          | (case rel =>
               refine ⟨max hd (t - 1), n + 1, pop f' t, by go_num, by omega, by omega, by rw [Hid, hinv.out, HS.out]; simp; omega, by have := HT.out; omega, by have := HT.out; omega, pop_le hfl.out, ?_, ?_, ?_⟩
               · refine hrows2.pop ?_ ?_
                 · first | exact tailVal1 HN1 l1' (by assumption) | exact tailVal2 HD1 HN1 l1'
                 · first | exact tailVal1 HN2 l2' (by assumption) | exact tailVal2 HD2 HN2 l2'
               · exact (hblk2.far (p := ⟨R, t, none⟩) hcR _).far (p := ⟨R, t + 1, none⟩) hcR _
               · exact ((hS.trans ((Same.of_below hB1).mono (fun k hk => (by have := hS.size; omega : k < wr.heap.size)))).trans (hS2.mono (fun k hk => hk.2.1)) |>.setCell (p := ⟨R, t, none⟩) (by simp) _ |>.setCell (p := ⟨R, t + 1, none⟩) (by simp) _).drew)
    · go_wp2
      go_end0
      exact ⟨rfl, by rw [hinv.out, swp_end hlt]; exact hblk, hS⟩
end Go.Proofs.YtogkgoabonbkkaaDoor
