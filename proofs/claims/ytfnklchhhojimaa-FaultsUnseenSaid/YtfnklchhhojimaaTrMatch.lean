/- traces.match. -/
import Derived.Test.YtfnklchhhojimaaTrRow
import Derived.Test.YtfnklchhhojimaaTraceM
import Derived.BigQuiet
import Derived.BigRegion
set_option linter.unusedSimpArgs false
set_option linter.unusedVariables false
namespace Go.Proofs.Ytfnklchhhojimaa
open Go Go.RowKit Tor

theorem mgo_some {l m : List Tri} {M : List Nat} {j i : Nat} (hj : j < m.length) (h : mfind l M m[j] = some i) : mgo l (m.drop j) M = mgo l (m.drop (j + 1)) (M ++ [i]) := by
  rw [List.drop_eq_getElem_cons hj, mgo, h]
theorem mgo_none {l m : List Tri} {M : List Nat} {j : Nat} (hj : j < m.length) (h : mfind l M m[j] = none) : mgo l (m.drop j) M = none := by
  rw [List.drop_eq_getElem_cons hj, mgo, h]
theorem mgo_end {l m : List Tri} {M : List Nat} {j : Nat} (hj : ¬ j < m.length) : mgo l (m.drop j) M = some M := by
  rw [List.drop_eq_nil_of_le (by omega), mgo]
theorem front_nil1 {f : Nat → List Nat} {t : Nat} (h : f t = []) : front f t = none := by unfold front; rw [h]
theorem front_nil2 {f : Nat → List Nat} {t : Nat} (h : f (t + 1) = []) : front f t = none := by unfold front; rw [h]; cases f t <;> rfl
theorem front_two {f : Nat → List Nat} {t x y : Nat} {r s : List Nat} (h : f t = x :: r) (h2 : f (t + 1) = y :: s) : front f t = if x = y then some x else none := by unfold front; rw [h, h2]


set_option maxRecDepth 100000 in
set_option maxHeartbeats 8000000 in
theorem tmatch_any (sa sb : Nat) (p q : Int) (A B : Option Addr) (l m : List Tri) (c d : Nat) (w : World) (H : Nat) (hr : RdT w H A l) (hr2 : RdT w H B m) (hH : H ≤ w.heap.size)
    (a0 : w.cell? ⟨sa, 0, none⟩ = some (.int .i64 p)) (a1 : w.cell? ⟨sa, 1, none⟩ = some (.slice A l.length c)) (b0 : w.cell? ⟨sb, 0, none⟩ = some (.int .i64 q)) (b1 : w.cell? ⟨sb, 1, none⟩ = some (.slice B m.length d))
    (hb : ∀ (k : Nat) (hk : k < l.length), 0 ≤ l[k].b ∧ l[k].b ≤ 22) (hb2 : ∀ (k : Nat) (hk : k < m.length), 0 ≤ m[k].b ∧ m[k].b ≤ 22) (hl : l.length ≤ 400) (hm : m.length ≤ 400) :
    Calls Try.prog 63 #[.pointer (some ⟨sa, 0, none⟩), .pointer (some ⟨sb, 0, none⟩)] w fun e w' => ∃ v, e = .returned (.tuple #[v, .bool (traceB p l q m)]) ∧ Below w.heap.size w w' := by
  obtain ⟨i0, hi0, hz0', hz1', hz2'⟩ := info_parts infoInt
  have sal := lt_of_cell a0
  have sbl := lt_of_cell b0
  by_cases hpq : p = q
  rotate_left
  · have e1 : (p == q) = false := by simpa using hpq
    have e1' : (p != q) = true := by simpa using hpq
    have ht : traceB p l q m = false := by unfold traceB; simp [hpq]
    rw [ht]
    clear hpq ht hb hb2
    go_enter Try.func63, Try.ntmps63
    go_wp2_with fail
    go_quiet (fail)
    go_wp2_with fail
    go_ret2
    exact ⟨_, rfl, (Below.refl _ _).drewN _⟩
  subst hpq
  have e1 : (p == p) = true := by simp
  by_cases hlm : l.length = m.length
  rotate_left
  · have e2 : ((l.length : Int) == (m.length : Int)) = false := by simp; omega
    have ht : traceB p l p m = false := by unfold traceB; simp [hlm]
    rw [ht]
    clear hlm ht hb hb2
    go_enter Try.func63, Try.ntmps63
    go_wp2_with fail
    go_quiet (fail)
    go_wp2_with fail
    go_ret2
    exact ⟨_, rfl, (Below.refl _ _).drewN _⟩
  · have ht : Hid (traceB p l p m = (mgo l m []).isSome) := by unfold traceB; simp [hlm, Hid]
    have e2 : ((l.length : Int) == (m.length : Int)) = true := by simp; omega
    have HB2 := Lib.hid hb2
    clear hb2 hlm
    go_enter Try.func63, Try.ntmps63
    go_wp2_with fail
    go_quiet (fail)
    have hr' : RdT (w.drewN nq) H A l := hr
    have a0' : (w.drewN nq).cell? ⟨sa, 0, none⟩ = some (.int .i64 p) := a0
    have a1' : (w.drewN nq).cell? ⟨sa, 1, none⟩ = some (.slice A l.length c) := a1
    have b1' : (w.drewN nq).cell? ⟨sb, 1, none⟩ = some (.slice B m.length d) := b1
    go_wp2_with (first
      | (go_at_call 78; refine (trow_any sa A l c _ H hr' hH a1' hb hl).mono ?_; rintro e w1 ⟨rfl, hrows, hB1⟩
         have hBw : Below w.heap.size w w1 := ((Below.refl _ _).drewN _).trans hB1
         have c1 := (hBw.cell (p := ⟨sa, 1, none⟩) sal).trans a1
         have c2 := (hBw.cell (p := ⟨sb, 1, none⟩) sbl).trans b1)
      | (at_make; refine wpList_make_own _ rfl _ _ _ rfl w1.heap.size _ i0 _ 1 Try.underlying38 hi0 hz0' hz1' .i64 .i64 _ m.length rfl rfl rfl (by rw [hz2']; omega) (by unfold maxLen; omega) (by simp) ?_; intro w2 hown0 hg0
         have c12 := (hg0.cell (a := ⟨sa, 1, none⟩) c1 (by simp))
         have c22 := (hg0.cell (a := ⟨sb, 1, none⟩) c2 (by simp)))
      | fail)
    have hBs := hB1.size
    have hzw : (w.drewN nq).heap.size = w.heap.size := rfl
    rw [hzw] at hrows hB1 hBs
    have hrl : w.heap.size < w1.heap.size := by obtain ⟨_, _, r0, _⟩ := hrows 0 (by omega); exact lt_of_cell r0
    go_loopw [7, 47] (fun v i wr => ∃ (j : Nat) (M : List Nat), j ≤ m.length ∧ i = .int .i64 j ∧ Hid (mgo l m [] = mgo l (m.drop j) M) ∧ M.length = j ∧ Own 1 nenc wr w1.heap.size 3 v M ∧ RowsAt wr w.heap.size w1.heap.size (rowsOf l M) ∧ Same (fun k => k < w1.heap.size ∧ k ≠ w.heap.size) w1 wr) (fun _ i _ => m.length - (intOf i).toNat)
    case atStart =>
      refine ⟨0, [], Nat.zero_le _, rfl, Lib.hid (by simp), rfl, hown0, hrows.same ⟨hg0.os, hg0.tape, hg0.output, hg0.size, fun k hk => hg0.block k (by rcases hk with hk | rfl <;> omega) (by simp)⟩, ⟨hg0.os, hg0.tape, hg0.output, hg0.size, fun k hk => hg0.block k hk.1 (by simp)⟩⟩
    case round =>
      obtain ⟨j, M, hj, rfl, hmg, hM, hown, hrowsM, hS⟩ := hrel
      have hSz := hS.size
      have hBr : Below w.heap.size w wr := hBw.trans (Same.below (hS.mono (fun k hk => ⟨by omega, by omega⟩)))
      by_cases hlt : j < m.length
      · have hra := (hr.below' hBr hH)
        have hrb := (hr2.below' hBr hH)
        obtain ⟨b, o, rfl, hb0, h0, h1, h2⟩ := hrb.tri hlt
        have hbd := HB2.out j hlt
        have ca1 := (hBr.cell (p := ⟨sa, 1, none⟩) sal).trans a1
        obtain ⟨t, ht⟩ : ∃ t : Nat, m[j].b = t := ⟨m[j].b.toNat, by omega⟩
        have htn : m[j].b.toNat = t := by omega
        rw [ht] at h1 hbd
        have ht24 : t + 1 < 24 := by omega
        obtain ⟨A1, c1', r1, l1, z1, d1, ne1⟩ := hrowsM t (by omega)
        obtain ⟨A2, c2', r2, l2, z2, d2, ne2⟩ := hrowsM (t + 1) (by omega)
        have n1 := rowsOf_len l M t
        have n2 := rowsOf_len l M (t + 1)
        have j0 : (0 : Int) ≤ (t : Int) := by omega
        have j1 : (t : Int) < 24 := by omega
        have j2 : (0 : Int) ≤ (t : Int) + 1 := by omega
        have j3 : (t : Int) + 1 < 24 := by omega
        have w1' : IntKind.i64.wrap ((t : Int) + 1) = (t : Int) + 1 := IntWalk.i64_in _ (by omega)
        have w2' : ((t : Int) + 1).toNat = t + 1 := by omega
        have HT := Lib.hid (And.intro ht htn)
        clear ht htn
        go_wp2_with fail
        have kW := Blk.new wr 54 #[.int .i64 m[j].a, .int .i64 t, .string m[j].s]
        have r1' := cell_old (o := .cells #[.int .i64 m[j].a, .int .i64 t, .string m[j].s] 54) r1
        have r2' := cell_old (o := .cells #[.int .i64 m[j].a, .int .i64 t, .string m[j].s] 54) r2
        have ca2 := cell_old (o := .cells #[.int .i64 m[j].a, .int .i64 t, .string m[j].s] 54) ca1
        have hRl := lt_of_cell r1'
        have hBW := hBr.alloc hBr.size (.cells #[.int .i64 m[j].a, .int .i64 t, .string m[j].s] 54)
        have hSW : Same (fun k => k < wr.heap.size) wr _ := Same.of_below ((Below.refl wr.heap.size wr).alloc (Nat.le_refl _) (.cells #[.int .i64 m[j].a, .int .i64 t, .string m[j].s] 54))
        have hownW := hown.alloc (.cells #[.int .i64 m[j].a, .int .i64 t, .string m[j].s] 54)
        have k0 := kW.cell 0 (.int .i64 m[j].a) rfl
        have k1 := kW.cell 1 (.int .i64 t) rfl
        have k2 := kW.cell 2 (.string m[j].s) rfl
        generalize wr.alloc (.cells #[.int .i64 m[j].a, .int .i64 t, .string m[j].s] 54) = W at *
        have hra2 := hr.below' hBW hH
        go_quiet (fail)
        go_wp2_with fail
        rw [← HT.out.1] at k1
        have R1 := Lib.hid r1'
        have R2 := Lib.hid r2'
        have Q1 := Lib.hid l1
        have Q2 := Lib.hid l2
        have HRW := Lib.hid hRl
        have hnone : mfind l M m[j] = none → Hid (traceB p l p m = false) := fun h => by rw [Hid, ht.out, hmg.out, mgo_none hlt h]; rfl
        have HN := Lib.hid hnone
        clear hnone r1 r2
        cases h1 : rowsOf l M t with
        | nil =>
          rw [h1] at r1'
          simp only [List.length_nil] at r1'
          have hno := HN.out (by unfold mfind; rw [HT.out.2, front_nil1 h1])
          go_quiet (fail)
          go_wp2_with fail
          go_ret2
          rw [hno.out]
          first | exact ⟨_, rfl, (hBW.drewN _).drewN _⟩ | exact ⟨⟨_, rfl⟩, (hBW.drewN _).drewN _⟩ | exact ⟨⟨_, rfl⟩, hBW.drewN _⟩ | exact ⟨_, rfl, (Below.refl _ _).drewN _⟩
        | cons x L1 =>
          have hd1 := d1.keep (w' := W) (fun p hp => hSW.cell (by omega))
          obtain ⟨g1, o1, rfl, hg1, hh1⟩ := RdN.head' hd1 h1
          have H1 := Lib.hid h1
          rw [h1] at r1' l1 n1
          simp only [List.length_cons] at r1' l1 n1
          clear h1
          have x1 : ((L1.length : Int) + 1 == 0) = false := by simp; omega
          cases h2 : rowsOf l M (t + 1) with
          | nil =>
            rw [h2] at r2'
            simp only [List.length_nil] at r2'
            have hno := HN.out (by unfold mfind; rw [HT.out.2, front_nil2 h2])
            go_quiet (fail)
            go_wp2_with fail
            go_ret2
            rw [hno.out]
            first | exact ⟨_, rfl, (hBW.drewN _).drewN _⟩ | exact ⟨⟨_, rfl⟩, (hBW.drewN _).drewN _⟩ | exact ⟨⟨_, rfl⟩, hBW.drewN _⟩ | exact ⟨_, rfl, (Below.refl _ _).drewN _⟩
          | cons y L2 =>
            have hd2 := d2.keep (w' := W) (fun p hp => hSW.cell (by omega))
            obtain ⟨g2, o2, rfl, hg2, hh2⟩ := RdN.head' hd2 h2
            have H2 := Lib.hid h2
            rw [h2] at r2' l2 n2
            simp only [List.length_cons] at r2' l2 n2
            clear h2
            have x2 : ((L2.length : Int) + 1 == 0) = false := by simp; omega
            have hfr := Lib.hid (front_two H1.out H2.out)
            by_cases hxy : x = y
            rotate_left
            · have hno := HN.out (by unfold mfind; rw [HT.out.2, hfr.out, if_neg hxy])
              have x3 : ((x : Int) == (y : Int)) = false := by simp; omega
              have x4 : ((x : Int) != (y : Int)) = true := by simp; omega
              clear hxy
              go_quiet (fail)
              go_wp2_with fail
              go_ret2
              rw [hno.out]
              first | exact ⟨_, rfl, (hBW.drewN _).drewN _⟩ | exact ⟨⟨_, rfl⟩, (hBW.drewN _).drewN _⟩ | exact ⟨⟨_, rfl⟩, hBW.drewN _⟩ | exact ⟨_, rfl, (Below.refl _ _).drewN _⟩
            · subst hxy
              have x3 : ((x : Int) != (x : Int)) = false := by simp
              have hxl : x < l.length := rowsOf_mem (by rw [H1.out]; simp)
              obtain ⟨b', o', rfl, hb0', g0, g1', g2'⟩ := hra2.tri hxl
              by_cases heq : l[x] = m[j]
              rotate_left
              · have hno := HN.out (by unfold mfind; rw [HT.out.2, hfr.out, if_pos rfl]; simp only; rw [xAt_of hxl, if_neg heq])
                have he' : decide (l[x] = m[j]) = false := decide_eq_false heq
                have y0 : (0 : Int) ≤ (x : Int) := by omega
                have y1 : (x : Int) < (l.length : Int) := by omega
                clear heq
                go_quiet (fail)
                go_wp2_with fail
                go_ret2
                rw [hno.out]
                first | exact ⟨_, rfl, (hBW.drewN _).drewN _⟩ | exact ⟨⟨_, rfl⟩, (hBW.drewN _).drewN _⟩ | exact ⟨⟨_, rfl⟩, hBW.drewN _⟩ | exact ⟨_, rfl, (Below.refl _ _).drewN _⟩
              · have hsome := mgo_some (M := M) hlt (show mfind l M m[j] = some x by unfold mfind; rw [HT.out.2, hfr.out, if_pos rfl]; simp only; rw [xAt_of hxl, if_pos heq])
                have HS := Lib.hid (hmg.out.trans hsome)
                have he' : decide (l[x] = m[j]) = true := decide_eq_true heq
                have y0 : (0 : Int) ≤ (x : Int) := by omega
                have y1 : (x : Int) < (l.length : Int) := by omega
                have hpop := Lib.hid (pop_rows (hfr.out.trans (if_pos rfl)))
                have hrW : RowsAt W w.heap.size w1.heap.size (rowsOf l M) := hrowsM.same (hSW.mono (fun k hk => by rcases hk with hk | rfl <;> omega))
                have zz1 := (hSW.frozen (p := ⟨w.heap.size, t, none⟩) (by show w.heap.size < _; omega)).trans z1
                have zz2 := (hSW.frozen (p := ⟨w.heap.size, t + 1, none⟩) (by show w.heap.size < _; omega)).trans z2
                clear heq hmg hsome
                go_quiet (fail)
                go_wp2_with (first
                  | (at_builtin; refine wpList_append_n rfl (.tmp 102) (.tmp 108) _ rfl w1.heap.size _ i0 _ Try.underlying38 hi0 hz0' hz1' hz2' rfl _ M rfl (hownW.alloc _) W.heap.size x rfl (cell_new rfl) (by omega) (by have := hBW.size; have := hSW.size; simp; omega) ?_; intro v' w3 hown3 hg3)
                  | fail)
                have hne : ∀ g, g < w1.heap.size → some g ≠ u7.ownBlock := fun g hg e => by have := (World.ownsRow.lt hown g e.symm).1; omega
                have hzW : wr.heap.size ≤ W.heap.size := hSW.size
                have hS3 : Same (fun k => k < w1.heap.size) W w3 := ⟨hg3.os, hg3.tape, hg3.output, Nat.le_trans (by simp) hg3.size, fun k hk => (hg3.block k (by simp; omega) (hne k hk)).trans (Below.heap_alloc _ _ k (by show k < W.heap.size; omega))⟩
                have hrW3 := hrW.same (hS3.mono (fun k hk => by rcases hk with hk | rfl <;> omega))
                have r1 := (hS3.cell (p := ⟨w.heap.size, t, none⟩) hrl).trans R1.out
                have r2 := (hS3.cell (p := ⟨w.heap.size, t + 1, none⟩) hrl).trans R2.out
                have y1 := (hS3.frozen (p := ⟨w.heap.size, t, none⟩) hrl).trans zz1
                have y2 := (hS3.frozen (p := ⟨w.heap.size, t + 1, none⟩) hrl).trans zz2
                have HD1 : RdN w3 w1.heap.size (some ⟨g1, o1, none⟩) (rowsOf l M t) := hd1.keep (fun p hp => hS3.cell hp)
                have HD2 : RdN w3 w1.heap.size (some ⟨g2, o2, none⟩) (rowsOf l M (t + 1)) := hd2.keep (fun p hp => hS3.cell hp)
                have HN1 := ne1 (by rw [H1.out]; simp) g1 o1 none rfl
                have HN2 := ne2 (by rw [H2.out]; simp) g2 o2 none rfl
                have p1 : 0 < (rowsOf l M t).length := by rw [H1.out]; simp
                have p2 : 0 < (rowsOf l M (t + 1)).length := by rw [H2.out]; simp
                have l1' := Q1.out
                have l2' := Q2.out
                have hRl3 := lt_of_cell r1
                have hSS : Same (fun k => k < w1.heap.size ∧ k ≠ w.heap.size) w1 w3 := hS.trans ((hSW.mono (fun k hk => by have := hk.1; omega)).trans (hS3.mono (fun k hk => hk.1)))
                clear r1' r2' hd1 hd2 d1 d2 hg3 hrowsM hrW
                go_region
                all_goals go_wp2_with fail
                all_goals go_roundw
                all_goals first
                  | (case measure => simp [intOf]; omega)
                  | (case rel =>
                       refine ⟨j + 1, M ++ [x], by omega, by go_num, HS, by simp; omega, ?_, ?_, ?_⟩
                       · exact Own.far (Own.far hown3 (p := ⟨w.heap.size, t, none⟩) hrl _) (p := ⟨w.heap.size, t + 1, none⟩) hrl _
                       · rw [← hpop.out]
                         refine hrW3.pop ?_ ?_
                         · by_cases hc : c1' = 1
                           · rw [if_pos hc, hc]; exact tailVal1 HN1 l1' hc
                           · rw [if_neg hc]; exact tailVal2 HD1 HN1 l1'
                         · by_cases hc : c2' = 1
                           · rw [if_pos hc, hc]; exact tailVal1 HN2 l2' hc
                           · rw [if_neg hc]; exact tailVal2 HD2 HN2 l2'
                       · exact (hSS.setCell (p := ⟨w.heap.size, t, none⟩) (by simp) _ |>.setCell (p := ⟨w.heap.size, t + 1, none⟩) (by simp) _).drew)
      · have hend := Lib.hid (show traceB p l p m = true by rw [ht.out, hmg.out, mgo_end hlt]; rfl)
        go_wp2_with fail
        go_ret2
        rw [hend.out]
        exact ⟨_, rfl, hBr⟩
end Go.Proofs.Ytfnklchhhojimaa
