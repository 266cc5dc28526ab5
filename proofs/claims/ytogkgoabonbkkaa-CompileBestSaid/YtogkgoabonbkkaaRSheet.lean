/- torchonref15.Sheet. -/
import Derived.Test.YtogkgoabonbkkaaSheetM
set_option linter.unusedSimpArgs false
set_option linter.unusedVariables false
namespace Go.Proofs.Ytogkgoabonbkkaa
open Go Go.RowKit Tor

theorem do_ex (p s h n : Int) (x : Tri) (w : World) (g : Ex w) (hs : x.s.size ≤ 9223372036854775807) (b1 : 2 ≤ s) (b2 : s ≤ p) (b3 : p ≤ 24) (a1 : -1 ≤ h) (a2 : h ≤ 24) :
    Calls Try.prog 57 #[.int .i64 p, .int .i64 s, .int .i64 h, .int .i64 n, .agg #[.int .i64 x.a, .int .i64 x.b, .string x.s]] g.w (fun e w'' => e = .returned (.int .i64 (doE p s h n x)) ∧ ∃ g' : Ex w, w'' = g'.w) :=
  calls_ex (do_any p s h n x g.w hs b1 b2 b3 a1 a2)

/-- what Sheet gives -/
def SheetPost (p s : Int) (l : List Tri) (w : World) (e : Ending) (w' : World) : Prop :=
  ∃ v, e = .returned (.tuple #[.agg #[.int .i64 (sheetR p s l).1, v], .int .i64 (sheetR p s l).2.2.1, .int .i64 (sheetR p s l).2.2.2]) ∧ Own 3 Tri.enc w' w.heap.size 57 v (sheetR p s l).2.1 ∧ Below w.heap.size w w'
theorem sheetPost_bad {p s : Int} {l : List Tri} {w w' : World} {i e : Int} (h : sheetR p s l = (0, [], i, e)) (hB : Below w.heap.size w w') : SheetPost p s l w (.returned (.tuple #[.agg #[.int .i64 0, .slice none 0 0], .int .i64 i, .int .i64 e])) w' := by
  unfold SheetPost
  rw [h]
  exact ⟨.slice none 0 0, rfl, Own.nil _ _ _, hB⟩
theorem sheetR_hands {p s : Int} {l : List Tri} (h : handsE p s ≠ 0) : sheetR p s l = (0, [], 0, handsE p s) := by unfold sheetR; rw [if_pos h]
theorem sheetR_long {p s : Int} {l : List Tri} (h : handsE p s = 0) (hl : 1000 < l.length) : sheetR p s l = (0, [], 0, 3) := by unfold sheetR; rw [if_neg (by simp [h]), if_pos hl]
theorem sheetR_fin {p s : Int} {l : List Tri} (h : handsE p s = 0) (hl : ¬ 1000 < l.length) : sheetR p s l = finS p s l (l.length - 0) 0 := by unfold sheetR; rw [if_neg (by simp [h]), if_neg hl]; rfl
theorem hands_bd {p s : Int} (h : handsE p s = 0) : 2 ≤ p ∧ p ≤ 24 ∧ 2 ≤ s ∧ s ≤ 8 ∧ s ≤ p := by
  unfold handsE at h
  split at h
  · rename_i h1
    have := h1.2.2
    unfold spansB at this
    simp only [Bool.and_eq_true, decide_eq_true_eq] at this
    omega
  · cases h

theorem sheet_ret {fn : Func} {p u v : Tmp} (h : fn.results = #[.cell p 24, .tmp u, .tmp v]) {R : Ending → World → Prop} {a : Act} {w : World} {g : Nat} {x y : Value} (hp : a.tmps.getD p undef = .pointer (some ⟨g, 0, none⟩))
    (hb : Blk w g 24 #[x, y]) (hd : a.defers = []) (hR : R (.returned (.tuple #[.agg #[x, y], a.tmps.getD u undef, a.tmps.getD v undef])) w) : bodyPost Try.prog fn R .ret a w := by
  refine bodyPost_ret (v := .tuple #[.agg #[x, y], a.tmps.getD u undef, a.tmps.getD v undef]) ?_ hd hR
  have c0 := hb.cell 0 x rfl
  have c1 := hb.cell 1 y rfl
  have hp' : a.tmps[p]?.getD undef = .pointer (some ⟨g, 0, none⟩) := by simpa using hp
  simp only [results, h]
  simp [Sem.run_bind, Result.andThen, hp']
  go_simp

set_option maxRecDepth 100000 in
set_option maxHeartbeats 2000000 in
theorem rsheet_any (p s : Int) (A : Option Addr) (l : List Tri) (c : Nat) (w : World) (H : Nat) (hr : RdT w H A l) (hH : H ≤ w.heap.size)
    (hw : ∀ (k : Nat) (hk : k < l.length), l[k].s.size ≤ 9223372036854775807) (hl : l.length ≤ 100000) :
    Calls Try.prog 20 #[.int .i64 p, .int .i64 s, .slice A l.length c] w (SheetPost p s l w) := by
  obtain ⟨i0, hi0, hz0', hz1', hz2'⟩ := info_parts infoWork
  have HW := Lib.hid hw
  clear hw
  by_cases hh : handsE p s = 0
  · have hbd := hands_bd hh
    have HH := Lib.hid hh
    by_cases hlong : 1000 < l.length
    · have HR := Lib.hid (sheetR_long hh hlong)
      have hl' : (1000 : Int) < (l.length : Int) := by omega
      clear hh
      go_enter Try.func20, Try.ntmps20
      go_wp2_with (first
        | (go_at_call 18; refine (hands_any p s _).mono ?_; rintro e w1 ⟨rfl, hB1⟩; rw [HH.out]
           have kR := (Blk.new w 24 #[.int .i64 0, .slice none 0 0]).below' hB1
           have c0 := kR.cell 0 _ rfl
           have c1 := kR.cell 1 _ rfl
           have f0 := kR.frozen 0
           have f1 := kR.frozen 1
           have n1 := kR.lt
           have hBw : Below w.heap.size w w1 := Below.trans (b := w.alloc (.cells #[.int .i64 0, .slice none 0 0] 24)) (by (repeat' first | exact Below.refl _ _ | apply Below.drew | (refine Below.setCells ?_ _ _ ?_) | (refine Below.setCell ?_ ?_ _) | (refine Below.alloc ?_ ?_ _) | (simp; done) | (simp; omega))) (hB1.mono (by simp)))
        | fail)
      (try simp only [Exit.inBlock, Exit.then])
      refine sheet_ret rfl rfl (g := w.heap.size) (x := .int .i64 0) (y := .slice none 0 0) (by simpa using (kR.set_ 0 _).set_ 1 _) rfl (sheetPost_bad HR.out (by (repeat' first | assumption | exact Below.refl _ _ | apply Below.drew | (refine Below.setCells ?_ _ _ ?_) | (refine Below.setCell ?_ ?_ _) | (refine Below.alloc ?_ ?_ _) | (simp; done) | (simp; omega))))
    · have HR := Lib.hid (sheetR_fin hh hlong)
      have hl' : ¬ (1000 : Int) < (l.length : Int) := by omega
      have hl'' : l.length ≤ 1000 := by omega
      clear hh hlong
      go_enter Try.func20, Try.ntmps20
      go_wp2_with (first
        | (go_at_call 18; refine (hands_any p s _).mono ?_; rintro e w1 ⟨rfl, hB1⟩; rw [HH.out]
           have kR := (Blk.new w 24 #[.int .i64 0, .slice none 0 0]).below' hB1
           have c0 := kR.cell 0 _ rfl
           have c1 := kR.cell 1 _ rfl
           have f0 := kR.frozen 0
           have f1 := kR.frozen 1
           have n1 := kR.lt
           have hBw : Below w.heap.size w w1 := Below.trans (b := w.alloc (.cells #[.int .i64 0, .slice none 0 0] 24)) (by (repeat' first | exact Below.refl _ _ | apply Below.drew | (refine Below.setCells ?_ _ _ ?_) | (refine Below.setCell ?_ ?_ _) | (refine Below.alloc ?_ ?_ _) | (simp; done) | (simp; omega))) (hB1.mono (by simp)))
        | fail)
      go_loopw [11, 12] (fun hd k wr => ∃ (j : Nat) (h : Int) (d : List Tri) (v : Value), j ≤ l.length ∧ k = .int .i64 j ∧ hd = .int .i64 h ∧ -1 ≤ h ∧ h ≤ 24 ∧ d.length ≤ j ∧ Hid (stS l j = (h, d)) ∧ Hid (sheetR p s l = finS p s l (l.length - j) j) ∧
        Blk wr w1.heap.size 24 #[.int .i64 p, v] ∧ Blk wr w.heap.size 24 #[.int .i64 0, .slice none 0 0] ∧ Own 3 Tri.enc wr (w.heap.size + 1) 57 v d ∧ Below w.heap.size w wr) (fun _ k _ => l.length - (intOf k).toNat)
      case atStart =>
        exact ⟨0, -1, [], .slice none 0 0, Nat.zero_le _, rfl, rfl, by omega, by omega, by simp, rfl, HR, Blk.new _ _ _, kR.alloc _, Own.nil _ _ _, hBw.alloc hBw.size _⟩
      case round =>
        obtain ⟨j, h, d, v, hj, rfl, rfl, hh1, hh2, hdl, hst, hinv, hS, hR, hown, hB⟩ := hrel
        obtain ⟨Av, cv, rfl, hcv, hrd⟩ := Own.rd tri_len hown
        have s0 := hS.cell 0 _ rfl
        have s1 := hS.cell 1 _ rfl
        have g1 := hS.frozen 1
        have q0 := hR.frozen 0
        have q1 := hR.frozen 1
        have r0 := hR.cell 0 _ rfl
        have r1 := hR.cell 1 _ rfl
        have hsl := hS.lt
        have hrl := hR.lt
        have hz := hB.size
        by_cases hlt : j < l.length
        · obtain ⟨b, o, rfl, hb0, h0, h1, h2⟩ := (hr.below' hB hH).tri hlt
          have hbb := lt_of_cell h0
          have k0 : (0 : Int) ≤ (j : Int) := by omega
          have k1 : (j : Int) < (l.length : Int) := by omega
          have HWj := Lib.hid (HW.out j hlt)
          obtain ⟨E, HE⟩ : ∃ E, Hid (doE p s h d.length l[j] = E) := ⟨_, Lib.hid rfl⟩
          go_wp2_with fail
          refine wp_region_ex (by kernel_rfl) (by kernel_rfl) ?_
          repeat (go_big_quiet_step (first
            | (go_at_call 57; refine (do_ex p s h d.length l[j] _ _ HWj.out (by omega) (by omega) (by omega) (by omega) (by omega)).mono ?_; rintro e w' ⟨rfl, hg⟩; rw [HE.out]; exact ⟨rfl, hg⟩)
            | fail))
          refine wpQuiet_nil ?_
          intro _ hw'
          obtain ⟨g, hw''⟩ := hw'
          subst hw''
          have hq := g.h
          have hz2 := hq.size
          have hBq := hB.trans (hq.mono hz)
          by_cases hE : E = 0
          · have HE0 := Lib.hid (show doE p s h d.length l[j] = 0 by rw [HE.out]; exact hE)
            have hfin := Lib.hid (finS_step hlt hst.out HE0.out)
            have hf := Lib.hid (fine_of HE0.out)
            have te : (E != 0) = false := by simp [hE]
            clear hE
            by_cases ha : l[j].a = 1
            · have ta : (l[j].a == 1) = true := by simp [ha]
              have hst2 := Lib.hid (stS_reach hlt hst.out ha)
              have hbr := hf.out.r ha
              have hb0' := hf.out.b0
              clear ha
              go_wp2_with fail
              go_roundw
              case rel => exact ⟨j + 1, l[j].b, d, _, by omega, by go_num, rfl, by omega, by omega, by omega, hst2, by rw [Hid, hinv.out, hfin.out], hS.below' hq, hR.below' hq, hown.below hq, hBq⟩
              case measure => simp [intOf]; omega
            · have ta : (l[j].a == 1) = false := by simp [ha]
              have hst2 := Lib.hid (stS_work hlt hst.out ha)
              clear ha
              have kS2 := hS.below' hq
              have kR2 := hR.below' hq
              have hown2 := hown.below hq
              have k2 : RdT g.w wr.heap.size (some ⟨b, o, none⟩) l := ((hr.below' hB hH).below' hq (by omega)).more (by omega)
              clear s0 s1 g1 r0 r1 q0 q1 h0 h1 h2 hS hR hown
              obtain ⟨_, m0, m1, m2⟩ := k2.triAt hlt
              generalize g.w = W at *
              have hbW := lt_of_cell m0
              go_wp2_with fail
              refine wp_region_J (fun w' => w'.cell? ⟨b, o + j * 3, none⟩ = some (.int .i64 l[j].a) ∧ w'.cell? ⟨b, o + j * 3 + 1, none⟩ = some (.int .i64 l[j].b) ∧ w'.cell? ⟨b, o + j * 3 + 2, none⟩ = some (.string l[j].s)) (fun w' => w'.cell? ⟨w1.heap.size, 1, none⟩ = some (.slice Av d.length cv)) (fun i => i == 6 || i == 7 || i == 8) (by kernel_rfl) ?_
              have hS1 : W.drew.cell? ⟨b, o + j * 3, none⟩ = some (.int .i64 l[j].a) ∧ W.drew.cell? ⟨b, o + j * 3 + 1, none⟩ = some (.int .i64 l[j].b) ∧ W.drew.cell? ⟨b, o + j * 3 + 2, none⟩ = some (.string l[j].s) := ⟨m0, m1, m2⟩
              have hS2 : W.drew.cell? ⟨w1.heap.size, 1, none⟩ = some (.slice Av d.length cv) := kS2.cell 1 _ rfl
              refine wpAnyJ_take1 0 rfl (by kernel_rfl) (by kernel_rfl) rfl (by kernel_rfl) (fun _ _ _ h => h) (by rfl) hS1 (fun w' hSw => (by obtain ⟨u0, u1, u2⟩ := hSw; have ub := lt_of_cell u0; go_simp; try (with_reducible rfl))) ?_
              try simp only [Act.put, List.getElem_toArray, List.getElem_cons_succ, List.getElem_cons_zero, List.setIfInBounds_toArray, List.set_cons_zero, List.set_cons_succ]
              refine wpAnyJ_take1 2 rfl (by kernel_rfl) (by kernel_rfl) rfl (by kernel_rfl) (fun _ _ _ h => h) (by rfl) hS1 (fun w' hSw => (by obtain ⟨u0, u1, u2⟩ := hSw; have ub := lt_of_cell u0; go_simp; try (with_reducible rfl))) ?_
              try simp only [Act.put, List.getElem_toArray, List.getElem_cons_succ, List.getElem_cons_zero, List.setIfInBounds_toArray, List.set_cons_zero, List.set_cons_succ]
              refine wpAnyJ_take1 3 rfl (by kernel_rfl) (by kernel_rfl) rfl (by kernel_rfl) (fun _ _ _ h => h) (by rfl) hS1 (fun w' hSw => (by obtain ⟨u0, u1, u2⟩ := hSw; have ub := lt_of_cell u0; go_simp; try (with_reducible rfl))) ?_
              try simp only [Act.put, List.getElem_toArray, List.getElem_cons_succ, List.getElem_cons_zero, List.setIfInBounds_toArray, List.set_cons_zero, List.set_cons_succ]
              refine wpAnyJ_take1 4 rfl (by kernel_rfl) (by kernel_rfl) rfl (by kernel_rfl) (fun _ _ _ h => h) (by rfl) hS1 (fun w' hSw => (by obtain ⟨u0, u1, u2⟩ := hSw; have ub := lt_of_cell u0; go_simp; try (with_reducible rfl))) ?_
              try simp only [Act.put, List.getElem_toArray, List.getElem_cons_succ, List.getElem_cons_zero, List.setIfInBounds_toArray, List.set_cons_zero, List.set_cons_succ]
              refine wpAnyJ_take1 5 rfl (by kernel_rfl) (by kernel_rfl) rfl (by kernel_rfl) (fun _ _ _ h => h) (by rfl) hS1 (fun w' hSw => (by obtain ⟨u0, u1, u2⟩ := hSw; have ub := lt_of_cell u0; go_simp; try (with_reducible rfl))) ?_
              try simp only [Act.put, List.getElem_toArray, List.getElem_cons_succ, List.getElem_cons_zero, List.setIfInBounds_toArray, List.set_cons_zero, List.set_cons_succ]
              refine wpAnyJ_take2 1 rfl (by kernel_rfl) (by kernel_rfl) (by kernel_rfl) (by kernel_rfl) (fun _ _ _ h => h) (by rfl) hS1 hS2 (fun w' hSw => (by obtain ⟨_, v1⟩ := hSw; go_simp; try (with_reducible rfl))) ?_
              try simp only [Act.put, List.getElem_toArray, List.getElem_cons_succ, List.getElem_cons_zero, List.setIfInBounds_toArray, List.set_cons_zero, List.set_cons_succ]
              have hkeepS : ∀ w', Below W.heap.size W w' → w'.cell? ⟨b, o + j * 3, none⟩ = some (.int .i64 l[j].a) ∧ w'.cell? ⟨b, o + j * 3 + 1, none⟩ = some (.int .i64 l[j].b) ∧ w'.cell? ⟨b, o + j * 3 + 2, none⟩ = some (.string l[j].s) := fun w' hb => ⟨(hb.cell (p := ⟨b, _, none⟩) hbW).trans m0, (hb.cell (p := ⟨b, _, none⟩) hbW).trans m1, (hb.cell (p := ⟨b, _, none⟩) hbW).trans m2⟩
              have hA0 : Below W.heap.size W W.drew := (Below.refl _ _).drew
              refine wpAnyJ_ready [6] (by kernel_rfl) (by simp) (NextJ.cons rfl (fun K hK => ?_) NextJ.nil)
              go_simp
              refine (work_any l[j] _).mono ?_
              rintro e w6 ⟨rfl, hB6⟩
              have hA6 : Below W.heap.size W w6 := hA0.trans hB6
              refine hK.out _ _ (hkeepS _ hA6) (fun _ => (kS2.below' hA6).cell 1 _ rfl) ?_
              clear hK K
              try simp only [Act.put, List.getElem_toArray, List.getElem_cons_succ, List.getElem_cons_zero, List.setIfInBounds_toArray, List.set_cons_zero, List.set_cons_succ]
              refine wpAnyJ_ready [7] (by kernel_rfl) (by simp) (NextJ.cons rfl (fun K hK => ?_) NextJ.nil)
              go_simp
              have hA7 := hA6.alloc hA6.size (.cells #[.int .i64 (workOf l[j]).a, .int .i64 (workOf l[j]).b, .string (workOf l[j]).s] 57)
              refine hK.out _ _ (hkeepS _ hA7) (fun _ => (kS2.below' hA7).cell 1 _ rfl) ?_
              clear hK K
              try simp only [Act.put, List.getElem_toArray, List.getElem_cons_succ, List.getElem_cons_zero, List.setIfInBounds_toArray, List.set_cons_zero, List.set_cons_succ]
              refine wpAnyJ_ready [8] (by kernel_rfl) (by simp) (NextJ.cons rfl (fun K hK => ?_) NextJ.nil)
              have hsb := kS2.lt
              have hz6 := hA6.size
              refine step_append_tri (by rfl) (.tmp 61) (.tmp 67) _ (by rfl) (w.heap.size + 1) _ i0 _ Try.underlying22 hi0 hz0' hz1' hz2' rfl (.slice Av d.length cv) d (by rfl) (hown2.below hA7) w6.heap.size (workOf l[j]) (by rfl) (World.cell?_alloc_new _ _ _ 0) (World.cell?_alloc_new _ _ _ 1) (World.cell?_alloc_new _ _ _ 2) (by omega) (by simp; omega) ?_
              intro v' W8 hown8 hg8
              obtain ⟨A8, n8, c8, rfl⟩ : ∃ A n c, v' = .slice A n c := by
                obtain ⟨A8, c8, e8, _, _⟩ := Own.rd tri_len hown8
                exact ⟨A8, _, c8, e8⟩
              have hB8 : Below w.heap.size w W8 := ((hown2.base (base' := w.heap.size) (by omega)).below hA7).grown (hBq.trans (hA7.mono (by omega))) hg8 (by simp; omega)
              have kS8 := (kS2.below' hA7).grown hg8 ((hown2.below hA7).ne_block (kS2.below' hA7) (by decide))
              have kR8 := (kR2.below' hA7).grown hg8 ((hown2.below hA7).ne_block (kR2.below' hA7) (by decide))
              obtain ⟨tb, t0, t1, t2⟩ := (hr.below' hB8 hH).triAt hlt
              have hS1_8 := And.intro t0 (And.intro t1 t2)
              refine hK.out _ _ hS1_8 (fun _ => kS8.cell 1 _ rfl) ?_
              clear hK K hS1 hS2
              try simp only [Act.put, List.getElem_toArray, List.getElem_cons_succ, List.getElem_cons_zero, List.setIfInBounds_toArray, List.set_cons_zero, List.set_cons_succ]
              refine wpAnyJ_take1 9 rfl (by kernel_rfl) (by kernel_rfl) rfl (by kernel_rfl) (fun _ _ _ h => h) (by rfl) hS1_8 (fun w' hSw => (by obtain ⟨u0, u1, u2⟩ := hSw; have ub := lt_of_cell u0; go_simp; try (with_reducible rfl))) ?_
              try simp only [Act.put, List.getElem_toArray, List.getElem_cons_succ, List.getElem_cons_zero, List.setIfInBounds_toArray, List.set_cons_zero, List.set_cons_succ]
              refine wpAnyJ_ready [10] (by kernel_rfl) (by simp) (NextJ.cons rfl (fun K hK => ?_) NextJ.nil)
              have c81 := kS8.cell 1 _ rfl
              have f81 := kS8.frozen 1
              have l81 := kS8.lt
              go_simp
              have hB9 := hB8.setCell (p := ⟨w1.heap.size, 1, none⟩) (by simp; omega) (.slice A8 n8 c8)
              obtain ⟨tb, t0, t1, t2⟩ := (hr.below' hB9 hH).triAt hlt
              refine hK.out _ _ ⟨t0, t1, t2⟩ (fun h => absurd h (by decide)) ?_
              clear hK K
              try simp only [Act.put, List.getElem_toArray, List.getElem_cons_succ, List.getElem_cons_zero, List.setIfInBounds_toArray, List.set_cons_zero, List.set_cons_succ]
              refine wpAnyJ_done (by kernel_rfl) ?_ _
              clear hS1_8 c81 f81 l81 t0 t1 t2
              go_wp2_with fail
              go_roundw
              case rel => exact ⟨j + 1, h, d ++ [workOf l[j]], .slice A8 n8 c8, by omega, by go_num, rfl, by omega, by omega, by simp; omega, hst2, by rw [Hid, hinv.out, hfin.out], by simpa using kS8.set_ 1 (.slice A8 n8 c8), kR8.far (by simp; omega) _, ownsRow_setCell_other hown8 (hown8.ne_block kS8 (by decide)).symm _, hB9⟩
              case measure => simp [intOf]; omega
          · have HEn := Lib.hid (show doE p s h d.length l[j] = E from HE.out)
            have te : (E != 0) = true := by simp [hE]
            have kR2 := hR.below' hq
            have v0 := kR2.frozen 0
            have v1 := kR2.frozen 1
            have v2 := kR2.cell 0 _ rfl
            have v3 := kR2.cell 1 _ rfl
            have v4 := kR2.lt
            have hfin := Lib.hid (finS_bad hlt hst.out HEn.out hE)
            clear hE
            go_wp2_with fail
            (try simp only [Exit.inBlock, Exit.then])
            refine sheet_ret rfl rfl (g := w.heap.size) (x := .int .i64 0) (y := .slice none 0 0) (by simpa using ((hR.below' hq).set_ 0 (.int .i64 0)).set_ 1 (.slice none 0 0)) rfl ?_
            exact sheetPost_bad (by rw [hinv.out, hfin.out]) (by (repeat' first | assumption | exact Below.refl _ _ | apply Below.drew | (refine Below.setCells ?_ _ _ ?_) | (refine Below.setCell ?_ ?_ _) | (refine Below.alloc ?_ ?_ _) | (simp; done) | (simp; omega)))
        · have hfin := Lib.hid (finS_end hlt hst.out (p := p) (s := s))
          go_wp2_with fail
          (try simp only [Exit.inBlock, Exit.then])
          refine sheet_ret rfl rfl (g := w.heap.size) (x := .int .i64 p) (y := .slice Av d.length cv) (by simpa using (hR.set_ 0 (.int .i64 p)).set_ 1 (.slice Av d.length cv)) rfl ?_
          unfold SheetPost
          rw [hinv.out, hfin.out]
          refine ⟨_, rfl, ?_, by (repeat' first | assumption | exact Below.refl _ _ | apply Below.drew | (refine Below.setCells ?_ _ _ ?_) | (refine Below.setCell ?_ ?_ _) | (refine Below.alloc ?_ ?_ _) | (simp; done) | (simp; omega))⟩
          exact Own.base (ownsRow_setCell_below (ownsRow_setCell_below hown (by simp) _) (by simp) _) (by omega)
  · obtain ⟨E, HH⟩ : ∃ E, Hid (handsE p s = E) := ⟨_, Lib.hid rfl⟩
    have HR := Lib.hid (sheetR_hands (l := l) hh)
    rw [HH.out] at hh
    have te : (E != 0) = true := by simp [hh]
    go_enter Try.func20, Try.ntmps20
    go_wp2_with (first
        | (go_at_call 18; refine (hands_any p s _).mono ?_; rintro e w1 ⟨rfl, hB1⟩; rw [HH.out]
           have kR := (Blk.new w 24 #[.int .i64 0, .slice none 0 0]).below' hB1
           have c0 := kR.cell 0 _ rfl
           have c1 := kR.cell 1 _ rfl
           have f0 := kR.frozen 0
           have f1 := kR.frozen 1
           have n1 := kR.lt
           have hBw : Below w.heap.size w w1 := Below.trans (b := w.alloc (.cells #[.int .i64 0, .slice none 0 0] 24)) (by (repeat' first | exact Below.refl _ _ | apply Below.drew | (refine Below.setCells ?_ _ _ ?_) | (refine Below.setCell ?_ ?_ _) | (refine Below.alloc ?_ ?_ _) | (simp; done) | (simp; omega))) (hB1.mono (by simp)))
        | fail)
    (try simp only [Exit.inBlock, Exit.then])
    refine sheet_ret rfl rfl (g := w.heap.size) (x := .int .i64 0) (y := .slice none 0 0) (by simpa using (kR.set_ 0 (.int .i64 0)).set_ 1 (.slice none 0 0)) rfl ?_
    exact sheetPost_bad (by rw [HR.out, HH.out]) (by (repeat' first | assumption | exact Below.refl _ _ | apply Below.drew | (refine Below.setCells ?_ _ _ ?_) | (refine Below.setCell ?_ ?_ _) | (refine Below.alloc ?_ ?_ _) | (simp; done) | (simp; omega)))
end Go.Proofs.Ytogkgoabonbkkaa
