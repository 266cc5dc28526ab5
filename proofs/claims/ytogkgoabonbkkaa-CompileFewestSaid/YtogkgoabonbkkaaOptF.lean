/- Plain: orders of orders. -/
import Derived.Test.YtogkgoabonbkkaaSame5
set_option linter.unusedSimpArgs false
set_option linter.unusedVariables false
namespace Go.Proofs.Ytogkgoabonbkkaa
open Go Go.RowKit Tor

section
variable {p s : Int} {l : List Tri}
theorem lin_mseq {h s : Int} : ∀ (k : Nat) (M : List Nat), LinExt l M (mseq l h s k M)
  | 0, M => trivial
  | k + 1, M => by
    unfold mseq
    by_cases hn : 0 ≤ nextUpto l M h s l.length
    · rw [if_pos hn]
      obtain ⟨i, e, hi, hc⟩ := next_can hn
      rw [e]
      unfold canB at hc
      simp only [Bool.and_eq_true] at hc
      exact ⟨hi, hc.2, lin_mseq k _⟩
    · rw [if_neg hn]; trivial
/-- the least order -/
def leastO (l : List Tri) : List Nat := mseq l 0 100 l.length []
theorem next_least {M : List Nat} (hb : ∀ (k : Nat) (hk : k < l.length), 0 ≤ l[k].b ∧ l[k].b ≤ 22) (hM : M.length < l.length) : 0 ≤ nextUpto l M 0 100 l.length := by
  obtain ⟨i, hi, hiM, hall⟩ := exists_not_mem hM
  have hr : rdy l M i := ⟨hi, hiM, fun j hj hjM => absurd (hall j hj) hjM⟩
  have hc : canB l M 0 100 i = true := by
    unfold canB
    rw [(rdyB_iff hi).2 hr, (held_iff _ _ _).2 (by rw [xAt_of hi]; have := hb i hi; omega)]; rfl
  rcases nextUpto_spec l M 0 100 l.length with ⟨_, hn⟩ | ⟨j, e, _⟩
  · rw [hn i hi] at hc; cases hc
  · rw [e]; omega
theorem leastO_lin (hb : ∀ (k : Nat) (hk : k < l.length), 0 ≤ l[k].b ∧ l[k].b ≤ 22) : LinExt l [] (leastO l) ∧ (leastO l).length = l.length := by
  refine ⟨lin_mseq _ _, ?_⟩
  have h1 := mseq_ok (l := l) (h := 0) (s := 100) l.length [] List.nodup_nil (by simp)
  have h2 := len_of_nodup _ _ h1.1 h1.2
  have h3 := mseq_end (l := l) (h := 0) (s := 100) l.length [] List.nodup_nil (by simp) (by simp)
  rw [List.nil_append] at h2 h3
  rcases Nat.lt_or_ge (leastO l).length l.length with hlt | hge
  · have := next_least hb hlt
    unfold leastO at this
    omega
  · unfold leastO at hge ⊢; omega

theorem touch_symm (x y : Int) : touchB x y = touchB y x := by unfold touchB; rw [Bool.and_comm]
theorem lin_range : ∀ (k m : Nat), k + m = l.length → LinExt l (List.range m) (List.range' m k)
  | 0, m, h => trivial
  | k + 1, m, h => by
    rw [List.range'_succ]
    refine ⟨by omega, ?_, ?_⟩
    · unfold rdyB
      simp only [Bool.and_eq_true, List.all_eq_true, List.mem_range, Bool.or_eq_true, Bool.not_eq_true', List.contains_eq_mem, decide_eq_true_eq, decide_eq_false_iff_not]
      exact ⟨fun k hk => Or.inl hk, by omega⟩
    · have := lin_range k (m + 1) (by omega)
      rw [List.range_succ] at this
      exact this
theorem lin_id : LinExt l [] (List.range l.length) := by
  have := lin_range (l := l) l.length 0 (by omega)
  rw [List.range_zero, ← List.range_eq_range'] at this
  exact this
theorem map_id' : (List.range l.length).map (xAt l) = l := by
  apply List.ext_getElem
  · simp
  · intro k h1 h2
    rw [List.getElem_map, List.getElem_range, xAt_of h2]

variable {A : List Nat}
theorem lin_full (hA : LinExt l [] A) (hl : A.length = l.length) : A.Nodup ∧ (∀ i ∈ A, i < l.length) ∧ ∀ i, i < l.length → i ∈ A := by
  have h1 : A.Nodup := by simpa using lin_nodup A [] hA List.nodup_nil
  have h2 := lin_lt A [] hA
  exact ⟨h1, h2, all_made h1 h2 (by omega)⟩
theorem xAt_map {j : Nat} (hj : j < A.length) : xAt (A.map (xAt l)) j = xAt l A[j] := by
  rw [xAt_of (by simpa using hj), List.getElem_map]
/-- an order of a sheet, as an order of the sheet that lies in another order -/
theorem lin_comp (hA : LinExt l [] A) (hl : A.length = l.length) : ∀ (suf pre : List Nat), (∀ i ∈ pre, i < l.length) → LinExt l pre suf → LinExt (A.map (xAt l)) (pre.map A.idxOf) (suf.map A.idxOf)
  | [], pre, _, _ => trivial
  | b :: r, pre, hpre, h => by
    obtain ⟨f1, f2, f3⟩ := lin_full hA hl
    unfold LinExt at h
    obtain ⟨hb, hr, hrest⟩ := h
    have hbA := f3 b hb
    have hib : A.idxOf b < A.length := List.idxOf_lt_length_of_mem hbA
    have hgb : A[A.idxOf b] = b := List.getElem_idxOf hib
    have hr2 := (rdyB_iff hb).1 hr
    rw [List.map_cons]
    refine ⟨by simpa using hib, ?_, ?_⟩
    · rw [rdyB_iff (by simpa using hib)]
      refine ⟨by simpa using hib, ?_, fun j hj hjp => ?_⟩
      · rw [List.mem_map]
        rintro ⟨b', hb', e⟩
        have hb'A : b' ∈ A := f3 b' (hpre b' hb')
        have hib' : A.idxOf b' < A.length := List.idxOf_lt_length_of_mem hb'A
        have : b' = b := by
          rw [← List.getElem_idxOf hib', ← hgb]
          congr 1
        subst this
        exact hr2.2.1 hb'
      · intro ht
        have hjA : j < A.length := by omega
        have hja := lin_at A [] hA j hjA
        rw [List.nil_append] at hja
        have ha2 := (rdyB_iff hja.1).1 hja.2
        have hidx : A.idxOf A[j] = j := List.Nodup.idxOf_getElem f1 j hjA
        have hne : A[j] ≠ b := fun e => by rw [e] at hidx; omega
        have e1 : (A.map (xAt l))[j]'(by simpa using hjA) = l[A[j]]'hja.1 := by rw [List.getElem_map, xAt_of hja.1]
        have e2 : (A.map (xAt l))[A.idxOf b]'(by simpa using hib) = l[b]'hb := by rw [List.getElem_map, hgb, xAt_of hb]
        rw [e1, e2] at ht
        rcases Nat.lt_or_ge A[j] b with hlt | hge
        · have hin : A[j] ∈ pre := Classical.byContradiction fun hn => hr2.2.2 A[j] hlt hn ht
          exact hjp (by rw [List.mem_map]; exact ⟨A[j], hin, hidx⟩)
        · have hin : b ∈ A.take j := Classical.byContradiction fun hn => ha2.2.2 b (by omega) hn ⟨ht.2, ht.1⟩
          obtain ⟨i, hi, he⟩ := List.getElem_of_mem hin
          rw [List.length_take] at hi
          rw [List.getElem_take] at he
          have : A.idxOf b = i := by rw [← he]; exact List.Nodup.idxOf_getElem f1 i (by omega)
          omega
    · have := lin_comp hA hl r (pre ++ [b]) (fun i hi => by
        rcases List.mem_append.1 hi with hi | hi
        · exact hpre i hi
        · simp at hi; subst hi; exact hb) hrest
      rw [List.map_append] at this
      exact this
theorem comp_map (hA : LinExt l [] A) (hl : A.length = l.length) {B : List Nat} (hB : ∀ i ∈ B, i < l.length) : (B.map A.idxOf).map (xAt (A.map (xAt l))) = B.map (xAt l) := by
  obtain ⟨f1, f2, f3⟩ := lin_full hA hl
  rw [List.map_map]
  refine List.map_congr_left fun b hb => ?_
  have hib : A.idxOf b < A.length := List.idxOf_lt_length_of_mem (f3 b (hB b hb))
  show xAt (A.map (xAt l)) (A.idxOf b) = xAt l b
  rw [xAt_map hib, List.getElem_idxOf hib]

/-- Best of the works in another order: no order has fewer reaches -/
theorem best_comp (hs : 2 ≤ s) (hsp : s ≤ p) (hw : ∀ x ∈ l, WOk p x) (h10 : l.length ≤ 10) (hA : LinExt l [] A) (hl : A.length = l.length) {B : List Nat} (hB : LinExt l [] B) (hlB : B.length = l.length) :
    C p s ((bestO p s (A.map (xAt l))).map (xAt (A.map (xAt l)))) ≤ C p s (B.map (xAt l)) := by
  have hm : (A.map (xAt l)).length = l.length := by rw [List.length_map, hl]
  have h1 := lin_comp hA hl B [] (by simp) hB
  have h2 := bestO_opt (l := A.map (xAt l)) hs hsp (by omega) (lin_wok hw hA) h1 (by rw [List.length_map, hlB, hm])
  rw [comp_map hA hl (lin_lt B [] hB)] at h2
  exact h2
end

set_option maxRecDepth 100000 in
set_option maxHeartbeats 2000000 in
theorem least_any (P : Int) (A : Option Addr) (l : List Tri) (c : Nat) (w : World) (H : Nat) (hr : RdT w H A l) (hH : H ≤ w.heap.size)
    (hwk : ∀ x ∈ l, WOk P x) (h2 : 2 ≤ P) (h24 : P ≤ 24) (hl : l.length ≤ 400) :
    Calls Try.prog 28 #[.agg #[.int .i64 P, .slice A l.length c]] w fun e w' => ∃ v, e = .returned (.tuple #[v, .int .i64 0]) ∧ Own 1 ienc w' w.heap.size 3 v (natI (leastO l)) ∧ Below w.heap.size w w' := by
  obtain ⟨i0, hi0, hz0', hz1', hz2'⟩ := info_parts infoBool
  obtain ⟨j0, hj0, hy0, hy1, hy2⟩ := info_parts infoInt
  have HC := Lib.hid (sheetE_of h2 h24 hl hwk)
  have HW := Lib.hid (wok_words hwk)
  have hb22 : ∀ (k : Nat) (hk : k < l.length), 0 ≤ l[k].b ∧ l[k].b ≤ 22 := fun k hk => by have := wok_b hwk k hk; omega
  have HB := Lib.hid hb22
  have HB2 : Hid (∀ (k : Nat) (hk : k < l.length), 0 ≤ l[k].b ∧ l[k].b ≤ 100) := fun k hk => by have := hb22 k hk; omega
  clear hwk hb22
  go_enter Try.func28, Try.ntmps28
  go_wp2_with (first
    | (go_at_call 17; refine (sheetRef_any P A l c _ H (hr.below' (B' := w.heap.size) (by (repeat' first | exact Below.refl _ _ | apply Below.drew | (refine Below.setCells ?_ _ _ ?_) | (refine Below.setCell ?_ ?_ _) | (refine Below.alloc ?_ ?_ _) | (simp; done) | (simp; omega))) hH) (by simp; omega) HW.out (by omega)).mono ?_; rintro e w1 ⟨rfl, hB1⟩; rw [HC.out]
       have kS := (Blk.new w 24 #[.int .i64 P, .slice A l.length c]).below' hB1
       have c0 := kS.cell 0 (.int .i64 P) rfl
       have c1 := kS.cell 1 (.slice A l.length c) rfl
       have n1 := kS.lt
       have hBw : Below w.heap.size w w1 := Below.trans (b := w.alloc (.cells #[.int .i64 P, .slice A l.length c] 24)) (by (repeat' first | exact Below.refl _ _ | apply Below.drew | (refine Below.setCells ?_ _ _ ?_) | (refine Below.setCell ?_ ?_ _) | (refine Below.alloc ?_ ?_ _) | (simp; done) | (simp; omega))) (hB1.mono (by simp)))
    | (at_make; refine wpList_make_full _ rfl _ _ _ rfl w1.heap.size _ i0 _ 1 Try.underlying66 hi0 hz0' hz1' .i64 .i64 _ _ l.length rfl rfl rfl rfl (by rw [hz2']; omega) (by unfold maxLen; omega) (Nat.le_refl _) ?_; intro w2 hown0 hg0
       have hD0 := doneRow_start hown0
       have hB2 : Below w1.heap.size w1 w2 := ⟨hg0.os, hg0.tape, hg0.output, hg0.size, fun k hk => hg0.block k hk (by simp)⟩
       have kS2 := kS.below hB2 n1
       have c2 := kS2.cell 0 (.int .i64 P) rfl
       have c3 := kS2.cell 1 (.slice A l.length c) rfl))
  clear hown0 hg0
  obtain ⟨w0, rfl⟩ : ∃ w0 : World, w0 = w1 := ⟨_, rfl⟩
  go_loopg [6] (l.length + 1) (fun gk v wr => ∃ (M : List Nat) (Av : Option Addr) (cv f : Nat), v = .slice Av M.length cv ∧ f + M.length = l.length ∧ gk = f + 1 ∧ Hid M.Nodup ∧ Hid (∀ x ∈ M, x < l.length) ∧ Hid (leastO l = M ++ mseq l 0 100 f M) ∧ DoneRow wr w0.heap.size w0.heap.size l.length l.length M ∧ Own 1 ienc wr w0.heap.size 3 v (natI M) ∧ Below w0.heap.size w0 wr)
  case atStart =>
    exact ⟨[], none, 0, l.length, rfl, by simp, rfl, by simp [Hid], by simp [Hid], rfl, hD0, Own.nil _ _ _, hB2⟩
  case round =>
    obtain ⟨M, Av, cv, f, rfl, hf, rfl, hnd, hM, hinv, hD, hown, hB⟩ := hrel
    clear hD0 hB2 kS2 c0 c1 c2 c3
    have kS2 := kS.below hB n1
    have c2 := kS2.cell 0 (.int .i64 P) rfl
    have c3 := kS2.cell 1 (.slice A l.length c) rfl
    have hBr : Below w.heap.size w wr := hBw.trans (hB.mono (by omega))
    have hHr : H ≤ wr.heap.size := by have := hBr.size; omega
    have hzr := hB.size
    have hzr2 := hBr.size
    by_cases hlen : M.length < l.length
    · have hlen' : (M.length : Int) < (l.length : Int) := by omega
      have hnx := next_least HB.out hlen
      obtain ⟨q0, e0, hq0, hcan⟩ := next_can hnx
      obtain ⟨p1, p2⟩ := snoc_ok hnd.out hM.out hq0 (can_new hcan)
      have HN1 := Lib.hid p1
      have HM1 := Lib.hid p2
      have HE0 := Lib.hid e0
      obtain ⟨f', rfl⟩ : ∃ f', f = f' + 1 := ⟨f - 1, by omega⟩
      have HMS := Lib.hid (show mseq l 0 100 (f' + 1) M = q0 :: mseq l 0 100 f' (M ++ [q0]) by rw [mseq, if_pos hnx, e0]; rfl)
      clear hnx e0 hcan p1 p2
      go_wp2_with fail
      obtain ⟨wo, rfl⟩ : ∃ wo : World, wo = wr := ⟨_, rfl⟩
      go_loopw [7, 8] (fun bst k wr => ∃ (j : Nat) (q : Int), j ≤ l.length ∧ k = .int .i64 j ∧ bst = .int .i64 q ∧ -1 ≤ q ∧ q < j ∧ Hid (q = nextUpto l M 0 100 j) ∧ Below wo.heap.size wo wr) (fun _ k _ => l.length - (intOf k).toNat)
      case atStart => exact ⟨0, -1, by omega, rfl, rfl, by omega, by omega, rfl, Below.refl _ _⟩
      case round =>
        obtain ⟨j, q, hj, rfl, rfl, hq1, hq2, hqn, hBi⟩ := hrel
        have kS3 := kS2.below' hBi
        have s0 := kS3.cell 0 (.int .i64 P) rfl
        have s1 := kS3.cell 1 (.slice A l.length c) rfl
        have sn := kS3.lt
        have hBi' := hBr.trans (hBi.mono hzr2)
        have hDi := hD.below hBi
        have hHi : H ≤ wr.heap.size := by have := hBi'.size; omega
        by_cases hlt : j < l.length
        · have hbj := HB.out j hlt
          have HHE : Hid (heldB 0 100 (xAt l j).b = true) := by rw [Hid, xAt_of hlt, held_iff]; omega
          have hstep : Hid (nextUpto l M 0 100 (j + 1) = if heldB 0 100 (xAt l j).b && (decide (q < 0) || decide (l[j].b < (xAt l q.toNat).b)) && rdyB l M j then (j : Int) else q) := by
            rw [Hid, nextUpto, hqn.out, xAt_of hlt]
          obtain ⟨b, o, hA, hb0, h0, h1, h2'⟩ := (hr.below' hBi' hH).tri hlt
          have hAA := Lib.hid hA
          subst hA
          have hbb := lt_of_cell h0
          have k0 : (0 : Int) ≤ (j : Int) := by omega
          have k1 : (j : Int) < (l.length : Int) := by omega
          by_cases hneg : q < 0
          · cases hrb : rdyB l M j
            · have HR := Lib.hid hrb
              clear hrb
              go_wp2_with fail
              refine wp_region_ex (by kernel_rfl) (by kernel_rfl) ?_
              repeat (go_big_quiet_step (first
                | (go_at_call 62; refine (ready05_ex P _ l c _ M l.length j _ _ wr.heap.size ((hr.below' hBi' hH).more hHi) hDi.rd (Nat.le_refl _) HB2.out (by omega) hlt).mono ?_; rintro e w' ⟨rfl, hg⟩; rw [HR.out]; exact ⟨rfl, hg⟩)
                | fail))
              refine wpQuiet_nil ?_
              intro _ hw'
              obtain ⟨g, hw''⟩ := hw'
              subst hw''
              have hqq := g.h
              go_wp2_with fail
              go_roundw
              case rel => exact ⟨j + 1, q, by omega, by go_num, rfl, hq1, by omega, (by rw [Hid, hstep.out, HHE.out, HR.out]; simp), hBi.trans (hqq.mono hBi.size)⟩
              case measure => simp [intOf]; omega
            · have HR := Lib.hid hrb
              clear hrb
              go_wp2_with fail
              refine wp_region_ex (by kernel_rfl) (by kernel_rfl) ?_
              repeat (go_big_quiet_step (first
                | (go_at_call 62; refine (ready05_ex P _ l c _ M l.length j _ _ wr.heap.size ((hr.below' hBi' hH).more hHi) hDi.rd (Nat.le_refl _) HB2.out (by omega) hlt).mono ?_; rintro e w' ⟨rfl, hg⟩; rw [HR.out]; exact ⟨rfl, hg⟩)
                | fail))
              refine wpQuiet_nil ?_
              intro _ hw'
              obtain ⟨g, hw''⟩ := hw'
              subst hw''
              have hqq := g.h
              go_wp2_with fail
              go_roundw
              case rel => exact ⟨j + 1, (j : Int), by omega, by go_num, rfl, by omega, by omega, (by rw [Hid, hstep.out, HHE.out, HR.out]; simp [hneg]), hBi.trans (hqq.mono hBi.size)⟩
              case measure => simp [intOf]; omega
          · have hz : q.toNat < l.length := by omega
            obtain ⟨b', o', hA', hb0', g0, g1, g2⟩ := (hr.below' hBi' hH).tri hz
            rw [hAA.out] at hA'
            injection hA' with hA'
            injection hA' with e1 e2 _
            subst e1
            subst e2
            have k4 : (0 : Int) ≤ q := by omega
            have k6 : decide (q < 0) = false := decide_eq_false hneg
            have k5 : q < (l.length : Int) := by omega
            have hzb := xAt_of hz
            have hzz : Hid ((xAt l q.toNat).b = l[q.toNat].b) := by rw [Hid, hzb]
            clear hzb
            by_cases hlb : l[j].b < l[q.toNat].b
            · cases hrb : rdyB l M j
              · have HR := Lib.hid hrb
                clear hrb
                go_wp2_with fail
                refine wp_region_ex (by kernel_rfl) (by kernel_rfl) ?_
                repeat (go_big_quiet_step (first
                  | (go_at_call 62; refine (ready05_ex P _ l c _ M l.length j _ _ wr.heap.size ((hr.below' hBi' hH).more hHi) hDi.rd (Nat.le_refl _) HB2.out (by omega) hlt).mono ?_; rintro e w' ⟨rfl, hg⟩; rw [HR.out]; exact ⟨rfl, hg⟩)
                  | fail))
                refine wpQuiet_nil ?_
                intro _ hw'
                obtain ⟨g, hw''⟩ := hw'
                subst hw''
                have hqq := g.h
                go_wp2_with fail
                go_roundw
                case rel => exact ⟨j + 1, q, by omega, by go_num, rfl, hq1, by omega, (by rw [Hid, hstep.out, HHE.out, HR.out, hzz.out]; simp), hBi.trans (hqq.mono hBi.size)⟩
                case measure => simp [intOf]; omega
              · have HR := Lib.hid hrb
                clear hrb
                go_wp2_with fail
                refine wp_region_ex (by kernel_rfl) (by kernel_rfl) ?_
                repeat (go_big_quiet_step (first
                  | (go_at_call 62; refine (ready05_ex P _ l c _ M l.length j _ _ wr.heap.size ((hr.below' hBi' hH).more hHi) hDi.rd (Nat.le_refl _) HB2.out (by omega) hlt).mono ?_; rintro e w' ⟨rfl, hg⟩; rw [HR.out]; exact ⟨rfl, hg⟩)
                  | fail))
                refine wpQuiet_nil ?_
                intro _ hw'
                obtain ⟨g, hw''⟩ := hw'
                subst hw''
                have hqq := g.h
                go_wp2_with fail
                go_roundw
                case rel => exact ⟨j + 1, (j : Int), by omega, by go_num, rfl, by omega, by omega, (by rw [Hid, hstep.out, HHE.out, HR.out, hzz.out]; simp [hlb]), hBi.trans (hqq.mono hBi.size)⟩
                case measure => simp [intOf]; omega
            · have k7 : decide (l[j].b < l[q.toNat].b) = false := decide_eq_false hlb
              have HR : Hid (rdyB l M j = rdyB l M j) := rfl
              go_wp2_with fail
              refine wp_region_ex (by kernel_rfl) (by kernel_rfl) ?_
              repeat (go_big_quiet_step (first
                | (go_at_call 62; refine (ready05_ex P _ l c _ M l.length j _ _ wr.heap.size ((hr.below' hBi' hH).more hHi) hDi.rd (Nat.le_refl _) HB2.out (by omega) hlt).mono ?_; rintro e w' ⟨rfl, hg⟩; rw [HR.out]; exact ⟨rfl, hg⟩)
                | fail))
              refine wpQuiet_nil ?_
              intro _ hw'
              obtain ⟨g, hw''⟩ := hw'
              subst hw''
              have hqq := g.h
              go_wp2_with fail
              go_roundw
              case rel => exact ⟨j + 1, q, by omega, by go_num, rfl, hq1, by omega, (by rw [Hid, hstep.out, HHE.out, hzz.out, k6, k7]; simp), hBi.trans (hqq.mono hBi.size)⟩
              case measure => simp [intOf]; omega
        · have e1 : j = l.length := by omega
          subst e1
          have hq : q = q0 := by rw [hqn.out, HE0.out]
          subst hq
          have hqi : (q0 : Int) < (l.length : Int) := by omega
          have hq0' : (0 : Int) ≤ (q0 : Int) := by omega
          have hcell := hDi.cell hq0
          have hfr := hDi.frozen q0
          obtain ⟨hbg, hgl, hcur⟩ := hDi.heap
          obtain ⟨hDs, hgs⟩ := hDi.store q0
          have hownI := hown.below hBi
          have hneI := Own.ne_block hownI hcur.choose_spec (by decide)
          have hBi2 : Below w0.heap.size w0 wr := hB.trans (hBi.mono hzr)
          have hown4 := Own.far' hownI (p := ⟨w0.heap.size, q0, none⟩) hneI (.bool true)
          have hzi2 := hBi2.size
          have hcn : ((wr.setCell ⟨w0.heap.size, q0, none⟩ (.bool true)).alloc (.cells #[.int .i64 (q0 : Int)] 3)).cell? ⟨wr.heap.size, 0, none⟩ = some (.int .i64 (q0 : Int)) := by
            have := World.cell?_alloc_new (wr.setCell ⟨w0.heap.size, q0, none⟩ (.bool true)) #[.int .i64 (q0 : Int)] 3 0
            simpa using this
          have HCN := Lib.hid hcn
          clear hcn
          go_wp2_with (first
            | (at_builtin; refine wpList_append_i rfl (.tmp 58) (.tmp 60) _ rfl w0.heap.size _ j0 _ Try.underlying43 hj0 hy0 hy1 hy2 rfl _ (natI M) rfl (hown4.alloc _) wr.heap.size (q0 : Int) rfl HCN.out (by rw [natI_len]; omega) (by simp; omega) ?_; intro v8 w8 hown8 hg8
               obtain ⟨A8, c8, hv8⟩ : ∃ A8 c8, v8 = .slice A8 (M.length + 1) c8 := by
                 obtain ⟨A8, c8, e8, _, _⟩ := Own.rd int_len hown8
                 refine ⟨A8, c8, ?_⟩
                 rw [e8, ← natI_snoc, natI_len, List.length_append]; rfl
               subst hv8)
            | fail)
          have hDq := (hDs.alloc (.cells #[.int .i64 q0] 3)).other hg8 (Own.ne_block hown4 hDs.heap.2.2.choose_spec (by decide))
          have hBq : Below w0.heap.size w0 w8 := Own.grown (hown4.alloc _) ((hBi2.setCell (p := ⟨w0.heap.size, q0, none⟩) (Nat.le_refl _) (.bool true)).alloc (by simp; omega) (.cells #[.int .i64 q0] 3)) hg8 (by simp; omega)
          go_roundg (f' + 1)
          case measure => omega
          case rel => exact ⟨M ++ [q0], A8, c8, f', by simp, by simp; omega, rfl, HN1, HM1, by rw [Hid, hinv.out, HMS.out]; simp, hDq, by rw [natI_snoc]; exact hown8, hBq⟩
    · have hlen' : ¬ (M.length : Int) < (l.length : Int) := by omega
      have hf0 : f = 0 := by omega
      subst hf0
      go_wp2_with fail
      go_ret2
      exact ⟨_, rfl, by rw [hinv.out]; simp only [mseq, List.append_nil]; exact hown.base (by omega), hBr⟩
end Go.Proofs.Ytogkgoabonbkkaa
