/- torchonref15: Quick. -/
import Derived.Test.YtogkgoabonbkkaaRMuch
import Derived.Test.YtogkgoabonbkkaaLaw
set_option linter.unusedSimpArgs false
set_option linter.unusedVariables false
namespace Go.Proofs.Ytogkgoabonbkkaa
open Go Go.RowKit Tor

def mostUpto (f : Nat → Nat) : Nat → Nat
  | 0 => 0
  | k + 1 => f (bestUpto f (k + 1))
theorem most_up {f : Nat → Nat} {j : Nat} (h : mostUpto f j < f j) : bestUpto f (j + 1) = j ∧ mostUpto f (j + 1) = f j := by
  have e : bestUpto f (j + 1) = j := by
    cases j with
    | zero => have := bestUpto_le f 1; unfold bestUpto; split <;> rfl
    | succ j =>
      have h' : f (bestUpto f (j + 1)) < f (j + 1) := h
      rw [bestUpto, if_pos h']
  exact ⟨e, by rw [mostUpto, e]⟩
theorem most_keep {f : Nat → Nat} {j : Nat} (h : ¬ mostUpto f j < f j) : bestUpto f (j + 1) = bestUpto f j ∧ mostUpto f (j + 1) = mostUpto f j := by
  cases j with
  | zero =>
    have e : bestUpto f (0 + 1) = 0 := by unfold bestUpto; split <;> rfl
    refine ⟨e, ?_⟩
    have e2 : mostUpto f (0 + 1) = f 0 := by show f (bestUpto f (0 + 1)) = f 0; rw [e]
    rw [e2]
    have h' : ¬ 0 < f 0 := h
    show f 0 = 0
    omega
  | succ j =>
    have h' : ¬ f (bestUpto f (j + 1)) < f (j + 1) := h
    have e : bestUpto f (j + 1 + 1) = bestUpto f (j + 1) := by rw [bestUpto, if_neg h']
    exact ⟨e, by rw [mostUpto, e]; rfl⟩

section
variable {l : List Tri} {P S : Nat}
/-- 1 where nothing can be made before the hands reach -/
def late (l : List Tri) (M : List Nat) (h s : Int) : Nat := if nextUpto l M h s l.length < 0 then 1 else 0
theorem late_le (l : List Tri) (M : List Nat) (h s : Int) : late l M h s ≤ 1 := by unfold late; split <;> omega
theorem late_one {M : List Nat} {h s : Int} (hn : ¬ 0 ≤ nextUpto l M h s l.length) : late l M h s = 1 := by unfold late; rw [if_pos (by omega)]
theorem late_no {M : List Nat} {h s : Int} (hn : 0 ≤ nextUpto l M h s l.length) : late l M h s = 0 := by unfold late; rw [if_neg (by omega)]
theorem rbest_next {M : List Nat} (hS : 2 ≤ S) (hSP : S ≤ P) (hP : P ≤ 24) (hb : ∀ (k : Nat) (hk : k < l.length), 0 ≤ l[k].b ∧ l[k].b ≤ (P : Int) - 2) (hM : ∀ x ∈ M, x < l.length) (hnd : M.Nodup) (hl : M.length < l.length) :
    0 ≤ nextUpto l M (rbest l P S M) S l.length := by
  have hb0 : ∀ (k : Nat) (hk : k < l.length), 0 ≤ l[k].b := fun k hk => (hb k hk).1
  have hbest := rbest_eq (N := 4 * l.length + S) hS hSP hP hb0 (Nat.le_refl _) hM hnd
  have hbl := bestUpto_lt (offN S (4 * l.length + S) (rowsOf l M)) (P - S + 1) (by omega)
  rw [hbest] at hbl
  have hpos := much_pos (p := P) (s := S) (N := 4 * l.length + S) hl hb hS hSP (by omega)
  rw [hbest] at hpos
  unfold offN at hpos
  rw [offN_mseq (by omega) hb0 (Nat.le_refl _) hM hnd] at hpos
  refine Classical.byContradiction fun hn => ?_
  have h0 : ∀ k, mseq l (rbest l P S M) S k M = [] := fun k => by
    cases k with
    | zero => rfl
    | succ k => rw [mseq, if_neg hn]
  rw [h0] at hpos
  simp at hpos
theorem rbest_lt {M : List Nat} (hS : 2 ≤ S) (hSP : S ≤ P) (hP : P ≤ 24) : rbest l P S M ≤ 24 := by
  have := bestUpto_lt (fun h : Nat => (mseq l h S l.length M).length) (P - S + 1) (by omega)
  unfold rbest; omega
theorem rq_make' {k : Nat} {M : List Nat} {h : Int} {i : Nat} (hk : 0 < k) (hl : M.length < l.length) (hn : nextUpto l M h S l.length = i) : rq l P S k M h = stepAt l i :: rq l P S (k - 1) (M ++ [i]) h := by
  obtain ⟨k', rfl⟩ : ∃ k', k = k' + 1 := ⟨k - 1, by omega⟩
  exact rq_make hl hn
theorem rq_reach' {k : Nat} {M : List Nat} {h : Int} {b : Nat} (hk : 0 < k) (hl : M.length < l.length) (hn : ¬ 0 ≤ nextUpto l M h S l.length) (hb : rbest l P S M = b) : rq l P S k M h = ⟨1, b, .empty⟩ :: rq l P S (k - 1) M b := by
  obtain ⟨k', rfl⟩ : ∃ k', k = k' + 1 := ⟨k - 1, by omega⟩
  subst hb
  exact rq_reach hl hn
end

theorem doneRow_start {w : World} {base g n : Nat} (h : w.ownsRow base 4 1 (.slice (some ⟨g, 0, none⟩) n n) n (madeCells (Value.bool false).cells (n * 1)).toList) : DoneRow w base g n n [] := by
  unfold DoneRow Own
  rw [doneL_len]
  have e : (doneL n []).flatMap benc = (madeCells (Value.bool false).cells (n * 1)).toList := by
    rw [flat_benc, show (Value.bool false).cells = #[.bool false] from rfl, toList_madeCells_one, Nat.mul_one]
    apply List.ext_getElem
    · simp [doneL_len]
    · intro k h1 h2
      simp [doneL]
  rw [e]; exact h

theorem DoneRow.ne {w : World} {base g cap n : Nat} {M : List Nat} {v : Value} {done : List Tri} (hD : DoneRow w base g cap n M) (hO : Own 3 Tri.enc w base 63 v done) : some g ≠ v.ownBlock := by
  obtain ⟨_, _, cur, hc⟩ := hD.heap
  exact Own.ne_block hO hc (by decide)
theorem DoneRow.step {w w' : World} {base g cap n : Nat} {M : List Nat} {v : Value} {done : List Tri} {o : Obj} (hD : DoneRow w base g cap n M) (hO : Own 3 Tri.enc w base 63 v done) (hg : (w.alloc o).grownBy w' v.ownBlock) : DoneRow w' base g cap n M :=
  (hD.alloc o).other hg ((hD.alloc o).ne (hO.alloc o))

set_option maxRecDepth 100000 in
set_option maxHeartbeats 4000000 in
theorem rQuick_ok (P S : Nat) (A : Option Addr) (l : List Tri) (c : Nat) (w : World) (H : Nat) (hr : RdT w H A l) (hH : H ≤ w.heap.size)
    (hw : ∀ (k : Nat) (hk : k < l.length), l[k].s.size ≤ 9223372036854775807) (hchk : chkE P l S = 0)
    (hb : ∀ (k : Nat) (hk : k < l.length), 0 ≤ l[k].b ∧ l[k].b ≤ (P : Int) - 2) (hl : l.length ≤ 400) (b1 : 2 ≤ S) (b2 : S ≤ P) (b3 : P ≤ 24) :
    Calls Try.prog 13 #[.agg #[.int .i64 P, .slice A l.length c], .int .i64 S] w fun e w' => ∃ v, e = .returned (.tuple #[v, .int .i64 0]) ∧ Own 3 Tri.enc w' w.heap.size 63 v (rq l P S (2 * l.length + 1) [] (-1)) ∧ Below w.heap.size w w' := by
  obtain ⟨i0, hi0, hz0', hz1', hz2'⟩ := info_parts infoBool
  obtain ⟨j0, hj0, hy0, hy1, hy2⟩ := info_parts infoStep
  have HC := Lib.hid hchk
  have HB := Lib.hid hb
  have HB2 : Hid (∀ (k : Nat) (hk : k < l.length), 0 ≤ l[k].b ∧ l[k].b ≤ 100) := fun k hk => by have := hb k hk; omega
  have HW := Lib.hid hw
  have b1' : (2 : Int) ≤ S := by omega
  have b2' : (S : Int) ≤ P := by omega
  have b3' : (P : Int) ≤ 24 := by omega
  clear hchk hb hw
  go_enter Try.func13, Try.ntmps13
  go_wp2_with (first
    | (go_at_call 41; refine (rcheck_any P A l c S _ H (hr.below' (B' := w.heap.size) (by (repeat' first | exact Below.refl _ _ | apply Below.drew | (refine Below.setCells ?_ _ _ ?_) | (refine Below.setCell ?_ ?_ _) | (refine Below.alloc ?_ ?_ _) | (simp; done) | (simp; omega))) hH) (by simp; omega) HW.out (by omega)).mono ?_; rintro e w1 ⟨rfl, hB1⟩; rw [HC.out]
       have kS := (Blk.new w 24 #[.int .i64 P, .slice A l.length c]).below' hB1
       have c0 := kS.cell 0 (.int .i64 P) rfl
       have c1 := kS.cell 1 (.slice A l.length c) rfl
       have n1 := kS.lt
       have hBw : Below w.heap.size w w1 := Below.trans (b := w.alloc (.cells #[.int .i64 P, .slice A l.length c] 24)) (by (repeat' first | exact Below.refl _ _ | apply Below.drew | (refine Below.setCells ?_ _ _ ?_) | (refine Below.setCell ?_ ?_ _) | (refine Below.alloc ?_ ?_ _) | (simp; done) | (simp; omega))) (hB1.mono (by simp)))
    | (at_make; refine wpList_make_full _ rfl _ _ _ rfl w1.heap.size _ i0 _ 1 Try.underlying66 hi0 hz0' hz1' .i64 .i64 _ _ l.length rfl rfl rfl rfl (by rw [hz2']; omega) (by unfold maxLen; omega) (Nat.le_refl _) ?_; intro w2 hown0 hg0
       have hD0 := doneRow_start hown0
       have hB2 : Below w1.heap.size w1 w2 := ⟨hg0.os, hg0.tape, hg0.output, hg0.size, fun k hk => hg0.block k hk (by simp)⟩
       have kS2 := kS.below hB2 n1
       have c2 := kS2.cell 0 (.int .i64 P) rfl
       have c3 := kS2.cell 1 (.slice A l.length c) rfl))
  clear hown0 hg0
  obtain ⟨w0, rfl⟩ : ∃ w0 : World, w0 = w1 := ⟨_, rfl⟩
  go_loopg [8, 9, 10] (2 * l.length + 1) (fun gk h v left wr => ∃ (M : List Nat) (hands : Int) (done : List Tri) (m : Nat), h = .int .i64 hands ∧ left = .int .i64 m ∧ m + M.length = l.length ∧ Hid M.Nodup ∧ Hid (∀ x ∈ M, x < l.length) ∧ -1 ≤ hands ∧ hands ≤ 24 ∧ done.length + gk ≤ 2 * l.length + 1 ∧
      2 * m + late l M hands S ≤ gk ∧ Hid (rq l P S (2 * l.length + 1) [] (-1) = done ++ rq l P S gk M hands) ∧ DoneRow wr w0.heap.size w0.heap.size l.length l.length M ∧ Own 3 Tri.enc wr w0.heap.size 63 v done ∧ Below w0.heap.size w0 wr)
  case atStart =>
    exact ⟨[], -1, [], l.length, rfl, rfl, by simp, by simp [Hid], by simp [Hid], by omega, by omega, by simp, by have := late_le l [] (-1) S; omega, by simp [Hid], hD0, Own.nil _ _ _, hB2⟩
  case round =>
    obtain ⟨M, hands, done, m, rfl, rfl, hm, hnd, hM, hh1, hh2, hdl, hgk, hinv, hD, hown, hB⟩ := hrel
    clear hD0 hB2 kS2 c0 c1 c2 c3
    have kS2 := kS.below hB n1
    have c2 := kS2.cell 0 (.int .i64 P) rfl
    have c3 := kS2.cell 1 (.slice A l.length c) rfl
    have hBr : Below w.heap.size w wr := hBw.trans (hB.mono (by omega))
    have hHr : H ≤ wr.heap.size := by have := hBr.size; omega
    have hzr := hB.size
    by_cases hm0 : 0 < m
    · have hm0' : (0 : Int) < (m : Int) := by omega
      obtain ⟨q, hq⟩ : ∃ q, Hid (nextUpto l M hands S l.length = q) := ⟨_, rfl⟩
      by_cases hn : 0 ≤ q
      · obtain ⟨i, e, hi, hc⟩ := next_can (by rw [hq.out]; exact hn)
        rw [hq.out] at e
        subst e
        obtain ⟨p1, p2⟩ := snoc_ok hnd.out hM.out hi (can_new hc)
        have hlen := len_of_nodup _ _ p1 p2
        rw [List.length_append, List.length_singleton] at hlen
        have HN1 := Lib.hid p1
        have HM1 := Lib.hid p2
        have HI := Lib.hid (rq_make' (P := P) (by omega : 0 < gk) (by omega : M.length < l.length) hq.out)
        obtain ⟨hbg, hgl, hcur⟩ := hD.heap
        have k2 : (0 : Int) ≤ (i : Int) := by omega
        have k3 : (i : Int) < (l.length : Int) := by omega
        clear p1 p2 hc
        go_wp2_with (first
          | (go_at_call 42; refine (rnext_any P A l c _ M l.length hands S wr wr.heap.size ((hr.below' hBr hH).more hHr) hD.rd (Nat.le_refl _) HB2.out (by omega) (by omega) (by omega) (by omega) (by omega)).mono ?_; rintro e w3 ⟨rfl, hB3⟩; rw [hq.out]
             have hD3 := hD.below hB3
             have hz3 := hB3.size
             have hcell := hD3.cell hi
             have hfr := hD3.frozen i
             obtain ⟨hD4, hg4⟩ := hD3.store i
             have hB3' := hB.trans (hB3.mono hzr)
             have hne3 := hD3.ne (hown.below hB3)
             have hown4 := Own.far' (hown.below hB3) (p := ⟨w0.heap.size, i, none⟩) hne3 (.bool true)
             have hB4 : Below w0.heap.size w0 (w3.setCell ⟨w0.heap.size, i, none⟩ (.bool true)) := hB3'.grown hg4 (by omega) (fun k hk => by simp at hk; omega)
             have kS4 := kS.below hB4 n1
             have d1 := kS4.cell 1 (.slice A l.length c) rfl
             have hz4 := hB4.size
             have hr4 := hr.below' (hBw.trans (hB4.mono (by omega))) hH
             obtain ⟨b, o, rfl, hb0, h0, h1, h2⟩ := hr4.tri hi)
          | (go_at_call 43; refine (rstep_any _ _).mono ?_; rintro e w5 ⟨rfl, hB5⟩)
          | (at_builtin; refine wpList_append_tri rfl (.tmp 41) (.tmp 48) _ rfl w0.heap.size _ j0 _ Try.underlying27 hj0 hy0 hy1 hy2 rfl _ done rfl ((hown4.below hB5).alloc _) w5.heap.size (stepOf l[i]) rfl (World.cell?_alloc_new _ _ _ 0) (World.cell?_alloc_new _ _ _ 1) (World.cell?_alloc_new _ _ _ 2) (by omega) (by have := hB5.size; simp; omega) ?_; intro v' w6 hown6 hg6))
        have hz5 := hB5.size
        have hD6 := (hD4.below hB5).step (hown4.below hB5) hg6
        have hB6 : Below w0.heap.size w0 w6 := Own.grown ((hown4.below hB5).alloc (.cells #[.int .i64 (stepOf l[i]).a, .int .i64 (stepOf l[i]).b, .string (stepOf l[i]).s] 63)) ((hB4.trans (hB5.mono hz4)).alloc (by omega) _) hg6 (by simp; omega)
        go_roundg (gk - 1)
        case measure => omega
        case rel =>
          refine ⟨M ++ [i], hands, done ++ [stepOf l[i]], m - 1, rfl, by go_num, by simp; omega, HN1, HM1, hh1, hh2, by simp; omega, by have := late_le l (M ++ [i]) hands S; omega, ?_, hD6, hown6, hB6⟩
          rw [Hid, hinv.out, HI.out]
          rw [stepAt_of hi]; simp
      · obtain ⟨be0, HBE⟩ : ∃ be0 : Nat, Hid (rbest l P S M = be0) := ⟨_, rfl⟩
        have hn' : ¬ 0 ≤ nextUpto l M hands S l.length := by rw [hq.out]; exact hn
        have HL := Lib.hid (late_one hn')
        have hgk1 : 2 * m + 1 ≤ gk := by rw [HL.out] at hgk; exact hgk
        have HI := Lib.hid (rq_reach' (P := P) (by omega : 0 < gk) (by omega : M.length < l.length) hn' HBE.out)
        have HNX := Lib.hid (rbest_next b1 b2 b3 HB.out hM.out hnd.out (by omega))
        have hbe := rbest_lt (l := l) (M := M) b1 b2 b3
        rw [HBE.out] at hbe
        have hq0 : decide (0 ≤ q) = false := decide_eq_false hn
        clear hn'
        go_wp2_with (go_at_call 42; refine (rnext_any P A l c _ M l.length hands S wr wr.heap.size ((hr.below' hBr hH).more hHr) hD.rd (Nat.le_refl _) HB2.out (by omega) (by omega) (by omega) (by omega) (by omega)).mono ?_; rintro e w3 ⟨rfl, hB3⟩; rw [hq.out]
                     have hD3 := hD.below hB3
                     have hz3 := hB3.size
                     have hB3' := hB.trans (hB3.mono hzr)
                     have hown3 := hown.below hB3)
        obtain ⟨wo, rfl⟩ : ∃ wo : World, wo = wr := ⟨_, rfl⟩
        go_loopw [12, 13, 14] (fun bst mst k wr => ∃ (j be mo : Nat), (j : Int) ≤ (P : Int) - S + 1 ∧ k = .int .i64 j ∧ bst = .int .i64 be ∧ mst = .int .i64 mo ∧ Hid (be = bestUpto (fun h : Nat => (mseq l h S l.length M).length) j) ∧ Hid (mo = mostUpto (fun h : Nat => (mseq l h S l.length M).length) j) ∧ Below w3.heap.size w3 wr) (fun _ _ k _ => ((P : Int) - S + 1 - intOf k).toNat)
        case atStart => exact ⟨0, 0, 0, by omega, rfl, rfl, rfl, rfl, rfl, Below.refl _ _⟩
        case round =>
          obtain ⟨j, be, mo, hj, rfl, rfl, rfl, hbb, hmo, hBm⟩ := hrel
          have hB4 := hB3'.trans (hBm.mono (by omega))
          have kS4 := kS.below hB4 n1
          have d0 := kS4.cell 0 (.int .i64 P) rfl
          have d1 := kS4.cell 1 (.slice A l.length c) rfl
          have hBr4 := hBw.trans (hB4.mono (by omega))
          have hzm := hBr4.size
          have hDm := hD3.below hBm
          by_cases hjp : (j : Int) ≤ (P : Int) - S
          · obtain ⟨nn, hnn⟩ : ∃ nn : Nat, Hid ((mseq l j S l.length M).length = nn) := ⟨_, rfl⟩
            by_cases hgt : (mo : Int) < (nn : Int)
            · have HU := Lib.hid (most_up (f := fun h : Nat => (mseq l h S l.length M).length) (j := j) (by rw [← hmo.out]; show mo < (mseq l j S l.length M).length; rw [hnn.out]; omega))
              go_wp2_with (go_at_call 44; refine (much_any' P A l c _ M l.length j S wr wr.heap.size ((hr.below' hBr4 hH).more (by omega)) hDm.rd (Nat.le_refl _) HB2.out (by omega) (by omega) (by omega) (by omega) (by omega) (by omega) hnd.out hM.out).mono ?_; rintro e w5 ⟨rfl, hB5⟩; rw [hnn.out])
              go_roundw
              case rel => exact ⟨j + 1, j, nn, by omega, by go_num, rfl, rfl, HU.out.1.symm, (hnn.out.symm.trans HU.out.2.symm), hBm.trans (hB5.mono hBm.size)⟩
              case measure => simp [intOf]; omega
            · have HU := Lib.hid (most_keep (f := fun h : Nat => (mseq l h S l.length M).length) (j := j) (by rw [← hmo.out]; show ¬ mo < (mseq l j S l.length M).length; rw [hnn.out]; omega))
              have hgt' : decide ((mo : Int) < (nn : Int)) = false := decide_eq_false hgt
              go_wp2_with (go_at_call 44; refine (much_any' P A l c _ M l.length j S wr wr.heap.size ((hr.below' hBr4 hH).more (by omega)) hDm.rd (Nat.le_refl _) HB2.out (by omega) (by omega) (by omega) (by omega) (by omega) (by omega) hnd.out hM.out).mono ?_; rintro e w5 ⟨rfl, hB5⟩; rw [hnn.out])
              go_roundw
              case rel => exact ⟨j + 1, be, mo, by omega, by go_num, rfl, rfl, hbb.out.trans HU.out.1.symm, hmo.out.trans HU.out.2.symm, hBm.trans (hB5.mono hBm.size)⟩
              case measure => simp [intOf]; omega
          · have hbe1 : be = be0 := by
              rw [hbb.out, ← HBE.out]
              unfold rbest
              congr 1; omega
            subst hbe1
            have hownm := hown3.below hBm
            have hz4 := hB4.size
            go_wp2_with (at_builtin; refine wpList_append_tri rfl (.tmp 71) (.tmp 74) _ rfl w0.heap.size _ j0 _ Try.underlying27 hj0 hy0 hy1 hy2 rfl _ done rfl (hownm.alloc _) wr.heap.size ⟨1, be, .empty⟩ rfl (World.cell?_alloc_new _ _ _ 0) (World.cell?_alloc_new _ _ _ 1) (World.cell?_alloc_new _ _ _ 2) (by omega) (by simp; omega) ?_; intro v' w6 hown6 hg6)
            have hD6 := hDm.step hownm hg6
            have hB6 : Below w0.heap.size w0 w6 := Own.grown (hownm.alloc (.cells #[.int .i64 1, .int .i64 be, .string .empty] 63)) (hB4.alloc (by omega) _) hg6 (by simp; omega)
            go_roundg (gk - 1)
            case measure => omega
            case rel =>
              refine ⟨M, be, done ++ [⟨1, be, .empty⟩], m, rfl, rfl, hm, hnd, hM, by omega, by omega, by simp; omega, ?_, ?_, hD6, hown6, hB6⟩
              · have := late_no (l := l) (M := M) (h := (be : Int)) (s := S) (by rw [← HBE.out]; exact HNX.out)
                omega
              · rw [Hid, hinv.out, HI.out]; simp
    · go_wp2_with fail
      go_ret2
      have hMl : ¬ M.length < l.length := by omega
      exact ⟨_, rfl, by rw [hinv.out, rq_end hMl, List.append_nil]; exact hown.base (by omega), hBr⟩

end Go.Proofs.Ytogkgoabonbkkaa
