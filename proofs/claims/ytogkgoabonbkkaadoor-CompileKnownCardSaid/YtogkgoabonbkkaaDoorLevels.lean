/- traces.Levels. -/
import Derived.Test.YtogkgoabonbkkaaDoorFew
import Derived.BigRegion
set_option linter.unusedSimpArgs false
set_option linter.unusedVariables false
namespace Go.Proofs.YtogkgoabonbkkaaDoor
open Go Go.RowKit Tor

/-- levels of the first works, and what comes next at each place -/
structure LvInv (l : List Tri) (L : List Nat) (N : Nat → Nat) : Prop where
  le : ∀ q, N q ≤ L.length
  len : L.length ≤ l.length
  nx : ∀ (k : Nat) (hk : k < L.length) (hk' : k < l.length) (q : Nat), (l[k].b = q ∨ l[k].b + 1 = q) → L[k] < N q
  ord : ∀ (k i : Nat) (hki : k < i) (hi : i < L.length) (hi' : i < l.length), touchB l[k].b l[i].b = true → L[k] < L[i]

theorem LvInv.start (l : List Tri) : LvInv l [] (fun _ => 0) := ⟨fun _ => Nat.le_refl _, Nat.zero_le _, fun k hk => by simp at hk, fun k i _ hi => by simp at hi⟩

theorem LvInv.step {l : List Tri} {L : List Nat} {N : Nat → Nat} {t n : Nat} (h : LvInv l L N) (hlt : L.length < l.length) (ht : l[L.length].b = t) (hn1 : N t ≤ n) (hn2 : N (t + 1) ≤ n) (hn3 : n ≤ L.length) :
    LvInv l (L ++ [n]) (fun q => if q = t ∨ q = t + 1 then n + 1 else N q) := by
  refine ⟨fun q => ?_, by simp; omega, fun k hk hk' q hq => ?_, fun k i hki hi hi' hto => ?_⟩
  · have := h.le q
    split <;> simp <;> omega
  · simp only [List.length_append, List.length_cons, List.length_nil] at hk
    by_cases e : k < L.length
    · rw [List.getElem_append_left e]
      have := h.nx k e hk' q hq
      split
      · rename_i hqt
        rcases hqt with rfl | rfl <;> omega
      · exact this
    · obtain rfl : k = L.length := by omega
      rw [List.getElem_append_right (by omega)]
      simp only [Nat.sub_self, List.getElem_cons_zero]
      rw [if_pos (by omega)]
      omega
  · simp only [List.length_append, List.length_cons, List.length_nil] at hi
    have hkl : k < L.length := by omega
    rw [List.getElem_append_left hkl]
    by_cases e : i < L.length
    · rw [List.getElem_append_left e]
      exact h.ord k i hki e hi' hto
    · obtain rfl : i = L.length := by omega
      rw [List.getElem_append_right (by omega)]
      simp only [Nat.sub_self, List.getElem_cons_zero]
      unfold touchB at hto
      simp only [Bool.and_eq_true, decide_eq_true_eq] at hto
      rw [ht] at hto
      rcases (show l[k].b = t ∨ l[k].b + 1 = t ∨ l[k].b = t + 1 by omega) with e1 | e1 | e1
      · have := h.nx k hkl (by omega) t (Or.inl e1); omega
      · have := h.nx k hkl (by omega) t (Or.inr e1); omega
      · have := h.nx k hkl (by omega) (t + 1) (Or.inl (by omega)); omega

def LevPost (l : List Tri) (w : World) (e : Ending) (w' : World) : Prop :=
  ∃ (v : Value) (L : List Nat), e = .returned (.tuple #[v, .int .i64 0]) ∧ Own 1 nenc w' w.heap.size 3 v L ∧ L.length = l.length ∧ Hid (∀ x ∈ L, x ≤ 1000) ∧ Hid (∀ (k i : Nat) (hki : k < i) (hi : i < L.length) (hi' : i < l.length), touchB l[k].b l[i].b = true → L[k] < L[i]) ∧ Below w.heap.size w w'


set_option maxRecDepth 100000 in
set_option maxHeartbeats 2000000 in
theorem levels_any (p : Int) (A : Option Addr) (l : List Tri) (c : Nat) (w : World) (H : Nat) (hr : RdT w H A l) (hH : H ≤ w.heap.size)
    (hw : ∀ (k : Nat) (hk : k < l.length), l[k].s.size ≤ 9223372036854775807) (hchk : sheetE p l = 0)
    (hb : ∀ (k : Nat) (hk : k < l.length), 0 ≤ l[k].b ∧ l[k].b ≤ 22) (hl : l.length ≤ 400) :
    Calls Tryd.prog 46 #[.agg #[.int .i64 p, .slice A l.length c]] w (LevPost l w) := by
  obtain ⟨i0, hi0, hz0', hz1', hz2'⟩ := info_parts infoInt
  have HC := Lib.hid hchk
  have HH := Lib.hid hb
  clear hchk hb
  go_enter Tryd.func46, Tryd.ntmps46
  go_wp2_with (first
    | (go_at_call 32; refine (sheet_any p A l c _ H (hr.below' (B' := w.heap.size) (by (repeat' first | exact Below.refl _ _ | apply Below.drew | (refine Below.setCells ?_ _ _ ?_) | (refine Below.setCell ?_ ?_ _) | (refine Below.alloc ?_ ?_ _) | (simp; done) | (simp; omega))) hH) (by simp; omega) hw (by omega)).mono ?_; rintro e w1 ⟨rfl, hB1⟩; rw [HC.out]
       have kS := (Blk.new w 28 #[.int .i64 p, .slice A l.length c]).below' hB1
       have c0 := kS.cell 0 (.int .i64 p) rfl
       have c1 := kS.cell 1 (.slice A l.length c) rfl
       have n0 := kS.lt
       have hBw : Below w.heap.size w w1 := Below.trans (b := w.alloc (.cells #[.int .i64 p, .slice A l.length c] 28)) (by (repeat' first | exact Below.refl _ _ | apply Below.drew | (refine Below.setCells ?_ _ _ ?_) | (refine Below.setCell ?_ ?_ _) | (refine Below.alloc ?_ ?_ _) | (simp; done) | (simp; omega))) (hB1.mono (by simp)))
    | (at_make; refine wpList_make_own _ rfl _ _ _ rfl (w1.heap.size + 1) _ i0 _ 1 Tryd.underlying37 hi0 hz0' hz1' .i64 .i64 _ l.length rfl rfl rfl (by rw [hz2']; omega) (by unfold maxLen; omega) (by simp) ?_; intro w2 hown0 hg0
       have kS2 := (kS.alloc (.cells (Array.replicate 24 (.int .i64 0)) 104)).grown hg0 (by simp)
       have c12 := kS2.cell 1 (.slice A l.length c) rfl
       have hnb : Blk w2 w1.heap.size 104 (Array.replicate 24 (.int .i64 0)) := (Blk.new w1 104 (Array.replicate 24 (.int .i64 0))).grown hg0 (by simp)
       have hB2 : Below w1.heap.size w1 w2 := ⟨hg0.os, hg0.tape, hg0.output, Nat.le_trans (by simp) hg0.size, fun k hk => (hg0.block k (by simp; omega) (by simp)).trans (Below.heap_alloc w1 _ k hk)⟩
       rw [World.size_alloc] at hown0))
  clear c0 c1
  go_loopw [6, 22] (fun v i wr => ∃ (L : List Nat) (N : Nat → Nat) (cs : Array Value), i = .int .i64 L.length ∧ Own 1 nenc wr (w1.heap.size + 1) 3 v L ∧ Blk wr w1.heap.size 104 cs ∧ cs.size = 24 ∧ Hid (∀ q, q < 24 → cs[q]? = some (.int .i64 (N q))) ∧ LvInv l L N ∧ Below w1.heap.size w1 wr) (fun _ i _ => l.length - (intOf i).toNat)
  case atStart => exact ⟨[], fun _ => 0, _, rfl, hown0, hnb, by simp, fun q hq => by simp [hq], LvInv.start l, hB2⟩
  case round =>
    obtain ⟨L, N, cs, rfl, hown, hnbr, hcs, hcq, hinv, hB⟩ := hrel
    have hsz := hnbr.lt
    have hLl := hinv.len
    have kSr := kS.below hB n0
    have c1r := kSr.cell 1 (.slice A l.length c) rfl
    by_cases hlt : L.length < l.length
    · have hrm : RdT wr H A l := hr.below' (hBw.trans (hB.mono (by omega))) hH
      obtain ⟨b, o, rfl, hb0, h0, h1, h2⟩ := hrm.tri hlt
      have hbd := HH.out L.length hlt
      obtain ⟨t, ht⟩ : ∃ t : Nat, l[L.length].b = t := ⟨l[L.length].b.toNat, by omega⟩
      rw [ht] at h1 hbd
      have HT := Lib.hid ht
      clear ht
      have ht24 : t + 1 < 24 := by omega
      have q0 := hnbr.cell t _ (hcq.out t (by omega))
      have q1 := hnbr.cell (t + 1) _ (hcq.out (t + 1) ht24)
      have hNt := hinv.le t
      have hNt1 := hinv.le (t + 1)
      obtain ⟨x0, hx0⟩ : ∃ x0, Hid (N t = x0) := ⟨_, Lib.hid rfl⟩
      obtain ⟨x1, hx1⟩ : ∃ x1, Hid (N (t + 1) = x1) := ⟨_, Lib.hid rfl⟩
      rw [hx0.out] at q0
      rw [hx1.out] at q1
      rw [hx0.out] at hNt
      rw [hx1.out] at hNt1
      have j0 : (0 : Int) ≤ (t : Int) := by omega
      have j1 : (t : Int) < 24 := by omega
      have j2 : (0 : Int) ≤ (t : Int) + 1 := by omega
      have j3 : (t : Int) + 1 < 24 := by omega
      have e1 : IntKind.i64.wrap ((t : Int) + 1) = (t : Int) + 1 := IntWalk.i64_in _ (by omega)
      have e2 : ((t : Int) + 1).toNat = t + 1 := by omega
      by_cases hh : x0 < x1
      · have hh' : (x0 : Int) < (x1 : Int) := by omega
        go_wp2_with fail
        go_quiet (fail)
        have hbox : Blk ((wr.alloc (.cells #[.int .i64 l[L.length].a, .int .i64 t, .string l[L.length].s] 46)).drewN nq) wr.heap.size 46 #[.int .i64 l[L.length].a, .int .i64 t, .string l[L.length].s] := Blk.new wr _ _
        have hB3 : Below w1.heap.size w1 ((wr.alloc (.cells #[.int .i64 l[L.length].a, .int .i64 t, .string l[L.length].s] 46)).drewN nq) := (hB.alloc (by omega) _).drewN nq
        have hn3 : Blk ((wr.alloc (.cells #[.int .i64 l[L.length].a, .int .i64 t, .string l[L.length].s] 46)).drewN nq) w1.heap.size 104 cs := hnbr.alloc _
        have hown3 : Own 1 nenc ((wr.alloc (.cells #[.int .i64 l[L.length].a, .int .i64 t, .string l[L.length].s] 46)).drewN nq) (w1.heap.size + 1) 3 u6 L := hown.alloc _
        generalize (wr.alloc (.cells #[.int .i64 l[L.length].a, .int .i64 t, .string l[L.length].s] 46)).drewN nq = W at *
        have hWn := hn3.lt
        have hWb := hbox.lt
        go_wp2_with (first
          | (at_builtin; refine wpList_append_n rfl (.tmp 36) (.tmp 38) _ rfl (w1.heap.size + 1) _ i0 _ Tryd.underlying37 hi0 hz0' hz1' hz2' rfl _ L rfl (hown3.alloc _) W.heap.size x1 rfl (cell_new rfl) (by omega) (by simp; omega) ?_; intro v' w4 hown4 hg4))
        have hn4 := (hn3.alloc (.cells #[.int .i64 x1] 3)).grown hg4 (Own.ne_block (hown3.alloc _) (hn3.alloc (.cells #[.int .i64 x1] 3)) (by decide))
        have hb4 := (hbox.alloc (.cells #[.int .i64 x1] 3)).grown hg4 (Own.ne_block (hown3.alloc _) (hbox.alloc (.cells #[.int .i64 x1] 3)) (by decide))
        have hB4 : Below w1.heap.size w1 w4 := ((hown3.alloc (.cells #[.int .i64 x1] 3)).base (Nat.le_succ _)).grown (hB3.alloc (by omega) _) hg4 (by simp; omega)
        have p0 := hn4.cell t _ (hcq.out t (by omega))
        have p1 := hn4.cell (t + 1) _ (hcq.out (t + 1) ht24)
        have pf0 := hn4.frozen t
        have pf1 := hn4.frozen (t + 1)
        have pl := hn4.lt
        have pb := hb4.cell 1 _ rfl
        have pbl := hb4.lt
        have e3 : IntKind.i64.wrap ((x1 : Nat) + 1 : Int) = ((x1 : Nat) : Int) + 1 := IntWalk.i64_in _ (by omega)
        go_region
        go_wp2_with fail
        go_roundw
        case rel =>
          have hst := hinv.step hlt HT.out (n := x1) (by rw [hx0.out]; omega) (by rw [hx1.out]; omega) (by omega)
          refine ⟨L ++ [x1], _, _, by simp, Own.far (Own.far hown4 (p := ⟨w1.heap.size, t, none⟩) (Nat.lt_succ_self _) _) (p := ⟨w1.heap.size, t + 1, none⟩) (Nat.lt_succ_self _) _, (hn4.set_ t _).set_ (t + 1) _, by simp [hcs], fun q hq => ?_, hst, ((hB4.setCell (p := ⟨w1.heap.size, t, none⟩) (Nat.le_refl _) _).setCell (p := ⟨w1.heap.size, t + 1, none⟩) (Nat.le_refl _) _).drew⟩
          by_cases c1 : q = t + 1
          · subst c1; simp [hcs, hq]
          · by_cases c2 : q = t
            · subst c2; simp [hcs, hq, Array.getElem?_setIfInBounds]
            · rw [if_neg (by omega), Array.getElem?_setIfInBounds_ne (by omega), Array.getElem?_setIfInBounds_ne (by omega)]
              exact hcq.out q hq
        case measure => simp [intOf]; omega
      · have hh' : ¬ (x0 : Int) < (x1 : Int) := by omega
        go_wp2_with fail
        go_quiet (fail)
        have hbox : Blk ((wr.alloc (.cells #[.int .i64 l[L.length].a, .int .i64 t, .string l[L.length].s] 46)).drewN nq) wr.heap.size 46 #[.int .i64 l[L.length].a, .int .i64 t, .string l[L.length].s] := Blk.new wr _ _
        have hB3 : Below w1.heap.size w1 ((wr.alloc (.cells #[.int .i64 l[L.length].a, .int .i64 t, .string l[L.length].s] 46)).drewN nq) := (hB.alloc (by omega) _).drewN nq
        have hn3 : Blk ((wr.alloc (.cells #[.int .i64 l[L.length].a, .int .i64 t, .string l[L.length].s] 46)).drewN nq) w1.heap.size 104 cs := hnbr.alloc _
        have hown3 : Own 1 nenc ((wr.alloc (.cells #[.int .i64 l[L.length].a, .int .i64 t, .string l[L.length].s] 46)).drewN nq) (w1.heap.size + 1) 3 u6 L := hown.alloc _
        generalize (wr.alloc (.cells #[.int .i64 l[L.length].a, .int .i64 t, .string l[L.length].s] 46)).drewN nq = W at *
        have hWn := hn3.lt
        have hWb := hbox.lt
        go_wp2_with (first
          | (at_builtin; refine wpList_append_n rfl (.tmp 36) (.tmp 38) _ rfl (w1.heap.size + 1) _ i0 _ Tryd.underlying37 hi0 hz0' hz1' hz2' rfl _ L rfl (hown3.alloc _) W.heap.size x0 rfl (cell_new rfl) (by omega) (by simp; omega) ?_; intro v' w4 hown4 hg4))
        have hn4 := (hn3.alloc (.cells #[.int .i64 x0] 3)).grown hg4 (Own.ne_block (hown3.alloc _) (hn3.alloc (.cells #[.int .i64 x0] 3)) (by decide))
        have hb4 := (hbox.alloc (.cells #[.int .i64 x0] 3)).grown hg4 (Own.ne_block (hown3.alloc _) (hbox.alloc (.cells #[.int .i64 x0] 3)) (by decide))
        have hB4 : Below w1.heap.size w1 w4 := ((hown3.alloc (.cells #[.int .i64 x0] 3)).base (Nat.le_succ _)).grown (hB3.alloc (by omega) _) hg4 (by simp; omega)
        have p0 := hn4.cell t _ (hcq.out t (by omega))
        have p1 := hn4.cell (t + 1) _ (hcq.out (t + 1) ht24)
        have pf0 := hn4.frozen t
        have pf1 := hn4.frozen (t + 1)
        have pl := hn4.lt
        have pb := hb4.cell 1 _ rfl
        have pbl := hb4.lt
        have e3 : IntKind.i64.wrap ((x0 : Nat) + 1 : Int) = ((x0 : Nat) : Int) + 1 := IntWalk.i64_in _ (by omega)
        go_region
        go_wp2_with fail
        go_roundw
        case rel =>
          have hst := hinv.step hlt HT.out (n := x0) (by rw [hx0.out]; omega) (by rw [hx1.out]; omega) (by omega)
          refine ⟨L ++ [x0], _, _, by simp, Own.far (Own.far hown4 (p := ⟨w1.heap.size, t, none⟩) (Nat.lt_succ_self _) _) (p := ⟨w1.heap.size, t + 1, none⟩) (Nat.lt_succ_self _) _, (hn4.set_ t _).set_ (t + 1) _, by simp [hcs], fun q hq => ?_, hst, ((hB4.setCell (p := ⟨w1.heap.size, t, none⟩) (Nat.le_refl _) _).setCell (p := ⟨w1.heap.size, t + 1, none⟩) (Nat.le_refl _) _).drew⟩
          by_cases c1 : q = t + 1
          · subst c1; simp [hcs, hq]
          · by_cases c2 : q = t
            · subst c2; simp [hcs, hq, Array.getElem?_setIfInBounds]
            · rw [if_neg (by omega), Array.getElem?_setIfInBounds_ne (by omega), Array.getElem?_setIfInBounds_ne (by omega)]
              exact hcq.out q hq
        case measure => simp [intOf]; omega
    · have e1 : L.length = l.length := by omega
      go_wp2_with fail
      go_ret2
      exact ⟨_, L, rfl, hown.base (by have := hBw.size; omega), e1, fun x hx => by
          obtain ⟨k, hk, rfl⟩ := List.mem_iff_getElem.1 hx
          obtain ⟨t, ht⟩ : ∃ t : Nat, l[k].b = t := ⟨l[k].b.toNat, by have := HH.out k (by omega); omega⟩
          have := hinv.nx k hk (by omega) t (Or.inl ht)
          have := hinv.le t
          omega, hinv.ord, hBw.trans (hB.mono (by have := hBw.size; omega))⟩
end Go.Proofs.YtogkgoabonbkkaaDoor
