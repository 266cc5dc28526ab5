/- compile.planner.fewest. -/
import Derived.Test.YtogkgoabonbkkaaDoorFewM
set_option linter.unusedSimpArgs false
set_option linter.unusedVariables false
namespace Go.Proofs.YtogkgoabonbkkaaDoor
open Go Go.RowKit Tor Go.Maps

theorem map_heap {w w' : World} {k : TypeId} {R : Value → Option (DataW Unit × List MemPlace)} {b n : Nat} {D : DataW Unit} (h : w.ownsMap Tryd.prog k R b n D) (e : w'.heap = w.heap) : w'.ownsMap Tryd.prog k R b n D := by
  obtain ⟨es, clock, hb, r⟩ := h
  exact ⟨es, clock, by rw [e]; exact hb, r⟩

theorem look_known {p s : Int} {l : List Tri} {bf : List Nat} {w : World} {mb n : Nat} (h : MapK p s l bf w mb n) {d : Nat} {lo hi : Int} (g0 : d < 1024) (g1 : 0 ≤ lo) (g2 : lo ≤ 24) (g3 : 0 ≤ hi) (g4 : hi ≤ 24) :
    ∃ (b : Bool) (c : Int), Hid (b = true → c = few p s l bf d lo hi) ∧ ∀ k, (Instr.lookup 88 (.map (some mb)) (.agg #[.int .i64 d, .int .i64 lo, .int .i64 hi]) true).run Tryd.prog (w.drewN k) = .ok (.tuple #[.int .i64 c, .bool b]) (w.drewN k) := by
  obtain ⟨D, h1, h2⟩ := h
  have hk := key_state d lo hi (by omega) (by omega) (by omega) (by omega) (by omega) (by omega)
  have aux : ∀ k, ∃ c, (Instr.lookup 88 (.map (some mb)) (.agg #[.int .i64 d, .int .i64 lo, .int .i64 hi]) true).run Tryd.prog (w.drewN k) = .ok (.tuple #[.int .i64 c, .bool (Maps.has D (keyL d lo hi))]) (w.drewN k) ∧ D.atKey (keyL d lo hi) (.lit (.int .i64 0)) = .lit (.int .i64 c) := fun k => by
    have h1' : (w.drewN k).ownsMap Tryd.prog 95 (plainElem Tryd.prog 3) mb n D := map_heap h1 rfl
    obtain ⟨v, ps, hr, hv⟩ := h1'.look_ok lawState Tryd.underlying88 (zeroInt _) (plainElem_int Tryd.underlying3 (wf_small 0 (by omega) (by omega))) hk
    obtain ⟨c, rfl, hc, _⟩ := plainElem_int_inv Tryd.underlying3 hv
    exact ⟨c, hr, congrArg Prod.fst hc⟩
  obtain ⟨c, _, hc⟩ := aux 0
  refine ⟨Maps.has D (keyL d lo hi), c, fun hh => ?_, fun k => ?_⟩
  · have := h2 d lo hi g0 g1 g2 g3 g4 hh
    rw [hc] at this
    simpa using this
  · obtain ⟨c', hr, hc'⟩ := aux k
    rw [hc] at hc'
    have : c = c' := by simpa using hc'
    rw [this]; exact hr

theorem step_known {p s : Int} {l : List Tri} {bf : List Nat} {ops : Array Oper} {o : Oper} {a : Act} {K : Act → World → Prop} {Q : Exit → Act → World → Prop} {E : Prop} {w : World} (hgd : o.guard = none) (m x v : Operand)
    (ho : o.op = Op.mapUpdate 88 m x v) (mb n : Nat) (d : Nat) (lo hi F : Int) (hm : a.eval m = .map (some mb)) (hx : a.eval x = .agg #[.int .i64 d, .int .i64 lo, .int .i64 hi]) (hv : a.eval v = .int .i64 F)
    (hk : MapK p s l bf w mb n) (hF : F = few p s l bf d lo hi) (hn : n < 1000000000000000000) (hl : l.length ≤ 10) (g0 : d < 1024) (g1 : 0 ≤ lo) (g2 : lo ≤ 24) (g3 : 0 ≤ hi) (g4 : hi ≤ 24)
    (h : ∀ w', MapK p s l bf w' mb (n + 1) → Same (fun j => j < w.heap.size ∧ j ≠ mb) w w' → K (a.put o.dst undef) w') :
    if Region.wanted o (yielded ops a.tmps) = true then Oper.wp Tryd.prog o a w K Q else E := by
  have hw : Region.wanted o (yielded ops a.tmps) = true := by simp [Region.wanted, hgd]
  rw [if_pos hw]
  obtain ⟨D, h1, h2⟩ := hk
  have hkey := key_state d lo hi (by omega) (by omega) (by omega) (by omega) (by omega) (by omega)
  have hfb := few_bd (p := p) (s := s) (l := l) (bf := bf) d lo hi
  obtain ⟨w', hrun, r1, r2⟩ := h1.update lawState Tryd.underlying88 (by unfold maxLen; omega) hkey (plainElem_int Tryd.underlying3 (a := F) (wf_small F (by omega) (by omega)))
  subst hF
  have hK := h w' ⟨_, r1, h2.put (World.ownsMap.isMap h1) g0 g1 g2 g3 g4⟩ ⟨r2.os, r2.tape, r2.output, r2.size, fun k hk => r2.block k hk.1 (fun e => hk.2 (by simpa using e))⟩
  unfold Oper.wp
  simp [execOp, ho, hm, hx, hv, hrun, Result.andThen]
  simpa [Oper.upon] using hK


/-- what is known of the numbers -/
structure PlanOk (p s : Int) (l : List Tri) (bf : List Nat) : Prop where
  n : bf.length = l.length
  n10 : l.length ≤ 10
  b1 : 2 ≤ s
  b2 : s ≤ p
  b3 : p ≤ 24
  hb : ∀ (k : Nat) (hk : k < l.length), 0 ≤ l[k].b ∧ l[k].b ≤ p - 2
  bits : ∀ k, k < bf.length → bf.getD k 0 < 1024

theorem two_pow_le {n : Nat} (h : n ≤ 10) : 1 ≤ 2 ^ n ∧ 2 ^ n ≤ 1024 := ⟨Nat.one_le_two_pow, Nat.le_trans (Nat.pow_le_pow_right (by omega) h) (by decide)⟩

theorem next_bd {p s : Int} {x : Tri} {lo hi : Int} {j : Bool} (b1 : 2 ≤ s) (b2 : s ≤ p) (b3 : p ≤ 24) (b4 : 0 ≤ x.b) (b5 : x.b ≤ p - 2) (g1 : 0 ≤ lo) (g2 : lo ≤ 24) (g3 : 0 ≤ hi) (g4 : hi ≤ 24) :
    0 ≤ nlo s x lo j ∧ nlo s x lo j ≤ 24 ∧ 0 ≤ nhi p s x hi j ∧ nhi p s x hi j ≤ 24 := by
  unfold nlo nhi wlo whi
  cases j <;> simp <;> omega
theorem cost_free {p s : Int} {l : List Tri} {bf : List Nat} {d : Nat} {lo hi : Int} {j : Nat} (hj : j < l.length) {d2 : Nat} {lo2 hi2 c1 F2 : Int} (hf : freeB bf d j = true) (h1 : d ||| 2 ^ j = d2) (h2 : nlo s l[j] lo (joinB p s l[j] lo hi) = lo2) (h3 : nhi p s l[j] hi (joinB p s l[j] lo hi) = hi2)
    (h4 : nn (joinB p s l[j] lo hi) = c1) (h5 : few p s l bf d2 lo2 hi2 = F2) : cost p s l bf d lo hi j = some (c1 + F2) := by
  unfold cost
  rw [if_pos hf, xAt_of hj, h1, h2, h3, h4, h5]
theorem cost_not {p s : Int} {l : List Tri} {bf : List Nat} {d : Nat} {lo hi : Int} {j : Nat} (hf : freeB bf d j = false) : cost p s l bf d lo hi j = none := by
  unfold cost
  rw [if_neg (by simp [hf])]
theorem minUpto_some {g : Nat → Option Int} {n0 : Int} {j : Nat} {x m : Int} (hm : m = minUpto g n0 j) (hg : g j = some x) : min m x = minUpto g n0 (j + 1) := by rw [minUpto, hg, hm]
theorem minUpto_none {g : Nat → Option Int} {n0 : Int} {j : Nat} {m : Int} (hm : m = minUpto g n0 j) (hg : g j = none) : m = minUpto g n0 (j + 1) := by rw [minUpto, hg, hm]
theorem pow_step {n j k len : Nat} (hj : j < len) (hl : len ≤ 10) (h : n + 11 ^ (k + 1) ≤ 1000000000000000) : n + j * 11 ^ k + 11 ^ k ≤ 1000000000000000 := by
  rw [Nat.pow_succ] at h
  have : j * 11 ^ k + 11 ^ k ≤ 11 ^ k * 11 := by
    have : (j + 1) * 11 ^ k ≤ 11 * 11 ^ k := Nat.mul_le_mul_right _ (by omega)
    rw [Nat.add_mul, Nat.one_mul] at this
    rw [Nat.mul_comm (11 ^ k) 11]; exact this
  omega
theorem pow_next (n j k : Nat) : n + j * 11 ^ k + 11 ^ k = n + (j + 1) * 11 ^ k := by rw [Nat.add_mul, Nat.one_mul]; omega
theorem pow_big {n k len : Nat} (hl : len ≤ 10) (h : n + 11 ^ (k + 1) ≤ 1000000000000000) : n + len * 11 ^ k < 1000000000000000000 := by
  have h1 : len * 11 ^ k ≤ 11 * 11 ^ k := Nat.mul_le_mul_right _ (by omega)
  rw [Nat.pow_succ, Nat.mul_comm (11 ^ k) 11] at h
  generalize 11 * 11 ^ k = x at *
  generalize len * 11 ^ k = y at *
  omega
theorem pow_end {n k len : Nat} (hl : len ≤ 10) : n + len * 11 ^ k + 1 ≤ n + 11 ^ (k + 1) := by
  have h1 : len * 11 ^ k ≤ 10 * 11 ^ k := Nat.mul_le_mul_right _ hl
  have h2 : 1 ≤ 11 ^ k := Nat.one_le_pow _ _ (by omega)
  rw [Nat.pow_succ]
  omega

def FewPost (p s : Int) (l : List Tri) (bf : List Nat) (d : Nat) (lo hi : Int) (mb n : Nat) (w : World) (e : Ending) (w' : World) : Prop :=
  e = .returned (.int .i64 (few p s l bf d lo hi)) ∧ MapK p s l bf w' mb n ∧ Same (fun j => j < w.heap.size ∧ j ≠ mb) w w'


set_option maxRecDepth 100000 in
set_option maxHeartbeats 1000000 in
theorem fewest_full (p s : Int) (l : List Tri) (bf : List Nat) (ok : PlanOk p s l bf) (pb sb mb : Nat) (A : Option Addr) (c : Nat) (Ab : Option Addr) (cb H : Nat) (d : Nat) (lo hi : Int) (w : World) (n n' : Nat) (hfull : d = 2 ^ l.length - 1)
    (hP : PlanAt w pb sb mb p s A c l Ab cb bf H) (hM : MapK p s l bf w mb n) (hn : n ≤ n') :
    Calls Tryd.prog 48 #[.pointer (some ⟨pb, 0, none⟩), .agg #[.int .i64 d, .int .i64 lo, .int .i64 hi]] w (FewPost p s l bf d lo hi mb n' w) := by
  obtain ⟨n0, n10, b1, b2, b3, hb, hbits⟩ := ok
  have HF := Lib.hid hfull
  have h2 := two_pow_le n10
  have n10' : bf.length ≤ 10 := by omega
  obtain ⟨M, hMp⟩ : ∃ M : Nat, Hid (2 ^ l.length = M) := ⟨_, Lib.hid rfl⟩
  rw [hMp.out] at h2 hfull
  have HW2 : Hid (IntKind.i64.wrap (2 ^ bf.length) = (M : Int)) := by
    rw [Hid, n0, show ((2 : Int) ^ l.length) = ((2 ^ l.length : Nat) : Int) by simp, hMp.out]
    exact IntWalk.i64_in _ (by omega)
  clear n0
  have hc2 := hP.c2
  have hlpb := lt_of_cell hc2
  have i2 : (bf.length : Int) ≤ 64 := by omega
  have t1 : ((d : Int) == (M : Int) - 1) = true := by simp; omega
  clear hfull hb hbits
  go_enter Tryd.func48, Tryd.ntmps48
  go_wp2_with fail
  have hw3 : IntKind.i64.wrap ((M : Int) - 1) = (M : Int) - 1 := IntWalk.i64_in _ (by omega)
  have hw2 := HW2.out
  go_quiet (fail)
  clear hw2 hw3
  go_wp2_with fail
  go_ret
  exact ⟨ret_int (few_full HF.out).symm, (hM.below (Below.drewN (by (repeat' first | exact Below.refl _ _ | apply Below.drew | (refine Below.setCells ?_ _ _ ?_) | (refine Below.setCell ?_ ?_ _) | (refine Below.alloc ?_ ?_ _) | (simp; done) | (simp; omega))) nq)).mono hn, Same.of_below' (Below.drewN (by (repeat' first | exact Below.refl _ _ | apply Below.drew | (refine Below.setCells ?_ _ _ ?_) | (refine Below.setCell ?_ ?_ _) | (refine Below.alloc ?_ ?_ _) | (simp; done) | (simp; omega))) nq)⟩


set_option maxRecDepth 100000 in
set_option maxHeartbeats 1000000 in
theorem fewest_any (p s : Int) (l : List Tri) (bf : List Nat) (ok : PlanOk p s l bf) (pb sb mb : Nat) (A : Option Addr) (c : Nat) (Ab : Option Addr) (cb H : Nat) : ∀ (k : Nat) (d : Nat) (lo hi : Int) (w : World) (n : Nat),
    zeros l.length d ≤ k → d < 2 ^ l.length → 0 ≤ lo → lo ≤ 24 → 0 ≤ hi → hi ≤ 24 → PlanAt w pb sb mb p s A c l Ab cb bf H → MapK p s l bf w mb n → n + 11 ^ k ≤ 1000000000000000 →
    Calls Tryd.prog 48 #[.pointer (some ⟨pb, 0, none⟩), .agg #[.int .i64 d, .int .i64 lo, .int .i64 hi]] w (FewPost p s l bf d lo hi mb (n + 11 ^ k) w) := by
  intro k
  induction k with
  | zero =>
    intro d lo hi w n hz hd g1 g2 g3 g4 hP hM hn
    exact fewest_full p s l bf ok pb sb mb A c Ab cb H d lo hi w n _ (zeros_full hd (by omega)) hP hM (Nat.le_add_right _ _)
  | succ k ih =>
    intro d lo hi w n hz hd g1 g2 g3 g4 hP hM hn
    have IH := Lib.hid ih
    have OK := Lib.hid ok
    clear ih
    obtain ⟨n0, n10, b1, b2, b3, hb, hbits⟩ := ok
    have HN := Lib.hid n0
    have HB := Lib.hid hb
    have HBI := Lib.hid hbits
    have HNK := Lib.hid hn
    clear hb hbits hn
    have h2 := two_pow_le n10
    have n10' : bf.length ≤ 10 := by omega
    obtain ⟨M, hMp⟩ : ∃ M : Nat, Hid (2 ^ l.length = M) := ⟨_, rfl⟩
    rw [hMp.out] at hd h2
    have HW2 : Hid (IntKind.i64.wrap (2 ^ bf.length) = (M : Int)) := by
      rw [Hid, n0, show ((2 : Int) ^ l.length) = ((2 ^ l.length : Nat) : Int) by simp, hMp.out]
      exact IntWalk.i64_in _ (by omega)
    clear n0
    have hc2 := hP.c2
    have hlpb := lt_of_cell hc2
    have i2 : (bf.length : Int) ≤ 64 := by omega
    by_cases hfull : d = M - 1
    · exact fewest_full p s l bf OK.out pb sb mb A c Ab cb H d lo hi w n _ (by rw [hMp.out]; exact hfull) hP hM (Nat.le_add_right _ _)
    · have t1 : ((d : Int) == (M : Int) - 1) = false := by simp; omega
      have HF := Lib.hid hfull
      clear hfull
      go_enter Tryd.func48, Tryd.ntmps48
      go_wp2_with fail
      have hw3 : IntKind.i64.wrap ((M : Int) - 1) = (M : Int) - 1 := IntWalk.i64_in _ (by omega)
      have hw2 := HW2.out
      go_quiet (fail)
      clear hw2 hw3
      go_wp2_with fail
      have hB1 : Below w.heap.size w ((w.alloc (.cells #[.int .i64 d, .int .i64 lo, .int .i64 hi] 95)).drewN nq) := Below.drewN (by (repeat' first | exact Below.refl _ _ | apply Below.drew | (refine Below.setCells ?_ _ _ ?_) | (refine Below.setCell ?_ ?_ _) | (refine Below.alloc ?_ ?_ _) | (simp; done) | (simp; omega))) nq
      have hbox : Blk ((w.alloc (.cells #[.int .i64 d, .int .i64 lo, .int .i64 hi] 95)).drewN nq) w.heap.size 95 #[.int .i64 d, .int .i64 lo, .int .i64 hi] := Blk.new w _ _
      generalize (w.alloc (.cells #[.int .i64 d, .int .i64 lo, .int .i64 hi] 95)).drewN nq = W at *
      have hP1 := hP.same hM (Same.of_below' hB1)
      have hM1 := hM.below hB1
      have hHP := Lib.hid hP
      have hc3 := hP1.c3
      have hc2 := hP1.c2
      clear hP
      have hx0 := hbox.cell 0 _ rfl
      have hx1 := hbox.cell 1 _ rfl
      have hx2 := hbox.cell 2 _ rfl
      have hxl := hbox.lt
      have hlpb1 := lt_of_cell hc3
      obtain ⟨b, cv, hbc, hrun⟩ := look_known hM1 (d := d) (lo := lo) (hi := hi) (by omega) g1 g2 g3 g4
      cases b
      · go_quiet (fail)
        clear hrun
        go_wp2_with fail
        have hP2 : PlanAt (W.drewN nq) pb sb mb p s A c l Ab cb bf H := hP1.same hM1 (Same.of_below' (Below.drewN (Below.refl _ _) nq))
        have hM2 : MapK p s l bf (W.drewN nq) mb n := hM1.below (Below.drewN (Below.refl _ _) nq)
        have hbox2 : Blk (W.drewN nq) w.heap.size 95 #[.int .i64 d, .int .i64 lo, .int .i64 hi] := hbox
        have hB2 : Below w.heap.size w (W.drewN nq) := hB1.drewN nq
        have hmw := hM.lt
        clear hx0 hx1 hx2 hc3 hc2 hP1 hM1 hbox hB1 hxl hlpb1
        generalize W.drewN nq = W2 at *
        have hN1 := HN.out
        have HMIN := Lib.hid (show ((bf.length : Nat) : Int) = minUpto (cost p s l bf d lo hi) l.length 0 by rw [hN1]; rfl)
        clear hN1
        go_loopw [7, 42] (fun m i wr => ∃ (j : Nat) (mv : Int), j ≤ bf.length ∧ i = .int .i64 j ∧ m = .int .i64 mv ∧ Hid (mv = minUpto (cost p s l bf d lo hi) l.length j) ∧ 0 ≤ mv ∧ mv ≤ 10 ∧ Hid (MapK p s l bf wr mb (n + j * 11 ^ k)) ∧ Same (fun j => j < W2.heap.size ∧ j ≠ mb) W2 wr) (fun _ i _ => bf.length - (intOf i).toNat)
        case atStart => exact ⟨0, bf.length, by omega, rfl, rfl, HMIN, by omega, by omega, by rw [Hid, Nat.zero_mul]; exact hM2, Same.refl _ _⟩
        case round =>
          obtain ⟨j, mv, hj, rfl, rfl, hmv, hm0, hm1, hMr0, hS⟩ := hrel
          have hMr := hMr0.out
          have hPr := hP2.same hM2 hS
          have boxr : Blk wr w.heap.size 95 #[.int .i64 d, .int .i64 lo, .int .i64 hi] := hbox2.same hS ⟨hbox2.lt, by omega⟩
          have x0 := boxr.cell 0 _ rfl
          have x1 := boxr.cell 1 _ rfl
          have x2 := boxr.cell 2 _ rfl
          have xl := boxr.lt
          have c2 := hPr.c2
          have c2l := lt_of_cell c2
          by_cases hjn : j < bf.length
          · have hjl : j < l.length := by have := HN.out; omega
            have hbd := HB.out j hjl
            cases hfree : freeB bf d j
            · have HF2 := Lib.hid hfree
              clear hfree
              go_wp2_with (first
                | (go_at_call 49; refine (free_any pb (.int .i64 0) s (.int .i64 0) Ab bf cb d lo hi j wr wr.heap.size hPr.hbf.rd c2 hjn n10' (by omega) HBI.out).mono ?_; rintro e w2 ⟨rfl, hB3⟩; rw [HF2.out]))
              go_roundw
              case rel => exact ⟨j + 1, mv, by omega, by go_num, rfl, minUpto_none hmv.out (cost_not HF2.out), hm0, hm1, (hMr.below hB3).mono (Nat.add_le_add_left (Nat.mul_le_mul_right _ (by omega)) _), hS.step (Same.of_below' hB3)⟩
              case measure => simp [intOf]; omega
            · have HF2 := Lib.hid hfree
              have hbit := freeB_bit hfree
              have hz2 := zeros_or hjl hbit
              clear hfree
              obtain ⟨d2, hd2⟩ : ∃ x : Nat, Hid (d ||| 2 ^ j = x) := ⟨_, rfl⟩
              obtain ⟨lo2, hlo2⟩ : ∃ x : Int, Hid (nlo s l[j] lo (joinB p s l[j] lo hi) = x) := ⟨_, Lib.hid rfl⟩
              obtain ⟨hi2, hhi2⟩ : ∃ x : Int, Hid (nhi p s l[j] hi (joinB p s l[j] lo hi) = x) := ⟨_, Lib.hid rfl⟩
              obtain ⟨c1, hc1⟩ : ∃ x : Int, Hid (nn (joinB p s l[j] lo hi) = x) := ⟨_, Lib.hid rfl⟩
              have hbd2 := next_bd (lo := lo) (hi := hi) (j := joinB p s l[j] lo hi) b1 b2 b3 hbd.1 hbd.2 g1 g2 g3 g4
              rw [hlo2.out, hhi2.out] at hbd2
              have hcb := nn_bd (joinB p s l[j] lo hi)
              rw [hc1.out] at hcb
              rw [hd2.out] at hz2
              have hd2b : d2 < 2 ^ l.length := by rw [← hd2.out]; exact Nat.or_lt_two_pow (by rw [hMp.out]; exact hd) (Nat.pow_lt_pow_right (by omega) hjl)
              have HNEXT : Hid (∀ w', PlanAt w' pb sb mb p s A c l Ab cb bf H → Calls Tryd.prog 50 #[.pointer (some ⟨pb, 0, none⟩), .agg #[.int .i64 d, .int .i64 lo, .int .i64 hi], .int .i64 j] w' (Ret (.tuple #[.agg #[.int .i64 d2, .int .i64 lo2, .int .i64 hi2], .int .i64 c1]) w')) := fun w' hP' => by
                have := next_any p A l c s pb sb (.int .i64 0) (.int .i64 0) d lo hi j w' H hP'.hr hP'.hH hP'.c0 hP'.c1 hP'.s0 hP'.s1 hjl n10 (by omega) b1 b2 b3 hbd.1 hbd.2
                rw [hd2.out, hlo2.out, hhi2.out, hc1.out] at this
                exact this
              obtain ⟨F2, hF2⟩ : ∃ x : Int, Hid (few p s l bf d2 lo2 hi2 = x) := ⟨_, Lib.hid rfl⟩
              have hFb := few_bd (p := p) (s := s) (l := l) (bf := bf) d2 lo2 hi2
              rw [hF2.out] at hFb
              have HZ : Hid (zeros l.length d2 ≤ k) := by show _ ≤ _; omega
              have HD2 := Lib.hid hd2b
              have HCOST := Lib.hid (cost_free (p := p) (s := s) (bf := bf) (d := d) (lo := lo) (hi := hi) hjl HF2.out hd2.out hlo2.out hhi2.out hc1.out hF2.out)
              have HPW := Lib.hid (pow_step (n := n) (k := k) hjn n10' HNK.out)
              clear hz2 hd2b hbit
              go_wp2_with (first
                | (go_at_call 49; refine (free_any pb (.int .i64 0) s (.int .i64 0) Ab bf cb d lo hi j wr wr.heap.size hPr.hbf.rd c2 hjn n10' (by omega) HBI.out).mono ?_; rintro e w2 ⟨rfl, hB3⟩; rw [HF2.out]
                   have hP3 := hPr.same hMr (Same.of_below' hB3)
                   have hM3 := hMr.below hB3
                   have box3 := boxr.below' hB3
                   have y0 := box3.cell 0 _ rfl
                   have y1 := box3.cell 1 _ rfl
                   have y2 := box3.cell 2 _ rfl
                   have yl := box3.lt)
                | (go_at_call 50; refine (HNEXT.out _ hP3).mono ?_; rintro e w3 ⟨rfl, hB4⟩
                   have hB5 : Below w2.heap.size w2 (w3.alloc (.cells #[.int .i64 d2, .int .i64 lo2, .int .i64 hi2] 95)) := hB4.alloc hB4.size _
                   have hP5 := hP3.same hM3 (Same.of_below' hB5)
                   have hM5 := hM3.below hB5)
                | (go_at_call 48; refine (IH.out d2 lo2 hi2 _ _ HZ.out HD2.out hbd2.1 hbd2.2.1 hbd2.2.2.1 hbd2.2.2.2 hP5 hM5 HPW.out).mono ?_; rintro e w6 ⟨rfl, hM6, hS6⟩; rw [hF2.out]; replace hM6 := Lib.hid hM6))
              refine ⟨⟨j + 1, min mv (c1 + F2), by omega, by go_num, ?_, minUpto_some hmv.out HCOST.out, by omega, by omega, by rw [Hid, ← pow_next]; exact hM6.out, ((hS.step (Same.of_below' hB3)).step (Same.of_below' hB5)).step hS6⟩, by simp [intOf]; omega⟩
              congr 1
              split <;> omega
          · have e1 : j = bf.length := by omega
            subst e1
            have hfw : mv = few p s l bf d lo hi := by
              have h1 := HN.out
              have h3 := hmv.out
              rw [h1] at h3
              rw [h3, few_eq (by rw [hMp.out]; exact hd) (by rw [hMp.out]; exact HF.out)]
            have HFW := Lib.hid hfw
            have HBIG := Lib.hid (pow_big (k := k) n10' HNK.out)
            clear hfw
            have c3 := hPr.c3
            go_wp2_with fail
            refine wp_region_J (fun w' => w'.cell? ⟨pb, 3, none⟩ = some (.map (some mb)) ∧ w'.cell? ⟨w.heap.size, 0, none⟩ = some (.int .i64 d) ∧ w'.cell? ⟨w.heap.size, 1, none⟩ = some (.int .i64 lo) ∧ w'.cell? ⟨w.heap.size, 2, none⟩ = some (.int .i64 hi)) (fun _ => True) (fun i => i == 6) (by kernel_rfl) ?_
            have hS1 : wr.drew.cell? ⟨pb, 3, none⟩ = some (.map (some mb)) ∧ wr.drew.cell? ⟨w.heap.size, 0, none⟩ = some (.int .i64 d) ∧ wr.drew.cell? ⟨w.heap.size, 1, none⟩ = some (.int .i64 lo) ∧ wr.drew.cell? ⟨w.heap.size, 2, none⟩ = some (.int .i64 hi) := ⟨hPr.c3, boxr.cell 0 _ rfl, boxr.cell 1 _ rfl, boxr.cell 2 _ rfl⟩
            refine wpAnyJ_take1 0 rfl (by kernel_rfl) (by kernel_rfl) rfl (by kernel_rfl) (fun _ _ _ h => h) (by rfl) hS1 (fun w' hSw => (by obtain ⟨c1, c2, c3, c4⟩ := hSw; go_simp; try (with_reducible rfl))) ?_
            try simp only [Act.put, List.getElem_toArray, List.getElem_cons_succ, List.getElem_cons_zero, List.setIfInBounds_toArray, List.set_cons_zero, List.set_cons_succ]
            refine wpAnyJ_take1 1 rfl (by kernel_rfl) (by kernel_rfl) rfl (by kernel_rfl) (fun _ _ _ h => h) (by rfl) hS1 (fun w' hSw => (by obtain ⟨c1, c2, c3, c4⟩ := hSw; go_simp; try (with_reducible rfl))) ?_
            try simp only [Act.put, List.getElem_toArray, List.getElem_cons_succ, List.getElem_cons_zero, List.setIfInBounds_toArray, List.set_cons_zero, List.set_cons_succ]
            refine wpAnyJ_take1 2 rfl (by kernel_rfl) (by kernel_rfl) rfl (by kernel_rfl) (fun _ _ _ h => h) (by rfl) hS1 (fun w' hSw => (by obtain ⟨c1, c2, c3, c4⟩ := hSw; go_simp; try (with_reducible rfl))) ?_
            try simp only [Act.put, List.getElem_toArray, List.getElem_cons_succ, List.getElem_cons_zero, List.setIfInBounds_toArray, List.set_cons_zero, List.set_cons_succ]
            refine wpAnyJ_take1 3 rfl (by kernel_rfl) (by kernel_rfl) rfl (by kernel_rfl) (fun _ _ _ h => h) (by rfl) hS1 (fun w' hSw => (by obtain ⟨c1, c2, c3, c4⟩ := hSw; go_simp; try (with_reducible rfl))) ?_
            try simp only [Act.put, List.getElem_toArray, List.getElem_cons_succ, List.getElem_cons_zero, List.setIfInBounds_toArray, List.set_cons_zero, List.set_cons_succ]
            refine wpAnyJ_take1 4 rfl (by kernel_rfl) (by kernel_rfl) rfl (by kernel_rfl) (fun _ _ _ h => h) (by rfl) hS1 (fun w' hSw => (by obtain ⟨c1, c2, c3, c4⟩ := hSw; go_simp; try (with_reducible rfl))) ?_
            try simp only [Act.put, List.getElem_toArray, List.getElem_cons_succ, List.getElem_cons_zero, List.setIfInBounds_toArray, List.set_cons_zero, List.set_cons_succ]
            refine wpAnyJ_take1 5 rfl (by kernel_rfl) (by kernel_rfl) rfl (by kernel_rfl) (fun _ _ _ h => h) (by rfl) hS1 (fun w' hSw => (by obtain ⟨c1, c2, c3, c4⟩ := hSw; go_simp; try (with_reducible rfl))) ?_
            try simp only [Act.put, List.getElem_toArray, List.getElem_cons_succ, List.getElem_cons_zero, List.setIfInBounds_toArray, List.set_cons_zero, List.set_cons_succ]
            refine wpAnyJ_ready [6] (by kernel_rfl) (by simp) (NextJ.cons rfl (fun K hK => ?_) NextJ.nil)
            have hMd : MapK p s l bf wr.drew mb (n + bf.length * 11 ^ k) := hMr.below (Below.refl _ _).drew
            refine step_known (by rfl) (.tmp 67) (.tmp 68) (.tmp 69) (by rfl) mb (n + bf.length * 11 ^ k) d lo hi mv (by rfl) (by rfl) (by rfl) hMd HFW.out HBIG.out n10 (by omega) g1 g2 g3 g4 ?_
            intro w7 hM7 hS7
            refine hK.out _ _ ⟨(hS7.cell (p := ⟨pb, 3, none⟩) ⟨lt_of_cell c3, hMr.ne c3⟩).trans c3, (hS7.cell (p := ⟨w.heap.size, 0, none⟩) ⟨xl, by show w.heap.size ≠ mb; omega⟩).trans x0, (hS7.cell (p := ⟨w.heap.size, 1, none⟩) ⟨xl, by show w.heap.size ≠ mb; omega⟩).trans x1, (hS7.cell (p := ⟨w.heap.size, 2, none⟩) ⟨xl, by show w.heap.size ≠ mb; omega⟩).trans x2⟩ (fun _ => trivial) ?_
            clear hK K
            try simp only [Act.put, List.setIfInBounds_toArray, List.set_cons_zero, List.set_cons_succ]
            refine wpAnyJ_done (by kernel_rfl) ?_ _
            have hSf : Same (fun j => j < w.heap.size ∧ j ≠ mb) w w7 := ((Same.of_below' hB2).step hS).step ((Same.of_below' (Below.refl _ _).drew).step hS7)
            have hMf : MapK p s l bf w7 mb (n + 11 ^ (k + 1)) := hM7.mono (pow_end n10')
            clear hS1 hS7 hM7 hMd
            go_wp2_with fail
            go_ret
            exact ⟨ret_int HFW.out, hMf, hSf⟩
      · go_quiet (fail)
        clear hrun
        go_wp2_with fail
        go_ret
        exact ⟨ret_int (hbc.out trivial), (hM1.below (Below.drewN (Below.refl _ _) nq)).mono (Nat.le_add_right _ _), Same.of_below' (hB1.drewN nq)⟩
end Go.Proofs.YtogkgoabonbkkaaDoor
