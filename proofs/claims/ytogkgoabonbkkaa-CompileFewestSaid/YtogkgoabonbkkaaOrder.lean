/- torchonref04: Order, Reorder. -/
import Derived.Test.YtogkgoabonbkkaaOptF
set_option linter.unusedSimpArgs false
set_option linter.unusedVariables false
namespace Go.Proofs.Ytogkgoabonbkkaa
open Go Go.RowKit Tor

theorem natI_get {O : List Nat} {k : Nat} (hk : k < (natI O).length) : (natI O)[k] = ((O[k]'(by rw [natI_len] at hk; exact hk) : Nat) : Int) := by simp [natI]

set_option maxRecDepth 100000 in
set_option maxHeartbeats 2000000 in
theorem order_any (P : Int) (A : Option Addr) (l : List Tri) (c : Nat) (Bo : Option Addr) (O : List Nat) (co : Nat) (w : World) (H : Nat) (hr : RdT w H A l) (ho : RdI w H Bo (natI O)) (hH : H ≤ w.heap.size)
    (hb : ∀ (k : Nat) (hk : k < l.length), 0 ≤ l[k].b ∧ l[k].b ≤ 100) (hl : l.length ≤ 400) (hlin : LinExt l [] O) (hO : O.length = l.length) :
    Calls Try.prog 63 #[.agg #[.int .i64 P, .slice A l.length c], .slice Bo l.length co] w (Ret (.bool true) w) := by
  obtain ⟨i0, hi0, hz0', hz1', hz2'⟩ := info_parts infoBool
  have HB := Lib.hid hb
  have HL := Lib.hid hlin
  have HO := Lib.hid hO
  clear hb hlin hO
  have e1 : ((l.length : Int) != (l.length : Int)) = false := by simp
  go_enter Try.func63, Try.ntmps63
  have kS := Blk.new w 24 #[.int .i64 P, .slice A l.length c]
  have hBw : Below w.heap.size w (w.alloc (.cells #[.int .i64 P, .slice A l.length c] 24)) := by (repeat' first | exact Below.refl _ _ | apply Below.drew | (refine Below.setCells ?_ _ _ ?_) | (refine Below.setCell ?_ ?_ _) | (refine Below.alloc ?_ ?_ _) | (simp; done) | (simp; omega))
  have hW1 : (w.alloc (.cells #[.int .i64 P, .slice A l.length c] 24)).heap.size = w.heap.size + 1 := by simp
  go_wp2_with (first
    | (at_make; refine wpList_make_full _ rfl _ _ _ rfl (w.heap.size + 1) _ i0 _ 1 Try.underlying66 hi0 hz0' hz1' .i64 .i64 _ _ l.length rfl rfl rfl rfl (by rw [hz2']; omega) (by unfold maxLen; omega) (by simp) ?_; intro w2 hown0 hg0
       have hown0' : w2.ownsRow (w.heap.size + 1) 4 1 (.slice (some ⟨w.heap.size + 1, 0, none⟩) l.length l.length) l.length (madeCells (Value.bool false).cells (l.length * 1)).toList := by simpa using hown0
       have hD0 := doneRow_start hown0'
       have hB2 : Below (w.alloc (.cells #[.int .i64 P, .slice A l.length c] 24)).heap.size (w.alloc (.cells #[.int .i64 P, .slice A l.length c] 24)) w2 := ⟨hg0.os, hg0.tape, hg0.output, hg0.size, fun k hk => hg0.block k hk (by simp)⟩
       have kS2 := kS.below' hB2
       have c2' := kS2.cell 1 (.slice A l.length c) rfl
       have n2 := kS2.lt
       clear hown0 hg0 hown0')
    | fail)
  generalize w.alloc (.cells #[.int .i64 P, .slice A l.length c] 24) = W1 at kS hBw hW1 hB2 kS2
  rw [hW1] at hB2
  go_loopw [6] (fun kv wr => ∃ (j : Nat), j ≤ l.length ∧ kv = .int .i64 j ∧ DoneRow wr (w.heap.size + 1) (w.heap.size + 1) l.length l.length (O.take j) ∧ Below (w.heap.size + 1) W1 wr) (fun kv _ => l.length - (intOf kv).toNat)
  case atStart => exact ⟨0, Nat.zero_le _, rfl, by simpa using hD0, hB2⟩
  case round =>
    obtain ⟨j, hj, rfl, hD, hB⟩ := hrel
    clear hD0 hB2 kS2 c2'
    have kS2 := kS.below hB (Nat.lt_succ_self _)
    have a1 := kS2.cell 1 (.slice A l.length c) rfl
    have an := kS2.lt
    have hBr : Below w.heap.size w wr := hBw.trans (hB.mono (by omega))
    have hz := hBr.size
    by_cases hlt : j < l.length
    · have hjO : j < O.length := by rw [HO.out]; exact hlt
      obtain ⟨hq1, hq2⟩ := lin_at O [] HL.out j hjO
      rw [List.nil_append] at hq2
      have hjn : j < (natI O).length := by rw [natI_len]; exact hjO
      obtain ⟨b', o', rfl, hb0', g0⟩ := (ho.below' hBr hH).int hjn
      rw [natI_get] at g0
      obtain ⟨q, hq⟩ : ∃ q, Hid (O[j] = q) := ⟨_, Lib.hid rfl⟩
      rw [hq.out] at hq1 hq2 g0
      have HQ2 := Lib.hid hq2
      have hqr := (rdyB_iff hq1).1 hq2
      have hqn : (O.take j).contains q = false := by simpa using hqr.2.1
      have HQR := Lib.hid hqr.2.2
      have hrow : O.take (j + 1) = O.take j ++ [q] := by rw [take_snoc O j hjO, hq.out]
      have HROW := Lib.hid hrow
      have hcq := hD.cell hq1
      rw [hqn] at hcq
      have lb' := lt_of_cell g0
      have lq := lt_of_cell hcq
      have k0 : (0 : Int) ≤ (j : Int) := by omega
      have k1 : (j : Int) < (l.length : Int) := by omega
      have k2 : (0 : Int) ≤ (q : Int) := by omega
      have k3 : (q : Int) < (l.length : Int) := by omega
      have k4 : ¬ (q : Int) < 0 := by omega
      clear hq2 hrow hqn
      go_wp2_with fail
      clear g0 hcq
      obtain ⟨wo, rfl⟩ : ∃ wo : World, wo = wr := ⟨_, rfl⟩
      go_loopw [8] (fun kv wr => ∃ (i : Nat), i ≤ q ∧ kv = .int .i64 i ∧ Below wo.heap.size wo wr) (fun kv _ => q - (intOf kv).toNat)
      case atStart => exact ⟨0, Nat.zero_le _, rfl, Below.refl _ _⟩
      case round =>
        obtain ⟨i, hi, rfl, hBi⟩ := hrel
        have kS3 := kS2.below' hBi
        have s1 := kS3.cell 1 (.slice A l.length c) rfl
        have sn := kS3.lt
        have hBi' := hBr.trans (hBi.mono hz)
        have hDi := hD.below hBi
        have hzi := hBi'.size
        by_cases hiq : i < q
        · have hil : i < l.length := by omega
          obtain ⟨b, o, rfl, hb0, h0, h1, h2⟩ := (hr.below' hBi' hH).tri hil
          obtain ⟨_, e0, e1', e2⟩ := (hr.below' hBi' hH).triAt hq1
          have lb := lt_of_cell h0
          have hci := hDi.cell hil
          have hfr := hDi.frozen i
          have lc := lt_of_cell hci
          have x1 := HB.out i hil
          have x2 := HB.out q hq1
          have i0' : (0 : Int) ≤ (i : Int) := by omega
          have i1' : (i : Int) < (l.length : Int) := by omega
          have i2' : (i : Int) < (q : Int) := by omega
          cases ht : touchB l[i].b l[q].b
          · have HT := Lib.hid ht
            clear ht
            go_wp2_with fail
            refine wp_region_ex (by kernel_rfl) (by kernel_rfl) ?_
            repeat (go_big_quiet_step (first
              | (go_at_call 74; refine (touch_ex l[i] l[q] _ _ (by omega) (by omega) (by omega) (by omega)).mono ?_; rintro e w' ⟨rfl, hg⟩; rw [HT.out]; exact ⟨rfl, hg⟩)
              | fail))
            refine wpQuiet_nil ?_
            intro _ hw'
            obtain ⟨g, hw''⟩ := hw'
            subst hw''
            have hqq := g.h
            go_wp2_with fail
            go_roundw
            case rel => exact ⟨i + 1, by omega, by go_num, hBi.trans (hqq.mono hBi.size)⟩
            case measure => simp [intOf]; omega
          · have HT := Lib.hid ht
            have hin : (O.take j).contains i = true := by
              have : i ∈ O.take j := Classical.byContradiction fun hn => HQR.out i hiq hn (by
                unfold touchB at ht
                simp only [Bool.and_eq_true, decide_eq_true_eq] at ht
                exact ht)
              simpa using this
            rw [hin] at hci
            clear ht hin
            go_wp2_with fail
            refine wp_region_ex (by kernel_rfl) (by kernel_rfl) ?_
            repeat (go_big_quiet_step (first
              | (go_at_call 74; refine (touch_ex l[i] l[q] _ _ (by omega) (by omega) (by omega) (by omega)).mono ?_; rintro e w' ⟨rfl, hg⟩; rw [HT.out]; exact ⟨rfl, hg⟩)
              | fail))
            refine wpQuiet_nil ?_
            intro _ hw'
            obtain ⟨g, hw''⟩ := hw'
            subst hw''
            have hqq := g.h
            go_wp2_with fail
            go_roundw
            case rel => exact ⟨i + 1, by omega, by go_num, hBi.trans (hqq.mono hBi.size)⟩
            case measure => simp [intOf]; omega
        · have hiq' : i = q := by omega
          have HIQ := Lib.hid hiq'
          have hn' : ¬ (i : Int) < (q : Int) := by omega
          obtain ⟨hbg, hgl, hcur⟩ := hDi.heap
          have hcell := hDi.cell hq1
          have hfr := hDi.frozen q
          obtain ⟨hDs, hgs⟩ := hDi.store q
          have hBs : Below (w.heap.size + 1) W1 (wr.setCell ⟨w.heap.size + 1, q, none⟩ (.bool true)) := (hB.trans (hBi.mono (by omega))).setCell (Nat.le_refl _) _
          clear hiq'
          go_wp2_with fail
          go_roundw
          case rel => exact ⟨j + 1, by omega, by go_num, by rw [HROW.out]; exact hDs, hBs⟩
          case measure => simp [intOf]; omega
    · go_wp2_with fail
      go_ret
      exact Ret.bool rfl hBr

theorem sheet_ret2 {fn : Func} {p u : Tmp} (h : fn.results = #[.cell p 24, .tmp u]) {R : Ending → World → Prop} {a : Act} {w : World} {g : Nat} {x y : Value} (hp : a.tmps.getD p undef = .pointer (some ⟨g, 0, none⟩))
    (hb : Blk w g 24 #[x, y]) (hd : a.defers = []) (hR : R (.returned (.tuple #[.agg #[x, y], a.tmps.getD u undef])) w) : bodyPost Try.prog fn R .ret a w := by
  refine bodyPost_ret (v := .tuple #[.agg #[x, y], a.tmps.getD u undef]) ?_ hd hR
  have c0 := hb.cell 0 x rfl
  have c1 := hb.cell 1 y rfl
  have hp' : a.tmps[p]?.getD undef = .pointer (some ⟨g, 0, none⟩) := by simpa using hp
  simp only [results, h]
  simp [Sem.run_bind, Result.andThen, hp']
  go_simp

set_option maxRecDepth 100000 in
set_option maxHeartbeats 2000000 in
theorem reorder_any (P : Int) (A : Option Addr) (l : List Tri) (c : Nat) (Bo : Option Addr) (O : List Nat) (co : Nat) (w : World) (H : Nat) (hr : RdT w H A l) (ho : RdI w H Bo (natI O)) (hH : H ≤ w.heap.size)
    (hwk : ∀ x ∈ l, WOk P x) (h2 : 2 ≤ P) (h24 : P ≤ 24) (hl : l.length ≤ 400) (hlin : LinExt l [] O) (hO : O.length = l.length) :
    Calls Try.prog 29 #[.agg #[.int .i64 P, .slice A l.length c], .slice Bo l.length co] w fun e w' => ∃ (A' : Option Addr) (c' : Nat), e = .returned (.tuple #[.agg #[.int .i64 P, .slice A' (O.map (xAt l)).length c'], .int .i64 0]) ∧ Own 3 Tri.enc w' w.heap.size 57 (.slice A' (O.map (xAt l)).length c') (O.map (xAt l)) ∧ (O.map (xAt l)).length ≤ c' ∧ Below w.heap.size w w' := by
  obtain ⟨i0, hi0, hz0', hz1', hz2'⟩ := info_parts infoWork
  have HC := Lib.hid (sheetE_of h2 h24 hl hwk)
  have HW := Lib.hid (wok_words hwk)
  have HB2 : Hid (∀ (k : Nat) (hk : k < l.length), 0 ≤ l[k].b ∧ l[k].b ≤ 100) := fun k hk => by have := wok_b hwk k hk; omega
  have HL := Lib.hid hlin
  have HO := Lib.hid hO
  clear hwk hlin hO
  obtain ⟨W1, hW1⟩ : ∃ W1, Hid (W1 = (w.alloc (.cells #[.int .i64 P, .slice A l.length c] 24)).alloc (.cells #[.int .i64 0, .slice none 0 0] 24)) := ⟨_, Lib.hid rfl⟩
  have hBW : Below w.heap.size w W1 := by rw [hW1.out]; (repeat' first | exact Below.refl _ _ | apply Below.drew | (refine Below.setCells ?_ _ _ ?_) | (refine Below.setCell ?_ ?_ _) | (refine Below.alloc ?_ ?_ _) | (simp; done) | (simp; omega))
  have kA : Blk W1 w.heap.size 24 #[.int .i64 P, .slice A l.length c] := by rw [hW1.out]; exact (Blk.new w _ _).alloc _
  have kR : Blk W1 (w.heap.size + 1) 24 #[.int .i64 0, .slice none 0 0] := by
    rw [hW1.out]
    have := Blk.new (w.alloc (.cells #[.int .i64 P, .slice A l.length c] 24)) 24 #[.int .i64 0, .slice none 0 0]
    simpa using this
  have hz := hBW.size
  go_enter Try.func29, Try.ntmps29
  go_wp2_with (first
    | (go_at_call 17; rw [← hW1.out]; refine (sheetRef_any P A l c _ H (hr.below' hBW hH) (by omega) HW.out (by omega)).mono ?_; rintro e w1 ⟨rfl, hB1⟩; rw [HC.out]
       have kA1 := kA.below' hB1
       have kR1 := kR.below' hB1
       have c0 := kA1.cell 0 _ rfl
       have c1 := kA1.cell 1 _ rfl
       have n1 := kA1.lt
       have hB1' := hBW.trans (hB1.mono hz)
       have hz1 := hB1'.size)
    | (go_at_call 63; refine (order_any P A l c Bo O co _ H (hr.below' hB1' hH) (ho.below' hB1' hH) (by omega) HB2.out hl HL.out HO.out).mono ?_; rintro e w2 ⟨rfl, hB2⟩
       have kA2 := kA1.below' hB2
       have kR2 := kR1.below' hB2
       have d0 := kA2.cell 0 _ rfl
       have d1 := kA2.cell 1 _ rfl
       have n2 := kA2.lt
       have n3 := kR2.lt
       have hB2' := hB1'.trans (hB2.mono hz1)
       have hz2 := hB2'.size))
  clear c0 c1 d0 d1 n1 kA1 kR1
  go_loopw [8] (fun kv wr => ∃ (j : Nat) (v : Value), j ≤ l.length ∧ kv = .int .i64 j ∧ Blk wr w2.heap.size 24 #[.int .i64 P, v] ∧ Blk wr w.heap.size 24 #[.int .i64 P, .slice A l.length c] ∧ Blk wr (w.heap.size + 1) 24 #[.int .i64 0, .slice none 0 0] ∧ Own 3 Tri.enc wr (w.heap.size + 2) 57 v ((O.take j).map (xAt l)) ∧ Below w.heap.size w wr) (fun kv _ => l.length - (intOf kv).toNat)
  case atStart => exact ⟨0, .slice none 0 0, Nat.zero_le _, rfl, Blk.new _ _ _, kA2.alloc _, kR2.alloc _, by rw [List.take_zero]; exact Own.nil _ _ _, hB2'.alloc hz2 _⟩
  case round =>
    obtain ⟨j, v, hj, rfl, hS, hA, hR, hown, hB⟩ := hrel
    obtain ⟨Av, cv, rfl, hcv, hrd⟩ := Own.rd tri_len hown
    have hzr := hB.size
    have hsl := hS.lt
    have hal := hA.lt
    by_cases hlt : j < l.length
    · have hjO : j < O.length := by rw [HO.out]; exact hlt
      obtain ⟨hq1, _⟩ := lin_at O [] HL.out j hjO
      have hjn : j < (natI O).length := by rw [natI_len]; exact hjO
      obtain ⟨b', o', rfl, hb0', g0⟩ := (ho.below' hB hH).int hjn
      rw [natI_get] at g0
      obtain ⟨q, hq⟩ : ∃ q, Hid (O[j] = q) := ⟨_, Lib.hid rfl⟩
      rw [hq.out] at hq1 g0
      have hrow : (O.take (j + 1)).map (xAt l) = (O.take j).map (xAt l) ++ [l[q]] := by rw [take_snoc O j hjO, hq.out, List.map_append, List.map_singleton, xAt_of hq1]
      have HROW := Lib.hid hrow
      have hlenM : ((O.take j).map (xAt l)).length ≤ 400 := by rw [List.length_map, List.length_take]; omega
      generalize (O.take j).map (xAt l) = M at hown hrd hcv hlenM HROW hS hrow
      obtain ⟨b, o, rfl, hb0, m0, m1, m2⟩ := (hr.below' hB hH).tri hq1
      have k0 : (0 : Int) ≤ (j : Int) := by omega
      have k1 : (j : Int) < (l.length : Int) := by omega
      have k2 : (0 : Int) ≤ (q : Int) := by omega
      have k3 : (q : Int) < (l.length : Int) := by omega
      have hbW := lt_of_cell m0
      have hbW' := lt_of_cell g0
      have kA9 := hA.cell 1 _ rfl
      have kS9 := hS.cell 1 _ rfl
      clear hrow
      go_wp2_with fail
      refine wp_region_J (fun w' => w'.cell? ⟨w.heap.size, 1, none⟩ = some (.slice (some ⟨b, o, none⟩) l.length c) ∧ w'.cell? ⟨b', o' + j, none⟩ = some (.int .i64 (q : Int)) ∧ w'.cell? ⟨b, o + q * 3, none⟩ = some (.int .i64 l[q].a) ∧ w'.cell? ⟨b, o + q * 3 + 1, none⟩ = some (.int .i64 l[q].b) ∧ w'.cell? ⟨b, o + q * 3 + 2, none⟩ = some (.string l[q].s)) (fun w' => w'.cell? ⟨w2.heap.size, 1, none⟩ = some (.slice Av M.length cv)) (fun i => i == 10 || i == 11) (by kernel_rfl) ?_
      have hS1 : wr.drew.cell? ⟨w.heap.size, 1, none⟩ = some (.slice (some ⟨b, o, none⟩) l.length c) ∧ wr.drew.cell? ⟨b', o' + j, none⟩ = some (.int .i64 (q : Int)) ∧ wr.drew.cell? ⟨b, o + q * 3, none⟩ = some (.int .i64 l[q].a) ∧ wr.drew.cell? ⟨b, o + q * 3 + 1, none⟩ = some (.int .i64 l[q].b) ∧ wr.drew.cell? ⟨b, o + q * 3 + 2, none⟩ = some (.string l[q].s) := ⟨kA9, g0, m0, m1, m2⟩
      have hS2 : wr.drew.cell? ⟨w2.heap.size, 1, none⟩ = some (.slice Av M.length cv) := kS9
      refine wpAnyJ_take1 0 rfl (by kernel_rfl) (by kernel_rfl) rfl (by kernel_rfl) (fun _ _ _ h => h) (by rfl) hS1 (fun w' hSw => (by obtain ⟨u0, u1, u2, u3, u4⟩ := hSw; have ub := lt_of_cell u2; have ub2 := lt_of_cell u1; go_simp; try (with_reducible rfl))) ?_
      try simp only [Act.put, List.getElem_toArray, List.getElem_cons_succ, List.getElem_cons_zero, List.setIfInBounds_toArray, List.set_cons_zero, List.set_cons_succ]
      refine wpAnyJ_take1 2 rfl (by kernel_rfl) (by kernel_rfl) rfl (by kernel_rfl) (fun _ _ _ h => h) (by rfl) hS1 (fun w' hSw => (by obtain ⟨u0, u1, u2, u3, u4⟩ := hSw; have ub := lt_of_cell u2; have ub2 := lt_of_cell u1; go_simp; try (with_reducible rfl))) ?_
      try simp only [Act.put, List.getElem_toArray, List.getElem_cons_succ, List.getElem_cons_zero, List.setIfInBounds_toArray, List.set_cons_zero, List.set_cons_succ]
      refine wpAnyJ_take1 3 rfl (by kernel_rfl) (by kernel_rfl) rfl (by kernel_rfl) (fun _ _ _ h => h) (by rfl) hS1 (fun w' hSw => (by obtain ⟨u0, u1, u2, u3, u4⟩ := hSw; have ub := lt_of_cell u2; have ub2 := lt_of_cell u1; go_simp; try (with_reducible rfl))) ?_
      try simp only [Act.put, List.getElem_toArray, List.getElem_cons_succ, List.getElem_cons_zero, List.setIfInBounds_toArray, List.set_cons_zero, List.set_cons_succ]
      refine wpAnyJ_take1 4 rfl (by kernel_rfl) (by kernel_rfl) rfl (by kernel_rfl) (fun _ _ _ h => h) (by rfl) hS1 (fun w' hSw => (by obtain ⟨u0, u1, u2, u3, u4⟩ := hSw; have ub := lt_of_cell u2; have ub2 := lt_of_cell u1; go_simp; try (with_reducible rfl))) ?_
      try simp only [Act.put, List.getElem_toArray, List.getElem_cons_succ, List.getElem_cons_zero, List.setIfInBounds_toArray, List.set_cons_zero, List.set_cons_succ]
      refine wpAnyJ_take1 5 rfl (by kernel_rfl) (by kernel_rfl) rfl (by kernel_rfl) (fun _ _ _ h => h) (by rfl) hS1 (fun w' hSw => (by obtain ⟨u0, u1, u2, u3, u4⟩ := hSw; have ub := lt_of_cell u2; have ub2 := lt_of_cell u1; go_simp; try (with_reducible rfl))) ?_
      try simp only [Act.put, List.getElem_toArray, List.getElem_cons_succ, List.getElem_cons_zero, List.setIfInBounds_toArray, List.set_cons_zero, List.set_cons_succ]
      refine wpAnyJ_take1 6 rfl (by kernel_rfl) (by kernel_rfl) rfl (by kernel_rfl) (fun _ _ _ h => h) (by rfl) hS1 (fun w' hSw => (by obtain ⟨u0, u1, u2, u3, u4⟩ := hSw; have ub := lt_of_cell u2; have ub2 := lt_of_cell u1; go_simp; try (with_reducible rfl))) ?_
      try simp only [Act.put, List.getElem_toArray, List.getElem_cons_succ, List.getElem_cons_zero, List.setIfInBounds_toArray, List.set_cons_zero, List.set_cons_succ]
      refine wpAnyJ_take1 7 rfl (by kernel_rfl) (by kernel_rfl) rfl (by kernel_rfl) (fun _ _ _ h => h) (by rfl) hS1 (fun w' hSw => (by obtain ⟨u0, u1, u2, u3, u4⟩ := hSw; have ub := lt_of_cell u2; have ub2 := lt_of_cell u1; go_simp; try (with_reducible rfl))) ?_
      try simp only [Act.put, List.getElem_toArray, List.getElem_cons_succ, List.getElem_cons_zero, List.setIfInBounds_toArray, List.set_cons_zero, List.set_cons_succ]
      refine wpAnyJ_take1 8 rfl (by kernel_rfl) (by kernel_rfl) rfl (by kernel_rfl) (fun _ _ _ h => h) (by rfl) hS1 (fun w' hSw => (by obtain ⟨u0, u1, u2, u3, u4⟩ := hSw; have ub := lt_of_cell u2; have ub2 := lt_of_cell u1; go_simp; try (with_reducible rfl))) ?_
      try simp only [Act.put, List.getElem_toArray, List.getElem_cons_succ, List.getElem_cons_zero, List.setIfInBounds_toArray, List.set_cons_zero, List.set_cons_succ]
      refine wpAnyJ_take1 9 rfl (by kernel_rfl) (by kernel_rfl) rfl (by kernel_rfl) (fun _ _ _ h => h) (by rfl) hS1 (fun w' hSw => (by obtain ⟨u0, u1, u2, u3, u4⟩ := hSw; have ub := lt_of_cell u2; have ub2 := lt_of_cell u1; go_simp; try (with_reducible rfl))) ?_
      try simp only [Act.put, List.getElem_toArray, List.getElem_cons_succ, List.getElem_cons_zero, List.setIfInBounds_toArray, List.set_cons_zero, List.set_cons_succ]
      refine wpAnyJ_take2 1 rfl (by kernel_rfl) (by kernel_rfl) (by kernel_rfl) (by kernel_rfl) (fun _ _ _ h => h) (by rfl) hS1 hS2 (fun w' hSw => (by obtain ⟨_, v1⟩ := hSw; go_simp; try (with_reducible rfl))) ?_
      try simp only [Act.put, List.getElem_toArray, List.getElem_cons_succ, List.getElem_cons_zero, List.setIfInBounds_toArray, List.set_cons_zero, List.set_cons_succ]
      have hkeepS : ∀ w', Below wr.heap.size wr w' → w'.cell? ⟨w.heap.size, 1, none⟩ = some (.slice (some ⟨b, o, none⟩) l.length c) ∧ w'.cell? ⟨b', o' + j, none⟩ = some (.int .i64 (q : Int)) ∧ w'.cell? ⟨b, o + q * 3, none⟩ = some (.int .i64 l[q].a) ∧ w'.cell? ⟨b, o + q * 3 + 1, none⟩ = some (.int .i64 l[q].b) ∧ w'.cell? ⟨b, o + q * 3 + 2, none⟩ = some (.string l[q].s) := fun w' hb => ⟨(hb.cell (p := ⟨w.heap.size, _, none⟩) hal).trans kA9, (hb.cell (p := ⟨b', _, none⟩) hbW').trans g0, (hb.cell (p := ⟨b, _, none⟩) hbW).trans m0, (hb.cell (p := ⟨b, _, none⟩) hbW).trans m1, (hb.cell (p := ⟨b, _, none⟩) hbW).trans m2⟩
      have hA0 : Below wr.heap.size wr wr.drew := (Below.refl _ _).drew
      refine wpAnyJ_ready [10] (by kernel_rfl) (by simp) (NextJ.cons rfl (fun K hK => ?_) NextJ.nil)
      go_simp
      have hA7 := hA0.alloc hA0.size (.cells #[.int .i64 l[q].a, .int .i64 l[q].b, .string l[q].s] 57)
      refine hK.out _ _ (hkeepS _ hA7) (fun _ => (hS.below' hA7).cell 1 _ rfl) ?_
      clear hK K
      try simp only [Act.put, List.getElem_toArray, List.getElem_cons_succ, List.getElem_cons_zero, List.setIfInBounds_toArray, List.set_cons_zero, List.set_cons_succ]
      refine wpAnyJ_ready [11] (by kernel_rfl) (by simp) (NextJ.cons rfl (fun K hK => ?_) NextJ.nil)
      refine step_append_tri (by rfl) (.tmp 30) (.tmp 39) _ (by rfl) (w.heap.size + 2) _ i0 _ Try.underlying22 hi0 hz0' hz1' hz2' rfl (.slice Av M.length cv) M (by rfl) (hown.below hA7) wr.heap.size l[q] (by rfl) (World.cell?_alloc_new _ _ _ 0) (World.cell?_alloc_new _ _ _ 1) (World.cell?_alloc_new _ _ _ 2) (by omega) (by simp; omega) ?_
      intro v' W8 hown8 hg8
      obtain ⟨A8, n8, c8, rfl⟩ : ∃ A n c, v' = .slice A n c := by
        obtain ⟨A8, c8, e8, _, _⟩ := Own.rd tri_len hown8
        exact ⟨A8, _, c8, e8⟩
      have hB8 : Below w.heap.size w W8 := ((hown.base (base' := w.heap.size) (by omega)).below hA7).grown (hB.trans (hA7.mono (by omega))) hg8 (by simp; omega)
      have kS8 := (hS.below' hA7).grown hg8 ((hown.below hA7).ne_block (hS.below' hA7) (by decide))
      have kA8 := (hA.below' hA7).grown hg8 ((hown.below hA7).ne_block (hA.below' hA7) (by decide))
      have kR8 := (hR.below' hA7).grown hg8 ((hown.below hA7).ne_block (hR.below' hA7) (by decide))
      obtain ⟨tb, t0, t1, t2⟩ := (hr.below' hB8 hH).triAt hq1
      have tg : W8.cell? ⟨b', o' + j, none⟩ = some (.int .i64 (q : Int)) := by
        obtain ⟨b2, o2, e2, _, g2⟩ := (ho.below' hB8 hH).int hjn
        rw [natI_get, hq.out] at g2
        injection e2 with e2
        injection e2 with e3 e4 _
        subst e3; subst e4; exact g2
      have hS1_8 := And.intro (kA8.cell 1 _ rfl) (And.intro tg (And.intro t0 (And.intro t1 t2)))
      refine hK.out _ _ hS1_8 (fun _ => kS8.cell 1 _ rfl) ?_
      clear hK K hS1 hS2
      try simp only [Act.put, List.getElem_toArray, List.getElem_cons_succ, List.getElem_cons_zero, List.setIfInBounds_toArray, List.set_cons_zero, List.set_cons_succ]
      refine wpAnyJ_take1 12 rfl (by kernel_rfl) (by kernel_rfl) rfl (by kernel_rfl) (fun _ _ _ h => h) (by rfl) hS1_8 (fun w' hSw => (by obtain ⟨u0, u1, u2, u3, u4⟩ := hSw; have ub := lt_of_cell u2; have ub2 := lt_of_cell u1; go_simp; try (with_reducible rfl))) ?_
      try simp only [Act.put, List.getElem_toArray, List.getElem_cons_succ, List.getElem_cons_zero, List.setIfInBounds_toArray, List.set_cons_zero, List.set_cons_succ]
      refine wpAnyJ_ready [13] (by kernel_rfl) (by simp) (NextJ.cons rfl (fun K hK => ?_) NextJ.nil)
      have c81 := kS8.cell 1 _ rfl
      have f81 := kS8.frozen 1
      have l81 := kS8.lt
      go_simp
      have hB9 := hB8.setCell (p := ⟨w2.heap.size, 1, none⟩) (by simp; omega) (.slice A8 n8 c8)
      have hne : w.heap.size ≠ w2.heap.size := by omega
      have kA9' := kA8.far (p := ⟨w2.heap.size, 1, none⟩) hne (.slice A8 n8 c8)
      obtain ⟨tb, t0, t1, t2⟩ := (hr.below' hB9 hH).triAt hq1
      have tg9 : (W8.setCell ⟨w2.heap.size, 1, none⟩ (.slice A8 n8 c8)).cell? ⟨b', o' + j, none⟩ = some (.int .i64 (q : Int)) := by
        obtain ⟨b2, o2, e2, _, g2⟩ := (ho.below' hB9 hH).int hjn
        rw [natI_get, hq.out] at g2
        injection e2 with e2
        injection e2 with e3 e4 _
        subst e3; subst e4; exact g2
      refine hK.out _ _ ⟨kA9'.cell 1 _ rfl, tg9, t0, t1, t2⟩ (fun h => absurd h (by decide)) ?_
      clear hK K
      try simp only [Act.put, List.getElem_toArray, List.getElem_cons_succ, List.getElem_cons_zero, List.setIfInBounds_toArray, List.set_cons_zero, List.set_cons_succ]
      refine wpAnyJ_done (by kernel_rfl) ?_ _
      clear hS1_8 c81 f81 l81 t0 t1 t2 tg tg9
      go_wp2_with fail
      go_roundw
      case rel => exact ⟨j + 1, .slice A8 n8 c8, by omega, by go_num, by simpa using kS8.set_ 1 (.slice A8 n8 c8), kA9', kR8.far (by simp; omega) _, by rw [HROW.out]; exact ownsRow_setCell_other hown8 (hown8.ne_block kS8 (by decide)).symm _, hB9⟩
      case measure => simp [intOf]; omega
    · have e1 : O.take j = O := List.take_of_length_le (by rw [HO.out]; omega)
      rw [e1] at hown hcv hS
      generalize hMM : O.map (xAt l) = M at hown hcv hS
      have q0 := hR.frozen 0
      have q1 := hR.frozen 1
      have r0 := hR.cell 0 _ rfl
      have r1 := hR.cell 1 _ rfl
      have rl := hR.lt
      have s0 := hS.cell 0 _ rfl
      have s1 := hS.cell 1 _ rfl
      go_wp2_with fail
      (try simp only [Exit.inBlock, Exit.then])
      refine sheet_ret2 rfl rfl (g := w.heap.size + 1) (x := .int .i64 P) (y := .slice Av M.length cv) (by simpa using (hR.set_ 0 (.int .i64 P)).set_ 1 (.slice Av M.length cv)) rfl ?_
      subst hMM
      exact ⟨Av, cv, rfl, Own.base (ownsRow_setCell_below (ownsRow_setCell_below hown (by simp) _) (by simp) _) (by omega), hcv, by (repeat' first | assumption | exact Below.refl _ _ | apply Below.drew | (refine Below.setCells ?_ _ _ ?_) | (refine Below.setCell ?_ ?_ _) | (refine Below.alloc ?_ ?_ _) | (simp; done) | (simp; omega))⟩
end Go.Proofs.Ytogkgoabonbkkaa
