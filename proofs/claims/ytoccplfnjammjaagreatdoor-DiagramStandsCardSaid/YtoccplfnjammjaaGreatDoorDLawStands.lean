/- The law DiagramStands, walked. -/
import Derived.Test.YtoccplfnjammjaaGreatDoorDStandM
import Derived.Test.YtoccplfnjammjaaGreatDoorDSwA
import Derived.Test.YtoccplfnjammjaaGreatDoorDGrowM
import Derived.Test.YtoccplfnjammjaaGreatDoorMatch5
set_option linter.unusedSimpArgs false
set_option linter.unusedVariables false
namespace Go.Proofs.YtoccplfnjammjaaGreatDoor
open Go Go.RowKit Tor

theorem infoBool14 : (Tryz.prog.info? 4).map (fun i => (i.zero, i.size, i.bytes)) = some (some (.bool false), 1, 1) := by kernel_rfl
theorem dcut0_any (p : Nat) (A : Option Addr) (l : List Tri) (c : Nat) (t : Nat) (w : World) (H : Nat) (hr : RdT w H A l) (hH : H ≤ w.heap.size)
    (hw : ∀ (k : Nat) (hk : k < l.length), l[k].s.size ≤ 9223372036854775807) (ok : OkD p l) (ht : t ≤ (rowsS p l).length) :
    Calls Tryz.prog 23 #[.agg #[.int .i64 p, .slice A l.length c], .int .i64 0, .int .i64 t] w fun e w' => ∃ (A' : Option Addr) (c' : Nat), e = .returned (.tuple #[.agg #[.int .i64 p, .slice A' (cutD p l 0 t).length c'], .int .i64 0]) ∧ Own 3 Tri.enc w' w.heap.size 44 (.slice A' (cutD p l 0 t).length c') (cutD p l 0 t) ∧ (cutD p l 0 t).length ≤ c' ∧ Below w.heap.size w w' :=
  dcut_any p A l c 0 t w H hr hH hw ok (Nat.zero_le _) ht
theorem DoneRow.of0 {w : World} {base n g : Nat} (h : w.ownsRow base 4 1 (.slice (some ⟨g, 0, none⟩) n n) n (madeCells (Value.bool false).cells (n * 1)).toList) : DoneRow w base g n n [] := doneRow_start h

set_option maxRecDepth 100000 in
set_option maxHeartbeats 8000000 in
theorem lawStands_any (p : Int) (A : Option Addr) (l : List Tri) (c : Nat) (a : Int) (w : World) (H : Nat) (hr : RdT w H A l) (hH : H ≤ w.heap.size)
    (hw : ∀ (k : Nat) (hk : k < l.length), l[k].s.size ≤ 9223372036854775807) (hl : l.length ≤ 9223372036854775807) (wa : (Lit.int .u16 a).wf = true) (hnil : A = none → c = 0) (hDt : DtAt w) :
    Calls Tryz.prog 7 #[.agg #[.int .i64 p, .slice A l.length c], .int .u16 a] w (Ret (.bool true) w) := by
  have hab := Go.bounds_u16 wa
  have hBA : Below w.heap.size w (w.alloc (.cells #[.int .i64 p, .slice A l.length c] 25)) := (Below.refl _ _).alloc (Nat.le_refl _) _
  have kSA : Blk (w.alloc (.cells #[.int .i64 p, .slice A l.length c] 25)) w.heap.size 25 #[.int .i64 p, .slice A l.length c] := Blk.new w _ _
  have HF := Lib.hid (far_any p A l c 60 _ H (hr.below' hBA hH) (by have := hBA.size; omega) hl hw)
  obtain ⟨wA, hwA⟩ : ∃ wA, Hid (w.alloc (.cells #[.int .i64 p, .slice A l.length c] 25) = wA) := ⟨_, Lib.hid rfl⟩
  rw [hwA.out] at hBA kSA HF
  have HW := Lib.hid hw
  clear hw
  have hlA := kSA.lt
  have A0 := kSA.cell 0 _ rfl
  have A1 := kSA.cell 1 _ rfl
  have hzA := hBA.size
  obtain ⟨FB, hFB⟩ : ∃ b, Hid (farD l 60 = b) := ⟨_, Lib.hid rfl⟩
  rw [hFB.out] at HF
  go_enter Tryz.func7, Tryz.ntmps7
  cases FB with
  | true =>
    go_wp2_with (first
      | (go_at_call 15; rw [hwA.out]; refine HF.out.mono ?_; rintro e w1 ⟨rfl, hB1⟩
         have hBw1 := hBA.trans (hB1.mono hzA)
         have kS1 := kSA.below' hB1
         have hz1 := hB1.size
         have a01 := kS1.cell 0 _ rfl
         have a11 := kS1.cell 1 _ rfl
         have al1 := kS1.lt)
      | (go_at_call 10; refine (shown_any w1 (hDt.below hBw1)).mono ?_; rintro e w2 ⟨rfl, hB2⟩
         have hBw2 := hBw1.trans (hB2.mono hBw1.size))
      | fail)
    go_ret
    exact ⟨rfl, hBw2⟩
  | false =>
    have hl6 : l.length ≤ 1000000 := by
      have hn := hFB.out
      unfold farD at hn
      simp only [Bool.or_eq_false_iff, decide_eq_false_iff_not] at hn
      omega
    have hUR := Lib.hid (fun w' (hB : Below w.heap.size w w') => u_rows p A l c w' H (hr.below' hB hH) (Nat.le_trans hH hB.size) HW.out hl6)
    by_cases hE : sheetE p l = 0
    · obtain ⟨P, rfl⟩ := pnat hE
      have ok := okD_of hE
      have hp2 := ok.p2
      have hp24 := ok.p24
      have hl4 : l.length ≤ 60 := by
        have hn := hFB.out
        have := ok.len
        unfold farD at hn
        simp only [Bool.or_eq_false_iff, Bool.and_eq_false_iff, decide_eq_false_iff_not] at hn
        omega
      have hRA : rowsA P l = rowsS P l := by unfold rowsA; rw [if_pos hE, Int.toNat_natCast]
      rw [hRA, hE] at hUR
      clear hRA
      have hRl := rowsS_len P l
      obtain ⟨j0, hj0, hy0', hy1', hy2'⟩ := info_parts infoBool14
      go_wp2_with (first
        | (go_at_call 15; rw [hwA.out]; refine HF.out.mono ?_; rintro e w1 ⟨rfl, hB1⟩
           have hBw1 := hBA.trans (hB1.mono hzA)
           have kS1 := kSA.below' hB1
           have hz1 := hB1.size
           have a01 := kS1.cell 0 _ rfl
           have a11 := kS1.cell 1 _ rfl
           have al1 := kS1.lt)
        | (go_at_call 18; refine (hUR.out w1 hBw1).mono ?_; rintro e w2 ⟨A2, c2, rfl, g2, hB2⟩
           have hBw2 := hBw1.trans (hB2.mono hBw1.size)
           have kS2 := kS1.below' hB2
           have hz2 := hB2.size
           have a02 := kS2.cell 0 _ rfl
           have a12 := kS2.cell 1 _ rfl
           have al2 := kS2.lt)
        | (at_make; refine wpList_make_full _ rfl _ _ _ rfl w2.heap.size _ j0 _ 1 Tryz.underlying52 hj0 hy0' hy1' .i64 .i64 _ _ l.length rfl rfl rfl rfl (by rw [hy2']; omega) (by unfold maxLen; omega) (Nat.le_refl _) ?_; intro w3 hown0 hg0
           have hD0 := doneRow_start hown0
           have hB3 : Below w2.heap.size w2 w3 := ⟨hg0.os, hg0.tape, hg0.output, hg0.size, fun k hk => hg0.block k hk (by simp)⟩)
        | fail)
      have kS3 := kS2.below' hB3
      have hz3 := hB3.size
      have hBw3 := hBw2.trans (hB3.mono hBw2.size)
      have g3 := g2.below' hB3 (Nat.le_refl _)
      clear hown0 hg0
      (try clear a02)
      (try clear a12)
      (try clear al2)
      (try clear a01)
      (try clear a11)
      (try clear al1)
      (try clear A0)
      (try clear A1)
      (try clear hlA)
      have HOK := Lib.hid ok
      obtain ⟨RR, hRR⟩ : ∃ RR, Hid (rowsS P l = RR) := ⟨_, Lib.hid rfl⟩
      have hRin : Hid (∀ r ∈ RR, ∀ i ∈ r, i < l.length) := Lib.hid (by rw [← hRR.out]; exact fun r hr i hi => row_in hr i hi)
      have hRle : Hid (∀ r ∈ RR, r.length ≤ 400) := Lib.hid (by rw [← hRR.out]; exact fun r hr => by have := row_len ok.inP hr; omega)
      have HHI : Hid (∀ n (hn : n + 1 < RR.length) (k : Nat), k ∈ RR[n + 1] → ∃ j, j ∈ RR[n]'(by omega) ∧ j < k ∧ touchB (xAt l j).b (xAt l k).b = true) := Lib.hid (by have e := hRR.out; subst e; exact fun n hn k hk => high_row ok.inP hn hk)
      have HGAP : Hid (∀ n (hn : n < RR.length) i (hi : i + 1 < RR[n].length), (xAt l (RR[n][i]'(by omega))).b + 2 ≤ (xAt l RR[n][i + 1]).b) := Lib.hid (by have e := hRR.out; subst e; exact fun n hn i hi => row_gap hn hi)
      have HFR : Hid (∀ n i (_ : n < RR.length) (hi : i < (RR.getD n []).length), (RR.getD n [])[i] ∉ metL RR n i) := Lib.hid (by have e := hRR.out; subst e; exact fun n i hn hi => met_fresh hn hi)
      have HALL : Hid ((metL RR RR.length 0).length = l.length) := Lib.hid (by have e := hRR.out; subst e; exact met_all ok.inP)
      have HCB : Hid (∀ m, m ≤ RR.length → cutD P l 0 m ++ cutD P l m RR.length = sheetD P l) := Lib.hid (by have e := hRR.out; subst e; exact fun m hm => cut_both P l m hm)
      rw [hRR.out] at g2 g3 hRl ⊢
      have hRl4 : RR.length ≤ 60 := by omega
      clear ok hRl
      go_loopw [8, 9] (fun mv nv wr => ∃ n : Nat, n ≤ RR.length ∧ nv = .int .i64 n ∧ mv = .int .i64 ((metL RR n 0).length : Nat) ∧ DoneRow wr w2.heap.size w2.heap.size l.length l.length (metL RR n 0) ∧ Below w2.heap.size w2 wr) (fun _ nv _ => RR.length - (intOf nv).toNat)
      case atStart => exact ⟨0, Nat.zero_le _, rfl, rfl, hD0, hB3⟩
      case round =>
        obtain ⟨n, hn, rfl, rfl, hD, hB⟩ := hrel
        have hz := hB.size
        by_cases hlt : n < RR.length
        · obtain ⟨b2, o2, hA2, hb2, Ak, ck, h0, hAr⟩ := (g2.below' hB (Nat.le_refl _)).row hlt
          subst hA2
          have l1 := lt_of_cell h0
          have n0 : (0 : Int) ≤ (n : Int) := by omega
          have n1 : (n : Int) < (RR.length : Int) := by omega
          have e4 : IntKind.i64.wrap ((n : Int) + 1) = (n : Int) + 1 := IntWalk.i64_in _ (by omega)
          have hin := hRin.out _ (List.getElem_mem hlt)
          have hrl := hRle.out _ (List.getElem_mem hlt)
          have hgd : RR.getD n [] = RR[n] := by rw [List.getD_eq_getElem?_getD, List.getElem?_eq_getElem hlt]; rfl
          have hgap := HGAP.out n hlt
          obtain ⟨r, hr0⟩ : ∃ r, Hid (RR[n] = r) := ⟨_, Lib.hid rfl⟩
          rw [hr0.out] at hin hrl hgd h0 hAr
          simp only [hr0.out] at hgap
          have HIN := Lib.hid hin
          have HGD := Lib.hid hgd
          have HG := Lib.hid hgap
          clear hin hgd hgap
          go_wp2_with fail
          obtain ⟨wo, hwo⟩ : ∃ wo : World, wo = wr := ⟨_, rfl⟩
          obtain rfl := hwo
          go_loopw [8, 10] (fun mv iv wr => ∃ i : Nat, i ≤ r.length ∧ iv = .int .i64 i ∧ mv = .int .i64 ((metL RR n i).length : Nat) ∧ DoneRow wr w2.heap.size w2.heap.size l.length l.length (metL RR n i) ∧ Below w2.heap.size w2 wr) (fun _ iv _ => r.length - (intOf iv).toNat)
          case atStart => exact ⟨0, Nat.zero_le _, rfl, rfl, hD, hB⟩
          case round =>
            clear hD
            obtain ⟨i, hi, rfl, rfl, hD, hBi⟩ := hrel
            have hzi := hBi.size
            have kS := kS2.below' hBi
            have s0 := kS.cell 0 _ rfl
            have s1 := kS.cell 1 _ rfl
            have sl := kS.lt
            obtain ⟨_, _, hA3, _, Ak3, ck3, h0i, hAri⟩ := (g2.below' hBi (Nat.le_refl _)).row hlt
            cases hA3
            rw [hr0.out] at h0i hAri
            have l1i := lt_of_cell h0i
            by_cases hil : i < r.length
            · obtain ⟨rb, ro, hAr2, hrb, m0⟩ := hAri.nat hil
              subst hAr2
              have hq1 := HIN.out r[i] (List.getElem_mem hil)
              have hfr := HFR.out n i hlt (by rw [HGD.out]; exact hil)
              simp only [HGD.out] at hfr
              obtain ⟨k, hk⟩ : ∃ k, Hid (r[i] = k) := ⟨_, Lib.hid rfl⟩
              simp only [hk.out] at hq1 m0 hfr
              have dk := hD.cell hq1
              have df := hD.frozen k
              have dl := hD.heap.2.1
              have hct : (metL RR n i).contains k = false := by simpa using hfr
              rw [hct] at dk
              have lr := lt_of_cell m0
              have i0 : (0 : Int) ≤ (i : Int) := by omega
              have i1 : (i : Int) < (r.length : Int) := by omega
              have k0 : (0 : Int) ≤ (k : Int) := by omega
              have k1 : (k : Int) < (l.length : Int) := by omega
              have k2 : ¬ (k : Int) < 0 := by omega
              have k3 : ¬ (l.length : Int) ≤ (k : Int) := by omega
              clear hct hfr
              obtain ⟨b, o, hA, hb0, t0, t1, t2⟩ := ((hr.below' hBw2 hH).below' hBi (Nat.le_trans hH hBw2.size)).tri hq1
              subst hA
              have hbk := HOK.out.bd k hq1
              have lq := lt_of_cell t1
              have hxk := xAt_of hq1
              have dk1 : decide ((k : Int) < 0) = false := decide_eq_false k2
              have dk2 : decide ((l.length : Int) ≤ (k : Int)) = false := decide_eq_false k3
              have dk6 : decide (l.length ≤ k) = false := decide_eq_false (by omega)
              by_cases hi0 : i = 0
              · have y1 : ¬ (0 : Int) < (i : Int) := by omega
                have HI0 := Lib.hid hi0
                clear hi0
                have dk3 : decide ((0 : Int) < (i : Int)) = false := decide_eq_false y1
                have y3 : ¬ 0 < i := by omega
                have dk5 : decide (0 < i) = false := decide_eq_false y3
                go_wp2_with fail
                go_big_quiet (fail)
                have hBq := hBi.drewN nq
                have hDq := hD.below ((Below.refl _ _).drewN nq)
                generalize wr.drewN nq = wq at hBq hDq ⊢
                clear kS s0 s1 sl h0i hAri l1i m0 dk df dl lr t0 t1 t2 lq hzi hBi hD
                have hzq := hBq.size
                have df := hDq.frozen k
                have dl := hDq.heap.2.1
                have dk := hDq.cell hq1
                obtain ⟨hDs, hgs⟩ := hDq.store k
                have hBs : Below w2.heap.size w2 (wq.setCell ⟨w2.heap.size, k, none⟩ (.bool true)) := hBq.setCell (by show w2.heap.size ≤ w2.heap.size; omega) _
                have HST := Lib.hid (metL_step RR n i (by rw [HGD.out]; exact hil))
                simp only [HGD.out, hk.out] at HST
                have hml := metL_le RR HALL.out hlt (i := i) (by rw [HGD.out]; exact hil)
                obtain ⟨ML, hML⟩ : ∃ x, Hid ((metL RR n i).length = x) := ⟨_, Lib.hid rfl⟩
                rw [hML.out] at hml ⊢
                have e8 : IntKind.i64.wrap ((ML : Int) + 1) = (ML : Int) + 1 := IntWalk.i64_in _ (by omega)
                have e9 : IntKind.i64.wrap ((i : Int) + 1) = (i : Int) + 1 := IntWalk.i64_in _ (by omega)
                by_cases hn0 : n = 0
                · have v1 : ((n : Int) == 0) = true := by simp; omega
                  have v2 : ¬ (0 : Int) < (n : Int) := by omega
                  have v3 : decide ((0 : Int) < (n : Int)) = false := decide_eq_false v2
                  have v4 : ¬ 0 < n := by omega
                  have v5 : decide (0 < n) = false := decide_eq_false v4
                  have v6 : decide (n = 0) = true := decide_eq_true hn0
                  have HN0 := Lib.hid hn0
                  clear hn0
                  go_wp2_with fail
                  generalize wq.setCell ⟨w2.heap.size, k, none⟩ (.bool true) = ws at hBs hDs ⊢
                  clear hBq hDq df dl dk hgs hzq
                  clear wq
                  (try clear nq)
                  (try clear wr)
                  go_loopw [12, 13] (fun hv jv wr => hv = .bool true ∧ jv = .int .i64 0 ∧ Hid (wr = ws)) (fun _ _ _ => 0)
                  case atStart => exact ⟨rfl, rfl, Lib.hid rfl⟩
                  case round =>
                    obtain ⟨rfl, rfl, hw'⟩ := hrel
                    obtain rfl := hw'.out
                    go_wp2_with fail
                    go_roundw
                    case rel => exact ⟨i + 1, by omega, by go_num, congrArg (Value.int .i64) (by rw [HST.out, List.length_append, hML.out]; simp), by rw [HST.out]; exact hDs, hBs⟩
                    case measure => simp [intOf]; omega
                · have v1 : ((n : Int) == 0) = false := by rw [beq_eq_false_iff_ne]; omega
                  have v2 : (0 : Int) < (n : Int) := by omega
                  have v3 : decide ((0 : Int) < (n : Int)) = true := decide_eq_true v2
                  have v4 : 0 < n := by omega
                  have v5 : decide (0 < n) = true := decide_eq_true v4
                  have v6 : decide (n = 0) = false := decide_eq_false hn0
                  have HN0 := Lib.hid hn0
                  clear hn0
                  have hlp : n - 1 < RR.length := by omega
                  have hinp := hRin.out _ (List.getElem_mem hlp)
                  have hrlp := hRle.out _ (List.getElem_mem hlp)
                  have hend := highL_end l k (RR[n - 1]) (by
                    obtain ⟨j, h1, h2, h3⟩ := HHI.out (n - 1) (by omega) k (by
                      have e : RR[n - 1 + 1]'(by omega) = RR[n] := by congr 1; omega
                      rw [e, hr0.out, ← hk.out]; exact List.getElem_mem hil)
                    exact ⟨j, h1, h2, h3⟩)
                  obtain ⟨rp, hrp⟩ : ∃ r, Hid (RR[n - 1] = r) := ⟨_, Lib.hid rfl⟩
                  rw [hrp.out] at hinp hrlp hend
                  have HEND := Lib.hid hend
                  have HINP := Lib.hid hinp
                  clear hend hinp
                  have e10 : IntKind.i64.wrap ((n : Int) - 1) = (n : Int) - 1 := IntWalk.i64_in _ (by omega)
                  have p0 : (0 : Int) ≤ (n : Int) - 1 := by omega
                  have p1 : (n : Int) - 1 < (RR.length : Int) := by omega
                  have p2 : ((n : Int) - 1).toNat = n - 1 := by omega
                  go_wp2_with fail
                  generalize wq.setCell ⟨w2.heap.size, k, none⟩ (.bool true) = ws at hBs hDs ⊢
                  clear hBq hDq df dl dk hgs hzq
                  clear wq
                  (try clear nq)
                  (try clear wr)
                  go_loopw [12, 13] (fun hv jv wr => ∃ j : Nat, j ≤ rp.length ∧ jv = .int .i64 j ∧ hv = .bool (highL l k rp j) ∧ Below ws.heap.size ws wr) (fun _ jv _ => rp.length - (intOf jv).toNat)
                  case atStart => exact ⟨0, Nat.zero_le _, rfl, by rw [highL_zero], Below.refl _ _⟩
                  case round =>
                    obtain ⟨j, hj, rfl, rfl, hBj⟩ := hrel
                    have hzs := hBs.size
                    have hzj := hBj.size
                    have hBo := hBs.trans (hBj.mono hzs)
                    have hzo := hBo.size
                    obtain ⟨_, _, hA3, _, Ap, cp, hp0, hpR⟩ := (g2.below' hBo (Nat.le_refl _)).row hlp
                    cases hA3
                    rw [hrp.out] at hp0 hpR
                    have lp := lt_of_cell hp0
                    have hp0' : wr.cell? ⟨b2, o2 + (n - 1), none⟩ = some (.slice Ap rp.length cp) := hp0
                    have q0 : (0 : Int) ≤ (j : Int) := by omega
                    by_cases hjl : j < rp.length
                    · obtain ⟨pb, po, hAp, hpb, z0⟩ := hpR.nat hjl
                      subst hAp
                      have hq2 := HINP.out rp[j] (List.getElem_mem hjl)
                      have hsp := highL_step l k rp hjl
                      obtain ⟨x, hx⟩ : ∃ x, Hid (rp[j] = x) := ⟨_, Lib.hid rfl⟩
                      simp only [hx.out] at hq2 z0 hsp
                      have lz := lt_of_cell z0
                      have q1 : (j : Int) < (rp.length : Int) := by omega
                      have q2 : decide ((j : Int) < (rp.length : Int)) = true := decide_eq_true q1
                      have q3 : decide (j < rp.length) = true := decide_eq_true hjl
                      have x0 : (0 : Int) ≤ (x : Int) := by omega
                      have x1 : (x : Int) < (l.length : Int) := by omega
                      have e11 : IntKind.i64.wrap ((j : Int) + 1) = (j : Int) + 1 := IntWalk.i64_in _ (by omega)
                      have hbx := HOK.out.bd x hq2
                      rw [xAt_of hq2, xAt_of hq1] at hsp
                      obtain ⟨TB, hTB⟩ : ∃ TB, Hid (touchB l[x].b l[k].b = TB) := ⟨_, Lib.hid rfl⟩
                      rw [hTB.out] at hsp
                      have HSP := Lib.hid hsp
                      clear hsp
                      obtain ⟨B0, hB0⟩ : ∃ b, Hid (highL l k rp j = b) := ⟨_, Lib.hid rfl⟩
                      rw [hB0.out] at HSP ⊢
                      cases B0 with
                      | true =>
                        go_wp2_with fail
                        go_big_quiet (fail)
                        have hBk := hBj.drewN nq
                        go_wp2_with fail
                        go_roundw
                        case rel => exact ⟨j + 1, by omega, by go_num, by rw [HSP.out]; rfl, hBk⟩
                        case measure => simp [intOf]; omega
                      | false =>
                        by_cases hxk : x < k
                        · have w1 : (x : Int) < (k : Int) := by omega
                          have w2 : decide ((x : Int) < (k : Int)) = true := decide_eq_true w1
                          have w3 : decide (x < k) = true := decide_eq_true hxk
                          rw [w3] at HSP
                          have kS := kS2.below' hBo
                          have s0 := kS.cell 0 _ rfl
                          have s1 := kS.cell 1 _ rfl
                          have sl := kS.lt
                          have hrr := (hr.below' hBw2 hH).below' hBo (Nat.le_trans hH hBw2.size)
                          obtain ⟨_, _, hA4, _, t0, t1, t2⟩ := hrr.tri hq1
                          cases hA4
                          obtain ⟨_, _, hA5, _, u0, u1, u2⟩ := hrr.tri hq2
                          cases hA5
                          have lq := lt_of_cell t1
                          have HT := Lib.hid (fun (g : Ex wr) => calls_ex (P := Tryz.prog) (touch_any l[x] l[k] g.w (by omega) (by omega) (by omega) (by omega)))
                          rw [hTB.out] at HT
                          go_wp2_with fail
                          refine wp_region_ex (by kernel_rfl) (by kernel_rfl) ?_
                          repeat (go_big_quiet_step ((go_at_call 19; refine (HT.out _).mono ?_; rintro e w' ⟨rfl, hg⟩; exact ⟨rfl, hg⟩)))
                          refine wpQuiet_nil ?_
                          intro _ hw'
                          obtain ⟨g, hw''⟩ := hw'
                          subst hw''
                          have hgq := g.h
                          go_wp2_with fail
                          go_roundw
                          case rel => exact ⟨j + 1, by omega, by go_num, by rw [HSP.out]; rfl, hBj.trans (hgq.mono hzj)⟩
                          case measure => simp [intOf]; omega
                        · have w1 : ¬ (x : Int) < (k : Int) := by omega
                          have w2 : decide ((x : Int) < (k : Int)) = false := decide_eq_false w1
                          have w3 : decide (x < k) = false := decide_eq_false hxk
                          rw [w3] at HSP
                          go_wp2_with fail
                          go_big_quiet (fail)
                          have hBk := hBj.drewN nq
                          go_wp2_with fail
                          go_roundw
                          case rel => exact ⟨j + 1, by omega, by go_num, by rw [HSP.out]; rfl, hBk⟩
                          case measure => simp [intOf]; omega
                    · have e0 : j = rp.length := by omega
                      subst e0
                      rw [HEND.out]
                      have q1 : ¬ (rp.length : Int) < (rp.length : Int) := by omega
                      go_wp2_with fail
                      go_roundw
                      case rel => exact ⟨i + 1, by omega, by go_num, congrArg (Value.int .i64) (by rw [HST.out, List.length_append, hML.out]; simp), by rw [HST.out]; exact hDs.below (hBj), hBo⟩
                      case measure => simp [intOf]; omega
              · have y1 : (0 : Int) < (i : Int) := by omega
                have hip : i - 1 < r.length := by omega
                obtain ⟨_, _, hA4, _, m1⟩ := hAri.nat hip
                cases hA4
                have hq2 := HIN.out r[i - 1] (List.getElem_mem hip)
                have hgp := HG.out (i - 1) (by omega)
                simp only [show i - 1 + 1 = i from by omega] at hgp
                obtain ⟨kp, hkp⟩ : ∃ k, Hid (r[i - 1] = k) := ⟨_, Lib.hid rfl⟩
                simp only [hkp.out, hk.out] at hq2 m1 hgp
                rw [hxk, xAt_of hq2] at hgp
                obtain ⟨_, _, hA5, _, u0, u1, u2⟩ := ((hr.below' hBw2 hH).below' hBi (Nat.le_trans hH hBw2.size)).tri hq2
                cases hA5
                have hbp := HOK.out.bd kp hq2
                have y2 : ¬ l[k].b < l[kp].b + 2 := by omega
                have e6 : IntKind.i64.wrap (l[kp].b + 2) = l[kp].b + 2 := IntWalk.i64_in _ (by omega)
                have e7 : IntKind.i64.wrap ((i : Int) - 1) = (i : Int) - 1 := IntWalk.i64_in _ (by omega)
                have i4 : (0 : Int) ≤ (i : Int) - 1 := by omega
                have i5 : (i : Int) - 1 < (r.length : Int) := by omega
                have m1' : wr.cell? ⟨rb, ro + (i - 1), none⟩ = some (.int .i64 (kp : Nat)) := m1
                have i6 : ((i : Int) - 1).toNat = i - 1 := by omega
                have dk3 : decide ((0 : Int) < (i : Int)) = true := decide_eq_true y1
                have y3 : 0 < i := by omega
                have dk5 : decide (0 < i) = true := decide_eq_true y3
                have dk4 : decide (l[k].b < l[kp].b + 2) = false := decide_eq_false y2
                have kp0 : (0 : Int) ≤ (kp : Int) := by omega
                have kp1 : (kp : Int) < (l.length : Int) := by omega
                have HI0 := Lib.hid hi0
                clear hi0 hgp hbp
                go_wp2_with fail
                go_big_quiet (fail)
                have hBq := hBi.drewN nq
                have hDq := hD.below ((Below.refl _ _).drewN nq)
                generalize wr.drewN nq = wq at hBq hDq ⊢
                clear kS s0 s1 sl h0i hAri l1i m0 dk df dl lr t0 t1 t2 lq hzi hBi hD
                clear m1 m1' u0 u1 u2
                have hzq := hBq.size
                have df := hDq.frozen k
                have dl := hDq.heap.2.1
                have dk := hDq.cell hq1
                obtain ⟨hDs, hgs⟩ := hDq.store k
                have hBs : Below w2.heap.size w2 (wq.setCell ⟨w2.heap.size, k, none⟩ (.bool true)) := hBq.setCell (by show w2.heap.size ≤ w2.heap.size; omega) _
                have HST := Lib.hid (metL_step RR n i (by rw [HGD.out]; exact hil))
                simp only [HGD.out, hk.out] at HST
                have hml := metL_le RR HALL.out hlt (i := i) (by rw [HGD.out]; exact hil)
                obtain ⟨ML, hML⟩ : ∃ x, Hid ((metL RR n i).length = x) := ⟨_, Lib.hid rfl⟩
                rw [hML.out] at hml ⊢
                have e8 : IntKind.i64.wrap ((ML : Int) + 1) = (ML : Int) + 1 := IntWalk.i64_in _ (by omega)
                have e9 : IntKind.i64.wrap ((i : Int) + 1) = (i : Int) + 1 := IntWalk.i64_in _ (by omega)
                by_cases hn0 : n = 0
                · have v1 : ((n : Int) == 0) = true := by simp; omega
                  have v2 : ¬ (0 : Int) < (n : Int) := by omega
                  have v3 : decide ((0 : Int) < (n : Int)) = false := decide_eq_false v2
                  have v4 : ¬ 0 < n := by omega
                  have v5 : decide (0 < n) = false := decide_eq_false v4
                  have v6 : decide (n = 0) = true := decide_eq_true hn0
                  have HN0 := Lib.hid hn0
                  clear hn0
                  go_wp2_with fail
                  generalize wq.setCell ⟨w2.heap.size, k, none⟩ (.bool true) = ws at hBs hDs ⊢
                  clear hBq hDq df dl dk hgs hzq
                  clear wq
                  (try clear nq)
                  (try clear wr)
                  go_loopw [12, 13] (fun hv jv wr => hv = .bool true ∧ jv = .int .i64 0 ∧ Hid (wr = ws)) (fun _ _ _ => 0)
                  case atStart => exact ⟨rfl, rfl, Lib.hid rfl⟩
                  case round =>
                    obtain ⟨rfl, rfl, hw'⟩ := hrel
                    obtain rfl := hw'.out
                    go_wp2_with fail
                    go_roundw
                    case rel => exact ⟨i + 1, by omega, by go_num, congrArg (Value.int .i64) (by rw [HST.out, List.length_append, hML.out]; simp), by rw [HST.out]; exact hDs, hBs⟩
                    case measure => simp [intOf]; omega
                · have v1 : ((n : Int) == 0) = false := by rw [beq_eq_false_iff_ne]; omega
                  have v2 : (0 : Int) < (n : Int) := by omega
                  have v3 : decide ((0 : Int) < (n : Int)) = true := decide_eq_true v2
                  have v4 : 0 < n := by omega
                  have v5 : decide (0 < n) = true := decide_eq_true v4
                  have v6 : decide (n = 0) = false := decide_eq_false hn0
                  have HN0 := Lib.hid hn0
                  clear hn0
                  have hlp : n - 1 < RR.length := by omega
                  have hinp := hRin.out _ (List.getElem_mem hlp)
                  have hrlp := hRle.out _ (List.getElem_mem hlp)
                  have hend := highL_end l k (RR[n - 1]) (by
                    obtain ⟨j, h1, h2, h3⟩ := HHI.out (n - 1) (by omega) k (by
                      have e : RR[n - 1 + 1]'(by omega) = RR[n] := by congr 1; omega
                      rw [e, hr0.out, ← hk.out]; exact List.getElem_mem hil)
                    exact ⟨j, h1, h2, h3⟩)
                  obtain ⟨rp, hrp⟩ : ∃ r, Hid (RR[n - 1] = r) := ⟨_, Lib.hid rfl⟩
                  rw [hrp.out] at hinp hrlp hend
                  have HEND := Lib.hid hend
                  have HINP := Lib.hid hinp
                  clear hend hinp
                  have e10 : IntKind.i64.wrap ((n : Int) - 1) = (n : Int) - 1 := IntWalk.i64_in _ (by omega)
                  have p0 : (0 : Int) ≤ (n : Int) - 1 := by omega
                  have p1 : (n : Int) - 1 < (RR.length : Int) := by omega
                  have p2 : ((n : Int) - 1).toNat = n - 1 := by omega
                  go_wp2_with fail
                  generalize wq.setCell ⟨w2.heap.size, k, none⟩ (.bool true) = ws at hBs hDs ⊢
                  clear hBq hDq df dl dk hgs hzq
                  clear wq
                  (try clear nq)
                  (try clear wr)
                  go_loopw [12, 13] (fun hv jv wr => ∃ j : Nat, j ≤ rp.length ∧ jv = .int .i64 j ∧ hv = .bool (highL l k rp j) ∧ Below ws.heap.size ws wr) (fun _ jv _ => rp.length - (intOf jv).toNat)
                  case atStart => exact ⟨0, Nat.zero_le _, rfl, by rw [highL_zero], Below.refl _ _⟩
                  case round =>
                    obtain ⟨j, hj, rfl, rfl, hBj⟩ := hrel
                    have hzs := hBs.size
                    have hzj := hBj.size
                    have hBo := hBs.trans (hBj.mono hzs)
                    have hzo := hBo.size
                    obtain ⟨_, _, hA3, _, Ap, cp, hp0, hpR⟩ := (g2.below' hBo (Nat.le_refl _)).row hlp
                    cases hA3
                    rw [hrp.out] at hp0 hpR
                    have lp := lt_of_cell hp0
                    have hp0' : wr.cell? ⟨b2, o2 + (n - 1), none⟩ = some (.slice Ap rp.length cp) := hp0
                    have q0 : (0 : Int) ≤ (j : Int) := by omega
                    by_cases hjl : j < rp.length
                    · obtain ⟨pb, po, hAp, hpb, z0⟩ := hpR.nat hjl
                      subst hAp
                      have hq2 := HINP.out rp[j] (List.getElem_mem hjl)
                      have hsp := highL_step l k rp hjl
                      obtain ⟨x, hx⟩ : ∃ x, Hid (rp[j] = x) := ⟨_, Lib.hid rfl⟩
                      simp only [hx.out] at hq2 z0 hsp
                      have lz := lt_of_cell z0
                      have q1 : (j : Int) < (rp.length : Int) := by omega
                      have q2 : decide ((j : Int) < (rp.length : Int)) = true := decide_eq_true q1
                      have q3 : decide (j < rp.length) = true := decide_eq_true hjl
                      have x0 : (0 : Int) ≤ (x : Int) := by omega
                      have x1 : (x : Int) < (l.length : Int) := by omega
                      have e11 : IntKind.i64.wrap ((j : Int) + 1) = (j : Int) + 1 := IntWalk.i64_in _ (by omega)
                      have hbx := HOK.out.bd x hq2
                      rw [xAt_of hq2, xAt_of hq1] at hsp
                      obtain ⟨TB, hTB⟩ : ∃ TB, Hid (touchB l[x].b l[k].b = TB) := ⟨_, Lib.hid rfl⟩
                      rw [hTB.out] at hsp
                      have HSP := Lib.hid hsp
                      clear hsp
                      obtain ⟨B0, hB0⟩ : ∃ b, Hid (highL l k rp j = b) := ⟨_, Lib.hid rfl⟩
                      rw [hB0.out] at HSP ⊢
                      cases B0 with
                      | true =>
                        go_wp2_with fail
                        go_big_quiet (fail)
                        have hBk := hBj.drewN nq
                        go_wp2_with fail
                        go_roundw
                        case rel => exact ⟨j + 1, by omega, by go_num, by rw [HSP.out]; rfl, hBk⟩
                        case measure => simp [intOf]; omega
                      | false =>
                        by_cases hxk : x < k
                        · have w1 : (x : Int) < (k : Int) := by omega
                          have w2 : decide ((x : Int) < (k : Int)) = true := decide_eq_true w1
                          have w3 : decide (x < k) = true := decide_eq_true hxk
                          rw [w3] at HSP
                          have kS := kS2.below' hBo
                          have s0 := kS.cell 0 _ rfl
                          have s1 := kS.cell 1 _ rfl
                          have sl := kS.lt
                          have hrr := (hr.below' hBw2 hH).below' hBo (Nat.le_trans hH hBw2.size)
                          obtain ⟨_, _, hA4, _, t0, t1, t2⟩ := hrr.tri hq1
                          cases hA4
                          obtain ⟨_, _, hA5, _, u0, u1, u2⟩ := hrr.tri hq2
                          cases hA5
                          have lq := lt_of_cell t1
                          have HT := Lib.hid (fun (g : Ex wr) => calls_ex (P := Tryz.prog) (touch_any l[x] l[k] g.w (by omega) (by omega) (by omega) (by omega)))
                          rw [hTB.out] at HT
                          go_wp2_with fail
                          refine wp_region_ex (by kernel_rfl) (by kernel_rfl) ?_
                          repeat (go_big_quiet_step ((go_at_call 19; refine (HT.out _).mono ?_; rintro e w' ⟨rfl, hg⟩; exact ⟨rfl, hg⟩)))
                          refine wpQuiet_nil ?_
                          intro _ hw'
                          obtain ⟨g, hw''⟩ := hw'
                          subst hw''
                          have hgq := g.h
                          go_wp2_with fail
                          go_roundw
                          case rel => exact ⟨j + 1, by omega, by go_num, by rw [HSP.out]; rfl, hBj.trans (hgq.mono hzj)⟩
                          case measure => simp [intOf]; omega
                        · have w1 : ¬ (x : Int) < (k : Int) := by omega
                          have w2 : decide ((x : Int) < (k : Int)) = false := decide_eq_false w1
                          have w3 : decide (x < k) = false := decide_eq_false hxk
                          rw [w3] at HSP
                          go_wp2_with fail
                          go_big_quiet (fail)
                          have hBk := hBj.drewN nq
                          go_wp2_with fail
                          go_roundw
                          case rel => exact ⟨j + 1, by omega, by go_num, by rw [HSP.out]; rfl, hBk⟩
                          case measure => simp [intOf]; omega
                    · have e0 : j = rp.length := by omega
                      subst e0
                      rw [HEND.out]
                      have q1 : ¬ (rp.length : Int) < (rp.length : Int) := by omega
                      go_wp2_with fail
                      go_roundw
                      case rel => exact ⟨i + 1, by omega, by go_num, congrArg (Value.int .i64) (by rw [HST.out, List.length_append, hML.out]; simp), by rw [HST.out]; exact hDs.below (hBj), hBo⟩
                      case measure => simp [intOf]; omega
            · have hnx := metL_next RR n i hlt (by rw [HGD.out]; omega)
              have i1 : ¬ (i : Int) < (r.length : Int) := by omega
              have HNX := Lib.hid hnx
              clear hnx
              go_wp2_with fail
              go_roundw
              case rel => exact ⟨n + 1, by omega, by go_num, by rw [HNX.out], by rw [HNX.out]; exact hD, hBi⟩
              case measure => simp [intOf]; omega
        · have e0 : n = RR.length := by omega
          subst e0
          rw [HALL.out]
          have n1 : ¬ (RR.length : Int) < (RR.length : Int) := by omega
          obtain ⟨q, hq⟩ : ∃ q : Nat, Hid (a % ((RR.length : Int) + 1) = (q : Int)) := ⟨(a % ((RR.length : Int) + 1)).toNat, Lib.hid (by have := Int.emod_nonneg a (show (RR.length : Int) + 1 ≠ 0 by omega); omega)⟩
          have hq1 := hq.out
          have hqR : q ≤ RR.length := by have := Int.emod_lt_of_pos a (show (0 : Int) < (RR.length : Int) + 1 by omega); omega
          have e1 : IntKind.i64.wrap ((RR.length : Int) + 1) = (RR.length : Int) + 1 := IntWalk.i64_in _ (by omega)
          have HC1 := Lib.hid (fun w' (hB : Below w.heap.size w w') => dcut0_any P A l c q w' H (hr.below' hB hH) (Nat.le_trans hH hB.size) HW.out HOK.out (by rw [hRR.out]; exact hqR))
          have HC2 := Lib.hid (fun w' (hB : Below w.heap.size w w') => dcut_any P A l c q RR.length w' H (hr.below' hB hH) (Nat.le_trans hH hB.size) HW.out HOK.out hqR (by rw [hRR.out]; exact Nat.le_refl _))
          have hHCB := HCB.out q hqR
          obtain ⟨D1, hD1⟩ : ∃ D, Hid (cutD P l 0 q = D) := ⟨_, Lib.hid rfl⟩
          obtain ⟨D2, hD2⟩ : ∃ D, Hid (cutD P l q RR.length = D) := ⟨_, Lib.hid rfl⟩
          rw [hD1.out] at HC1 hHCB
          rw [hD2.out] at HC2 hHCB
          have HCAT := Lib.hid hHCB
          clear hHCB
          have hBwr := hBw2.trans (hB.mono hBw2.size)
          have hlA' : w.heap.size < wr.heap.size := (kS2.below' hB).lt
          have kSr := kS2.below' hB
          have s0 := kSr.cell 0 _ rfl
          have s1 := kSr.cell 1 _ rfl
          have sl := kSr.lt
          have HB20 := Lib.hid hBwr
          go_wp2_with (first
            | (go_at_call 23; refine (HC1.out wr HB20.out).mono ?_; rintro e w4 ⟨A4, c4, rfl, O4, hc4, hB4⟩
               clear HC1
               have hBw4 := HB20.out.trans (hB4.mono HB20.out.size)
               have kS4 := kSr.below' hB4
               have s04 := kS4.cell 0 _ rfl
               have s14 := kS4.cell 1 _ rfl
               have sl4 := kS4.lt)
            | fail)
          have HCUT2 := HC2
          have hB45 : Below w4.heap.size w4 (w4.alloc (.cells #[.int .i64 P, .slice A4 D1.length c4] 25)) := (Below.refl _ _).alloc (Nat.le_refl _) _
          have kS5 := kS4.below' hB45
          have k155 : Blk (w4.alloc (.cells #[.int .i64 P, .slice A4 D1.length c4] 25)) w4.heap.size 25 #[.int .i64 P, .slice A4 D1.length c4] := Blk.new w4 _ _
          have hB5 := hBw4.trans (hB45.mono hBw4.size)
          have hz5 := hB45.size
          have hz4 := hB4.size
          have hz5' : (w4.alloc (.cells #[.int .i64 P, .slice A4 D1.length c4] 25)).heap.size = w4.heap.size + 1 := by simp
          have HB5 := Lib.hid hB5
          have HK5 := Lib.hid kS5
          have HK15 := Lib.hid k155
          have HZ5 := Lib.hid hz5'
          clear hB5 kS5 k155 hz5' hz5 hBw4 kS4 s04 s14 sl4 hB45
          go_wp2_with (first
            | (go_at_call 23; refine (HCUT2.out _ HB5.out).mono ?_; rintro e w6 ⟨A6, c6, rfl, O6, hc6, hB6⟩
               clear HCUT2 HC2
               have hz6 := hB6.size
               have kS6 := HK5.out.below' hB6
               have k156 := HK15.out.below' hB6
               have hBw6 := HB5.out.trans (hB6.mono HB5.out.size)
               have a0 := k156.cell 0 _ rfl
               have a1 := k156.cell 1 _ rfl
               have al := k156.lt)
            | fail)
          have hz5x := HZ5.out
          have hB7 : Below w6.heap.size w6 (w6.alloc (.cells #[.int .i64 P, .slice A6 D2.length c6] 25)) := (Below.refl _ _).alloc (Nat.le_refl _) _
          have k177 : Blk (w6.alloc (.cells #[.int .i64 P, .slice A6 D2.length c6] 25)) w6.heap.size 25 #[.int .i64 P, .slice A6 D2.length c6] := Blk.new w6 _ _
          have hz7' : (w6.alloc (.cells #[.int .i64 P, .slice A6 D2.length c6] 25)).heap.size = w6.heap.size + 1 := by simp
          have k157 := k156.below' hB7
          have kS7 := kS6.below' hB7
          have hB47 := ((Below.refl w4.heap.size w4).alloc (Nat.le_refl _) (.cells #[.int .i64 P, .slice A4 D1.length c4] 25)).trans ((hB6.mono (show w4.heap.size ≤ _ by omega)).trans (hB7.mono (show w4.heap.size ≤ w6.heap.size by omega)))
          have O47 := O4.below hB47
          have O67 := O6.below hB7
          have hBw7 := hBw6.trans (hB7.mono hBw6.size)
          have hA4 := own_nil_cap O4
          have hA6 := own_nil_cap O6
          have hlD : D1.length + D2.length = l.length := by have := congrArg List.length HCAT.out; rw [List.length_append, sheetD_len HOK.out.inP] at this; exact this
          generalize hW7 : (w6.alloc (.cells #[.int .i64 P, .slice A6 D2.length c6] 25)) = W7 at *
          have HW7 := Lib.hid hW7
          clear hW7
          have HZ7 := Lib.hid hz7'
          clear a0 a1 al kS6 k156 s0 s1 sl kSr hz7' hB7 O4 O6 hBw6 hB47
          have cA : W7.drew.cell? ⟨w4.heap.size, 1, none⟩ = some (.slice A4 D1.length c4) := k157.cell 1 _ rfl
          have cB : W7.drew.cell? ⟨w6.heap.size, 1, none⟩ = some (.slice A6 D2.length c6) := k177.cell 1 _ rfl
          obtain ⟨i0, hi0, hz0', hz1', hz2'⟩ := info_parts infoWork
          refine wp_region_J (fun _ => True) (fun w' => w'.cell? ⟨w4.heap.size, 1, none⟩ = some (.slice A4 D1.length c4) ∧ w'.cell? ⟨w6.heap.size, 1, none⟩ = some (.slice A6 D2.length c6)) (fun i => i != 8) (by kernel_rfl) ?_
          have hBS : Below W7.heap.size W7 W7.drew := (Below.refl _ _).drew
          have hzS0 : W7.drew.heap.size = W7.heap.size := rfl
          have k15S := k157.below' hBS
          have k17S := k177.below' hBS
          have kSS := kS7.below' hBS
          have r4 := (Own.rd' tri_len O47).below' hBS (Nat.le_refl _)
          have r6 := (Own.rd' tri_len O67).below' hBS (Nat.le_refl _)
          have hBwS := hBw7.trans (hBS.mono hBw7.size)
          generalize W7.drew = wS at *
          have HZS := Lib.hid hzS0
          clear hzS0
          have hlt15 := k15S.lt
          have hS2 : wS.cell? ⟨w4.heap.size, 1, none⟩ = some (.slice A4 D1.length c4) ∧ wS.cell? ⟨w6.heap.size, 1, none⟩ = some (.slice A6 D2.length c6) := ⟨cA, cB⟩
          clear cA cB
          refine wpAnyJ_take2 1 rfl (by kernel_rfl) (by kernel_rfl) (by kernel_rfl) (by kernel_rfl) (fun _ _ _ h => h) (by first | kernel_rfl | rfl) trivial hS2 (fun w' hSw => (by obtain ⟨-, z1, z2⟩ := hSw; go_simp; try (with_reducible rfl))) ?_
          try simp only [Act.put, List.getElem_toArray, List.getElem_cons_succ, List.getElem_cons_zero, List.setIfInBounds_toArray, List.set_cons_zero, List.set_cons_succ]
          refine wpAnyJ_take2 2 rfl (by kernel_rfl) (by kernel_rfl) (by kernel_rfl) (by kernel_rfl) (fun _ _ _ h => h) (by first | kernel_rfl | rfl) trivial hS2 (fun w' hSw => (by obtain ⟨-, z1, z2⟩ := hSw; go_simp; try (with_reducible rfl))) ?_
          try simp only [Act.put, List.getElem_toArray, List.getElem_cons_succ, List.getElem_cons_zero, List.setIfInBounds_toArray, List.set_cons_zero, List.set_cons_succ]
          refine wpAnyJ_take2 4 rfl (by kernel_rfl) (by kernel_rfl) (by kernel_rfl) (by kernel_rfl) (fun _ _ _ h => h) (by first | kernel_rfl | rfl) trivial hS2 (fun w' hSw => (by obtain ⟨-, z1, z2⟩ := hSw; go_simp; try (with_reducible rfl))) ?_
          try simp only [Act.put, List.getElem_toArray, List.getElem_cons_succ, List.getElem_cons_zero, List.setIfInBounds_toArray, List.set_cons_zero, List.set_cons_succ]
          refine wpAnyJ_take2 5 rfl (by kernel_rfl) (by kernel_rfl) (by kernel_rfl) (by kernel_rfl) (fun _ _ _ h => h) (by first | kernel_rfl | rfl) trivial hS2 (fun w' hSw => (by obtain ⟨-, z1, z2⟩ := hSw; go_simp; try (with_reducible rfl))) ?_
          try simp only [Act.put, List.getElem_toArray, List.getElem_cons_succ, List.getElem_cons_zero, List.setIfInBounds_toArray, List.set_cons_zero, List.set_cons_succ]
          refine wpAnyJ_ready [0] (by kernel_rfl) (by simp) (NextJ.cons rfl (fun K hK => ?_) NextJ.nil)
          go_simp
          obtain ⟨wz1, hwz1⟩ : ∃ xx, Hid (wS.alloc (.cells #[] 44) = xx) := ⟨_, Lib.hid rfl⟩
          have hB1z : Below wS.heap.size wS wz1 := by rw [← hwz1.out]; exact (Below.refl _ _).alloc (Nat.le_refl _) _
          have oE : Own 3 Tri.enc wz1 wS.heap.size 44 (.slice (some ⟨wS.heap.size, 0, none⟩) 0 0) ([] : List Tri) := by rw [← hwz1.out]; exact own_empty wS _ (Nat.le_refl _) _
          have hS21 : wz1.cell? ⟨w4.heap.size, 1, none⟩ = some (.slice A4 D1.length c4) ∧ wz1.cell? ⟨w6.heap.size, 1, none⟩ = some (.slice A6 D2.length c6) := ⟨(hB1z.cell (lt_of_cell hS2.1)).trans hS2.1, (hB1z.cell (lt_of_cell hS2.2)).trans hS2.2⟩
          rw [hwz1.out]
          refine hK.out _ _ trivial (fun _ => hS21) ?_
          clear hK K
          try simp only [Act.put, List.getElem_toArray, List.getElem_cons_succ, List.getElem_cons_zero, List.setIfInBounds_toArray, List.set_cons_zero, List.set_cons_succ]
          refine wpAnyJ_ready [3] (by kernel_rfl) (by simp) (NextJ.cons rfl (fun K hK => ?_) NextJ.nil)
          refine step_append_tris rfl _ _ _ rfl wS.heap.size _ i0 _ Tryz.underlying23 hi0 hz0' hz1' hz2' rfl (.slice (some ⟨wS.heap.size, 0, none⟩) 0 0) [] (by kernel_rfl) oE A4 D1 c4 wS.heap.size (by kernel_rfl) hA4 ((r4.more (by have := HZS.out; omega)).below' hB1z (Nat.le_refl _)) (by simp) (by omega) hB1z.size ?_
          intro v6 wz2 o6 hg2
          rw [List.nil_append] at o6
          have hB2z := oE.grown hB1z hg2 hB1z.size
          obtain ⟨A7, c7, rfl, _, _⟩ := Own.rd tri_len o6
          have hS22 : wz2.cell? ⟨w4.heap.size, 1, none⟩ = some (.slice A4 D1.length c4) ∧ wz2.cell? ⟨w6.heap.size, 1, none⟩ = some (.slice A6 D2.length c6) := ⟨(hB2z.cell (lt_of_cell hS2.1)).trans hS2.1, (hB2z.cell (lt_of_cell hS2.2)).trans hS2.2⟩
          refine hK.out _ _ trivial (fun _ => hS22) ?_
          clear hK K
          try simp only [Act.put, List.getElem_toArray, List.getElem_cons_succ, List.getElem_cons_zero, List.setIfInBounds_toArray, List.set_cons_zero, List.set_cons_succ]
          refine wpAnyJ_ready [6] (by kernel_rfl) (by simp) (NextJ.cons rfl (fun K hK => ?_) NextJ.nil)
          refine step_append_tris rfl _ _ _ rfl wS.heap.size _ i0 _ Tryz.underlying23 hi0 hz0' hz1' hz2' rfl (.slice A7 D1.length c7) D1 (by kernel_rfl) o6 A6 D2 c6 wS.heap.size (by kernel_rfl) hA6 ((r6.more (by have := HZS.out; omega)).below' hB2z (Nat.le_refl _)) (by omega) (by omega) hB2z.size ?_
          intro v8 wz3 o8 hg3
          have hB3z := o6.grown hB2z hg3 hB2z.size
          rw [HCAT.out] at o8
          obtain ⟨A8, c8, rfl, _, _⟩ := Own.rd tri_len o8
          have hS23 : wz3.cell? ⟨w4.heap.size, 1, none⟩ = some (.slice A4 D1.length c4) ∧ wz3.cell? ⟨w6.heap.size, 1, none⟩ = some (.slice A6 D2.length c6) := ⟨(hB3z.cell (lt_of_cell hS2.1)).trans hS2.1, (hB3z.cell (lt_of_cell hS2.2)).trans hS2.2⟩
          refine hK.out _ _ trivial (fun _ => hS23) ?_
          clear hK K
          try simp only [Act.put, List.getElem_toArray, List.getElem_cons_succ, List.getElem_cons_zero, List.setIfInBounds_toArray, List.set_cons_zero, List.set_cons_succ]
          refine wpAnyJ_take2 7 rfl (by kernel_rfl) (by kernel_rfl) (by kernel_rfl) (by kernel_rfl) (fun _ _ _ h => h) (by first | kernel_rfl | rfl) trivial hS23 (fun w' hSw => (by obtain ⟨-, z1, z2⟩ := hSw; go_simp; try (with_reducible rfl))) ?_
          try simp only [Act.put, List.getElem_toArray, List.getElem_cons_succ, List.getElem_cons_zero, List.setIfInBounds_toArray, List.set_cons_zero, List.set_cons_succ]
          refine wpAnyJ_ready [8] (by kernel_rfl) (by simp) (NextJ.cons rfl (fun K hK => ?_) NextJ.nil)
          have k153 := k15S.below' hB3z
          have kS3z := kSS.below' hB3z
          have qb := k153.cell 1 _ rfl
          have qg := k153.frozen 1
          have ql := k153.lt
          go_simp
          have kF : Blk (wz3.setCell ⟨w4.heap.size, 1, none⟩ (.slice A8 (sheetD P l).length c8)) w4.heap.size 25 #[.int .i64 P, .slice A8 (sheetD P l).length c8] := by simpa using k153.set_ 1 (.slice A8 (sheetD P l).length c8)
          have hlow := own_low o8
          have hz3z := hB3z.size
          have hzwS := hBwS.size
          have hzw4 := hBw7.size
          have oF := rd_far (Own.rd' tri_len o8) (g := w4.heap.size) (fun a e he => by have := hlow a e; omega) 1 (.slice A8 (sheetD P l).length c8)
          have hBF : Below w.heap.size w (wz3.setCell ⟨w4.heap.size, 1, none⟩ (.slice A8 (sheetD P l).length c8)) := (hBwS.trans (hB3z.mono hBwS.size)).setCell (by show w.heap.size ≤ w4.heap.size; have := HB20.out.size; omega) _
          have kSF := kS3z.far (p := ⟨w4.heap.size, 1, none⟩) (by show w.heap.size ≠ w4.heap.size; have := HB20.out.size; have := hz4; have := hlA'; omega) (.slice A8 (sheetD P l).length c8)
          refine hK.out _ _ trivial (fun h => absurd h (by decide)) ?_
          clear hK K
          try simp only [Act.put, List.getElem_toArray, List.getElem_cons_succ, List.getElem_cons_zero, List.setIfInBounds_toArray, List.set_cons_zero, List.set_cons_succ]
          refine wpAnyJ_done (by kernel_rfl) ?_ _
          have hzF : (wz3.setCell ⟨w4.heap.size, 1, none⟩ (.slice A8 (sheetD P l).length c8)).heap.size = wz3.heap.size := by simp
          generalize wz3.setCell ⟨w4.heap.size, 1, none⟩ (.slice A8 (sheetD P l).length c8) = wF at *
          have hoks := HOK.out.sheet
          have hDl := sheetD_len HOK.out.inP
          have hTE := (trEq_sheetD HOK.out.inP).symm
          have hzwF := hBF.size
          have hRS := rsame05_any P P A8 (sheetD P l) c8 A l c wF wF.heap.size (oF.more (by omega)) ((hr.below' hBF hH).more (by omega)) (Nat.le_refl _) (fun k hk => by have := okD_words hoks k hk; omega) (fun k hk => by have := okD_words HOK.out k hk; omega) (by omega) (by omega) hoks.chk HOK.out.chk hoks.bd100 HOK.out.bd100
          rw [(traceB_iff (fun k hk => (hoks.bd k hk).1)).2 ⟨rfl, hTE⟩] at hRS
          have HRS := Lib.hid hRS
          clear hRS hTE hoks hDl
          have f0 := kF.cell 0 _ rfl
          have f1 := kF.cell 1 _ rfl
          have fl := kF.lt
          have g0 := kSF.cell 0 _ rfl
          have g1 := kSF.cell 1 _ rfl
          have gl := kSF.lt
          go_wp2_with (first
            | (go_at_call 17; refine HRS.out.mono ?_; rintro e w9 ⟨rfl, hB9⟩
               have hBw9 := hBF.trans (hB9.mono hBF.size))
            | (go_at_call 10; refine (shown_any w9 (hDt.below hBw9)).mono ?_; rintro e w10 ⟨rfl, hB10⟩
               have hBw10 := hBw9.trans (hB10.mono hBw9.size))
            | fail)
          go_ret
          exact ⟨rfl, hBw10⟩
    · have hRA : rowsA p l = [] := by unfold rowsA; rw [if_neg hE]
      rw [hRA] at hUR
      clear hRA
      obtain ⟨E, hEE⟩ : ∃ E, Hid (sheetE p l = E) := ⟨_, Lib.hid rfl⟩
      rw [hEE.out] at hE hUR
      have z1 : (E == 0) = false := by simpa using hE
      have z1n : (E != 0) = true := by simpa using hE
      go_wp2_with (first
        | (go_at_call 15; rw [hwA.out]; refine HF.out.mono ?_; rintro e w1 ⟨rfl, hB1⟩
           have hBw1 := hBA.trans (hB1.mono hzA)
           have kS1 := kSA.below' hB1
           have hz1 := hB1.size
           have a01 := kS1.cell 0 _ rfl
           have a11 := kS1.cell 1 _ rfl
           have al1 := kS1.lt)
        | (go_at_call 18; refine (hUR.out w1 hBw1).mono ?_; rintro e w2 ⟨A2, c2, rfl, g2, hB2⟩
           have hBw2 := hBw1.trans (hB2.mono hBw1.size)
           have kS2 := kS1.below' hB2
           have hz2 := hB2.size
           have a02 := kS2.cell 0 _ rfl
           have a12 := kS2.cell 1 _ rfl
           have al2 := kS2.lt)
        | (go_at_call 10; refine (shown_any w2 (hDt.below hBw2)).mono ?_; rintro e w3 ⟨rfl, hB3⟩
           have hBw3 := hBw2.trans (hB3.mono hBw2.size))
        | fail)
      go_ret
      exact ⟨rfl, hBw3⟩
end Go.Proofs.YtoccplfnjammjaaGreatDoor
