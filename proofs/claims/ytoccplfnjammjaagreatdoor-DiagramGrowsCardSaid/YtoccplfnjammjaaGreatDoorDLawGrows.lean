/- The law DiagramGrows, walked. -/
import Derived.Test.YtoccplfnjammjaaGreatDoorDGrowM
import Derived.Test.YtoccplfnjammjaaGreatDoorDApp
set_option linter.unusedSimpArgs false
set_option linter.unusedVariables false
namespace Go.Proofs.YtoccplfnjammjaaGreatDoor
open Go Go.RowKit Tor

set_option maxRecDepth 100000 in
set_option maxHeartbeats 8000000 in
theorem lawGrows_any (p : Int) (A : Option Addr) (l : List Tri) (c : Nat) (a : Int) (b : Bool) (w : World) (H : Nat) (hr : RdT w H A l) (hH : H ≤ w.heap.size)
    (hw : ∀ (k : Nat) (hk : k < l.length), l[k].s.size ≤ 9223372036854775807) (hl : l.length ≤ 9223372036854775807) (wa : (Lit.int .u16 a).wf = true) (hnil : A = none → c = 0) (hDt : DtAt w) :
    Calls Tryz.prog 5 #[.agg #[.int .i64 p, .slice A l.length c], .int .u16 a, .bool b] w (Ret (.bool true) w) := by
  have hab := Go.bounds_u16 wa
  have hBA : Below w.heap.size w (w.alloc (.cells #[.int .i64 p, .slice A l.length c] 25)) := (Below.refl _ _).alloc (Nat.le_refl _) _
  have kSA : Blk (w.alloc (.cells #[.int .i64 p, .slice A l.length c] 25)) w.heap.size 25 #[.int .i64 p, .slice A l.length c] := Blk.new w _ _
  have HF := Lib.hid (far_any p A l c 60 _ H (hr.below' hBA hH) (by have := hBA.size; omega) hl hw)
  obtain ⟨wA, hwA⟩ : ∃ wA, Hid (w.alloc (.cells #[.int .i64 p, .slice A l.length c] 25) = wA) := ⟨_, Lib.hid rfl⟩
  rw [hwA.out] at hBA kSA HF
  have HW := Lib.hid hw
  clear hw
  have hlA := kSA.lt
  have A0 := kSA.cell 0 _ rfl
  have A1 := kSA.cell 1 _ rfl
  have hzA := hBA.size
  obtain ⟨FB, hFB⟩ : ∃ b, Hid (farD l 60 = b) := ⟨_, Lib.hid rfl⟩
  rw [hFB.out] at HF
  go_enter Tryz.func5, Tryz.ntmps5
  cases FB with
  | true =>
    go_wp2_with (first
      | (go_at_call 15; rw [hwA.out]; refine HF.out.mono ?_; rintro e w1 ⟨rfl, hB1⟩
         have hBw1 := hBA.trans (hB1.mono hzA)
         have kS1 := kSA.below' hB1
         have hz1 := hB1.size
         have a01 := kS1.cell 0 _ rfl
         have a11 := kS1.cell 1 _ rfl
         have al1 := kS1.lt)
      | (go_at_call 10; refine (shown_any w1 (hDt.below hBw1)).mono ?_; rintro e w2 ⟨rfl, hB2⟩
         have hBw2 := hBw1.trans (hB2.mono hBw1.size))
      | fail)
    go_ret
    exact ⟨rfl, hBw2⟩
  | false =>
    have hl6 : l.length ≤ 1000000 := by
      have hn := hFB.out
      unfold farD at hn
      simp only [Bool.or_eq_false_iff, decide_eq_false_iff_not] at hn
      omega
    have hUR := Lib.hid (fun w' (hB : Below w.heap.size w w') => u_rows p A l c w' H (hr.below' hB hH) (Nat.le_trans hH hB.size) HW.out hl6)
    by_cases hE : sheetE p l = 0
    · obtain ⟨P, rfl⟩ := pnat hE
      have ok := okD_of hE
      have hp2 := ok.p2
      have hp24 := ok.p24
      have hl4 : l.length ≤ 60 := by
        have hn := hFB.out
        have := ok.len
        unfold farD at hn
        simp only [Bool.or_eq_false_iff, Bool.and_eq_false_iff, decide_eq_false_iff_not] at hn
        omega
      have hRA : rowsA P l = rowsS P l := by unfold rowsA; rw [if_pos hE, Int.toNat_natCast]
      rw [hRA, hE] at hUR
      clear hRA
      have hRl := rowsS_len P l
      obtain ⟨q, hq⟩ : ∃ q : Nat, Hid (a % ((P : Int) - 1) = (q : Int)) := ⟨(a % ((P : Int) - 1)).toNat, Lib.hid (by have := Int.emod_nonneg a (show (P : Int) - 1 ≠ 0 by omega); omega)⟩
      have hq1 := hq.out
      have hqP : q + 1 < P := by have := Int.emod_lt_of_pos a (show (0 : Int) < (P : Int) - 1 by omega); omega
      have e1 : IntKind.i64.wrap ((P : Int) - 1) = (P : Int) - 1 := IntWalk.i64_in _ (by omega)
      have z2 : ¬ (P : Int) < 2 := by omega
      go_upto_if 53 with (first
        | (go_at_call 15; rw [hwA.out]; refine HF.out.mono ?_; rintro e w1 ⟨rfl, hB1⟩
           have hBw1 := hBA.trans (hB1.mono hzA)
           have kS1 := kSA.below' hB1
           have hz1 := hB1.size
           have a01 := kS1.cell 0 _ rfl
           have a11 := kS1.cell 1 _ rfl
           have al1 := kS1.lt)
        | (go_at_call 18; refine (hUR.out w1 hBw1).mono ?_; rintro e w2 ⟨A2, c2, rfl, g2, hB2⟩
           have hBw2 := hBw1.trans (hB2.mono hBw1.size)
           have kS2 := kS1.below' hB2
           have hz2 := hB2.size
           have a02 := kS2.cell 0 _ rfl
           have a12 := kS2.cell 1 _ rfl
           have al2 := kS2.lt)
        | fail)
      have HQ1 := Lib.hid hq1
      clear hq1
      go_cut [53] from 54 to 56 (fun xv wx => xv = .bool b ∧ ∃ x : Tri, Blk wx w2.heap.size 44 #[.int .i64 x.a, .int .i64 x.b, .string x.s] ∧ Hid (x.b = (q : Int)) ∧ x.s.size ≤ 10 ∧ Hid ((x.a = 1 ∨ x.a = 2) ∧ (x.a = 2 → x.s.size = 0) ∧ wordE x.s = 0) ∧ Below w2.heap.size w2 wx)
      case first =>
        cases b with
        | false =>
          have kX0 : Blk (w2.alloc (.cells #[.int .i64 1, .int .i64 q, .string ⟨#[67, 84]⟩] 44)) w2.heap.size 44 #[.int .i64 1, .int .i64 q, .string ⟨#[67, 84]⟩] := Blk.new w2 _ _
          have hB3a : Below w2.heap.size w2 (w2.alloc (.cells #[.int .i64 1, .int .i64 q, .string ⟨#[67, 84]⟩] 44)) := (Below.refl _ _).alloc (Nat.le_refl _) _
          have KX0 := Lib.hid kX0
          clear kX0
          go_wp2_with fail
          go_meet
          case rel => exact ⟨rfl, ⟨1, (q : Int), ⟨#[67, 84]⟩⟩, KX0.out, Lib.hid rfl, (by show (⟨#[67, 84]⟩ : ByteArray).size ≤ 10; decide), Lib.hid ⟨.inl rfl, fun e => absurd e (by show ¬ (1 : Int) = 2; decide), by show wordE ⟨#[67, 84]⟩ = 0; decide⟩, hB3a⟩
        | true =>
          have kX0 : Blk (w2.alloc (.cells #[.int .i64 2, .int .i64 q, .string ⟨#[]⟩] 44)) w2.heap.size 44 #[.int .i64 2, .int .i64 q, .string ⟨#[]⟩] := Blk.new w2 _ _
          have hB3a : Below w2.heap.size w2 (w2.alloc (.cells #[.int .i64 2, .int .i64 q, .string ⟨#[]⟩] 44)) := (Below.refl _ _).alloc (Nat.le_refl _) _
          have KX0 := Lib.hid kX0
          clear kX0
          go_wp2_with fail
          go_meet
          case rel => exact ⟨rfl, ⟨2, (q : Int), ⟨#[]⟩⟩, KX0.out, Lib.hid rfl, (by show (⟨#[]⟩ : ByteArray).size ≤ 10; decide), Lib.hid ⟨.inr rfl, fun _ => (by show (⟨#[]⟩ : ByteArray).size = 0; rfl), by show wordE ⟨#[]⟩ = 0; decide⟩, hB3a⟩
      case rest =>
        obtain ⟨rfl, x, kX, HXB, hxs, HXW, hB3a⟩ := hcut
        obtain ⟨w3, hw3⟩ : ∃ w3 : World, w3 = wc := ⟨_, rfl⟩
        obtain rfl := hw3
        have hxbd : 0 ≤ x.b ∧ x.b ≤ 100 := by have := HXB.out; omega
        have hBw3 := hBw2.trans (hB3a.mono hBw2.size)
        have hz3 := hB3a.size
        have kS3 := kS2.below' hB3a
        have g3 := g2.below' hB3a (Nat.le_refl _)
        (try clear a02)
        (try clear a12)
        (try clear al2)
        (try clear a01)
        (try clear a11)
        (try clear al1)
        (try clear A0)
        (try clear A1)
        (try clear hlA)
        obtain ⟨RR, hRR⟩ : ∃ RR, Hid (rowsS P l = RR) := ⟨_, Lib.hid rfl⟩
        have hRin : Hid (∀ r ∈ RR, ∀ i ∈ r, i < l.length) := Lib.hid (by rw [← hRR.out]; exact fun r hr i hi => row_in hr i hi)
        have hRle : Hid (∀ r ∈ RR, r.length ≤ 400) := Lib.hid (by rw [← hRR.out]; exact fun r hr => by have := row_len ok.inP hr; omega)
        obtain ⟨MN, hMN⟩ : ∃ MN : Nat → Nat → Nat, Hid (∀ n i, MN n i = metN P l x n i) := ⟨_, Lib.hid fun _ _ => rfl⟩
        have hMle : Hid (∀ n i, MN n i ≤ n + 1) := Lib.hid fun n i => by rw [hMN.out]; exact metN_le P l x n i
        rw [hRR.out] at g3 hRl ⊢
        go_wp2_with fail
        have HOK := Lib.hid ok
        have HRLen := Lib.hid hRl
        have hRl4 : RR.length ≤ 400 := by omega
        clear ok hRl
        go_loopw [10, 11] (fun rv nv wr => ∃ n : Nat, n ≤ RR.length ∧ nv = .int .i64 n ∧ rv = .int .i64 (MN n 0) ∧ Below w3.heap.size w3 wr) (fun _ nv _ => RR.length - (intOf nv).toNat)
        case atStart => exact ⟨0, Nat.zero_le _, rfl, by rw [hMN.out, metN_zero]; rfl, Below.refl _ _⟩
        case round =>
          obtain ⟨n, hn, rfl, rfl, hB⟩ := hrel
          have hz := hB.size
          by_cases hlt : n < RR.length
          · obtain ⟨b2, o2, hA2, hb2, Ak, ck, h0, hAr⟩ := (g3.below' hB (Nat.le_trans (by omega) (Nat.le_refl _))).row hlt
            subst hA2
            have l1 := lt_of_cell h0
            have n0 : (0 : Int) ≤ (n : Int) := by omega
            have n1 : (n : Int) < (RR.length : Int) := by omega
            have e4 : IntKind.i64.wrap ((n : Int) + 1) = (n : Int) + 1 := IntWalk.i64_in _ (by omega)
            have hin := hRin.out _ (List.getElem_mem hlt)
            have hrl := hRle.out _ (List.getElem_mem hlt)
            have hgd : RR.getD n [] = RR[n] := by rw [List.getD_eq_getElem?_getD, List.getElem?_eq_getElem hlt]; rfl
            obtain ⟨r, hr0⟩ : ∃ r, Hid (RR[n] = r) := ⟨_, Lib.hid rfl⟩
            rw [hr0.out] at hin hrl hgd h0 hAr
            have HIN := Lib.hid hin
            have HGD := Lib.hid hgd
            clear hin hgd
            go_wp2_with fail
            obtain ⟨wo, hwo⟩ : ∃ wo : World, wo = wr := ⟨_, rfl⟩
            obtain rfl := hwo
            go_loopw [10, 12] (fun rv iv wr => ∃ i : Nat, i ≤ r.length ∧ iv = .int .i64 i ∧ rv = .int .i64 (MN n i) ∧ Below wo.heap.size wo wr) (fun _ iv _ => r.length - (intOf iv).toNat)
            case atStart => exact ⟨0, Nat.zero_le _, rfl, rfl, Below.refl _ _⟩
            case round =>
              obtain ⟨i, hi, rfl, rfl, hBi⟩ := hrel
              have hzi := hBi.size
              have hBo := hB.trans (hBi.mono hz)
              have kS := kS3.below' hBo
              have s0 := kS.cell 0 _ rfl
              have s1 := kS.cell 1 _ rfl
              have sl := kS.lt
              have h0i := (hBi.cell (p := ⟨b2, o2 + n, none⟩) l1).trans h0
              have l1i := lt_of_cell h0i
              by_cases hil : i < r.length
              · obtain ⟨rb, ro, hAr2, hrb, m0⟩ := (hAr.below' hBi (by omega)).nat hil
                subst hAr2
                have hq1 := HIN.out r[i] (List.getElem_mem hil)
                obtain ⟨b, o, hA, hb0, t0, t1, t2⟩ := ((hr.below' hBw3 hH).below' hBo (Nat.le_trans hH hBw3.size)).tri hq1
                subst hA
                have lq := lt_of_cell t0
                have lr := lt_of_cell m0
                have hbd := HOK.out.bd r[i] hq1
                have hstp := metN_step P l x n i (by rw [hRR.out, HGD.out]; exact hil)
                simp only [hRR.out, HGD.out] at hstp
                rw [← hMN.out, ← hMN.out, xAt_of hq1] at hstp
                obtain ⟨k, hk⟩ : ∃ k, Hid (r[i] = k) := ⟨_, Lib.hid rfl⟩
                have hkl : k < l.length := by rw [← hk.out]; exact hq1
                simp only [hk.out] at m0 t0 t1 t2 hstp hbd
                obtain ⟨y, hy⟩ : ∃ y, Hid (l[k] = y) := ⟨_, Lib.hid rfl⟩
                rw [hy.out] at t0 t1 t2 hstp hbd
                have i0 : (0 : Int) ≤ (i : Int) := by omega
                have i1 : (i : Int) < (r.length : Int) := by omega
                have k0 : (0 : Int) ≤ (k : Int) := by omega
                have k1 : (k : Int) < (l.length : Int) := by omega
                have k2 : ¬ (k : Int) < 0 := by omega
                have k3 : ¬ (l.length : Int) ≤ (k : Int) := by omega
                have e5 : IntKind.i64.wrap ((i : Int) + 1) = (i : Int) + 1 := IntWalk.i64_in _ (by omega)
                have kXi := kX.below' hBo
                have x0 := kXi.cell 0 _ rfl
                have x1 := kXi.cell 1 _ rfl
                have x2 := kXi.cell 2 _ rfl
                have xl := kXi.lt
                have HST := Lib.hid hstp
                clear hstp
                obtain ⟨M0, hM0⟩ : ∃ M, Hid (MN n i = M) := ⟨_, Lib.hid rfl⟩
                rw [hM0.out] at HST ⊢
                go_wp2_with fail
                go_quiet (fail)
                have hBq := hBi.drewN nq
                generalize wr.drewN nq = wq at hBq ⊢
                clear kS s0 s1 sl h0i l1i m0 t0 t1 t2 lq lr kXi x0 x1 x2 xl hBo hzi hb0 hrb
                have hzi := hBq.size
                have hBo := hB.trans (hBq.mono hz)
                have kS := kS3.below' hBo
                have s1 := kS.cell 1 _ rfl
                have sl := kS.lt
                have h0i := (hBq.cell (p := ⟨b2, o2 + n, none⟩) l1).trans h0
                have l1i := lt_of_cell h0i
                obtain ⟨_, _, hA3, _, m0⟩ := (hAr.below' hBq (by omega)).nat hil
                cases hA3
                obtain ⟨_, _, hA4, _, t0, t1, t2⟩ := ((hr.below' hBw3 hH).below' hBo (Nat.le_trans hH hBw3.size)).tri hkl
                cases hA4
                simp only [hk.out] at m0
                rw [hy.out] at t0 t1 t2
                have lq := lt_of_cell t0
                have lr := lt_of_cell m0
                have kXi := kX.below' hBo
                have x0 := kXi.cell 0 _ rfl
                have x1 := kXi.cell 1 _ rfl
                have x2 := kXi.cell 2 _ rfl
                have xl := kXi.lt
                obtain ⟨TB, hTB⟩ : ∃ TB, Hid (touchB y.b x.b = TB) := ⟨_, Lib.hid rfl⟩
                have HT := Lib.hid (fun (g : Ex wq) => calls_ex (P := Tryz.prog) (touch_any y x g.w (by omega) (by omega) (by omega) (by omega)))
                rw [hTB.out] at HT HST
                cases TB with
                | true =>
                  go_wp2_with fail
                  refine wp_region_ex (by kernel_rfl) (by kernel_rfl) ?_
                  repeat (go_big_quiet_step ((go_at_call 19; refine (HT.out _).mono ?_; rintro e w' ⟨rfl, hg⟩; exact ⟨rfl, hg⟩)))
                  refine wpQuiet_nil ?_
                  intro _ hw'
                  obtain ⟨g, hw''⟩ := hw'
                  subst hw''
                  have hgq := g.h
                  go_wp2_with fail
                  go_roundw
                  case rel => exact ⟨i + 1, by omega, by go_num, congrArg (Value.int .i64) (by rw [HST.out]; simp), hBq.trans (hgq.mono hzi)⟩
                  case measure => simp [intOf]; omega
                | false =>
                  go_wp2_with fail
                  refine wp_region_ex (by kernel_rfl) (by kernel_rfl) ?_
                  repeat (go_big_quiet_step ((go_at_call 19; refine (HT.out _).mono ?_; rintro e w' ⟨rfl, hg⟩; exact ⟨rfl, hg⟩)))
                  refine wpQuiet_nil ?_
                  intro _ hw'
                  obtain ⟨g, hw''⟩ := hw'
                  subst hw''
                  have hgq := g.h
                  go_wp2_with fail
                  go_roundw
                  case rel => exact ⟨i + 1, by omega, by go_num, congrArg (Value.int .i64) (by rw [HST.out]; simp), hBq.trans (hgq.mono hzi)⟩
                  case measure => simp [intOf]; omega
              · have hnx := metN_next P l x n i (by rw [hRR.out]; exact hlt) (by rw [hRR.out, HGD.out]; omega)
                rw [← hMN.out, ← hMN.out] at hnx
                have i1 : ¬ (i : Int) < (r.length : Int) := by omega
                have HNX := Lib.hid hnx
                clear hnx
                go_wp2_with fail
                go_roundw
                case rel => exact ⟨n + 1, by omega, by go_num, by rw [HNX.out], hBo⟩
                case measure => simp [intOf]; omega
          · have e0 : n = RR.length := by omega
            subst e0
            have hgr := metN_end HOK.out.inP x
            rw [← hMN.out, hRR.out] at hgr
            rw [hgr]
            have hgle : growR l x ≤ 401 := by have := hMle.out RR.length 0; omega
            obtain ⟨G, hG⟩ : ∃ G, Hid (growR l x = G) := ⟨_, Lib.hid rfl⟩
            rw [hG.out] at hgle ⊢
            clear hgr
            have n1 : ¬ (RR.length : Int) < (RR.length : Int) := by omega
            obtain ⟨i0, hi0, hz0', hz1', hz2'⟩ := info_parts infoWork
            have kSr := kS3.below' hB
            have kXr := kX.below' hB
            have hrr := (hr.below' hBw3 hH).below' hB (Nat.le_trans hH hBw3.size)
            obtain ⟨wo, hwo⟩ : ∃ wo : World, wo = wr := ⟨_, rfl⟩
            obtain rfl := hwo
            have HB20 := Lib.hid (hBw3.trans (hB.mono hBw3.size))
            go_upto_region 20 with fail
            go_cut [13] (fun gv wx => ∃ (g : Nat) (A8 : Option Addr) (c8 : Nat), gv = .pointer (some ⟨g, 0, none⟩) ∧ wo.heap.size ≤ g ∧ Blk wx g 25 #[.int .i64 P, .slice A8 (l.length + 1) c8] ∧ RdT wx wx.heap.size A8 (l ++ [x]) ∧ Below wo.heap.size wo wx)
            case first =>
              as_aux_lemma =>
                have hS1 : wo.drew.cell? ⟨w.heap.size, 0, none⟩ = some (.int .i64 P) ∧ wo.drew.cell? ⟨w.heap.size, 1, none⟩ = some (.slice A l.length c) ∧ wo.drew.cell? ⟨w2.heap.size, 0, none⟩ = some (.int .i64 x.a) ∧ wo.drew.cell? ⟨w2.heap.size, 1, none⟩ = some (.int .i64 x.b) ∧ wo.drew.cell? ⟨w2.heap.size, 2, none⟩ = some (.string x.s) := ⟨kSr.cell 0 _ rfl, kSr.cell 1 _ rfl, kXr.cell 0 _ rfl, kXr.cell 1 _ rfl, kXr.cell 2 _ rfl⟩
                refine wp_region_J (fun w' => w'.cell? ⟨w.heap.size, 0, none⟩ = some (.int .i64 P) ∧ w'.cell? ⟨w.heap.size, 1, none⟩ = some (.slice A l.length c) ∧ w'.cell? ⟨w2.heap.size, 0, none⟩ = some (.int .i64 x.a) ∧ w'.cell? ⟨w2.heap.size, 1, none⟩ = some (.int .i64 x.b) ∧ w'.cell? ⟨w2.heap.size, 2, none⟩ = some (.string x.s)) (fun _ => True) (fun _ => false) (by kernel_rfl) ?_
                have hBS : Below wo.heap.size wo wo.drew := (Below.refl _ _).drew
                have hHS : H ≤ wo.heap.size := by have := hBw3.size; have := hB.size; omega
                have hrS := hrr.below' hBS hHS
                replace hHS := Nat.le_trans hHS hBS.size
                generalize wo.drew = wS at *
                have hzS := hBS.size
                have hTS : Below wS.heap.size wS wS := Below.refl _ _
                have hSS := hS1
                clear hS1
                (try clear kSr)
                (try clear kXr)
                (try clear hrr)
                (try clear HB20)
                (try clear g3)
                (try clear hRin)
                (try clear hRle)
                (try clear hMN)
                (try clear hMle)
                (try clear HF)
                (try clear hUR)
                (try clear hwA)
                (try clear hzA)
                (try clear hBA)
                (try clear kSA)
                (try clear HW)
                (try clear hFB)
                (try clear hBw1)
                (try clear hB1)
                (try clear kS1)
                (try clear hz1)
                (try clear hBw2)
                (try clear hB2)
                (try clear kS2)
                (try clear hz2)
                (try clear hz3)
                (try clear kS3)
                (try clear kX)
                (try clear HRLen)
                (try clear hG)
                (try clear hgle)
                (try clear n1)
                (try clear hRl4)
                (try clear hn)
                (try clear hBw3)
                (try clear hq)
                (try clear hab)
                (try clear e1)
                (try clear z2)
                (try clear hp2)
                (try clear hp24)
                (try clear hqP)
                (try clear hq1)
                (try clear HOK)
                (try clear HXW)
                refine wpAnyJ_take1 0 rfl (by kernel_rfl) (by kernel_rfl) rfl (by kernel_rfl) (fun _ _ _ h => h) (by first | kernel_rfl | rfl) hSS (fun w' hSw => (by obtain ⟨q0, q1, q2, q3, q4⟩ := hSw; go_simp; try (with_reducible rfl))) ?_
                try simp only [Act.put, List.getElem_toArray, List.getElem_cons_succ, List.getElem_cons_zero, List.setIfInBounds_toArray, List.set_cons_zero, List.set_cons_succ]
                refine wpAnyJ_take1 1 rfl (by kernel_rfl) (by kernel_rfl) rfl (by kernel_rfl) (fun _ _ _ h => h) (by first | kernel_rfl | rfl) hSS (fun w' hSw => (by obtain ⟨q0, q1, q2, q3, q4⟩ := hSw; go_simp; try (with_reducible rfl))) ?_
                try simp only [Act.put, List.getElem_toArray, List.getElem_cons_succ, List.getElem_cons_zero, List.setIfInBounds_toArray, List.set_cons_zero, List.set_cons_succ]
                refine wpAnyJ_take1 3 rfl (by kernel_rfl) (by kernel_rfl) rfl (by kernel_rfl) (fun _ _ _ h => h) (by first | kernel_rfl | rfl) hSS (fun w' hSw => (by obtain ⟨q0, q1, q2, q3, q4⟩ := hSw; go_simp; try (with_reducible rfl))) ?_
                try simp only [Act.put, List.getElem_toArray, List.getElem_cons_succ, List.getElem_cons_zero, List.setIfInBounds_toArray, List.set_cons_zero, List.set_cons_succ]
                refine wpAnyJ_take1 4 rfl (by kernel_rfl) (by kernel_rfl) rfl (by kernel_rfl) (fun _ _ _ h => h) (by first | kernel_rfl | rfl) hSS (fun w' hSw => (by obtain ⟨q0, q1, q2, q3, q4⟩ := hSw; go_simp; try (with_reducible rfl))) ?_
                try simp only [Act.put, List.getElem_toArray, List.getElem_cons_succ, List.getElem_cons_zero, List.setIfInBounds_toArray, List.set_cons_zero, List.set_cons_succ]
                refine wpAnyJ_take1 6 rfl (by kernel_rfl) (by kernel_rfl) rfl (by kernel_rfl) (fun _ _ _ h => h) (by first | kernel_rfl | rfl) hSS (fun w' hSw => (by obtain ⟨q0, q1, q2, q3, q4⟩ := hSw; go_simp; try (with_reducible rfl))) ?_
                try simp only [Act.put, List.getElem_toArray, List.getElem_cons_succ, List.getElem_cons_zero, List.setIfInBounds_toArray, List.set_cons_zero, List.set_cons_succ]
                have hTwS := hTS
                have hSwS := hSS
                have hzwS : wS.heap.size ≤ wS.heap.size := Nat.le_refl _
                refine wpAnyJ_ready [2, 7, 10] (by kernel_rfl) (by simp) (NextJ.cons rfl (fun K hK => ?_) (NextJ.cons rfl (fun K hK => ?_) (NextJ.cons rfl (fun K hK => ?_) NextJ.nil)))
                case' _ =>
                  go_simp
                  obtain ⟨wz1, hwz1⟩ : ∃ xx, Hid (wS.alloc (.cells #[] 44) = xx) := ⟨_, Lib.hid rfl⟩
                  have hBwz1 : Below wS.heap.size wS wz1 := by rw [← hwz1.out]; exact (Below.refl _ _).alloc (Nat.le_refl _) _
                  have hnwz1 : wS.heap.size < wz1.heap.size := by rw [← hwz1.out]; simp
                  have oEwz1 : Own 3 Tri.enc wz1 wS.heap.size 44 (.slice (some ⟨wS.heap.size, 0, none⟩) 0 0) ([] : List Tri) := by rw [← hwz1.out]; exact own_empty wS _ (Nat.le_refl _) _
                  have hTwz1 := hTwS.trans (hBwz1.mono hTwS.size)
                  have hzwz1 := hTwz1.size
                  have hSwz1 : wz1.cell? ⟨w.heap.size, 0, none⟩ = some (.int .i64 P) ∧ wz1.cell? ⟨w.heap.size, 1, none⟩ = some (.slice A l.length c) ∧ wz1.cell? ⟨w2.heap.size, 0, none⟩ = some (.int .i64 x.a) ∧ wz1.cell? ⟨w2.heap.size, 1, none⟩ = some (.int .i64 x.b) ∧ wz1.cell? ⟨w2.heap.size, 2, none⟩ = some (.string x.s) := by obtain ⟨q0, q1, q2, q3, q4⟩ := hSS; exact ⟨(hTwz1.cell (lt_of_cell q0)).trans q0, (hTwz1.cell (lt_of_cell q1)).trans q1, (hTwz1.cell (lt_of_cell q2)).trans q2, (hTwz1.cell (lt_of_cell q3)).trans q3, (hTwz1.cell (lt_of_cell q4)).trans q4⟩
                  rw [hwz1.out]
                  refine hK.out _ _ hSwz1 (fun _ => trivial) ?_
                  clear hK K
                  try simp only [Act.put, List.getElem_toArray, List.getElem_cons_succ, List.getElem_cons_zero, List.setIfInBounds_toArray, List.set_cons_zero, List.set_cons_succ]
                  refine wpAnyJ_ready [5, 7, 10] (by kernel_rfl) (by simp) (NextJ.cons rfl (fun K hK => ?_) (NextJ.cons rfl (fun K hK => ?_) (NextJ.cons rfl (fun K hK => ?_) NextJ.nil)))
                  case' _ =>
                    refine step_append_tris rfl _ _ _ rfl wS.heap.size _ i0 _ Tryz.underlying23 hi0 hz0' hz1' hz2' rfl _ [] rfl oEwz1 A l c H rfl hnil (hrS.below' hTwz1 hHS) (by simp) hl6 (by have := hTwz1.size; omega) ?_
                    intro v6 wz2 o6 hgwz2
                    have hnwz2 : wz1.heap.size ≤ wz2.heap.size := hgwz2.size
                    rw [List.nil_append] at o6
                    obtain ⟨A6, c6, rfl, _, _⟩ := Own.rd tri_len o6
                    have hTwz2 := oEwz1.grown hTwz1 hgwz2 (by have := hTwz1.size; omega)
                    have hzwz2 := hTwz2.size
                    have hSwz2 : wz2.cell? ⟨w.heap.size, 0, none⟩ = some (.int .i64 P) ∧ wz2.cell? ⟨w.heap.size, 1, none⟩ = some (.slice A l.length c) ∧ wz2.cell? ⟨w2.heap.size, 0, none⟩ = some (.int .i64 x.a) ∧ wz2.cell? ⟨w2.heap.size, 1, none⟩ = some (.int .i64 x.b) ∧ wz2.cell? ⟨w2.heap.size, 2, none⟩ = some (.string x.s) := by obtain ⟨q0, q1, q2, q3, q4⟩ := hSS; exact ⟨(hTwz2.cell (lt_of_cell q0)).trans q0, (hTwz2.cell (lt_of_cell q1)).trans q1, (hTwz2.cell (lt_of_cell q2)).trans q2, (hTwz2.cell (lt_of_cell q3)).trans q3, (hTwz2.cell (lt_of_cell q4)).trans q4⟩
                    refine hK.out _ _ hSwz2 (fun _ => trivial) ?_
                    clear hK K
                    try simp only [Act.put, List.getElem_toArray, List.getElem_cons_succ, List.getElem_cons_zero, List.setIfInBounds_toArray, List.set_cons_zero, List.set_cons_succ]
                    refine wpAnyJ_ready [7, 10] (by kernel_rfl) (by simp) (NextJ.cons rfl (fun K hK => ?_) (NextJ.cons rfl (fun K hK => ?_) NextJ.nil))
                    case' _ =>
                      go_simp
                      obtain ⟨wz3, hwz3⟩ : ∃ xx, Hid (wz2.alloc (.cells #[.int .i64 x.a, .int .i64 x.b, .string x.s] 44) = xx) := ⟨_, Lib.hid rfl⟩
                      have hBwz3 : Below wz2.heap.size wz2 wz3 := by rw [← hwz3.out]; exact (Below.refl _ _).alloc (Nat.le_refl _) _
                      have hnwz3 : wz2.heap.size < wz3.heap.size := by rw [← hwz3.out]; simp
                      have k7wz3 : Blk wz3 wz2.heap.size 44 #[.int .i64 x.a, .int .i64 x.b, .string x.s] := by rw [← hwz3.out]; exact Blk.new wz2 _ _
                      have hTwz3 := hTwz2.trans (hBwz3.mono hTwz2.size)
                      have hzwz3 := hTwz3.size
                      have hSwz3 : wz3.cell? ⟨w.heap.size, 0, none⟩ = some (.int .i64 P) ∧ wz3.cell? ⟨w.heap.size, 1, none⟩ = some (.slice A l.length c) ∧ wz3.cell? ⟨w2.heap.size, 0, none⟩ = some (.int .i64 x.a) ∧ wz3.cell? ⟨w2.heap.size, 1, none⟩ = some (.int .i64 x.b) ∧ wz3.cell? ⟨w2.heap.size, 2, none⟩ = some (.string x.s) := by obtain ⟨q0, q1, q2, q3, q4⟩ := hSS; exact ⟨(hTwz3.cell (lt_of_cell q0)).trans q0, (hTwz3.cell (lt_of_cell q1)).trans q1, (hTwz3.cell (lt_of_cell q2)).trans q2, (hTwz3.cell (lt_of_cell q3)).trans q3, (hTwz3.cell (lt_of_cell q4)).trans q4⟩
                      have o6wz3 := o6.below hBwz3
                      rw [hwz3.out]
                      refine hK.out _ _ hSwz3 (fun _ => trivial) ?_
                      clear hK K
                      try simp only [Act.put, List.getElem_toArray, List.getElem_cons_succ, List.getElem_cons_zero, List.setIfInBounds_toArray, List.set_cons_zero, List.set_cons_succ]
                      refine wpAnyJ_ready [8, 10] (by kernel_rfl) (by simp) (NextJ.cons rfl (fun K hK => ?_) (NextJ.cons rfl (fun K hK => ?_) NextJ.nil))
                      case' _ =>
                        refine step_append_tri rfl _ _ _ rfl wS.heap.size _ i0 _ Tryz.underlying23 hi0 hz0' hz1' hz2' rfl _ l rfl o6wz3 wz2.heap.size x rfl (k7wz3.cell 0 _ rfl) (k7wz3.cell 1 _ rfl) (k7wz3.cell 2 _ rfl) (by omega) (by have := hTwz3.size; omega) ?_
                        intro v8 wz4 o8 hgwz4
                        have hnwz4 : wz3.heap.size ≤ wz4.heap.size := hgwz4.size
                        obtain ⟨A8, c8, rfl, _, _⟩ := Own.rd tri_len o8
                        simp only [List.length_append, List.length_cons, List.length_nil, Nat.zero_add] at o8 ⊢
                        have hTwz4 := o6wz3.grown hTwz3 hgwz4 (by have := hTwz3.size; omega)
                        have hzwz4 := hTwz4.size
                        have hSwz4 : wz4.cell? ⟨w.heap.size, 0, none⟩ = some (.int .i64 P) ∧ wz4.cell? ⟨w.heap.size, 1, none⟩ = some (.slice A l.length c) ∧ wz4.cell? ⟨w2.heap.size, 0, none⟩ = some (.int .i64 x.a) ∧ wz4.cell? ⟨w2.heap.size, 1, none⟩ = some (.int .i64 x.b) ∧ wz4.cell? ⟨w2.heap.size, 2, none⟩ = some (.string x.s) := by obtain ⟨q0, q1, q2, q3, q4⟩ := hSS; exact ⟨(hTwz4.cell (lt_of_cell q0)).trans q0, (hTwz4.cell (lt_of_cell q1)).trans q1, (hTwz4.cell (lt_of_cell q2)).trans q2, (hTwz4.cell (lt_of_cell q3)).trans q3, (hTwz4.cell (lt_of_cell q4)).trans q4⟩
                        refine hK.out _ _ hSwz4 (fun _ => trivial) ?_
                        clear hK K
                        try simp only [Act.put, List.getElem_toArray, List.getElem_cons_succ, List.getElem_cons_zero, List.setIfInBounds_toArray, List.set_cons_zero, List.set_cons_succ]
                        refine wpAnyJ_take1 9 rfl (by kernel_rfl) (by kernel_rfl) rfl (by kernel_rfl) (fun _ _ _ h => h) (by first | kernel_rfl | rfl) hSwz4 (fun w' hSw => (by obtain ⟨q0, q1, q2, q3, q4⟩ := hSw; go_simp; try (with_reducible rfl))) ?_
                        try simp only [Act.put, List.getElem_toArray, List.getElem_cons_succ, List.getElem_cons_zero, List.setIfInBounds_toArray, List.set_cons_zero, List.set_cons_succ]
                        refine wpAnyJ_ready [10] (by kernel_rfl) (by simp) (NextJ.cons rfl (fun K hK => ?_) NextJ.nil)
                        go_simp
                        obtain ⟨wz5, hwz5⟩ : ∃ xx, Hid (wz4.alloc (.cells #[.int .i64 0, .slice none 0 0] 25) = xx) := ⟨_, Lib.hid rfl⟩
                        have hBwz5 : Below wz4.heap.size wz4 wz5 := by rw [← hwz5.out]; exact (Below.refl _ _).alloc (Nat.le_refl _) _
                        have hnwz5 : wz4.heap.size < wz5.heap.size := by rw [← hwz5.out]; simp
                        have k10wz5 : Blk wz5 wz4.heap.size 25 #[.int .i64 0, .slice none 0 0] := by rw [← hwz5.out]; exact Blk.new wz4 _ _
                        have hTwz5 := hTwz4.trans (hBwz5.mono hTwz4.size)
                        have hzwz5 := hTwz5.size
                        have hSwz5 : wz5.cell? ⟨w.heap.size, 0, none⟩ = some (.int .i64 P) ∧ wz5.cell? ⟨w.heap.size, 1, none⟩ = some (.slice A l.length c) ∧ wz5.cell? ⟨w2.heap.size, 0, none⟩ = some (.int .i64 x.a) ∧ wz5.cell? ⟨w2.heap.size, 1, none⟩ = some (.int .i64 x.b) ∧ wz5.cell? ⟨w2.heap.size, 2, none⟩ = some (.string x.s) := by obtain ⟨q0, q1, q2, q3, q4⟩ := hSS; exact ⟨(hTwz5.cell (lt_of_cell q0)).trans q0, (hTwz5.cell (lt_of_cell q1)).trans q1, (hTwz5.cell (lt_of_cell q2)).trans q2, (hTwz5.cell (lt_of_cell q3)).trans q3, (hTwz5.cell (lt_of_cell q4)).trans q4⟩
                        have o8wz5 := o8.below hBwz5
                        rw [hwz5.out]
                        refine hK.out _ _ hSwz5 (fun _ => trivial) ?_
                        clear hK K
                        try simp only [Act.put, List.getElem_toArray, List.getElem_cons_succ, List.getElem_cons_zero, List.setIfInBounds_toArray, List.set_cons_zero, List.set_cons_succ]
                        have ne8 : ∀ a, A8 = some a → a.block ≠ wz4.heap.size := fun a e he => by have := o8wz5.ne_block k10wz5 (by decide); rw [e] at this; simp [Value.ownBlock] at this; omega
                        refine wpAnyJ_ready [11] (by kernel_rfl) (by simp) (NextJ.cons rfl (fun K hK => ?_) NextJ.nil)
                        have qa := k10wz5.cell 0 _ rfl
                        have qb := k10wz5.cell 1 _ rfl
                        have qf := k10wz5.frozen 0
                        have qg := k10wz5.frozen 1
                        have ql := k10wz5.lt
                        have qt := hTwz5.size
                        go_simp
                        have kF : Blk ((wz5.setCell ⟨wz4.heap.size, 0, none⟩ (.int .i64 P)).setCell ⟨wz4.heap.size, 1, none⟩ (.slice A8 (l.length + 1) c8)) wz4.heap.size 25 #[.int .i64 P, (.slice A8 (l.length + 1) c8)] := by simpa using (k10wz5.set_ 0 (.int .i64 P)).set_ 1 (.slice A8 (l.length + 1) c8)
                        have oF := rd_far (rd_far (Own.rd' tri_len o8wz5) (g := wz4.heap.size) (by intro a e; exact ne8 a e) 0 (.int .i64 P)) (g := wz4.heap.size) (by intro a e; exact ne8 a e) 1 (.slice A8 (l.length + 1) c8)
                        have hTF : Below wS.heap.size wS ((wz5.setCell ⟨wz4.heap.size, 0, none⟩ (.int .i64 P)).setCell ⟨wz4.heap.size, 1, none⟩ (.slice A8 (l.length + 1) c8)) := (hTwz5.setCell (by show wS.heap.size ≤ wz4.heap.size; omega) _).setCell (by show wS.heap.size ≤ wz4.heap.size; omega) _
                        refine hK.out _ _ (by obtain ⟨q0, q1, q2, q3, q4⟩ := hSS; exact ⟨(hTF.cell (lt_of_cell q0)).trans q0, (hTF.cell (lt_of_cell q1)).trans q1, (hTF.cell (lt_of_cell q2)).trans q2, (hTF.cell (lt_of_cell q3)).trans q3, (hTF.cell (lt_of_cell q4)).trans q4⟩) (fun _ => trivial) ?_
                        clear hK K
                        try simp only [Act.put, List.getElem_toArray, List.getElem_cons_succ, List.getElem_cons_zero, List.setIfInBounds_toArray, List.set_cons_zero, List.set_cons_succ]
                        refine wpAnyJ_done (by kernel_rfl) ?_ _
                        clear qa qb qf qg
                        go_wp2_with fail
                        go_meet
                        case rel => exact ⟨wz4.heap.size, _, _, rfl, by omega, kF, oF.more (by simp), hBS.trans (hTF.mono hzS)⟩
                      case' _ =>
                        go_simp
                        obtain ⟨wz6, hwz6⟩ : ∃ xx, Hid (wz3.alloc (.cells #[.int .i64 0, .slice none 0 0] 25) = xx) := ⟨_, Lib.hid rfl⟩
                        have hBwz6 : Below wz3.heap.size wz3 wz6 := by rw [← hwz6.out]; exact (Below.refl _ _).alloc (Nat.le_refl _) _
                        have hnwz6 : wz3.heap.size < wz6.heap.size := by rw [← hwz6.out]; simp
                        have k10wz6 : Blk wz6 wz3.heap.size 25 #[.int .i64 0, .slice none 0 0] := by rw [← hwz6.out]; exact Blk.new wz3 _ _
                        have hTwz6 := hTwz3.trans (hBwz6.mono hTwz3.size)
                        have hzwz6 := hTwz6.size
                        have hSwz6 : wz6.cell? ⟨w.heap.size, 0, none⟩ = some (.int .i64 P) ∧ wz6.cell? ⟨w.heap.size, 1, none⟩ = some (.slice A l.length c) ∧ wz6.cell? ⟨w2.heap.size, 0, none⟩ = some (.int .i64 x.a) ∧ wz6.cell? ⟨w2.heap.size, 1, none⟩ = some (.int .i64 x.b) ∧ wz6.cell? ⟨w2.heap.size, 2, none⟩ = some (.string x.s) := by obtain ⟨q0, q1, q2, q3, q4⟩ := hSS; exact ⟨(hTwz6.cell (lt_of_cell q0)).trans q0, (hTwz6.cell (lt_of_cell q1)).trans q1, (hTwz6.cell (lt_of_cell q2)).trans q2, (hTwz6.cell (lt_of_cell q3)).trans q3, (hTwz6.cell (lt_of_cell q4)).trans q4⟩
                        have k7wz6 := k7wz3.below' hBwz6
                        have o6wz6 := o6wz3.below hBwz6
                        rw [hwz6.out]
                        refine hK.out _ _ hSwz6 (fun _ => trivial) ?_
                        clear hK K
                        try simp only [Act.put, List.getElem_toArray, List.getElem_cons_succ, List.getElem_cons_zero, List.setIfInBounds_toArray, List.set_cons_zero, List.set_cons_succ]
                        refine wpAnyJ_ready [8] (by kernel_rfl) (by simp) (NextJ.cons rfl (fun K hK => ?_) NextJ.nil)
                        refine step_append_tri rfl _ _ _ rfl wS.heap.size _ i0 _ Tryz.underlying23 hi0 hz0' hz1' hz2' rfl _ l rfl o6wz6 wz2.heap.size x rfl (k7wz6.cell 0 _ rfl) (k7wz6.cell 1 _ rfl) (k7wz6.cell 2 _ rfl) (by omega) (by have := hTwz6.size; omega) ?_
                        intro v8 wz7 o8 hgwz7
                        have hnwz7 : wz6.heap.size ≤ wz7.heap.size := hgwz7.size
                        obtain ⟨A8, c8, rfl, _, _⟩ := Own.rd tri_len o8
                        simp only [List.length_append, List.length_cons, List.length_nil, Nat.zero_add] at o8 ⊢
                        have hTwz7 := o6wz6.grown hTwz6 hgwz7 (by have := hTwz6.size; omega)
                        have hzwz7 := hTwz7.size
                        have hSwz7 : wz7.cell? ⟨w.heap.size, 0, none⟩ = some (.int .i64 P) ∧ wz7.cell? ⟨w.heap.size, 1, none⟩ = some (.slice A l.length c) ∧ wz7.cell? ⟨w2.heap.size, 0, none⟩ = some (.int .i64 x.a) ∧ wz7.cell? ⟨w2.heap.size, 1, none⟩ = some (.int .i64 x.b) ∧ wz7.cell? ⟨w2.heap.size, 2, none⟩ = some (.string x.s) := by obtain ⟨q0, q1, q2, q3, q4⟩ := hSS; exact ⟨(hTwz7.cell (lt_of_cell q0)).trans q0, (hTwz7.cell (lt_of_cell q1)).trans q1, (hTwz7.cell (lt_of_cell q2)).trans q2, (hTwz7.cell (lt_of_cell q3)).trans q3, (hTwz7.cell (lt_of_cell q4)).trans q4⟩
                        have k10wz7 := k10wz6.grown hgwz7 (o6wz6.ne_block k10wz6 (by decide))
                        refine hK.out _ _ hSwz7 (fun _ => trivial) ?_
                        clear hK K
                        try simp only [Act.put, List.getElem_toArray, List.getElem_cons_succ, List.getElem_cons_zero, List.setIfInBounds_toArray, List.set_cons_zero, List.set_cons_succ]
                        refine wpAnyJ_take1 9 rfl (by kernel_rfl) (by kernel_rfl) rfl (by kernel_rfl) (fun _ _ _ h => h) (by first | kernel_rfl | rfl) hSwz7 (fun w' hSw => (by obtain ⟨q0, q1, q2, q3, q4⟩ := hSw; go_simp; try (with_reducible rfl))) ?_
                        try simp only [Act.put, List.getElem_toArray, List.getElem_cons_succ, List.getElem_cons_zero, List.setIfInBounds_toArray, List.set_cons_zero, List.set_cons_succ]
                        have ne8 : ∀ a, A8 = some a → a.block ≠ wz3.heap.size := fun a e he => by have := o8.ne_block k10wz7 (by decide); rw [e] at this; simp [Value.ownBlock] at this; omega
                        refine wpAnyJ_ready [11] (by kernel_rfl) (by simp) (NextJ.cons rfl (fun K hK => ?_) NextJ.nil)
                        have qa := k10wz7.cell 0 _ rfl
                        have qb := k10wz7.cell 1 _ rfl
                        have qf := k10wz7.frozen 0
                        have qg := k10wz7.frozen 1
                        have ql := k10wz7.lt
                        have qt := hTwz7.size
                        go_simp
                        have kF : Blk ((wz7.setCell ⟨wz3.heap.size, 0, none⟩ (.int .i64 P)).setCell ⟨wz3.heap.size, 1, none⟩ (.slice A8 (l.length + 1) c8)) wz3.heap.size 25 #[.int .i64 P, (.slice A8 (l.length + 1) c8)] := by simpa using (k10wz7.set_ 0 (.int .i64 P)).set_ 1 (.slice A8 (l.length + 1) c8)
                        have oF := rd_far (rd_far (Own.rd' tri_len o8) (g := wz3.heap.size) (by intro a e; exact ne8 a e) 0 (.int .i64 P)) (g := wz3.heap.size) (by intro a e; exact ne8 a e) 1 (.slice A8 (l.length + 1) c8)
                        have hTF : Below wS.heap.size wS ((wz7.setCell ⟨wz3.heap.size, 0, none⟩ (.int .i64 P)).setCell ⟨wz3.heap.size, 1, none⟩ (.slice A8 (l.length + 1) c8)) := (hTwz7.setCell (by show wS.heap.size ≤ wz3.heap.size; omega) _).setCell (by show wS.heap.size ≤ wz3.heap.size; omega) _
                        refine hK.out _ _ (by obtain ⟨q0, q1, q2, q3, q4⟩ := hSS; exact ⟨(hTF.cell (lt_of_cell q0)).trans q0, (hTF.cell (lt_of_cell q1)).trans q1, (hTF.cell (lt_of_cell q2)).trans q2, (hTF.cell (lt_of_cell q3)).trans q3, (hTF.cell (lt_of_cell q4)).trans q4⟩) (fun _ => trivial) ?_
                        clear hK K
                        try simp only [Act.put, List.getElem_toArray, List.getElem_cons_succ, List.getElem_cons_zero, List.setIfInBounds_toArray, List.set_cons_zero, List.set_cons_succ]
                        refine wpAnyJ_done (by kernel_rfl) ?_ _
                        clear qa qb qf qg
                        go_wp2_with fail
                        go_meet
                        case rel => exact ⟨wz3.heap.size, _, _, rfl, by omega, kF, oF.more (by simp), hBS.trans (hTF.mono hzS)⟩
                    case' _ =>
                      go_simp
                      obtain ⟨wz8, hwz8⟩ : ∃ xx, Hid (wz2.alloc (.cells #[.int .i64 0, .slice none 0 0] 25) = xx) := ⟨_, Lib.hid rfl⟩
                      have hBwz8 : Below wz2.heap.size wz2 wz8 := by rw [← hwz8.out]; exact (Below.refl _ _).alloc (Nat.le_refl _) _
                      have hnwz8 : wz2.heap.size < wz8.heap.size := by rw [← hwz8.out]; simp
                      have k10wz8 : Blk wz8 wz2.heap.size 25 #[.int .i64 0, .slice none 0 0] := by rw [← hwz8.out]; exact Blk.new wz2 _ _
                      have hTwz8 := hTwz2.trans (hBwz8.mono hTwz2.size)
                      have hzwz8 := hTwz8.size
                      have hSwz8 : wz8.cell? ⟨w.heap.size, 0, none⟩ = some (.int .i64 P) ∧ wz8.cell? ⟨w.heap.size, 1, none⟩ = some (.slice A l.length c) ∧ wz8.cell? ⟨w2.heap.size, 0, none⟩ = some (.int .i64 x.a) ∧ wz8.cell? ⟨w2.heap.size, 1, none⟩ = some (.int .i64 x.b) ∧ wz8.cell? ⟨w2.heap.size, 2, none⟩ = some (.string x.s) := by obtain ⟨q0, q1, q2, q3, q4⟩ := hSS; exact ⟨(hTwz8.cell (lt_of_cell q0)).trans q0, (hTwz8.cell (lt_of_cell q1)).trans q1, (hTwz8.cell (lt_of_cell q2)).trans q2, (hTwz8.cell (lt_of_cell q3)).trans q3, (hTwz8.cell (lt_of_cell q4)).trans q4⟩
                      have o6wz8 := o6.below hBwz8
                      rw [hwz8.out]
                      refine hK.out _ _ hSwz8 (fun _ => trivial) ?_
                      clear hK K
                      try simp only [Act.put, List.getElem_toArray, List.getElem_cons_succ, List.getElem_cons_zero, List.setIfInBounds_toArray, List.set_cons_zero, List.set_cons_succ]
                      refine wpAnyJ_ready [7] (by kernel_rfl) (by simp) (NextJ.cons rfl (fun K hK => ?_) NextJ.nil)
                      go_simp
                      obtain ⟨wz9, hwz9⟩ : ∃ xx, Hid (wz8.alloc (.cells #[.int .i64 x.a, .int .i64 x.b, .string x.s] 44) = xx) := ⟨_, Lib.hid rfl⟩
                      have hBwz9 : Below wz8.heap.size wz8 wz9 := by rw [← hwz9.out]; exact (Below.refl _ _).alloc (Nat.le_refl _) _
                      have hnwz9 : wz8.heap.size < wz9.heap.size := by rw [← hwz9.out]; simp
                      have k7wz9 : Blk wz9 wz8.heap.size 44 #[.int .i64 x.a, .int .i64 x.b, .string x.s] := by rw [← hwz9.out]; exact Blk.new wz8 _ _
                      have hTwz9 := hTwz8.trans (hBwz9.mono hTwz8.size)
                      have hzwz9 := hTwz9.size
                      have hSwz9 : wz9.cell? ⟨w.heap.size, 0, none⟩ = some (.int .i64 P) ∧ wz9.cell? ⟨w.heap.size, 1, none⟩ = some (.slice A l.length c) ∧ wz9.cell? ⟨w2.heap.size, 0, none⟩ = some (.int .i64 x.a) ∧ wz9.cell? ⟨w2.heap.size, 1, none⟩ = some (.int .i64 x.b) ∧ wz9.cell? ⟨w2.heap.size, 2, none⟩ = some (.string x.s) := by obtain ⟨q0, q1, q2, q3, q4⟩ := hSS; exact ⟨(hTwz9.cell (lt_of_cell q0)).trans q0, (hTwz9.cell (lt_of_cell q1)).trans q1, (hTwz9.cell (lt_of_cell q2)).trans q2, (hTwz9.cell (lt_of_cell q3)).trans q3, (hTwz9.cell (lt_of_cell q4)).trans q4⟩
                      have k10wz9 := k10wz8.below' hBwz9
                      have o6wz9 := o6wz8.below hBwz9
                      rw [hwz9.out]
                      refine hK.out _ _ hSwz9 (fun _ => trivial) ?_
                      clear hK K
                      try simp only [Act.put, List.getElem_toArray, List.getElem_cons_succ, List.getElem_cons_zero, List.setIfInBounds_toArray, List.set_cons_zero, List.set_cons_succ]
                      refine wpAnyJ_ready [8] (by kernel_rfl) (by simp) (NextJ.cons rfl (fun K hK => ?_) NextJ.nil)
                      refine step_append_tri rfl _ _ _ rfl wS.heap.size _ i0 _ Tryz.underlying23 hi0 hz0' hz1' hz2' rfl _ l rfl o6wz9 wz8.heap.size x rfl (k7wz9.cell 0 _ rfl) (k7wz9.cell 1 _ rfl) (k7wz9.cell 2 _ rfl) (by omega) (by have := hTwz9.size; omega) ?_
                      intro v8 wz10 o8 hgwz10
                      have hnwz10 : wz9.heap.size ≤ wz10.heap.size := hgwz10.size
                      obtain ⟨A8, c8, rfl, _, _⟩ := Own.rd tri_len o8
                      simp only [List.length_append, List.length_cons, List.length_nil, Nat.zero_add] at o8 ⊢
                      have hTwz10 := o6wz9.grown hTwz9 hgwz10 (by have := hTwz9.size; omega)
                      have hzwz10 := hTwz10.size
                      have hSwz10 : wz10.cell? ⟨w.heap.size, 0, none⟩ = some (.int .i64 P) ∧ wz10.cell? ⟨w.heap.size, 1, none⟩ = some (.slice A l.length c) ∧ wz10.cell? ⟨w2.heap.size, 0, none⟩ = some (.int .i64 x.a) ∧ wz10.cell? ⟨w2.heap.size, 1, none⟩ = some (.int .i64 x.b) ∧ wz10.cell? ⟨w2.heap.size, 2, none⟩ = some (.string x.s) := by obtain ⟨q0, q1, q2, q3, q4⟩ := hSS; exact ⟨(hTwz10.cell (lt_of_cell q0)).trans q0, (hTwz10.cell (lt_of_cell q1)).trans q1, (hTwz10.cell (lt_of_cell q2)).trans q2, (hTwz10.cell (lt_of_cell q3)).trans q3, (hTwz10.cell (lt_of_cell q4)).trans q4⟩
                      have k10wz10 := k10wz9.grown hgwz10 (o6wz9.ne_block k10wz9 (by decide))
                      refine hK.out _ _ hSwz10 (fun _ => trivial) ?_
                      clear hK K
                      try simp only [Act.put, List.getElem_toArray, List.getElem_cons_succ, List.getElem_cons_zero, List.setIfInBounds_toArray, List.set_cons_zero, List.set_cons_succ]
                      refine wpAnyJ_take1 9 rfl (by kernel_rfl) (by kernel_rfl) rfl (by kernel_rfl) (fun _ _ _ h => h) (by first | kernel_rfl | rfl) hSwz10 (fun w' hSw => (by obtain ⟨q0, q1, q2, q3, q4⟩ := hSw; go_simp; try (with_reducible rfl))) ?_
                      try simp only [Act.put, List.getElem_toArray, List.getElem_cons_succ, List.getElem_cons_zero, List.setIfInBounds_toArray, List.set_cons_zero, List.set_cons_succ]
                      have ne8 : ∀ a, A8 = some a → a.block ≠ wz2.heap.size := fun a e he => by have := o8.ne_block k10wz10 (by decide); rw [e] at this; simp [Value.ownBlock] at this; omega
                      refine wpAnyJ_ready [11] (by kernel_rfl) (by simp) (NextJ.cons rfl (fun K hK => ?_) NextJ.nil)
                      have qa := k10wz10.cell 0 _ rfl
                      have qb := k10wz10.cell 1 _ rfl
                      have qf := k10wz10.frozen 0
                      have qg := k10wz10.frozen 1
                      have ql := k10wz10.lt
                      have qt := hTwz10.size
                      go_simp
                      have kF : Blk ((wz10.setCell ⟨wz2.heap.size, 0, none⟩ (.int .i64 P)).setCell ⟨wz2.heap.size, 1, none⟩ (.slice A8 (l.length + 1) c8)) wz2.heap.size 25 #[.int .i64 P, (.slice A8 (l.length + 1) c8)] := by simpa using (k10wz10.set_ 0 (.int .i64 P)).set_ 1 (.slice A8 (l.length + 1) c8)
                      have oF := rd_far (rd_far (Own.rd' tri_len o8) (g := wz2.heap.size) (by intro a e; exact ne8 a e) 0 (.int .i64 P)) (g := wz2.heap.size) (by intro a e; exact ne8 a e) 1 (.slice A8 (l.length + 1) c8)
                      have hTF : Below wS.heap.size wS ((wz10.setCell ⟨wz2.heap.size, 0, none⟩ (.int .i64 P)).setCell ⟨wz2.heap.size, 1, none⟩ (.slice A8 (l.length + 1) c8)) := (hTwz10.setCell (by show wS.heap.size ≤ wz2.heap.size; omega) _).setCell (by show wS.heap.size ≤ wz2.heap.size; omega) _
                      refine hK.out _ _ (by obtain ⟨q0, q1, q2, q3, q4⟩ := hSS; exact ⟨(hTF.cell (lt_of_cell q0)).trans q0, (hTF.cell (lt_of_cell q1)).trans q1, (hTF.cell (lt_of_cell q2)).trans q2, (hTF.cell (lt_of_cell q3)).trans q3, (hTF.cell (lt_of_cell q4)).trans q4⟩) (fun _ => trivial) ?_
                      clear hK K
                      try simp only [Act.put, List.getElem_toArray, List.getElem_cons_succ, List.getElem_cons_zero, List.setIfInBounds_toArray, List.set_cons_zero, List.set_cons_succ]
                      refine wpAnyJ_done (by kernel_rfl) ?_ _
                      clear qa qb qf qg
                      go_wp2_with fail
                      go_meet
                      case rel => exact ⟨wz2.heap.size, _, _, rfl, by omega, kF, oF.more (by simp), hBS.trans (hTF.mono hzS)⟩
                  case' _ =>
                    go_simp
                    obtain ⟨wz11, hwz11⟩ : ∃ xx, Hid (wz1.alloc (.cells #[.int .i64 x.a, .int .i64 x.b, .string x.s] 44) = xx) := ⟨_, Lib.hid rfl⟩
                    have hBwz11 : Below wz1.heap.size wz1 wz11 := by rw [← hwz11.out]; exact (Below.refl _ _).alloc (Nat.le_refl _) _
                    have hnwz11 : wz1.heap.size < wz11.heap.size := by rw [← hwz11.out]; simp
                    have k7wz11 : Blk wz11 wz1.heap.size 44 #[.int .i64 x.a, .int .i64 x.b, .string x.s] := by rw [← hwz11.out]; exact Blk.new wz1 _ _
                    have hTwz11 := hTwz1.trans (hBwz11.mono hTwz1.size)
                    have hzwz11 := hTwz11.size
                    have hSwz11 : wz11.cell? ⟨w.heap.size, 0, none⟩ = some (.int .i64 P) ∧ wz11.cell? ⟨w.heap.size, 1, none⟩ = some (.slice A l.length c) ∧ wz11.cell? ⟨w2.heap.size, 0, none⟩ = some (.int .i64 x.a) ∧ wz11.cell? ⟨w2.heap.size, 1, none⟩ = some (.int .i64 x.b) ∧ wz11.cell? ⟨w2.heap.size, 2, none⟩ = some (.string x.s) := by obtain ⟨q0, q1, q2, q3, q4⟩ := hSS; exact ⟨(hTwz11.cell (lt_of_cell q0)).trans q0, (hTwz11.cell (lt_of_cell q1)).trans q1, (hTwz11.cell (lt_of_cell q2)).trans q2, (hTwz11.cell (lt_of_cell q3)).trans q3, (hTwz11.cell (lt_of_cell q4)).trans q4⟩
                    have oEwz11 := oEwz1.below hBwz11
                    rw [hwz11.out]
                    refine hK.out _ _ hSwz11 (fun _ => trivial) ?_
                    clear hK K
                    try simp only [Act.put, List.getElem_toArray, List.getElem_cons_succ, List.getElem_cons_zero, List.setIfInBounds_toArray, List.set_cons_zero, List.set_cons_succ]
                    refine wpAnyJ_ready [5, 10] (by kernel_rfl) (by simp) (NextJ.cons rfl (fun K hK => ?_) (NextJ.cons rfl (fun K hK => ?_) NextJ.nil))
                    case' _ =>
                      refine step_append_tris rfl _ _ _ rfl wS.heap.size _ i0 _ Tryz.underlying23 hi0 hz0' hz1' hz2' rfl _ [] rfl oEwz11 A l c H rfl hnil (hrS.below' hTwz11 hHS) (by simp) hl6 (by have := hTwz11.size; omega) ?_
                      intro v6 wz12 o6 hgwz12
                      have hnwz12 : wz11.heap.size ≤ wz12.heap.size := hgwz12.size
                      rw [List.nil_append] at o6
                      obtain ⟨A6, c6, rfl, _, _⟩ := Own.rd tri_len o6
                      have hTwz12 := oEwz11.grown hTwz11 hgwz12 (by have := hTwz11.size; omega)
                      have hzwz12 := hTwz12.size
                      have hSwz12 : wz12.cell? ⟨w.heap.size, 0, none⟩ = some (.int .i64 P) ∧ wz12.cell? ⟨w.heap.size, 1, none⟩ = some (.slice A l.length c) ∧ wz12.cell? ⟨w2.heap.size, 0, none⟩ = some (.int .i64 x.a) ∧ wz12.cell? ⟨w2.heap.size, 1, none⟩ = some (.int .i64 x.b) ∧ wz12.cell? ⟨w2.heap.size, 2, none⟩ = some (.string x.s) := by obtain ⟨q0, q1, q2, q3, q4⟩ := hSS; exact ⟨(hTwz12.cell (lt_of_cell q0)).trans q0, (hTwz12.cell (lt_of_cell q1)).trans q1, (hTwz12.cell (lt_of_cell q2)).trans q2, (hTwz12.cell (lt_of_cell q3)).trans q3, (hTwz12.cell (lt_of_cell q4)).trans q4⟩
                      have k7wz12 := k7wz11.grown hgwz12 (fun e => by have e2 : wz1.heap.size = wS.heap.size := Option.some.inj e; omega)
                      refine hK.out _ _ hSwz12 (fun _ => trivial) ?_
                      clear hK K
                      try simp only [Act.put, List.getElem_toArray, List.getElem_cons_succ, List.getElem_cons_zero, List.setIfInBounds_toArray, List.set_cons_zero, List.set_cons_succ]
                      refine wpAnyJ_ready [8, 10] (by kernel_rfl) (by simp) (NextJ.cons rfl (fun K hK => ?_) (NextJ.cons rfl (fun K hK => ?_) NextJ.nil))
                      case' _ =>
                        refine step_append_tri rfl _ _ _ rfl wS.heap.size _ i0 _ Tryz.underlying23 hi0 hz0' hz1' hz2' rfl _ l rfl o6 wz1.heap.size x rfl (k7wz12.cell 0 _ rfl) (k7wz12.cell 1 _ rfl) (k7wz12.cell 2 _ rfl) (by omega) (by have := hTwz12.size; omega) ?_
                        intro v8 wz13 o8 hgwz13
                        have hnwz13 : wz12.heap.size ≤ wz13.heap.size := hgwz13.size
                        obtain ⟨A8, c8, rfl, _, _⟩ := Own.rd tri_len o8
                        simp only [List.length_append, List.length_cons, List.length_nil, Nat.zero_add] at o8 ⊢
                        have hTwz13 := o6.grown hTwz12 hgwz13 (by have := hTwz12.size; omega)
                        have hzwz13 := hTwz13.size
                        have hSwz13 : wz13.cell? ⟨w.heap.size, 0, none⟩ = some (.int .i64 P) ∧ wz13.cell? ⟨w.heap.size, 1, none⟩ = some (.slice A l.length c) ∧ wz13.cell? ⟨w2.heap.size, 0, none⟩ = some (.int .i64 x.a) ∧ wz13.cell? ⟨w2.heap.size, 1, none⟩ = some (.int .i64 x.b) ∧ wz13.cell? ⟨w2.heap.size, 2, none⟩ = some (.string x.s) := by obtain ⟨q0, q1, q2, q3, q4⟩ := hSS; exact ⟨(hTwz13.cell (lt_of_cell q0)).trans q0, (hTwz13.cell (lt_of_cell q1)).trans q1, (hTwz13.cell (lt_of_cell q2)).trans q2, (hTwz13.cell (lt_of_cell q3)).trans q3, (hTwz13.cell (lt_of_cell q4)).trans q4⟩
                        refine hK.out _ _ hSwz13 (fun _ => trivial) ?_
                        clear hK K
                        try simp only [Act.put, List.getElem_toArray, List.getElem_cons_succ, List.getElem_cons_zero, List.setIfInBounds_toArray, List.set_cons_zero, List.set_cons_succ]
                        refine wpAnyJ_take1 9 rfl (by kernel_rfl) (by kernel_rfl) rfl (by kernel_rfl) (fun _ _ _ h => h) (by first | kernel_rfl | rfl) hSwz13 (fun w' hSw => (by obtain ⟨q0, q1, q2, q3, q4⟩ := hSw; go_simp; try (with_reducible rfl))) ?_
                        try simp only [Act.put, List.getElem_toArray, List.getElem_cons_succ, List.getElem_cons_zero, List.setIfInBounds_toArray, List.set_cons_zero, List.set_cons_succ]
                        refine wpAnyJ_ready [10] (by kernel_rfl) (by simp) (NextJ.cons rfl (fun K hK => ?_) NextJ.nil)
                        go_simp
                        obtain ⟨wz14, hwz14⟩ : ∃ xx, Hid (wz13.alloc (.cells #[.int .i64 0, .slice none 0 0] 25) = xx) := ⟨_, Lib.hid rfl⟩
                        have hBwz14 : Below wz13.heap.size wz13 wz14 := by rw [← hwz14.out]; exact (Below.refl _ _).alloc (Nat.le_refl _) _
                        have hnwz14 : wz13.heap.size < wz14.heap.size := by rw [← hwz14.out]; simp
                        have k10wz14 : Blk wz14 wz13.heap.size 25 #[.int .i64 0, .slice none 0 0] := by rw [← hwz14.out]; exact Blk.new wz13 _ _
                        have hTwz14 := hTwz13.trans (hBwz14.mono hTwz13.size)
                        have hzwz14 := hTwz14.size
                        have hSwz14 : wz14.cell? ⟨w.heap.size, 0, none⟩ = some (.int .i64 P) ∧ wz14.cell? ⟨w.heap.size, 1, none⟩ = some (.slice A l.length c) ∧ wz14.cell? ⟨w2.heap.size, 0, none⟩ = some (.int .i64 x.a) ∧ wz14.cell? ⟨w2.heap.size, 1, none⟩ = some (.int .i64 x.b) ∧ wz14.cell? ⟨w2.heap.size, 2, none⟩ = some (.string x.s) := by obtain ⟨q0, q1, q2, q3, q4⟩ := hSS; exact ⟨(hTwz14.cell (lt_of_cell q0)).trans q0, (hTwz14.cell (lt_of_cell q1)).trans q1, (hTwz14.cell (lt_of_cell q2)).trans q2, (hTwz14.cell (lt_of_cell q3)).trans q3, (hTwz14.cell (lt_of_cell q4)).trans q4⟩
                        have o8wz14 := o8.below hBwz14
                        rw [hwz14.out]
                        refine hK.out _ _ hSwz14 (fun _ => trivial) ?_
                        clear hK K
                        try simp only [Act.put, List.getElem_toArray, List.getElem_cons_succ, List.getElem_cons_zero, List.setIfInBounds_toArray, List.set_cons_zero, List.set_cons_succ]
                        have ne8 : ∀ a, A8 = some a → a.block ≠ wz13.heap.size := fun a e he => by have := o8wz14.ne_block k10wz14 (by decide); rw [e] at this; simp [Value.ownBlock] at this; omega
                        refine wpAnyJ_ready [11] (by kernel_rfl) (by simp) (NextJ.cons rfl (fun K hK => ?_) NextJ.nil)
                        have qa := k10wz14.cell 0 _ rfl
                        have qb := k10wz14.cell 1 _ rfl
                        have qf := k10wz14.frozen 0
                        have qg := k10wz14.frozen 1
                        have ql := k10wz14.lt
                        have qt := hTwz14.size
                        go_simp
                        have kF : Blk ((wz14.setCell ⟨wz13.heap.size, 0, none⟩ (.int .i64 P)).setCell ⟨wz13.heap.size, 1, none⟩ (.slice A8 (l.length + 1) c8)) wz13.heap.size 25 #[.int .i64 P, (.slice A8 (l.length + 1) c8)] := by simpa using (k10wz14.set_ 0 (.int .i64 P)).set_ 1 (.slice A8 (l.length + 1) c8)
                        have oF := rd_far (rd_far (Own.rd' tri_len o8wz14) (g := wz13.heap.size) (by intro a e; exact ne8 a e) 0 (.int .i64 P)) (g := wz13.heap.size) (by intro a e; exact ne8 a e) 1 (.slice A8 (l.length + 1) c8)
                        have hTF : Below wS.heap.size wS ((wz14.setCell ⟨wz13.heap.size, 0, none⟩ (.int .i64 P)).setCell ⟨wz13.heap.size, 1, none⟩ (.slice A8 (l.length + 1) c8)) := (hTwz14.setCell (by show wS.heap.size ≤ wz13.heap.size; omega) _).setCell (by show wS.heap.size ≤ wz13.heap.size; omega) _
                        refine hK.out _ _ (by obtain ⟨q0, q1, q2, q3, q4⟩ := hSS; exact ⟨(hTF.cell (lt_of_cell q0)).trans q0, (hTF.cell (lt_of_cell q1)).trans q1, (hTF.cell (lt_of_cell q2)).trans q2, (hTF.cell (lt_of_cell q3)).trans q3, (hTF.cell (lt_of_cell q4)).trans q4⟩) (fun _ => trivial) ?_
                        clear hK K
                        try simp only [Act.put, List.getElem_toArray, List.getElem_cons_succ, List.getElem_cons_zero, List.setIfInBounds_toArray, List.set_cons_zero, List.set_cons_succ]
                        refine wpAnyJ_done (by kernel_rfl) ?_ _
                        clear qa qb qf qg
                        go_wp2_with fail
                        go_meet
                        case rel => exact ⟨wz13.heap.size, _, _, rfl, by omega, kF, oF.more (by simp), hBS.trans (hTF.mono hzS)⟩
                      case' _ =>
                        go_simp
                        obtain ⟨wz15, hwz15⟩ : ∃ xx, Hid (wz12.alloc (.cells #[.int .i64 0, .slice none 0 0] 25) = xx) := ⟨_, Lib.hid rfl⟩
                        have hBwz15 : Below wz12.heap.size wz12 wz15 := by rw [← hwz15.out]; exact (Below.refl _ _).alloc (Nat.le_refl _) _
                        have hnwz15 : wz12.heap.size < wz15.heap.size := by rw [← hwz15.out]; simp
                        have k10wz15 : Blk wz15 wz12.heap.size 25 #[.int .i64 0, .slice none 0 0] := by rw [← hwz15.out]; exact Blk.new wz12 _ _
                        have hTwz15 := hTwz12.trans (hBwz15.mono hTwz12.size)
                        have hzwz15 := hTwz15.size
                        have hSwz15 : wz15.cell? ⟨w.heap.size, 0, none⟩ = some (.int .i64 P) ∧ wz15.cell? ⟨w.heap.size, 1, none⟩ = some (.slice A l.length c) ∧ wz15.cell? ⟨w2.heap.size, 0, none⟩ = some (.int .i64 x.a) ∧ wz15.cell? ⟨w2.heap.size, 1, none⟩ = some (.int .i64 x.b) ∧ wz15.cell? ⟨w2.heap.size, 2, none⟩ = some (.string x.s) := by obtain ⟨q0, q1, q2, q3, q4⟩ := hSS; exact ⟨(hTwz15.cell (lt_of_cell q0)).trans q0, (hTwz15.cell (lt_of_cell q1)).trans q1, (hTwz15.cell (lt_of_cell q2)).trans q2, (hTwz15.cell (lt_of_cell q3)).trans q3, (hTwz15.cell (lt_of_cell q4)).trans q4⟩
                        have k7wz15 := k7wz12.below' hBwz15
                        have o6wz15 := o6.below hBwz15
                        rw [hwz15.out]
                        refine hK.out _ _ hSwz15 (fun _ => trivial) ?_
                        clear hK K
                        try simp only [Act.put, List.getElem_toArray, List.getElem_cons_succ, List.getElem_cons_zero, List.setIfInBounds_toArray, List.set_cons_zero, List.set_cons_succ]
                        refine wpAnyJ_ready [8] (by kernel_rfl) (by simp) (NextJ.cons rfl (fun K hK => ?_) NextJ.nil)
                        refine step_append_tri rfl _ _ _ rfl wS.heap.size _ i0 _ Tryz.underlying23 hi0 hz0' hz1' hz2' rfl _ l rfl o6wz15 wz1.heap.size x rfl (k7wz15.cell 0 _ rfl) (k7wz15.cell 1 _ rfl) (k7wz15.cell 2 _ rfl) (by omega) (by have := hTwz15.size; omega) ?_
                        intro v8 wz16 o8 hgwz16
                        have hnwz16 : wz15.heap.size ≤ wz16.heap.size := hgwz16.size
                        obtain ⟨A8, c8, rfl, _, _⟩ := Own.rd tri_len o8
                        simp only [List.length_append, List.length_cons, List.length_nil, Nat.zero_add] at o8 ⊢
                        have hTwz16 := o6wz15.grown hTwz15 hgwz16 (by have := hTwz15.size; omega)
                        have hzwz16 := hTwz16.size
                        have hSwz16 : wz16.cell? ⟨w.heap.size, 0, none⟩ = some (.int .i64 P) ∧ wz16.cell? ⟨w.heap.size, 1, none⟩ = some (.slice A l.length c) ∧ wz16.cell? ⟨w2.heap.size, 0, none⟩ = some (.int .i64 x.a) ∧ wz16.cell? ⟨w2.heap.size, 1, none⟩ = some (.int .i64 x.b) ∧ wz16.cell? ⟨w2.heap.size, 2, none⟩ = some (.string x.s) := by obtain ⟨q0, q1, q2, q3, q4⟩ := hSS; exact ⟨(hTwz16.cell (lt_of_cell q0)).trans q0, (hTwz16.cell (lt_of_cell q1)).trans q1, (hTwz16.cell (lt_of_cell q2)).trans q2, (hTwz16.cell (lt_of_cell q3)).trans q3, (hTwz16.cell (lt_of_cell q4)).trans q4⟩
                        have k10wz16 := k10wz15.grown hgwz16 (o6wz15.ne_block k10wz15 (by decide))
                        refine hK.out _ _ hSwz16 (fun _ => trivial) ?_
                        clear hK K
                        try simp only [Act.put, List.getElem_toArray, List.getElem_cons_succ, List.getElem_cons_zero, List.setIfInBounds_toArray, List.set_cons_zero, List.set_cons_succ]
                        refine wpAnyJ_take1 9 rfl (by kernel_rfl) (by kernel_rfl) rfl (by kernel_rfl) (fun _ _ _ h => h) (by first | kernel_rfl | rfl) hSwz16 (fun w' hSw => (by obtain ⟨q0, q1, q2, q3, q4⟩ := hSw; go_simp; try (with_reducible rfl))) ?_
                        try simp only [Act.put, List.getElem_toArray, List.getElem_cons_succ, List.getElem_cons_zero, List.setIfInBounds_toArray, List.set_cons_zero, List.set_cons_succ]
                        have ne8 : ∀ a, A8 = some a → a.block ≠ wz12.heap.size := fun a e he => by have := o8.ne_block k10wz16 (by decide); rw [e] at this; simp [Value.ownBlock] at this; omega
                        refine wpAnyJ_ready [11] (by kernel_rfl) (by simp) (NextJ.cons rfl (fun K hK => ?_) NextJ.nil)
                        have qa := k10wz16.cell 0 _ rfl
                        have qb := k10wz16.cell 1 _ rfl
                        have qf := k10wz16.frozen 0
                        have qg := k10wz16.frozen 1
                        have ql := k10wz16.lt
                        have qt := hTwz16.size
                        go_simp
                        have kF : Blk ((wz16.setCell ⟨wz12.heap.size, 0, none⟩ (.int .i64 P)).setCell ⟨wz12.heap.size, 1, none⟩ (.slice A8 (l.length + 1) c8)) wz12.heap.size 25 #[.int .i64 P, (.slice A8 (l.length + 1) c8)] := by simpa using (k10wz16.set_ 0 (.int .i64 P)).set_ 1 (.slice A8 (l.length + 1) c8)
                        have oF := rd_far (rd_far (Own.rd' tri_len o8) (g := wz12.heap.size) (by intro a e; exact ne8 a e) 0 (.int .i64 P)) (g := wz12.heap.size) (by intro a e; exact ne8 a e) 1 (.slice A8 (l.length + 1) c8)
                        have hTF : Below wS.heap.size wS ((wz16.setCell ⟨wz12.heap.size, 0, none⟩ (.int .i64 P)).setCell ⟨wz12.heap.size, 1, none⟩ (.slice A8 (l.length + 1) c8)) := (hTwz16.setCell (by show wS.heap.size ≤ wz12.heap.size; omega) _).setCell (by show wS.heap.size ≤ wz12.heap.size; omega) _
                        refine hK.out _ _ (by obtain ⟨q0, q1, q2, q3, q4⟩ := hSS; exact ⟨(hTF.cell (lt_of_cell q0)).trans q0, (hTF.cell (lt_of_cell q1)).trans q1, (hTF.cell (lt_of_cell q2)).trans q2, (hTF.cell (lt_of_cell q3)).trans q3, (hTF.cell (lt_of_cell q4)).trans q4⟩) (fun _ => trivial) ?_
                        clear hK K
                        try simp only [Act.put, List.getElem_toArray, List.getElem_cons_succ, List.getElem_cons_zero, List.setIfInBounds_toArray, List.set_cons_zero, List.set_cons_succ]
                        refine wpAnyJ_done (by kernel_rfl) ?_ _
                        clear qa qb qf qg
                        go_wp2_with fail
                        go_meet
                        case rel => exact ⟨wz12.heap.size, _, _, rfl, by omega, kF, oF.more (by simp), hBS.trans (hTF.mono hzS)⟩
                    case' _ =>
                      go_simp
                      obtain ⟨wz17, hwz17⟩ : ∃ xx, Hid (wz11.alloc (.cells #[.int .i64 0, .slice none 0 0] 25) = xx) := ⟨_, Lib.hid rfl⟩
                      have hBwz17 : Below wz11.heap.size wz11 wz17 := by rw [← hwz17.out]; exact (Below.refl _ _).alloc (Nat.le_refl _) _
                      have hnwz17 : wz11.heap.size < wz17.heap.size := by rw [← hwz17.out]; simp
                      have k10wz17 : Blk wz17 wz11.heap.size 25 #[.int .i64 0, .slice none 0 0] := by rw [← hwz17.out]; exact Blk.new wz11 _ _
                      have hTwz17 := hTwz11.trans (hBwz17.mono hTwz11.size)
                      have hzwz17 := hTwz17.size
                      have hSwz17 : wz17.cell? ⟨w.heap.size, 0, none⟩ = some (.int .i64 P) ∧ wz17.cell? ⟨w.heap.size, 1, none⟩ = some (.slice A l.length c) ∧ wz17.cell? ⟨w2.heap.size, 0, none⟩ = some (.int .i64 x.a) ∧ wz17.cell? ⟨w2.heap.size, 1, none⟩ = some (.int .i64 x.b) ∧ wz17.cell? ⟨w2.heap.size, 2, none⟩ = some (.string x.s) := by obtain ⟨q0, q1, q2, q3, q4⟩ := hSS; exact ⟨(hTwz17.cell (lt_of_cell q0)).trans q0, (hTwz17.cell (lt_of_cell q1)).trans q1, (hTwz17.cell (lt_of_cell q2)).trans q2, (hTwz17.cell (lt_of_cell q3)).trans q3, (hTwz17.cell (lt_of_cell q4)).trans q4⟩
                      have k7wz17 := k7wz11.below' hBwz17
                      have oEwz17 := oEwz11.below hBwz17
                      rw [hwz17.out]
                      refine hK.out _ _ hSwz17 (fun _ => trivial) ?_
                      clear hK K
                      try simp only [Act.put, List.getElem_toArray, List.getElem_cons_succ, List.getElem_cons_zero, List.setIfInBounds_toArray, List.set_cons_zero, List.set_cons_succ]
                      refine wpAnyJ_ready [5] (by kernel_rfl) (by simp) (NextJ.cons rfl (fun K hK => ?_) NextJ.nil)
                      refine step_append_tris rfl _ _ _ rfl wS.heap.size _ i0 _ Tryz.underlying23 hi0 hz0' hz1' hz2' rfl _ [] rfl oEwz17 A l c H rfl hnil (hrS.below' hTwz17 hHS) (by simp) hl6 (by have := hTwz17.size; omega) ?_
                      intro v6 wz18 o6 hgwz18
                      have hnwz18 : wz17.heap.size ≤ wz18.heap.size := hgwz18.size
                      rw [List.nil_append] at o6
                      obtain ⟨A6, c6, rfl, _, _⟩ := Own.rd tri_len o6
                      have hTwz18 := oEwz17.grown hTwz17 hgwz18 (by have := hTwz17.size; omega)
                      have hzwz18 := hTwz18.size
                      have hSwz18 : wz18.cell? ⟨w.heap.size, 0, none⟩ = some (.int .i64 P) ∧ wz18.cell? ⟨w.heap.size, 1, none⟩ = some (.slice A l.length c) ∧ wz18.cell? ⟨w2.heap.size, 0, none⟩ = some (.int .i64 x.a) ∧ wz18.cell? ⟨w2.heap.size, 1, none⟩ = some (.int .i64 x.b) ∧ wz18.cell? ⟨w2.heap.size, 2, none⟩ = some (.string x.s) := by obtain ⟨q0, q1, q2, q3, q4⟩ := hSS; exact ⟨(hTwz18.cell (lt_of_cell q0)).trans q0, (hTwz18.cell (lt_of_cell q1)).trans q1, (hTwz18.cell (lt_of_cell q2)).trans q2, (hTwz18.cell (lt_of_cell q3)).trans q3, (hTwz18.cell (lt_of_cell q4)).trans q4⟩
                      have k7wz18 := k7wz17.grown hgwz18 (fun e => by have e2 : wz1.heap.size = wS.heap.size := Option.some.inj e; omega)
                      have k10wz18 := k10wz17.grown hgwz18 (fun e => by have e2 : wz11.heap.size = wS.heap.size := Option.some.inj e; omega)
                      refine hK.out _ _ hSwz18 (fun _ => trivial) ?_
                      clear hK K
                      try simp only [Act.put, List.getElem_toArray, List.getElem_cons_succ, List.getElem_cons_zero, List.setIfInBounds_toArray, List.set_cons_zero, List.set_cons_succ]
                      refine wpAnyJ_ready [8] (by kernel_rfl) (by simp) (NextJ.cons rfl (fun K hK => ?_) NextJ.nil)
                      refine step_append_tri rfl _ _ _ rfl wS.heap.size _ i0 _ Tryz.underlying23 hi0 hz0' hz1' hz2' rfl _ l rfl o6 wz1.heap.size x rfl (k7wz18.cell 0 _ rfl) (k7wz18.cell 1 _ rfl) (k7wz18.cell 2 _ rfl) (by omega) (by have := hTwz18.size; omega) ?_
                      intro v8 wz19 o8 hgwz19
                      have hnwz19 : wz18.heap.size ≤ wz19.heap.size := hgwz19.size
                      obtain ⟨A8, c8, rfl, _, _⟩ := Own.rd tri_len o8
                      simp only [List.length_append, List.length_cons, List.length_nil, Nat.zero_add] at o8 ⊢
                      have hTwz19 := o6.grown hTwz18 hgwz19 (by have := hTwz18.size; omega)
                      have hzwz19 := hTwz19.size
                      have hSwz19 : wz19.cell? ⟨w.heap.size, 0, none⟩ = some (.int .i64 P) ∧ wz19.cell? ⟨w.heap.size, 1, none⟩ = some (.slice A l.length c) ∧ wz19.cell? ⟨w2.heap.size, 0, none⟩ = some (.int .i64 x.a) ∧ wz19.cell? ⟨w2.heap.size, 1, none⟩ = some (.int .i64 x.b) ∧ wz19.cell? ⟨w2.heap.size, 2, none⟩ = some (.string x.s) := by obtain ⟨q0, q1, q2, q3, q4⟩ := hSS; exact ⟨(hTwz19.cell (lt_of_cell q0)).trans q0, (hTwz19.cell (lt_of_cell q1)).trans q1, (hTwz19.cell (lt_of_cell q2)).trans q2, (hTwz19.cell (lt_of_cell q3)).trans q3, (hTwz19.cell (lt_of_cell q4)).trans q4⟩
                      have k10wz19 := k10wz18.grown hgwz19 (o6.ne_block k10wz18 (by decide))
                      refine hK.out _ _ hSwz19 (fun _ => trivial) ?_
                      clear hK K
                      try simp only [Act.put, List.getElem_toArray, List.getElem_cons_succ, List.getElem_cons_zero, List.setIfInBounds_toArray, List.set_cons_zero, List.set_cons_succ]
                      refine wpAnyJ_take1 9 rfl (by kernel_rfl) (by kernel_rfl) rfl (by kernel_rfl) (fun _ _ _ h => h) (by first | kernel_rfl | rfl) hSwz19 (fun w' hSw => (by obtain ⟨q0, q1, q2, q3, q4⟩ := hSw; go_simp; try (with_reducible rfl))) ?_
                      try simp only [Act.put, List.getElem_toArray, List.getElem_cons_succ, List.getElem_cons_zero, List.setIfInBounds_toArray, List.set_cons_zero, List.set_cons_succ]
                      have ne8 : ∀ a, A8 = some a → a.block ≠ wz11.heap.size := fun a e he => by have := o8.ne_block k10wz19 (by decide); rw [e] at this; simp [Value.ownBlock] at this; omega
                      refine wpAnyJ_ready [11] (by kernel_rfl) (by simp) (NextJ.cons rfl (fun K hK => ?_) NextJ.nil)
                      have qa := k10wz19.cell 0 _ rfl
                      have qb := k10wz19.cell 1 _ rfl
                      have qf := k10wz19.frozen 0
                      have qg := k10wz19.frozen 1
                      have ql := k10wz19.lt
                      have qt := hTwz19.size
                      go_simp
                      have kF : Blk ((wz19.setCell ⟨wz11.heap.size, 0, none⟩ (.int .i64 P)).setCell ⟨wz11.heap.size, 1, none⟩ (.slice A8 (l.length + 1) c8)) wz11.heap.size 25 #[.int .i64 P, (.slice A8 (l.length + 1) c8)] := by simpa using (k10wz19.set_ 0 (.int .i64 P)).set_ 1 (.slice A8 (l.length + 1) c8)
                      have oF := rd_far (rd_far (Own.rd' tri_len o8) (g := wz11.heap.size) (by intro a e; exact ne8 a e) 0 (.int .i64 P)) (g := wz11.heap.size) (by intro a e; exact ne8 a e) 1 (.slice A8 (l.length + 1) c8)
                      have hTF : Below wS.heap.size wS ((wz19.setCell ⟨wz11.heap.size, 0, none⟩ (.int .i64 P)).setCell ⟨wz11.heap.size, 1, none⟩ (.slice A8 (l.length + 1) c8)) := (hTwz19.setCell (by show wS.heap.size ≤ wz11.heap.size; omega) _).setCell (by show wS.heap.size ≤ wz11.heap.size; omega) _
                      refine hK.out _ _ (by obtain ⟨q0, q1, q2, q3, q4⟩ := hSS; exact ⟨(hTF.cell (lt_of_cell q0)).trans q0, (hTF.cell (lt_of_cell q1)).trans q1, (hTF.cell (lt_of_cell q2)).trans q2, (hTF.cell (lt_of_cell q3)).trans q3, (hTF.cell (lt_of_cell q4)).trans q4⟩) (fun _ => trivial) ?_
                      clear hK K
                      try simp only [Act.put, List.getElem_toArray, List.getElem_cons_succ, List.getElem_cons_zero, List.setIfInBounds_toArray, List.set_cons_zero, List.set_cons_succ]
                      refine wpAnyJ_done (by kernel_rfl) ?_ _
                      clear qa qb qf qg
                      go_wp2_with fail
                      go_meet
                      case rel => exact ⟨wz11.heap.size, _, _, rfl, by omega, kF, oF.more (by simp), hBS.trans (hTF.mono hzS)⟩
                  case' _ =>
                    go_simp
                    obtain ⟨wz20, hwz20⟩ : ∃ xx, Hid (wz1.alloc (.cells #[.int .i64 0, .slice none 0 0] 25) = xx) := ⟨_, Lib.hid rfl⟩
                    have hBwz20 : Below wz1.heap.size wz1 wz20 := by rw [← hwz20.out]; exact (Below.refl _ _).alloc (Nat.le_refl _) _
                    have hnwz20 : wz1.heap.size < wz20.heap.size := by rw [← hwz20.out]; simp
                    have k10wz20 : Blk wz20 wz1.heap.size 25 #[.int .i64 0, .slice none 0 0] := by rw [← hwz20.out]; exact Blk.new wz1 _ _
                    have hTwz20 := hTwz1.trans (hBwz20.mono hTwz1.size)
                    have hzwz20 := hTwz20.size
                    have hSwz20 : wz20.cell? ⟨w.heap.size, 0, none⟩ = some (.int .i64 P) ∧ wz20.cell? ⟨w.heap.size, 1, none⟩ = some (.slice A l.length c) ∧ wz20.cell? ⟨w2.heap.size, 0, none⟩ = some (.int .i64 x.a) ∧ wz20.cell? ⟨w2.heap.size, 1, none⟩ = some (.int .i64 x.b) ∧ wz20.cell? ⟨w2.heap.size, 2, none⟩ = some (.string x.s) := by obtain ⟨q0, q1, q2, q3, q4⟩ := hSS; exact ⟨(hTwz20.cell (lt_of_cell q0)).trans q0, (hTwz20.cell (lt_of_cell q1)).trans q1, (hTwz20.cell (lt_of_cell q2)).trans q2, (hTwz20.cell (lt_of_cell q3)).trans q3, (hTwz20.cell (lt_of_cell q4)).trans q4⟩
                    have oEwz20 := oEwz1.below hBwz20
                    rw [hwz20.out]
                    refine hK.out _ _ hSwz20 (fun _ => trivial) ?_
                    clear hK K
                    try simp only [Act.put, List.getElem_toArray, List.getElem_cons_succ, List.getElem_cons_zero, List.setIfInBounds_toArray, List.set_cons_zero, List.set_cons_succ]
                    refine wpAnyJ_ready [5, 7] (by kernel_rfl) (by simp) (NextJ.cons rfl (fun K hK => ?_) (NextJ.cons rfl (fun K hK => ?_) NextJ.nil))
                    case' _ =>
                      refine step_append_tris rfl _ _ _ rfl wS.heap.size _ i0 _ Tryz.underlying23 hi0 hz0' hz1' hz2' rfl _ [] rfl oEwz20 A l c H rfl hnil (hrS.below' hTwz20 hHS) (by simp) hl6 (by have := hTwz20.size; omega) ?_
                      intro v6 wz21 o6 hgwz21
                      have hnwz21 : wz20.heap.size ≤ wz21.heap.size := hgwz21.size
                      rw [List.nil_append] at o6
                      obtain ⟨A6, c6, rfl, _, _⟩ := Own.rd tri_len o6
                      have hTwz21 := oEwz20.grown hTwz20 hgwz21 (by have := hTwz20.size; omega)
                      have hzwz21 := hTwz21.size
                      have hSwz21 : wz21.cell? ⟨w.heap.size, 0, none⟩ = some (.int .i64 P) ∧ wz21.cell? ⟨w.heap.size, 1, none⟩ = some (.slice A l.length c) ∧ wz21.cell? ⟨w2.heap.size, 0, none⟩ = some (.int .i64 x.a) ∧ wz21.cell? ⟨w2.heap.size, 1, none⟩ = some (.int .i64 x.b) ∧ wz21.cell? ⟨w2.heap.size, 2, none⟩ = some (.string x.s) := by obtain ⟨q0, q1, q2, q3, q4⟩ := hSS; exact ⟨(hTwz21.cell (lt_of_cell q0)).trans q0, (hTwz21.cell (lt_of_cell q1)).trans q1, (hTwz21.cell (lt_of_cell q2)).trans q2, (hTwz21.cell (lt_of_cell q3)).trans q3, (hTwz21.cell (lt_of_cell q4)).trans q4⟩
                      have k10wz21 := k10wz20.grown hgwz21 (fun e => by have e2 : wz1.heap.size = wS.heap.size := Option.some.inj e; omega)
                      refine hK.out _ _ hSwz21 (fun _ => trivial) ?_
                      clear hK K
                      try simp only [Act.put, List.getElem_toArray, List.getElem_cons_succ, List.getElem_cons_zero, List.setIfInBounds_toArray, List.set_cons_zero, List.set_cons_succ]
                      refine wpAnyJ_ready [7] (by kernel_rfl) (by simp) (NextJ.cons rfl (fun K hK => ?_) NextJ.nil)
                      go_simp
                      obtain ⟨wz22, hwz22⟩ : ∃ xx, Hid (wz21.alloc (.cells #[.int .i64 x.a, .int .i64 x.b, .string x.s] 44) = xx) := ⟨_, Lib.hid rfl⟩
                      have hBwz22 : Below wz21.heap.size wz21 wz22 := by rw [← hwz22.out]; exact (Below.refl _ _).alloc (Nat.le_refl _) _
                      have hnwz22 : wz21.heap.size < wz22.heap.size := by rw [← hwz22.out]; simp
                      have k7wz22 : Blk wz22 wz21.heap.size 44 #[.int .i64 x.a, .int .i64 x.b, .string x.s] := by rw [← hwz22.out]; exact Blk.new wz21 _ _
                      have hTwz22 := hTwz21.trans (hBwz22.mono hTwz21.size)
                      have hzwz22 := hTwz22.size
                      have hSwz22 : wz22.cell? ⟨w.heap.size, 0, none⟩ = some (.int .i64 P) ∧ wz22.cell? ⟨w.heap.size, 1, none⟩ = some (.slice A l.length c) ∧ wz22.cell? ⟨w2.heap.size, 0, none⟩ = some (.int .i64 x.a) ∧ wz22.cell? ⟨w2.heap.size, 1, none⟩ = some (.int .i64 x.b) ∧ wz22.cell? ⟨w2.heap.size, 2, none⟩ = some (.string x.s) := by obtain ⟨q0, q1, q2, q3, q4⟩ := hSS; exact ⟨(hTwz22.cell (lt_of_cell q0)).trans q0, (hTwz22.cell (lt_of_cell q1)).trans q1, (hTwz22.cell (lt_of_cell q2)).trans q2, (hTwz22.cell (lt_of_cell q3)).trans q3, (hTwz22.cell (lt_of_cell q4)).trans q4⟩
                      have k10wz22 := k10wz21.below' hBwz22
                      have o6wz22 := o6.below hBwz22
                      rw [hwz22.out]
                      refine hK.out _ _ hSwz22 (fun _ => trivial) ?_
                      clear hK K
                      try simp only [Act.put, List.getElem_toArray, List.getElem_cons_succ, List.getElem_cons_zero, List.setIfInBounds_toArray, List.set_cons_zero, List.set_cons_succ]
                      refine wpAnyJ_ready [8] (by kernel_rfl) (by simp) (NextJ.cons rfl (fun K hK => ?_) NextJ.nil)
                      refine step_append_tri rfl _ _ _ rfl wS.heap.size _ i0 _ Tryz.underlying23 hi0 hz0' hz1' hz2' rfl _ l rfl o6wz22 wz21.heap.size x rfl (k7wz22.cell 0 _ rfl) (k7wz22.cell 1 _ rfl) (k7wz22.cell 2 _ rfl) (by omega) (by have := hTwz22.size; omega) ?_
                      intro v8 wz23 o8 hgwz23
                      have hnwz23 : wz22.heap.size ≤ wz23.heap.size := hgwz23.size
                      obtain ⟨A8, c8, rfl, _, _⟩ := Own.rd tri_len o8
                      simp only [List.length_append, List.length_cons, List.length_nil, Nat.zero_add] at o8 ⊢
                      have hTwz23 := o6wz22.grown hTwz22 hgwz23 (by have := hTwz22.size; omega)
                      have hzwz23 := hTwz23.size
                      have hSwz23 : wz23.cell? ⟨w.heap.size, 0, none⟩ = some (.int .i64 P) ∧ wz23.cell? ⟨w.heap.size, 1, none⟩ = some (.slice A l.length c) ∧ wz23.cell? ⟨w2.heap.size, 0, none⟩ = some (.int .i64 x.a) ∧ wz23.cell? ⟨w2.heap.size, 1, none⟩ = some (.int .i64 x.b) ∧ wz23.cell? ⟨w2.heap.size, 2, none⟩ = some (.string x.s) := by obtain ⟨q0, q1, q2, q3, q4⟩ := hSS; exact ⟨(hTwz23.cell (lt_of_cell q0)).trans q0, (hTwz23.cell (lt_of_cell q1)).trans q1, (hTwz23.cell (lt_of_cell q2)).trans q2, (hTwz23.cell (lt_of_cell q3)).trans q3, (hTwz23.cell (lt_of_cell q4)).trans q4⟩
                      have k10wz23 := k10wz22.grown hgwz23 (o6wz22.ne_block k10wz22 (by decide))
                      refine hK.out _ _ hSwz23 (fun _ => trivial) ?_
                      clear hK K
                      try simp only [Act.put, List.getElem_toArray, List.getElem_cons_succ, List.getElem_cons_zero, List.setIfInBounds_toArray, List.set_cons_zero, List.set_cons_succ]
                      refine wpAnyJ_take1 9 rfl (by kernel_rfl) (by kernel_rfl) rfl (by kernel_rfl) (fun _ _ _ h => h) (by first | kernel_rfl | rfl) hSwz23 (fun w' hSw => (by obtain ⟨q0, q1, q2, q3, q4⟩ := hSw; go_simp; try (with_reducible rfl))) ?_
                      try simp only [Act.put, List.getElem_toArray, List.getElem_cons_succ, List.getElem_cons_zero, List.setIfInBounds_toArray, List.set_cons_zero, List.set_cons_succ]
                      have ne8 : ∀ a, A8 = some a → a.block ≠ wz1.heap.size := fun a e he => by have := o8.ne_block k10wz23 (by decide); rw [e] at this; simp [Value.ownBlock] at this; omega
                      refine wpAnyJ_ready [11] (by kernel_rfl) (by simp) (NextJ.cons rfl (fun K hK => ?_) NextJ.nil)
                      have qa := k10wz23.cell 0 _ rfl
                      have qb := k10wz23.cell 1 _ rfl
                      have qf := k10wz23.frozen 0
                      have qg := k10wz23.frozen 1
                      have ql := k10wz23.lt
                      have qt := hTwz23.size
                      go_simp
                      have kF : Blk ((wz23.setCell ⟨wz1.heap.size, 0, none⟩ (.int .i64 P)).setCell ⟨wz1.heap.size, 1, none⟩ (.slice A8 (l.length + 1) c8)) wz1.heap.size 25 #[.int .i64 P, (.slice A8 (l.length + 1) c8)] := by simpa using (k10wz23.set_ 0 (.int .i64 P)).set_ 1 (.slice A8 (l.length + 1) c8)
                      have oF := rd_far (rd_far (Own.rd' tri_len o8) (g := wz1.heap.size) (by intro a e; exact ne8 a e) 0 (.int .i64 P)) (g := wz1.heap.size) (by intro a e; exact ne8 a e) 1 (.slice A8 (l.length + 1) c8)
                      have hTF : Below wS.heap.size wS ((wz23.setCell ⟨wz1.heap.size, 0, none⟩ (.int .i64 P)).setCell ⟨wz1.heap.size, 1, none⟩ (.slice A8 (l.length + 1) c8)) := (hTwz23.setCell (by show wS.heap.size ≤ wz1.heap.size; omega) _).setCell (by show wS.heap.size ≤ wz1.heap.size; omega) _
                      refine hK.out _ _ (by obtain ⟨q0, q1, q2, q3, q4⟩ := hSS; exact ⟨(hTF.cell (lt_of_cell q0)).trans q0, (hTF.cell (lt_of_cell q1)).trans q1, (hTF.cell (lt_of_cell q2)).trans q2, (hTF.cell (lt_of_cell q3)).trans q3, (hTF.cell (lt_of_cell q4)).trans q4⟩) (fun _ => trivial) ?_
                      clear hK K
                      try simp only [Act.put, List.getElem_toArray, List.getElem_cons_succ, List.getElem_cons_zero, List.setIfInBounds_toArray, List.set_cons_zero, List.set_cons_succ]
                      refine wpAnyJ_done (by kernel_rfl) ?_ _
                      clear qa qb qf qg
                      go_wp2_with fail
                      go_meet
                      case rel => exact ⟨wz1.heap.size, _, _, rfl, by omega, kF, oF.more (by simp), hBS.trans (hTF.mono hzS)⟩
                    case' _ =>
                      go_simp
                      obtain ⟨wz24, hwz24⟩ : ∃ xx, Hid (wz20.alloc (.cells #[.int .i64 x.a, .int .i64 x.b, .string x.s] 44) = xx) := ⟨_, Lib.hid rfl⟩
                      have hBwz24 : Below wz20.heap.size wz20 wz24 := by rw [← hwz24.out]; exact (Below.refl _ _).alloc (Nat.le_refl _) _
                      have hnwz24 : wz20.heap.size < wz24.heap.size := by rw [← hwz24.out]; simp
                      have k7wz24 : Blk wz24 wz20.heap.size 44 #[.int .i64 x.a, .int .i64 x.b, .string x.s] := by rw [← hwz24.out]; exact Blk.new wz20 _ _
                      have hTwz24 := hTwz20.trans (hBwz24.mono hTwz20.size)
                      have hzwz24 := hTwz24.size
                      have hSwz24 : wz24.cell? ⟨w.heap.size, 0, none⟩ = some (.int .i64 P) ∧ wz24.cell? ⟨w.heap.size, 1, none⟩ = some (.slice A l.length c) ∧ wz24.cell? ⟨w2.heap.size, 0, none⟩ = some (.int .i64 x.a) ∧ wz24.cell? ⟨w2.heap.size, 1, none⟩ = some (.int .i64 x.b) ∧ wz24.cell? ⟨w2.heap.size, 2, none⟩ = some (.string x.s) := by obtain ⟨q0, q1, q2, q3, q4⟩ := hSS; exact ⟨(hTwz24.cell (lt_of_cell q0)).trans q0, (hTwz24.cell (lt_of_cell q1)).trans q1, (hTwz24.cell (lt_of_cell q2)).trans q2, (hTwz24.cell (lt_of_cell q3)).trans q3, (hTwz24.cell (lt_of_cell q4)).trans q4⟩
                      have k10wz24 := k10wz20.below' hBwz24
                      have oEwz24 := oEwz20.below hBwz24
                      rw [hwz24.out]
                      refine hK.out _ _ hSwz24 (fun _ => trivial) ?_
                      clear hK K
                      try simp only [Act.put, List.getElem_toArray, List.getElem_cons_succ, List.getElem_cons_zero, List.setIfInBounds_toArray, List.set_cons_zero, List.set_cons_succ]
                      refine wpAnyJ_ready [5] (by kernel_rfl) (by simp) (NextJ.cons rfl (fun K hK => ?_) NextJ.nil)
                      refine step_append_tris rfl _ _ _ rfl wS.heap.size _ i0 _ Tryz.underlying23 hi0 hz0' hz1' hz2' rfl _ [] rfl oEwz24 A l c H rfl hnil (hrS.below' hTwz24 hHS) (by simp) hl6 (by have := hTwz24.size; omega) ?_
                      intro v6 wz25 o6 hgwz25
                      have hnwz25 : wz24.heap.size ≤ wz25.heap.size := hgwz25.size
                      rw [List.nil_append] at o6
                      obtain ⟨A6, c6, rfl, _, _⟩ := Own.rd tri_len o6
                      have hTwz25 := oEwz24.grown hTwz24 hgwz25 (by have := hTwz24.size; omega)
                      have hzwz25 := hTwz25.size
                      have hSwz25 : wz25.cell? ⟨w.heap.size, 0, none⟩ = some (.int .i64 P) ∧ wz25.cell? ⟨w.heap.size, 1, none⟩ = some (.slice A l.length c) ∧ wz25.cell? ⟨w2.heap.size, 0, none⟩ = some (.int .i64 x.a) ∧ wz25.cell? ⟨w2.heap.size, 1, none⟩ = some (.int .i64 x.b) ∧ wz25.cell? ⟨w2.heap.size, 2, none⟩ = some (.string x.s) := by obtain ⟨q0, q1, q2, q3, q4⟩ := hSS; exact ⟨(hTwz25.cell (lt_of_cell q0)).trans q0, (hTwz25.cell (lt_of_cell q1)).trans q1, (hTwz25.cell (lt_of_cell q2)).trans q2, (hTwz25.cell (lt_of_cell q3)).trans q3, (hTwz25.cell (lt_of_cell q4)).trans q4⟩
                      have k7wz25 := k7wz24.grown hgwz25 (fun e => by have e2 : wz20.heap.size = wS.heap.size := Option.some.inj e; omega)
                      have k10wz25 := k10wz24.grown hgwz25 (fun e => by have e2 : wz1.heap.size = wS.heap.size := Option.some.inj e; omega)
                      refine hK.out _ _ hSwz25 (fun _ => trivial) ?_
                      clear hK K
                      try simp only [Act.put, List.getElem_toArray, List.getElem_cons_succ, List.getElem_cons_zero, List.setIfInBounds_toArray, List.set_cons_zero, List.set_cons_succ]
                      refine wpAnyJ_ready [8] (by kernel_rfl) (by simp) (NextJ.cons rfl (fun K hK => ?_) NextJ.nil)
                      refine step_append_tri rfl _ _ _ rfl wS.heap.size _ i0 _ Tryz.underlying23 hi0 hz0' hz1' hz2' rfl _ l rfl o6 wz20.heap.size x rfl (k7wz25.cell 0 _ rfl) (k7wz25.cell 1 _ rfl) (k7wz25.cell 2 _ rfl) (by omega) (by have := hTwz25.size; omega) ?_
                      intro v8 wz26 o8 hgwz26
                      have hnwz26 : wz25.heap.size ≤ wz26.heap.size := hgwz26.size
                      obtain ⟨A8, c8, rfl, _, _⟩ := Own.rd tri_len o8
                      simp only [List.length_append, List.length_cons, List.length_nil, Nat.zero_add] at o8 ⊢
                      have hTwz26 := o6.grown hTwz25 hgwz26 (by have := hTwz25.size; omega)
                      have hzwz26 := hTwz26.size
                      have hSwz26 : wz26.cell? ⟨w.heap.size, 0, none⟩ = some (.int .i64 P) ∧ wz26.cell? ⟨w.heap.size, 1, none⟩ = some (.slice A l.length c) ∧ wz26.cell? ⟨w2.heap.size, 0, none⟩ = some (.int .i64 x.a) ∧ wz26.cell? ⟨w2.heap.size, 1, none⟩ = some (.int .i64 x.b) ∧ wz26.cell? ⟨w2.heap.size, 2, none⟩ = some (.string x.s) := by obtain ⟨q0, q1, q2, q3, q4⟩ := hSS; exact ⟨(hTwz26.cell (lt_of_cell q0)).trans q0, (hTwz26.cell (lt_of_cell q1)).trans q1, (hTwz26.cell (lt_of_cell q2)).trans q2, (hTwz26.cell (lt_of_cell q3)).trans q3, (hTwz26.cell (lt_of_cell q4)).trans q4⟩
                      have k10wz26 := k10wz25.grown hgwz26 (o6.ne_block k10wz25 (by decide))
                      refine hK.out _ _ hSwz26 (fun _ => trivial) ?_
                      clear hK K
                      try simp only [Act.put, List.getElem_toArray, List.getElem_cons_succ, List.getElem_cons_zero, List.setIfInBounds_toArray, List.set_cons_zero, List.set_cons_succ]
                      refine wpAnyJ_take1 9 rfl (by kernel_rfl) (by kernel_rfl) rfl (by kernel_rfl) (fun _ _ _ h => h) (by first | kernel_rfl | rfl) hSwz26 (fun w' hSw => (by obtain ⟨q0, q1, q2, q3, q4⟩ := hSw; go_simp; try (with_reducible rfl))) ?_
                      try simp only [Act.put, List.getElem_toArray, List.getElem_cons_succ, List.getElem_cons_zero, List.setIfInBounds_toArray, List.set_cons_zero, List.set_cons_succ]
                      have ne8 : ∀ a, A8 = some a → a.block ≠ wz1.heap.size := fun a e he => by have := o8.ne_block k10wz26 (by decide); rw [e] at this; simp [Value.ownBlock] at this; omega
                      refine wpAnyJ_ready [11] (by kernel_rfl) (by simp) (NextJ.cons rfl (fun K hK => ?_) NextJ.nil)
                      have qa := k10wz26.cell 0 _ rfl
                      have qb := k10wz26.cell 1 _ rfl
                      have qf := k10wz26.frozen 0
                      have qg := k10wz26.frozen 1
                      have ql := k10wz26.lt
                      have qt := hTwz26.size
                      go_simp
                      have kF : Blk ((wz26.setCell ⟨wz1.heap.size, 0, none⟩ (.int .i64 P)).setCell ⟨wz1.heap.size, 1, none⟩ (.slice A8 (l.length + 1) c8)) wz1.heap.size 25 #[.int .i64 P, (.slice A8 (l.length + 1) c8)] := by simpa using (k10wz26.set_ 0 (.int .i64 P)).set_ 1 (.slice A8 (l.length + 1) c8)
                      have oF := rd_far (rd_far (Own.rd' tri_len o8) (g := wz1.heap.size) (by intro a e; exact ne8 a e) 0 (.int .i64 P)) (g := wz1.heap.size) (by intro a e; exact ne8 a e) 1 (.slice A8 (l.length + 1) c8)
                      have hTF : Below wS.heap.size wS ((wz26.setCell ⟨wz1.heap.size, 0, none⟩ (.int .i64 P)).setCell ⟨wz1.heap.size, 1, none⟩ (.slice A8 (l.length + 1) c8)) := (hTwz26.setCell (by show wS.heap.size ≤ wz1.heap.size; omega) _).setCell (by show wS.heap.size ≤ wz1.heap.size; omega) _
                      refine hK.out _ _ (by obtain ⟨q0, q1, q2, q3, q4⟩ := hSS; exact ⟨(hTF.cell (lt_of_cell q0)).trans q0, (hTF.cell (lt_of_cell q1)).trans q1, (hTF.cell (lt_of_cell q2)).trans q2, (hTF.cell (lt_of_cell q3)).trans q3, (hTF.cell (lt_of_cell q4)).trans q4⟩) (fun _ => trivial) ?_
                      clear hK K
                      try simp only [Act.put, List.getElem_toArray, List.getElem_cons_succ, List.getElem_cons_zero, List.setIfInBounds_toArray, List.set_cons_zero, List.set_cons_succ]
                      refine wpAnyJ_done (by kernel_rfl) ?_ _
                      clear qa qb qf qg
                      go_wp2_with fail
                      go_meet
                      case rel => exact ⟨wz1.heap.size, _, _, rfl, by omega, kF, oF.more (by simp), hBS.trans (hTF.mono hzS)⟩
                case' _ =>
                  go_simp
                  obtain ⟨wz27, hwz27⟩ : ∃ xx, Hid (wS.alloc (.cells #[.int .i64 x.a, .int .i64 x.b, .string x.s] 44) = xx) := ⟨_, Lib.hid rfl⟩
                  have hBwz27 : Below wS.heap.size wS wz27 := by rw [← hwz27.out]; exact (Below.refl _ _).alloc (Nat.le_refl _) _
                  have hnwz27 : wS.heap.size < wz27.heap.size := by rw [← hwz27.out]; simp
                  have k7wz27 : Blk wz27 wS.heap.size 44 #[.int .i64 x.a, .int .i64 x.b, .string x.s] := by rw [← hwz27.out]; exact Blk.new wS _ _
                  have hTwz27 := hTwS.trans (hBwz27.mono hTwS.size)
                  have hzwz27 := hTwz27.size
                  have hSwz27 : wz27.cell? ⟨w.heap.size, 0, none⟩ = some (.int .i64 P) ∧ wz27.cell? ⟨w.heap.size, 1, none⟩ = some (.slice A l.length c) ∧ wz27.cell? ⟨w2.heap.size, 0, none⟩ = some (.int .i64 x.a) ∧ wz27.cell? ⟨w2.heap.size, 1, none⟩ = some (.int .i64 x.b) ∧ wz27.cell? ⟨w2.heap.size, 2, none⟩ = some (.string x.s) := by obtain ⟨q0, q1, q2, q3, q4⟩ := hSS; exact ⟨(hTwz27.cell (lt_of_cell q0)).trans q0, (hTwz27.cell (lt_of_cell q1)).trans q1, (hTwz27.cell (lt_of_cell q2)).trans q2, (hTwz27.cell (lt_of_cell q3)).trans q3, (hTwz27.cell (lt_of_cell q4)).trans q4⟩
                  rw [hwz27.out]
                  refine hK.out _ _ hSwz27 (fun _ => trivial) ?_
                  clear hK K
                  try simp only [Act.put, List.getElem_toArray, List.getElem_cons_succ, List.getElem_cons_zero, List.setIfInBounds_toArray, List.set_cons_zero, List.set_cons_succ]
                  refine wpAnyJ_ready [2, 10] (by kernel_rfl) (by simp) (NextJ.cons rfl (fun K hK => ?_) (NextJ.cons rfl (fun K hK => ?_) NextJ.nil))
                  case' _ =>
                    go_simp
                    obtain ⟨wz28, hwz28⟩ : ∃ xx, Hid (wz27.alloc (.cells #[] 44) = xx) := ⟨_, Lib.hid rfl⟩
                    have hBwz28 : Below wz27.heap.size wz27 wz28 := by rw [← hwz28.out]; exact (Below.refl _ _).alloc (Nat.le_refl _) _
                    have hnwz28 : wz27.heap.size < wz28.heap.size := by rw [← hwz28.out]; simp
                    have oEwz28 : Own 3 Tri.enc wz28 wS.heap.size 44 (.slice (some ⟨wz27.heap.size, 0, none⟩) 0 0) ([] : List Tri) := by rw [← hwz28.out]; exact own_empty wz27 _ (by have := hTwz27.size; omega) _
                    have hTwz28 := hTwz27.trans (hBwz28.mono hTwz27.size)
                    have hzwz28 := hTwz28.size
                    have hSwz28 : wz28.cell? ⟨w.heap.size, 0, none⟩ = some (.int .i64 P) ∧ wz28.cell? ⟨w.heap.size, 1, none⟩ = some (.slice A l.length c) ∧ wz28.cell? ⟨w2.heap.size, 0, none⟩ = some (.int .i64 x.a) ∧ wz28.cell? ⟨w2.heap.size, 1, none⟩ = some (.int .i64 x.b) ∧ wz28.cell? ⟨w2.heap.size, 2, none⟩ = some (.string x.s) := by obtain ⟨q0, q1, q2, q3, q4⟩ := hSS; exact ⟨(hTwz28.cell (lt_of_cell q0)).trans q0, (hTwz28.cell (lt_of_cell q1)).trans q1, (hTwz28.cell (lt_of_cell q2)).trans q2, (hTwz28.cell (lt_of_cell q3)).trans q3, (hTwz28.cell (lt_of_cell q4)).trans q4⟩
                    have k7wz28 := k7wz27.below' hBwz28
                    rw [hwz28.out]
                    refine hK.out _ _ hSwz28 (fun _ => trivial) ?_
                    clear hK K
                    try simp only [Act.put, List.getElem_toArray, List.getElem_cons_succ, List.getElem_cons_zero, List.setIfInBounds_toArray, List.set_cons_zero, List.set_cons_succ]
                    refine wpAnyJ_ready [5, 10] (by kernel_rfl) (by simp) (NextJ.cons rfl (fun K hK => ?_) (NextJ.cons rfl (fun K hK => ?_) NextJ.nil))
                    case' _ =>
                      refine step_append_tris rfl _ _ _ rfl wS.heap.size _ i0 _ Tryz.underlying23 hi0 hz0' hz1' hz2' rfl _ [] rfl oEwz28 A l c H rfl hnil (hrS.below' hTwz28 hHS) (by simp) hl6 (by have := hTwz28.size; omega) ?_
                      intro v6 wz29 o6 hgwz29
                      have hnwz29 : wz28.heap.size ≤ wz29.heap.size := hgwz29.size
                      rw [List.nil_append] at o6
                      obtain ⟨A6, c6, rfl, _, _⟩ := Own.rd tri_len o6
                      have hTwz29 := oEwz28.grown hTwz28 hgwz29 (by have := hTwz28.size; omega)
                      have hzwz29 := hTwz29.size
                      have hSwz29 : wz29.cell? ⟨w.heap.size, 0, none⟩ = some (.int .i64 P) ∧ wz29.cell? ⟨w.heap.size, 1, none⟩ = some (.slice A l.length c) ∧ wz29.cell? ⟨w2.heap.size, 0, none⟩ = some (.int .i64 x.a) ∧ wz29.cell? ⟨w2.heap.size, 1, none⟩ = some (.int .i64 x.b) ∧ wz29.cell? ⟨w2.heap.size, 2, none⟩ = some (.string x.s) := by obtain ⟨q0, q1, q2, q3, q4⟩ := hSS; exact ⟨(hTwz29.cell (lt_of_cell q0)).trans q0, (hTwz29.cell (lt_of_cell q1)).trans q1, (hTwz29.cell (lt_of_cell q2)).trans q2, (hTwz29.cell (lt_of_cell q3)).trans q3, (hTwz29.cell (lt_of_cell q4)).trans q4⟩
                      have k7wz29 := k7wz28.grown hgwz29 (fun e => by have e2 : wS.heap.size = wz27.heap.size := Option.some.inj e; omega)
                      refine hK.out _ _ hSwz29 (fun _ => trivial) ?_
                      clear hK K
                      try simp only [Act.put, List.getElem_toArray, List.getElem_cons_succ, List.getElem_cons_zero, List.setIfInBounds_toArray, List.set_cons_zero, List.set_cons_succ]
                      refine wpAnyJ_ready [8, 10] (by kernel_rfl) (by simp) (NextJ.cons rfl (fun K hK => ?_) (NextJ.cons rfl (fun K hK => ?_) NextJ.nil))
                      case' _ =>
                        refine step_append_tri rfl _ _ _ rfl wS.heap.size _ i0 _ Tryz.underlying23 hi0 hz0' hz1' hz2' rfl _ l rfl o6 wS.heap.size x rfl (k7wz29.cell 0 _ rfl) (k7wz29.cell 1 _ rfl) (k7wz29.cell 2 _ rfl) (by omega) (by have := hTwz29.size; omega) ?_
                        intro v8 wz30 o8 hgwz30
                        have hnwz30 : wz29.heap.size ≤ wz30.heap.size := hgwz30.size
                        obtain ⟨A8, c8, rfl, _, _⟩ := Own.rd tri_len o8
                        simp only [List.length_append, List.length_cons, List.length_nil, Nat.zero_add] at o8 ⊢
                        have hTwz30 := o6.grown hTwz29 hgwz30 (by have := hTwz29.size; omega)
                        have hzwz30 := hTwz30.size
                        have hSwz30 : wz30.cell? ⟨w.heap.size, 0, none⟩ = some (.int .i64 P) ∧ wz30.cell? ⟨w.heap.size, 1, none⟩ = some (.slice A l.length c) ∧ wz30.cell? ⟨w2.heap.size, 0, none⟩ = some (.int .i64 x.a) ∧ wz30.cell? ⟨w2.heap.size, 1, none⟩ = some (.int .i64 x.b) ∧ wz30.cell? ⟨w2.heap.size, 2, none⟩ = some (.string x.s) := by obtain ⟨q0, q1, q2, q3, q4⟩ := hSS; exact ⟨(hTwz30.cell (lt_of_cell q0)).trans q0, (hTwz30.cell (lt_of_cell q1)).trans q1, (hTwz30.cell (lt_of_cell q2)).trans q2, (hTwz30.cell (lt_of_cell q3)).trans q3, (hTwz30.cell (lt_of_cell q4)).trans q4⟩
                        refine hK.out _ _ hSwz30 (fun _ => trivial) ?_
                        clear hK K
                        try simp only [Act.put, List.getElem_toArray, List.getElem_cons_succ, List.getElem_cons_zero, List.setIfInBounds_toArray, List.set_cons_zero, List.set_cons_succ]
                        refine wpAnyJ_take1 9 rfl (by kernel_rfl) (by kernel_rfl) rfl (by kernel_rfl) (fun _ _ _ h => h) (by first | kernel_rfl | rfl) hSwz30 (fun w' hSw => (by obtain ⟨q0, q1, q2, q3, q4⟩ := hSw; go_simp; try (with_reducible rfl))) ?_
                        try simp only [Act.put, List.getElem_toArray, List.getElem_cons_succ, List.getElem_cons_zero, List.setIfInBounds_toArray, List.set_cons_zero, List.set_cons_succ]
                        refine wpAnyJ_ready [10] (by kernel_rfl) (by simp) (NextJ.cons rfl (fun K hK => ?_) NextJ.nil)
                        go_simp
                        obtain ⟨wz31, hwz31⟩ : ∃ xx, Hid (wz30.alloc (.cells #[.int .i64 0, .slice none 0 0] 25) = xx) := ⟨_, Lib.hid rfl⟩
                        have hBwz31 : Below wz30.heap.size wz30 wz31 := by rw [← hwz31.out]; exact (Below.refl _ _).alloc (Nat.le_refl _) _
                        have hnwz31 : wz30.heap.size < wz31.heap.size := by rw [← hwz31.out]; simp
                        have k10wz31 : Blk wz31 wz30.heap.size 25 #[.int .i64 0, .slice none 0 0] := by rw [← hwz31.out]; exact Blk.new wz30 _ _
                        have hTwz31 := hTwz30.trans (hBwz31.mono hTwz30.size)
                        have hzwz31 := hTwz31.size
                        have hSwz31 : wz31.cell? ⟨w.heap.size, 0, none⟩ = some (.int .i64 P) ∧ wz31.cell? ⟨w.heap.size, 1, none⟩ = some (.slice A l.length c) ∧ wz31.cell? ⟨w2.heap.size, 0, none⟩ = some (.int .i64 x.a) ∧ wz31.cell? ⟨w2.heap.size, 1, none⟩ = some (.int .i64 x.b) ∧ wz31.cell? ⟨w2.heap.size, 2, none⟩ = some (.string x.s) := by obtain ⟨q0, q1, q2, q3, q4⟩ := hSS; exact ⟨(hTwz31.cell (lt_of_cell q0)).trans q0, (hTwz31.cell (lt_of_cell q1)).trans q1, (hTwz31.cell (lt_of_cell q2)).trans q2, (hTwz31.cell (lt_of_cell q3)).trans q3, (hTwz31.cell (lt_of_cell q4)).trans q4⟩
                        have o8wz31 := o8.below hBwz31
                        rw [hwz31.out]
                        refine hK.out _ _ hSwz31 (fun _ => trivial) ?_
                        clear hK K
                        try simp only [Act.put, List.getElem_toArray, List.getElem_cons_succ, List.getElem_cons_zero, List.setIfInBounds_toArray, List.set_cons_zero, List.set_cons_succ]
                        have ne8 : ∀ a, A8 = some a → a.block ≠ wz30.heap.size := fun a e he => by have := o8wz31.ne_block k10wz31 (by decide); rw [e] at this; simp [Value.ownBlock] at this; omega
                        refine wpAnyJ_ready [11] (by kernel_rfl) (by simp) (NextJ.cons rfl (fun K hK => ?_) NextJ.nil)
                        have qa := k10wz31.cell 0 _ rfl
                        have qb := k10wz31.cell 1 _ rfl
                        have qf := k10wz31.frozen 0
                        have qg := k10wz31.frozen 1
                        have ql := k10wz31.lt
                        have qt := hTwz31.size
                        go_simp
                        have kF : Blk ((wz31.setCell ⟨wz30.heap.size, 0, none⟩ (.int .i64 P)).setCell ⟨wz30.heap.size, 1, none⟩ (.slice A8 (l.length + 1) c8)) wz30.heap.size 25 #[.int .i64 P, (.slice A8 (l.length + 1) c8)] := by simpa using (k10wz31.set_ 0 (.int .i64 P)).set_ 1 (.slice A8 (l.length + 1) c8)
                        have oF := rd_far (rd_far (Own.rd' tri_len o8wz31) (g := wz30.heap.size) (by intro a e; exact ne8 a e) 0 (.int .i64 P)) (g := wz30.heap.size) (by intro a e; exact ne8 a e) 1 (.slice A8 (l.length + 1) c8)
                        have hTF : Below wS.heap.size wS ((wz31.setCell ⟨wz30.heap.size, 0, none⟩ (.int .i64 P)).setCell ⟨wz30.heap.size, 1, none⟩ (.slice A8 (l.length + 1) c8)) := (hTwz31.setCell (by show wS.heap.size ≤ wz30.heap.size; omega) _).setCell (by show wS.heap.size ≤ wz30.heap.size; omega) _
                        refine hK.out _ _ (by obtain ⟨q0, q1, q2, q3, q4⟩ := hSS; exact ⟨(hTF.cell (lt_of_cell q0)).trans q0, (hTF.cell (lt_of_cell q1)).trans q1, (hTF.cell (lt_of_cell q2)).trans q2, (hTF.cell (lt_of_cell q3)).trans q3, (hTF.cell (lt_of_cell q4)).trans q4⟩) (fun _ => trivial) ?_
                        clear hK K
                        try simp only [Act.put, List.getElem_toArray, List.getElem_cons_succ, List.getElem_cons_zero, List.setIfInBounds_toArray, List.set_cons_zero, List.set_cons_succ]
                        refine wpAnyJ_done (by kernel_rfl) ?_ _
                        clear qa qb qf qg
                        go_wp2_with fail
                        go_meet
                        case rel => exact ⟨wz30.heap.size, _, _, rfl, by omega, kF, oF.more (by simp), hBS.trans (hTF.mono hzS)⟩
                      case' _ =>
                        go_simp
                        obtain ⟨wz32, hwz32⟩ : ∃ xx, Hid (wz29.alloc (.cells #[.int .i64 0, .slice none 0 0] 25) = xx) := ⟨_, Lib.hid rfl⟩
                        have hBwz32 : Below wz29.heap.size wz29 wz32 := by rw [← hwz32.out]; exact (Below.refl _ _).alloc (Nat.le_refl _) _
                        have hnwz32 : wz29.heap.size < wz32.heap.size := by rw [← hwz32.out]; simp
                        have k10wz32 : Blk wz32 wz29.heap.size 25 #[.int .i64 0, .slice none 0 0] := by rw [← hwz32.out]; exact Blk.new wz29 _ _
                        have hTwz32 := hTwz29.trans (hBwz32.mono hTwz29.size)
                        have hzwz32 := hTwz32.size
                        have hSwz32 : wz32.cell? ⟨w.heap.size, 0, none⟩ = some (.int .i64 P) ∧ wz32.cell? ⟨w.heap.size, 1, none⟩ = some (.slice A l.length c) ∧ wz32.cell? ⟨w2.heap.size, 0, none⟩ = some (.int .i64 x.a) ∧ wz32.cell? ⟨w2.heap.size, 1, none⟩ = some (.int .i64 x.b) ∧ wz32.cell? ⟨w2.heap.size, 2, none⟩ = some (.string x.s) := by obtain ⟨q0, q1, q2, q3, q4⟩ := hSS; exact ⟨(hTwz32.cell (lt_of_cell q0)).trans q0, (hTwz32.cell (lt_of_cell q1)).trans q1, (hTwz32.cell (lt_of_cell q2)).trans q2, (hTwz32.cell (lt_of_cell q3)).trans q3, (hTwz32.cell (lt_of_cell q4)).trans q4⟩
                        have k7wz32 := k7wz29.below' hBwz32
                        have o6wz32 := o6.below hBwz32
                        rw [hwz32.out]
                        refine hK.out _ _ hSwz32 (fun _ => trivial) ?_
                        clear hK K
                        try simp only [Act.put, List.getElem_toArray, List.getElem_cons_succ, List.getElem_cons_zero, List.setIfInBounds_toArray, List.set_cons_zero, List.set_cons_succ]
                        refine wpAnyJ_ready [8] (by kernel_rfl) (by simp) (NextJ.cons rfl (fun K hK => ?_) NextJ.nil)
                        refine step_append_tri rfl _ _ _ rfl wS.heap.size _ i0 _ Tryz.underlying23 hi0 hz0' hz1' hz2' rfl _ l rfl o6wz32 wS.heap.size x rfl (k7wz32.cell 0 _ rfl) (k7wz32.cell 1 _ rfl) (k7wz32.cell 2 _ rfl) (by omega) (by have := hTwz32.size; omega) ?_
                        intro v8 wz33 o8 hgwz33
                        have hnwz33 : wz32.heap.size ≤ wz33.heap.size := hgwz33.size
                        obtain ⟨A8, c8, rfl, _, _⟩ := Own.rd tri_len o8
                        simp only [List.length_append, List.length_cons, List.length_nil, Nat.zero_add] at o8 ⊢
                        have hTwz33 := o6wz32.grown hTwz32 hgwz33 (by have := hTwz32.size; omega)
                        have hzwz33 := hTwz33.size
                        have hSwz33 : wz33.cell? ⟨w.heap.size, 0, none⟩ = some (.int .i64 P) ∧ wz33.cell? ⟨w.heap.size, 1, none⟩ = some (.slice A l.length c) ∧ wz33.cell? ⟨w2.heap.size, 0, none⟩ = some (.int .i64 x.a) ∧ wz33.cell? ⟨w2.heap.size, 1, none⟩ = some (.int .i64 x.b) ∧ wz33.cell? ⟨w2.heap.size, 2, none⟩ = some (.string x.s) := by obtain ⟨q0, q1, q2, q3, q4⟩ := hSS; exact ⟨(hTwz33.cell (lt_of_cell q0)).trans q0, (hTwz33.cell (lt_of_cell q1)).trans q1, (hTwz33.cell (lt_of_cell q2)).trans q2, (hTwz33.cell (lt_of_cell q3)).trans q3, (hTwz33.cell (lt_of_cell q4)).trans q4⟩
                        have k10wz33 := k10wz32.grown hgwz33 (o6wz32.ne_block k10wz32 (by decide))
                        refine hK.out _ _ hSwz33 (fun _ => trivial) ?_
                        clear hK K
                        try simp only [Act.put, List.getElem_toArray, List.getElem_cons_succ, List.getElem_cons_zero, List.setIfInBounds_toArray, List.set_cons_zero, List.set_cons_succ]
                        refine wpAnyJ_take1 9 rfl (by kernel_rfl) (by kernel_rfl) rfl (by kernel_rfl) (fun _ _ _ h => h) (by first | kernel_rfl | rfl) hSwz33 (fun w' hSw => (by obtain ⟨q0, q1, q2, q3, q4⟩ := hSw; go_simp; try (with_reducible rfl))) ?_
                        try simp only [Act.put, List.getElem_toArray, List.getElem_cons_succ, List.getElem_cons_zero, List.setIfInBounds_toArray, List.set_cons_zero, List.set_cons_succ]
                        have ne8 : ∀ a, A8 = some a → a.block ≠ wz29.heap.size := fun a e he => by have := o8.ne_block k10wz33 (by decide); rw [e] at this; simp [Value.ownBlock] at this; omega
                        refine wpAnyJ_ready [11] (by kernel_rfl) (by simp) (NextJ.cons rfl (fun K hK => ?_) NextJ.nil)
                        have qa := k10wz33.cell 0 _ rfl
                        have qb := k10wz33.cell 1 _ rfl
                        have qf := k10wz33.frozen 0
                        have qg := k10wz33.frozen 1
                        have ql := k10wz33.lt
                        have qt := hTwz33.size
                        go_simp
                        have kF : Blk ((wz33.setCell ⟨wz29.heap.size, 0, none⟩ (.int .i64 P)).setCell ⟨wz29.heap.size, 1, none⟩ (.slice A8 (l.length + 1) c8)) wz29.heap.size 25 #[.int .i64 P, (.slice A8 (l.length + 1) c8)] := by simpa using (k10wz33.set_ 0 (.int .i64 P)).set_ 1 (.slice A8 (l.length + 1) c8)
                        have oF := rd_far (rd_far (Own.rd' tri_len o8) (g := wz29.heap.size) (by intro a e; exact ne8 a e) 0 (.int .i64 P)) (g := wz29.heap.size) (by intro a e; exact ne8 a e) 1 (.slice A8 (l.length + 1) c8)
                        have hTF : Below wS.heap.size wS ((wz33.setCell ⟨wz29.heap.size, 0, none⟩ (.int .i64 P)).setCell ⟨wz29.heap.size, 1, none⟩ (.slice A8 (l.length + 1) c8)) := (hTwz33.setCell (by show wS.heap.size ≤ wz29.heap.size; omega) _).setCell (by show wS.heap.size ≤ wz29.heap.size; omega) _
                        refine hK.out _ _ (by obtain ⟨q0, q1, q2, q3, q4⟩ := hSS; exact ⟨(hTF.cell (lt_of_cell q0)).trans q0, (hTF.cell (lt_of_cell q1)).trans q1, (hTF.cell (lt_of_cell q2)).trans q2, (hTF.cell (lt_of_cell q3)).trans q3, (hTF.cell (lt_of_cell q4)).trans q4⟩) (fun _ => trivial) ?_
                        clear hK K
                        try simp only [Act.put, List.getElem_toArray, List.getElem_cons_succ, List.getElem_cons_zero, List.setIfInBounds_toArray, List.set_cons_zero, List.set_cons_succ]
                        refine wpAnyJ_done (by kernel_rfl) ?_ _
                        clear qa qb qf qg
                        go_wp2_with fail
                        go_meet
                        case rel => exact ⟨wz29.heap.size, _, _, rfl, by omega, kF, oF.more (by simp), hBS.trans (hTF.mono hzS)⟩
                    case' _ =>
                      go_simp
                      obtain ⟨wz34, hwz34⟩ : ∃ xx, Hid (wz28.alloc (.cells #[.int .i64 0, .slice none 0 0] 25) = xx) := ⟨_, Lib.hid rfl⟩
                      have hBwz34 : Below wz28.heap.size wz28 wz34 := by rw [← hwz34.out]; exact (Below.refl _ _).alloc (Nat.le_refl _) _
                      have hnwz34 : wz28.heap.size < wz34.heap.size := by rw [← hwz34.out]; simp
                      have k10wz34 : Blk wz34 wz28.heap.size 25 #[.int .i64 0, .slice none 0 0] := by rw [← hwz34.out]; exact Blk.new wz28 _ _
                      have hTwz34 := hTwz28.trans (hBwz34.mono hTwz28.size)
                      have hzwz34 := hTwz34.size
                      have hSwz34 : wz34.cell? ⟨w.heap.size, 0, none⟩ = some (.int .i64 P) ∧ wz34.cell? ⟨w.heap.size, 1, none⟩ = some (.slice A l.length c) ∧ wz34.cell? ⟨w2.heap.size, 0, none⟩ = some (.int .i64 x.a) ∧ wz34.cell? ⟨w2.heap.size, 1, none⟩ = some (.int .i64 x.b) ∧ wz34.cell? ⟨w2.heap.size, 2, none⟩ = some (.string x.s) := by obtain ⟨q0, q1, q2, q3, q4⟩ := hSS; exact ⟨(hTwz34.cell (lt_of_cell q0)).trans q0, (hTwz34.cell (lt_of_cell q1)).trans q1, (hTwz34.cell (lt_of_cell q2)).trans q2, (hTwz34.cell (lt_of_cell q3)).trans q3, (hTwz34.cell (lt_of_cell q4)).trans q4⟩
                      have k7wz34 := k7wz28.below' hBwz34
                      have oEwz34 := oEwz28.below hBwz34
                      rw [hwz34.out]
                      refine hK.out _ _ hSwz34 (fun _ => trivial) ?_
                      clear hK K
                      try simp only [Act.put, List.getElem_toArray, List.getElem_cons_succ, List.getElem_cons_zero, List.setIfInBounds_toArray, List.set_cons_zero, List.set_cons_succ]
                      refine wpAnyJ_ready [5] (by kernel_rfl) (by simp) (NextJ.cons rfl (fun K hK => ?_) NextJ.nil)
                      refine step_append_tris rfl _ _ _ rfl wS.heap.size _ i0 _ Tryz.underlying23 hi0 hz0' hz1' hz2' rfl _ [] rfl oEwz34 A l c H rfl hnil (hrS.below' hTwz34 hHS) (by simp) hl6 (by have := hTwz34.size; omega) ?_
                      intro v6 wz35 o6 hgwz35
                      have hnwz35 : wz34.heap.size ≤ wz35.heap.size := hgwz35.size
                      rw [List.nil_append] at o6
                      obtain ⟨A6, c6, rfl, _, _⟩ := Own.rd tri_len o6
                      have hTwz35 := oEwz34.grown hTwz34 hgwz35 (by have := hTwz34.size; omega)
                      have hzwz35 := hTwz35.size
                      have hSwz35 : wz35.cell? ⟨w.heap.size, 0, none⟩ = some (.int .i64 P) ∧ wz35.cell? ⟨w.heap.size, 1, none⟩ = some (.slice A l.length c) ∧ wz35.cell? ⟨w2.heap.size, 0, none⟩ = some (.int .i64 x.a) ∧ wz35.cell? ⟨w2.heap.size, 1, none⟩ = some (.int .i64 x.b) ∧ wz35.cell? ⟨w2.heap.size, 2, none⟩ = some (.string x.s) := by obtain ⟨q0, q1, q2, q3, q4⟩ := hSS; exact ⟨(hTwz35.cell (lt_of_cell q0)).trans q0, (hTwz35.cell (lt_of_cell q1)).trans q1, (hTwz35.cell (lt_of_cell q2)).trans q2, (hTwz35.cell (lt_of_cell q3)).trans q3, (hTwz35.cell (lt_of_cell q4)).trans q4⟩
                      have k7wz35 := k7wz34.grown hgwz35 (fun e => by have e2 : wS.heap.size = wz27.heap.size := Option.some.inj e; omega)
                      have k10wz35 := k10wz34.grown hgwz35 (fun e => by have e2 : wz28.heap.size = wz27.heap.size := Option.some.inj e; omega)
                      refine hK.out _ _ hSwz35 (fun _ => trivial) ?_
                      clear hK K
                      try simp only [Act.put, List.getElem_toArray, List.getElem_cons_succ, List.getElem_cons_zero, List.setIfInBounds_toArray, List.set_cons_zero, List.set_cons_succ]
                      refine wpAnyJ_ready [8] (by kernel_rfl) (by simp) (NextJ.cons rfl (fun K hK => ?_) NextJ.nil)
                      refine step_append_tri rfl _ _ _ rfl wS.heap.size _ i0 _ Tryz.underlying23 hi0 hz0' hz1' hz2' rfl _ l rfl o6 wS.heap.size x rfl (k7wz35.cell 0 _ rfl) (k7wz35.cell 1 _ rfl) (k7wz35.cell 2 _ rfl) (by omega) (by have := hTwz35.size; omega) ?_
                      intro v8 wz36 o8 hgwz36
                      have hnwz36 : wz35.heap.size ≤ wz36.heap.size := hgwz36.size
                      obtain ⟨A8, c8, rfl, _, _⟩ := Own.rd tri_len o8
                      simp only [List.length_append, List.length_cons, List.length_nil, Nat.zero_add] at o8 ⊢
                      have hTwz36 := o6.grown hTwz35 hgwz36 (by have := hTwz35.size; omega)
                      have hzwz36 := hTwz36.size
                      have hSwz36 : wz36.cell? ⟨w.heap.size, 0, none⟩ = some (.int .i64 P) ∧ wz36.cell? ⟨w.heap.size, 1, none⟩ = some (.slice A l.length c) ∧ wz36.cell? ⟨w2.heap.size, 0, none⟩ = some (.int .i64 x.a) ∧ wz36.cell? ⟨w2.heap.size, 1, none⟩ = some (.int .i64 x.b) ∧ wz36.cell? ⟨w2.heap.size, 2, none⟩ = some (.string x.s) := by obtain ⟨q0, q1, q2, q3, q4⟩ := hSS; exact ⟨(hTwz36.cell (lt_of_cell q0)).trans q0, (hTwz36.cell (lt_of_cell q1)).trans q1, (hTwz36.cell (lt_of_cell q2)).trans q2, (hTwz36.cell (lt_of_cell q3)).trans q3, (hTwz36.cell (lt_of_cell q4)).trans q4⟩
                      have k10wz36 := k10wz35.grown hgwz36 (o6.ne_block k10wz35 (by decide))
                      refine hK.out _ _ hSwz36 (fun _ => trivial) ?_
                      clear hK K
                      try simp only [Act.put, List.getElem_toArray, List.getElem_cons_succ, List.getElem_cons_zero, List.setIfInBounds_toArray, List.set_cons_zero, List.set_cons_succ]
                      refine wpAnyJ_take1 9 rfl (by kernel_rfl) (by kernel_rfl) rfl (by kernel_rfl) (fun _ _ _ h => h) (by first | kernel_rfl | rfl) hSwz36 (fun w' hSw => (by obtain ⟨q0, q1, q2, q3, q4⟩ := hSw; go_simp; try (with_reducible rfl))) ?_
                      try simp only [Act.put, List.getElem_toArray, List.getElem_cons_succ, List.getElem_cons_zero, List.setIfInBounds_toArray, List.set_cons_zero, List.set_cons_succ]
                      have ne8 : ∀ a, A8 = some a → a.block ≠ wz28.heap.size := fun a e he => by have := o8.ne_block k10wz36 (by decide); rw [e] at this; simp [Value.ownBlock] at this; omega
                      refine wpAnyJ_ready [11] (by kernel_rfl) (by simp) (NextJ.cons rfl (fun K hK => ?_) NextJ.nil)
                      have qa := k10wz36.cell 0 _ rfl
                      have qb := k10wz36.cell 1 _ rfl
                      have qf := k10wz36.frozen 0
                      have qg := k10wz36.frozen 1
                      have ql := k10wz36.lt
                      have qt := hTwz36.size
                      go_simp
                      have kF : Blk ((wz36.setCell ⟨wz28.heap.size, 0, none⟩ (.int .i64 P)).setCell ⟨wz28.heap.size, 1, none⟩ (.slice A8 (l.length + 1) c8)) wz28.heap.size 25 #[.int .i64 P, (.slice A8 (l.length + 1) c8)] := by simpa using (k10wz36.set_ 0 (.int .i64 P)).set_ 1 (.slice A8 (l.length + 1) c8)
                      have oF := rd_far (rd_far (Own.rd' tri_len o8) (g := wz28.heap.size) (by intro a e; exact ne8 a e) 0 (.int .i64 P)) (g := wz28.heap.size) (by intro a e; exact ne8 a e) 1 (.slice A8 (l.length + 1) c8)
                      have hTF : Below wS.heap.size wS ((wz36.setCell ⟨wz28.heap.size, 0, none⟩ (.int .i64 P)).setCell ⟨wz28.heap.size, 1, none⟩ (.slice A8 (l.length + 1) c8)) := (hTwz36.setCell (by show wS.heap.size ≤ wz28.heap.size; omega) _).setCell (by show wS.heap.size ≤ wz28.heap.size; omega) _
                      refine hK.out _ _ (by obtain ⟨q0, q1, q2, q3, q4⟩ := hSS; exact ⟨(hTF.cell (lt_of_cell q0)).trans q0, (hTF.cell (lt_of_cell q1)).trans q1, (hTF.cell (lt_of_cell q2)).trans q2, (hTF.cell (lt_of_cell q3)).trans q3, (hTF.cell (lt_of_cell q4)).trans q4⟩) (fun _ => trivial) ?_
                      clear hK K
                      try simp only [Act.put, List.getElem_toArray, List.getElem_cons_succ, List.getElem_cons_zero, List.setIfInBounds_toArray, List.set_cons_zero, List.set_cons_succ]
                      refine wpAnyJ_done (by kernel_rfl) ?_ _
                      clear qa qb qf qg
                      go_wp2_with fail
                      go_meet
                      case rel => exact ⟨wz28.heap.size, _, _, rfl, by omega, kF, oF.more (by simp), hBS.trans (hTF.mono hzS)⟩
                  case' _ =>
                    go_simp
                    obtain ⟨wz37, hwz37⟩ : ∃ xx, Hid (wz27.alloc (.cells #[.int .i64 0, .slice none 0 0] 25) = xx) := ⟨_, Lib.hid rfl⟩
                    have hBwz37 : Below wz27.heap.size wz27 wz37 := by rw [← hwz37.out]; exact (Below.refl _ _).alloc (Nat.le_refl _) _
                    have hnwz37 : wz27.heap.size < wz37.heap.size := by rw [← hwz37.out]; simp
                    have k10wz37 : Blk wz37 wz27.heap.size 25 #[.int .i64 0, .slice none 0 0] := by rw [← hwz37.out]; exact Blk.new wz27 _ _
                    have hTwz37 := hTwz27.trans (hBwz37.mono hTwz27.size)
                    have hzwz37 := hTwz37.size
                    have hSwz37 : wz37.cell? ⟨w.heap.size, 0, none⟩ = some (.int .i64 P) ∧ wz37.cell? ⟨w.heap.size, 1, none⟩ = some (.slice A l.length c) ∧ wz37.cell? ⟨w2.heap.size, 0, none⟩ = some (.int .i64 x.a) ∧ wz37.cell? ⟨w2.heap.size, 1, none⟩ = some (.int .i64 x.b) ∧ wz37.cell? ⟨w2.heap.size, 2, none⟩ = some (.string x.s) := by obtain ⟨q0, q1, q2, q3, q4⟩ := hSS; exact ⟨(hTwz37.cell (lt_of_cell q0)).trans q0, (hTwz37.cell (lt_of_cell q1)).trans q1, (hTwz37.cell (lt_of_cell q2)).trans q2, (hTwz37.cell (lt_of_cell q3)).trans q3, (hTwz37.cell (lt_of_cell q4)).trans q4⟩
                    have k7wz37 := k7wz27.below' hBwz37
                    rw [hwz37.out]
                    refine hK.out _ _ hSwz37 (fun _ => trivial) ?_
                    clear hK K
                    try simp only [Act.put, List.getElem_toArray, List.getElem_cons_succ, List.getElem_cons_zero, List.setIfInBounds_toArray, List.set_cons_zero, List.set_cons_succ]
                    refine wpAnyJ_ready [2] (by kernel_rfl) (by simp) (NextJ.cons rfl (fun K hK => ?_) NextJ.nil)
                    go_simp
                    obtain ⟨wz38, hwz38⟩ : ∃ xx, Hid (wz37.alloc (.cells #[] 44) = xx) := ⟨_, Lib.hid rfl⟩
                    have hBwz38 : Below wz37.heap.size wz37 wz38 := by rw [← hwz38.out]; exact (Below.refl _ _).alloc (Nat.le_refl _) _
                    have hnwz38 : wz37.heap.size < wz38.heap.size := by rw [← hwz38.out]; simp
                    have oEwz38 : Own 3 Tri.enc wz38 wS.heap.size 44 (.slice (some ⟨wz37.heap.size, 0, none⟩) 0 0) ([] : List Tri) := by rw [← hwz38.out]; exact own_empty wz37 _ (by have := hTwz37.size; omega) _
                    have hTwz38 := hTwz37.trans (hBwz38.mono hTwz37.size)
                    have hzwz38 := hTwz38.size
                    have hSwz38 : wz38.cell? ⟨w.heap.size, 0, none⟩ = some (.int .i64 P) ∧ wz38.cell? ⟨w.heap.size, 1, none⟩ = some (.slice A l.length c) ∧ wz38.cell? ⟨w2.heap.size, 0, none⟩ = some (.int .i64 x.a) ∧ wz38.cell? ⟨w2.heap.size, 1, none⟩ = some (.int .i64 x.b) ∧ wz38.cell? ⟨w2.heap.size, 2, none⟩ = some (.string x.s) := by obtain ⟨q0, q1, q2, q3, q4⟩ := hSS; exact ⟨(hTwz38.cell (lt_of_cell q0)).trans q0, (hTwz38.cell (lt_of_cell q1)).trans q1, (hTwz38.cell (lt_of_cell q2)).trans q2, (hTwz38.cell (lt_of_cell q3)).trans q3, (hTwz38.cell (lt_of_cell q4)).trans q4⟩
                    have k7wz38 := k7wz37.below' hBwz38
                    have k10wz38 := k10wz37.below' hBwz38
                    rw [hwz38.out]
                    refine hK.out _ _ hSwz38 (fun _ => trivial) ?_
                    clear hK K
                    try simp only [Act.put, List.getElem_toArray, List.getElem_cons_succ, List.getElem_cons_zero, List.setIfInBounds_toArray, List.set_cons_zero, List.set_cons_succ]
                    refine wpAnyJ_ready [5] (by kernel_rfl) (by simp) (NextJ.cons rfl (fun K hK => ?_) NextJ.nil)
                    refine step_append_tris rfl _ _ _ rfl wS.heap.size _ i0 _ Tryz.underlying23 hi0 hz0' hz1' hz2' rfl _ [] rfl oEwz38 A l c H rfl hnil (hrS.below' hTwz38 hHS) (by simp) hl6 (by have := hTwz38.size; omega) ?_
                    intro v6 wz39 o6 hgwz39
                    have hnwz39 : wz38.heap.size ≤ wz39.heap.size := hgwz39.size
                    rw [List.nil_append] at o6
                    obtain ⟨A6, c6, rfl, _, _⟩ := Own.rd tri_len o6
                    have hTwz39 := oEwz38.grown hTwz38 hgwz39 (by have := hTwz38.size; omega)
                    have hzwz39 := hTwz39.size
                    have hSwz39 : wz39.cell? ⟨w.heap.size, 0, none⟩ = some (.int .i64 P) ∧ wz39.cell? ⟨w.heap.size, 1, none⟩ = some (.slice A l.length c) ∧ wz39.cell? ⟨w2.heap.size, 0, none⟩ = some (.int .i64 x.a) ∧ wz39.cell? ⟨w2.heap.size, 1, none⟩ = some (.int .i64 x.b) ∧ wz39.cell? ⟨w2.heap.size, 2, none⟩ = some (.string x.s) := by obtain ⟨q0, q1, q2, q3, q4⟩ := hSS; exact ⟨(hTwz39.cell (lt_of_cell q0)).trans q0, (hTwz39.cell (lt_of_cell q1)).trans q1, (hTwz39.cell (lt_of_cell q2)).trans q2, (hTwz39.cell (lt_of_cell q3)).trans q3, (hTwz39.cell (lt_of_cell q4)).trans q4⟩
                    have k7wz39 := k7wz38.grown hgwz39 (fun e => by have e2 : wS.heap.size = wz37.heap.size := Option.some.inj e; omega)
                    have k10wz39 := k10wz38.grown hgwz39 (fun e => by have e2 : wz27.heap.size = wz37.heap.size := Option.some.inj e; omega)
                    refine hK.out _ _ hSwz39 (fun _ => trivial) ?_
                    clear hK K
                    try simp only [Act.put, List.getElem_toArray, List.getElem_cons_succ, List.getElem_cons_zero, List.setIfInBounds_toArray, List.set_cons_zero, List.set_cons_succ]
                    refine wpAnyJ_ready [8] (by kernel_rfl) (by simp) (NextJ.cons rfl (fun K hK => ?_) NextJ.nil)
                    refine step_append_tri rfl _ _ _ rfl wS.heap.size _ i0 _ Tryz.underlying23 hi0 hz0' hz1' hz2' rfl _ l rfl o6 wS.heap.size x rfl (k7wz39.cell 0 _ rfl) (k7wz39.cell 1 _ rfl) (k7wz39.cell 2 _ rfl) (by omega) (by have := hTwz39.size; omega) ?_
                    intro v8 wz40 o8 hgwz40
                    have hnwz40 : wz39.heap.size ≤ wz40.heap.size := hgwz40.size
                    obtain ⟨A8, c8, rfl, _, _⟩ := Own.rd tri_len o8
                    simp only [List.length_append, List.length_cons, List.length_nil, Nat.zero_add] at o8 ⊢
                    have hTwz40 := o6.grown hTwz39 hgwz40 (by have := hTwz39.size; omega)
                    have hzwz40 := hTwz40.size
                    have hSwz40 : wz40.cell? ⟨w.heap.size, 0, none⟩ = some (.int .i64 P) ∧ wz40.cell? ⟨w.heap.size, 1, none⟩ = some (.slice A l.length c) ∧ wz40.cell? ⟨w2.heap.size, 0, none⟩ = some (.int .i64 x.a) ∧ wz40.cell? ⟨w2.heap.size, 1, none⟩ = some (.int .i64 x.b) ∧ wz40.cell? ⟨w2.heap.size, 2, none⟩ = some (.string x.s) := by obtain ⟨q0, q1, q2, q3, q4⟩ := hSS; exact ⟨(hTwz40.cell (lt_of_cell q0)).trans q0, (hTwz40.cell (lt_of_cell q1)).trans q1, (hTwz40.cell (lt_of_cell q2)).trans q2, (hTwz40.cell (lt_of_cell q3)).trans q3, (hTwz40.cell (lt_of_cell q4)).trans q4⟩
                    have k10wz40 := k10wz39.grown hgwz40 (o6.ne_block k10wz39 (by decide))
                    refine hK.out _ _ hSwz40 (fun _ => trivial) ?_
                    clear hK K
                    try simp only [Act.put, List.getElem_toArray, List.getElem_cons_succ, List.getElem_cons_zero, List.setIfInBounds_toArray, List.set_cons_zero, List.set_cons_succ]
                    refine wpAnyJ_take1 9 rfl (by kernel_rfl) (by kernel_rfl) rfl (by kernel_rfl) (fun _ _ _ h => h) (by first | kernel_rfl | rfl) hSwz40 (fun w' hSw => (by obtain ⟨q0, q1, q2, q3, q4⟩ := hSw; go_simp; try (with_reducible rfl))) ?_
                    try simp only [Act.put, List.getElem_toArray, List.getElem_cons_succ, List.getElem_cons_zero, List.setIfInBounds_toArray, List.set_cons_zero, List.set_cons_succ]
                    have ne8 : ∀ a, A8 = some a → a.block ≠ wz27.heap.size := fun a e he => by have := o8.ne_block k10wz40 (by decide); rw [e] at this; simp [Value.ownBlock] at this; omega
                    refine wpAnyJ_ready [11] (by kernel_rfl) (by simp) (NextJ.cons rfl (fun K hK => ?_) NextJ.nil)
                    have qa := k10wz40.cell 0 _ rfl
                    have qb := k10wz40.cell 1 _ rfl
                    have qf := k10wz40.frozen 0
                    have qg := k10wz40.frozen 1
                    have ql := k10wz40.lt
                    have qt := hTwz40.size
                    go_simp
                    have kF : Blk ((wz40.setCell ⟨wz27.heap.size, 0, none⟩ (.int .i64 P)).setCell ⟨wz27.heap.size, 1, none⟩ (.slice A8 (l.length + 1) c8)) wz27.heap.size 25 #[.int .i64 P, (.slice A8 (l.length + 1) c8)] := by simpa using (k10wz40.set_ 0 (.int .i64 P)).set_ 1 (.slice A8 (l.length + 1) c8)
                    have oF := rd_far (rd_far (Own.rd' tri_len o8) (g := wz27.heap.size) (by intro a e; exact ne8 a e) 0 (.int .i64 P)) (g := wz27.heap.size) (by intro a e; exact ne8 a e) 1 (.slice A8 (l.length + 1) c8)
                    have hTF : Below wS.heap.size wS ((wz40.setCell ⟨wz27.heap.size, 0, none⟩ (.int .i64 P)).setCell ⟨wz27.heap.size, 1, none⟩ (.slice A8 (l.length + 1) c8)) := (hTwz40.setCell (by show wS.heap.size ≤ wz27.heap.size; omega) _).setCell (by show wS.heap.size ≤ wz27.heap.size; omega) _
                    refine hK.out _ _ (by obtain ⟨q0, q1, q2, q3, q4⟩ := hSS; exact ⟨(hTF.cell (lt_of_cell q0)).trans q0, (hTF.cell (lt_of_cell q1)).trans q1, (hTF.cell (lt_of_cell q2)).trans q2, (hTF.cell (lt_of_cell q3)).trans q3, (hTF.cell (lt_of_cell q4)).trans q4⟩) (fun _ => trivial) ?_
                    clear hK K
                    try simp only [Act.put, List.getElem_toArray, List.getElem_cons_succ, List.getElem_cons_zero, List.setIfInBounds_toArray, List.set_cons_zero, List.set_cons_succ]
                    refine wpAnyJ_done (by kernel_rfl) ?_ _
                    clear qa qb qf qg
                    go_wp2_with fail
                    go_meet
                    case rel => exact ⟨wz27.heap.size, _, _, rfl, by omega, kF, oF.more (by simp), hBS.trans (hTF.mono hzS)⟩
                case' _ =>
                  go_simp
                  obtain ⟨wz41, hwz41⟩ : ∃ xx, Hid (wS.alloc (.cells #[.int .i64 0, .slice none 0 0] 25) = xx) := ⟨_, Lib.hid rfl⟩
                  have hBwz41 : Below wS.heap.size wS wz41 := by rw [← hwz41.out]; exact (Below.refl _ _).alloc (Nat.le_refl _) _
                  have hnwz41 : wS.heap.size < wz41.heap.size := by rw [← hwz41.out]; simp
                  have k10wz41 : Blk wz41 wS.heap.size 25 #[.int .i64 0, .slice none 0 0] := by rw [← hwz41.out]; exact Blk.new wS _ _
                  have hTwz41 := hTwS.trans (hBwz41.mono hTwS.size)
                  have hzwz41 := hTwz41.size
                  have hSwz41 : wz41.cell? ⟨w.heap.size, 0, none⟩ = some (.int .i64 P) ∧ wz41.cell? ⟨w.heap.size, 1, none⟩ = some (.slice A l.length c) ∧ wz41.cell? ⟨w2.heap.size, 0, none⟩ = some (.int .i64 x.a) ∧ wz41.cell? ⟨w2.heap.size, 1, none⟩ = some (.int .i64 x.b) ∧ wz41.cell? ⟨w2.heap.size, 2, none⟩ = some (.string x.s) := by obtain ⟨q0, q1, q2, q3, q4⟩ := hSS; exact ⟨(hTwz41.cell (lt_of_cell q0)).trans q0, (hTwz41.cell (lt_of_cell q1)).trans q1, (hTwz41.cell (lt_of_cell q2)).trans q2, (hTwz41.cell (lt_of_cell q3)).trans q3, (hTwz41.cell (lt_of_cell q4)).trans q4⟩
                  rw [hwz41.out]
                  refine hK.out _ _ hSwz41 (fun _ => trivial) ?_
                  clear hK K
                  try simp only [Act.put, List.getElem_toArray, List.getElem_cons_succ, List.getElem_cons_zero, List.setIfInBounds_toArray, List.set_cons_zero, List.set_cons_succ]
                  refine wpAnyJ_ready [2, 7] (by kernel_rfl) (by simp) (NextJ.cons rfl (fun K hK => ?_) (NextJ.cons rfl (fun K hK => ?_) NextJ.nil))
                  case' _ =>
                    go_simp
                    obtain ⟨wz42, hwz42⟩ : ∃ xx, Hid (wz41.alloc (.cells #[] 44) = xx) := ⟨_, Lib.hid rfl⟩
                    have hBwz42 : Below wz41.heap.size wz41 wz42 := by rw [← hwz42.out]; exact (Below.refl _ _).alloc (Nat.le_refl _) _
                    have hnwz42 : wz41.heap.size < wz42.heap.size := by rw [← hwz42.out]; simp
                    have oEwz42 : Own 3 Tri.enc wz42 wS.heap.size 44 (.slice (some ⟨wz41.heap.size, 0, none⟩) 0 0) ([] : List Tri) := by rw [← hwz42.out]; exact own_empty wz41 _ (by have := hTwz41.size; omega) _
                    have hTwz42 := hTwz41.trans (hBwz42.mono hTwz41.size)
                    have hzwz42 := hTwz42.size
                    have hSwz42 : wz42.cell? ⟨w.heap.size, 0, none⟩ = some (.int .i64 P) ∧ wz42.cell? ⟨w.heap.size, 1, none⟩ = some (.slice A l.length c) ∧ wz42.cell? ⟨w2.heap.size, 0, none⟩ = some (.int .i64 x.a) ∧ wz42.cell? ⟨w2.heap.size, 1, none⟩ = some (.int .i64 x.b) ∧ wz42.cell? ⟨w2.heap.size, 2, none⟩ = some (.string x.s) := by obtain ⟨q0, q1, q2, q3, q4⟩ := hSS; exact ⟨(hTwz42.cell (lt_of_cell q0)).trans q0, (hTwz42.cell (lt_of_cell q1)).trans q1, (hTwz42.cell (lt_of_cell q2)).trans q2, (hTwz42.cell (lt_of_cell q3)).trans q3, (hTwz42.cell (lt_of_cell q4)).trans q4⟩
                    have k10wz42 := k10wz41.below' hBwz42
                    rw [hwz42.out]
                    refine hK.out _ _ hSwz42 (fun _ => trivial) ?_
                    clear hK K
                    try simp only [Act.put, List.getElem_toArray, List.getElem_cons_succ, List.getElem_cons_zero, List.setIfInBounds_toArray, List.set_cons_zero, List.set_cons_succ]
                    refine wpAnyJ_ready [5, 7] (by kernel_rfl) (by simp) (NextJ.cons rfl (fun K hK => ?_) (NextJ.cons rfl (fun K hK => ?_) NextJ.nil))
                    case' _ =>
                      refine step_append_tris rfl _ _ _ rfl wS.heap.size _ i0 _ Tryz.underlying23 hi0 hz0' hz1' hz2' rfl _ [] rfl oEwz42 A l c H rfl hnil (hrS.below' hTwz42 hHS) (by simp) hl6 (by have := hTwz42.size; omega) ?_
                      intro v6 wz43 o6 hgwz43
                      have hnwz43 : wz42.heap.size ≤ wz43.heap.size := hgwz43.size
                      rw [List.nil_append] at o6
                      obtain ⟨A6, c6, rfl, _, _⟩ := Own.rd tri_len o6
                      have hTwz43 := oEwz42.grown hTwz42 hgwz43 (by have := hTwz42.size; omega)
                      have hzwz43 := hTwz43.size
                      have hSwz43 : wz43.cell? ⟨w.heap.size, 0, none⟩ = some (.int .i64 P) ∧ wz43.cell? ⟨w.heap.size, 1, none⟩ = some (.slice A l.length c) ∧ wz43.cell? ⟨w2.heap.size, 0, none⟩ = some (.int .i64 x.a) ∧ wz43.cell? ⟨w2.heap.size, 1, none⟩ = some (.int .i64 x.b) ∧ wz43.cell? ⟨w2.heap.size, 2, none⟩ = some (.string x.s) := by obtain ⟨q0, q1, q2, q3, q4⟩ := hSS; exact ⟨(hTwz43.cell (lt_of_cell q0)).trans q0, (hTwz43.cell (lt_of_cell q1)).trans q1, (hTwz43.cell (lt_of_cell q2)).trans q2, (hTwz43.cell (lt_of_cell q3)).trans q3, (hTwz43.cell (lt_of_cell q4)).trans q4⟩
                      have k10wz43 := k10wz42.grown hgwz43 (fun e => by have e2 : wS.heap.size = wz41.heap.size := Option.some.inj e; omega)
                      refine hK.out _ _ hSwz43 (fun _ => trivial) ?_
                      clear hK K
                      try simp only [Act.put, List.getElem_toArray, List.getElem_cons_succ, List.getElem_cons_zero, List.setIfInBounds_toArray, List.set_cons_zero, List.set_cons_succ]
                      refine wpAnyJ_ready [7] (by kernel_rfl) (by simp) (NextJ.cons rfl (fun K hK => ?_) NextJ.nil)
                      go_simp
                      obtain ⟨wz44, hwz44⟩ : ∃ xx, Hid (wz43.alloc (.cells #[.int .i64 x.a, .int .i64 x.b, .string x.s] 44) = xx) := ⟨_, Lib.hid rfl⟩
                      have hBwz44 : Below wz43.heap.size wz43 wz44 := by rw [← hwz44.out]; exact (Below.refl _ _).alloc (Nat.le_refl _) _
                      have hnwz44 : wz43.heap.size < wz44.heap.size := by rw [← hwz44.out]; simp
                      have k7wz44 : Blk wz44 wz43.heap.size 44 #[.int .i64 x.a, .int .i64 x.b, .string x.s] := by rw [← hwz44.out]; exact Blk.new wz43 _ _
                      have hTwz44 := hTwz43.trans (hBwz44.mono hTwz43.size)
                      have hzwz44 := hTwz44.size
                      have hSwz44 : wz44.cell? ⟨w.heap.size, 0, none⟩ = some (.int .i64 P) ∧ wz44.cell? ⟨w.heap.size, 1, none⟩ = some (.slice A l.length c) ∧ wz44.cell? ⟨w2.heap.size, 0, none⟩ = some (.int .i64 x.a) ∧ wz44.cell? ⟨w2.heap.size, 1, none⟩ = some (.int .i64 x.b) ∧ wz44.cell? ⟨w2.heap.size, 2, none⟩ = some (.string x.s) := by obtain ⟨q0, q1, q2, q3, q4⟩ := hSS; exact ⟨(hTwz44.cell (lt_of_cell q0)).trans q0, (hTwz44.cell (lt_of_cell q1)).trans q1, (hTwz44.cell (lt_of_cell q2)).trans q2, (hTwz44.cell (lt_of_cell q3)).trans q3, (hTwz44.cell (lt_of_cell q4)).trans q4⟩
                      have k10wz44 := k10wz43.below' hBwz44
                      have o6wz44 := o6.below hBwz44
                      rw [hwz44.out]
                      refine hK.out _ _ hSwz44 (fun _ => trivial) ?_
                      clear hK K
                      try simp only [Act.put, List.getElem_toArray, List.getElem_cons_succ, List.getElem_cons_zero, List.setIfInBounds_toArray, List.set_cons_zero, List.set_cons_succ]
                      refine wpAnyJ_ready [8] (by kernel_rfl) (by simp) (NextJ.cons rfl (fun K hK => ?_) NextJ.nil)
                      refine step_append_tri rfl _ _ _ rfl wS.heap.size _ i0 _ Tryz.underlying23 hi0 hz0' hz1' hz2' rfl _ l rfl o6wz44 wz43.heap.size x rfl (k7wz44.cell 0 _ rfl) (k7wz44.cell 1 _ rfl) (k7wz44.cell 2 _ rfl) (by omega) (by have := hTwz44.size; omega) ?_
                      intro v8 wz45 o8 hgwz45
                      have hnwz45 : wz44.heap.size ≤ wz45.heap.size := hgwz45.size
                      obtain ⟨A8, c8, rfl, _, _⟩ := Own.rd tri_len o8
                      simp only [List.length_append, List.length_cons, List.length_nil, Nat.zero_add] at o8 ⊢
                      have hTwz45 := o6wz44.grown hTwz44 hgwz45 (by have := hTwz44.size; omega)
                      have hzwz45 := hTwz45.size
                      have hSwz45 : wz45.cell? ⟨w.heap.size, 0, none⟩ = some (.int .i64 P) ∧ wz45.cell? ⟨w.heap.size, 1, none⟩ = some (.slice A l.length c) ∧ wz45.cell? ⟨w2.heap.size, 0, none⟩ = some (.int .i64 x.a) ∧ wz45.cell? ⟨w2.heap.size, 1, none⟩ = some (.int .i64 x.b) ∧ wz45.cell? ⟨w2.heap.size, 2, none⟩ = some (.string x.s) := by obtain ⟨q0, q1, q2, q3, q4⟩ := hSS; exact ⟨(hTwz45.cell (lt_of_cell q0)).trans q0, (hTwz45.cell (lt_of_cell q1)).trans q1, (hTwz45.cell (lt_of_cell q2)).trans q2, (hTwz45.cell (lt_of_cell q3)).trans q3, (hTwz45.cell (lt_of_cell q4)).trans q4⟩
                      have k10wz45 := k10wz44.grown hgwz45 (o6wz44.ne_block k10wz44 (by decide))
                      refine hK.out _ _ hSwz45 (fun _ => trivial) ?_
                      clear hK K
                      try simp only [Act.put, List.getElem_toArray, List.getElem_cons_succ, List.getElem_cons_zero, List.setIfInBounds_toArray, List.set_cons_zero, List.set_cons_succ]
                      refine wpAnyJ_take1 9 rfl (by kernel_rfl) (by kernel_rfl) rfl (by kernel_rfl) (fun _ _ _ h => h) (by first | kernel_rfl | rfl) hSwz45 (fun w' hSw => (by obtain ⟨q0, q1, q2, q3, q4⟩ := hSw; go_simp; try (with_reducible rfl))) ?_
                      try simp only [Act.put, List.getElem_toArray, List.getElem_cons_succ, List.getElem_cons_zero, List.setIfInBounds_toArray, List.set_cons_zero, List.set_cons_succ]
                      have ne8 : ∀ a, A8 = some a → a.block ≠ wS.heap.size := fun a e he => by have := o8.ne_block k10wz45 (by decide); rw [e] at this; simp [Value.ownBlock] at this; omega
                      refine wpAnyJ_ready [11] (by kernel_rfl) (by simp) (NextJ.cons rfl (fun K hK => ?_) NextJ.nil)
                      have qa := k10wz45.cell 0 _ rfl
                      have qb := k10wz45.cell 1 _ rfl
                      have qf := k10wz45.frozen 0
                      have qg := k10wz45.frozen 1
                      have ql := k10wz45.lt
                      have qt := hTwz45.size
                      go_simp
                      have kF : Blk ((wz45.setCell ⟨wS.heap.size, 0, none⟩ (.int .i64 P)).setCell ⟨wS.heap.size, 1, none⟩ (.slice A8 (l.length + 1) c8)) wS.heap.size 25 #[.int .i64 P, (.slice A8 (l.length + 1) c8)] := by simpa using (k10wz45.set_ 0 (.int .i64 P)).set_ 1 (.slice A8 (l.length + 1) c8)
                      have oF := rd_far (rd_far (Own.rd' tri_len o8) (g := wS.heap.size) (by intro a e; exact ne8 a e) 0 (.int .i64 P)) (g := wS.heap.size) (by intro a e; exact ne8 a e) 1 (.slice A8 (l.length + 1) c8)
                      have hTF : Below wS.heap.size wS ((wz45.setCell ⟨wS.heap.size, 0, none⟩ (.int .i64 P)).setCell ⟨wS.heap.size, 1, none⟩ (.slice A8 (l.length + 1) c8)) := (hTwz45.setCell (by show wS.heap.size ≤ wS.heap.size; omega) _).setCell (by show wS.heap.size ≤ wS.heap.size; omega) _
                      refine hK.out _ _ (by obtain ⟨q0, q1, q2, q3, q4⟩ := hSS; exact ⟨(hTF.cell (lt_of_cell q0)).trans q0, (hTF.cell (lt_of_cell q1)).trans q1, (hTF.cell (lt_of_cell q2)).trans q2, (hTF.cell (lt_of_cell q3)).trans q3, (hTF.cell (lt_of_cell q4)).trans q4⟩) (fun _ => trivial) ?_
                      clear hK K
                      try simp only [Act.put, List.getElem_toArray, List.getElem_cons_succ, List.getElem_cons_zero, List.setIfInBounds_toArray, List.set_cons_zero, List.set_cons_succ]
                      refine wpAnyJ_done (by kernel_rfl) ?_ _
                      clear qa qb qf qg
                      go_wp2_with fail
                      go_meet
                      case rel => exact ⟨wS.heap.size, _, _, rfl, by omega, kF, oF.more (by simp), hBS.trans (hTF.mono hzS)⟩
                    case' _ =>
                      go_simp
                      obtain ⟨wz46, hwz46⟩ : ∃ xx, Hid (wz42.alloc (.cells #[.int .i64 x.a, .int .i64 x.b, .string x.s] 44) = xx) := ⟨_, Lib.hid rfl⟩
                      have hBwz46 : Below wz42.heap.size wz42 wz46 := by rw [← hwz46.out]; exact (Below.refl _ _).alloc (Nat.le_refl _) _
                      have hnwz46 : wz42.heap.size < wz46.heap.size := by rw [← hwz46.out]; simp
                      have k7wz46 : Blk wz46 wz42.heap.size 44 #[.int .i64 x.a, .int .i64 x.b, .string x.s] := by rw [← hwz46.out]; exact Blk.new wz42 _ _
                      have hTwz46 := hTwz42.trans (hBwz46.mono hTwz42.size)
                      have hzwz46 := hTwz46.size
                      have hSwz46 : wz46.cell? ⟨w.heap.size, 0, none⟩ = some (.int .i64 P) ∧ wz46.cell? ⟨w.heap.size, 1, none⟩ = some (.slice A l.length c) ∧ wz46.cell? ⟨w2.heap.size, 0, none⟩ = some (.int .i64 x.a) ∧ wz46.cell? ⟨w2.heap.size, 1, none⟩ = some (.int .i64 x.b) ∧ wz46.cell? ⟨w2.heap.size, 2, none⟩ = some (.string x.s) := by obtain ⟨q0, q1, q2, q3, q4⟩ := hSS; exact ⟨(hTwz46.cell (lt_of_cell q0)).trans q0, (hTwz46.cell (lt_of_cell q1)).trans q1, (hTwz46.cell (lt_of_cell q2)).trans q2, (hTwz46.cell (lt_of_cell q3)).trans q3, (hTwz46.cell (lt_of_cell q4)).trans q4⟩
                      have k10wz46 := k10wz42.below' hBwz46
                      have oEwz46 := oEwz42.below hBwz46
                      rw [hwz46.out]
                      refine hK.out _ _ hSwz46 (fun _ => trivial) ?_
                      clear hK K
                      try simp only [Act.put, List.getElem_toArray, List.getElem_cons_succ, List.getElem_cons_zero, List.setIfInBounds_toArray, List.set_cons_zero, List.set_cons_succ]
                      refine wpAnyJ_ready [5] (by kernel_rfl) (by simp) (NextJ.cons rfl (fun K hK => ?_) NextJ.nil)
                      refine step_append_tris rfl _ _ _ rfl wS.heap.size _ i0 _ Tryz.underlying23 hi0 hz0' hz1' hz2' rfl _ [] rfl oEwz46 A l c H rfl hnil (hrS.below' hTwz46 hHS) (by simp) hl6 (by have := hTwz46.size; omega) ?_
                      intro v6 wz47 o6 hgwz47
                      have hnwz47 : wz46.heap.size ≤ wz47.heap.size := hgwz47.size
                      rw [List.nil_append] at o6
                      obtain ⟨A6, c6, rfl, _, _⟩ := Own.rd tri_len o6
                      have hTwz47 := oEwz46.grown hTwz46 hgwz47 (by have := hTwz46.size; omega)
                      have hzwz47 := hTwz47.size
                      have hSwz47 : wz47.cell? ⟨w.heap.size, 0, none⟩ = some (.int .i64 P) ∧ wz47.cell? ⟨w.heap.size, 1, none⟩ = some (.slice A l.length c) ∧ wz47.cell? ⟨w2.heap.size, 0, none⟩ = some (.int .i64 x.a) ∧ wz47.cell? ⟨w2.heap.size, 1, none⟩ = some (.int .i64 x.b) ∧ wz47.cell? ⟨w2.heap.size, 2, none⟩ = some (.string x.s) := by obtain ⟨q0, q1, q2, q3, q4⟩ := hSS; exact ⟨(hTwz47.cell (lt_of_cell q0)).trans q0, (hTwz47.cell (lt_of_cell q1)).trans q1, (hTwz47.cell (lt_of_cell q2)).trans q2, (hTwz47.cell (lt_of_cell q3)).trans q3, (hTwz47.cell (lt_of_cell q4)).trans q4⟩
                      have k7wz47 := k7wz46.grown hgwz47 (fun e => by have e2 : wz42.heap.size = wz41.heap.size := Option.some.inj e; omega)
                      have k10wz47 := k10wz46.grown hgwz47 (fun e => by have e2 : wS.heap.size = wz41.heap.size := Option.some.inj e; omega)
                      refine hK.out _ _ hSwz47 (fun _ => trivial) ?_
                      clear hK K
                      try simp only [Act.put, List.getElem_toArray, List.getElem_cons_succ, List.getElem_cons_zero, List.setIfInBounds_toArray, List.set_cons_zero, List.set_cons_succ]
                      refine wpAnyJ_ready [8] (by kernel_rfl) (by simp) (NextJ.cons rfl (fun K hK => ?_) NextJ.nil)
                      refine step_append_tri rfl _ _ _ rfl wS.heap.size _ i0 _ Tryz.underlying23 hi0 hz0' hz1' hz2' rfl _ l rfl o6 wz42.heap.size x rfl (k7wz47.cell 0 _ rfl) (k7wz47.cell 1 _ rfl) (k7wz47.cell 2 _ rfl) (by omega) (by have := hTwz47.size; omega) ?_
                      intro v8 wz48 o8 hgwz48
                      have hnwz48 : wz47.heap.size ≤ wz48.heap.size := hgwz48.size
                      obtain ⟨A8, c8, rfl, _, _⟩ := Own.rd tri_len o8
                      simp only [List.length_append, List.length_cons, List.length_nil, Nat.zero_add] at o8 ⊢
                      have hTwz48 := o6.grown hTwz47 hgwz48 (by have := hTwz47.size; omega)
                      have hzwz48 := hTwz48.size
                      have hSwz48 : wz48.cell? ⟨w.heap.size, 0, none⟩ = some (.int .i64 P) ∧ wz48.cell? ⟨w.heap.size, 1, none⟩ = some (.slice A l.length c) ∧ wz48.cell? ⟨w2.heap.size, 0, none⟩ = some (.int .i64 x.a) ∧ wz48.cell? ⟨w2.heap.size, 1, none⟩ = some (.int .i64 x.b) ∧ wz48.cell? ⟨w2.heap.size, 2, none⟩ = some (.string x.s) := by obtain ⟨q0, q1, q2, q3, q4⟩ := hSS; exact ⟨(hTwz48.cell (lt_of_cell q0)).trans q0, (hTwz48.cell (lt_of_cell q1)).trans q1, (hTwz48.cell (lt_of_cell q2)).trans q2, (hTwz48.cell (lt_of_cell q3)).trans q3, (hTwz48.cell (lt_of_cell q4)).trans q4⟩
                      have k10wz48 := k10wz47.grown hgwz48 (o6.ne_block k10wz47 (by decide))
                      refine hK.out _ _ hSwz48 (fun _ => trivial) ?_
                      clear hK K
                      try simp only [Act.put, List.getElem_toArray, List.getElem_cons_succ, List.getElem_cons_zero, List.setIfInBounds_toArray, List.set_cons_zero, List.set_cons_succ]
                      refine wpAnyJ_take1 9 rfl (by kernel_rfl) (by kernel_rfl) rfl (by kernel_rfl) (fun _ _ _ h => h) (by first | kernel_rfl | rfl) hSwz48 (fun w' hSw => (by obtain ⟨q0, q1, q2, q3, q4⟩ := hSw; go_simp; try (with_reducible rfl))) ?_
                      try simp only [Act.put, List.getElem_toArray, List.getElem_cons_succ, List.getElem_cons_zero, List.setIfInBounds_toArray, List.set_cons_zero, List.set_cons_succ]
                      have ne8 : ∀ a, A8 = some a → a.block ≠ wS.heap.size := fun a e he => by have := o8.ne_block k10wz48 (by decide); rw [e] at this; simp [Value.ownBlock] at this; omega
                      refine wpAnyJ_ready [11] (by kernel_rfl) (by simp) (NextJ.cons rfl (fun K hK => ?_) NextJ.nil)
                      have qa := k10wz48.cell 0 _ rfl
                      have qb := k10wz48.cell 1 _ rfl
                      have qf := k10wz48.frozen 0
                      have qg := k10wz48.frozen 1
                      have ql := k10wz48.lt
                      have qt := hTwz48.size
                      go_simp
                      have kF : Blk ((wz48.setCell ⟨wS.heap.size, 0, none⟩ (.int .i64 P)).setCell ⟨wS.heap.size, 1, none⟩ (.slice A8 (l.length + 1) c8)) wS.heap.size 25 #[.int .i64 P, (.slice A8 (l.length + 1) c8)] := by simpa using (k10wz48.set_ 0 (.int .i64 P)).set_ 1 (.slice A8 (l.length + 1) c8)
                      have oF := rd_far (rd_far (Own.rd' tri_len o8) (g := wS.heap.size) (by intro a e; exact ne8 a e) 0 (.int .i64 P)) (g := wS.heap.size) (by intro a e; exact ne8 a e) 1 (.slice A8 (l.length + 1) c8)
                      have hTF : Below wS.heap.size wS ((wz48.setCell ⟨wS.heap.size, 0, none⟩ (.int .i64 P)).setCell ⟨wS.heap.size, 1, none⟩ (.slice A8 (l.length + 1) c8)) := (hTwz48.setCell (by show wS.heap.size ≤ wS.heap.size; omega) _).setCell (by show wS.heap.size ≤ wS.heap.size; omega) _
                      refine hK.out _ _ (by obtain ⟨q0, q1, q2, q3, q4⟩ := hSS; exact ⟨(hTF.cell (lt_of_cell q0)).trans q0, (hTF.cell (lt_of_cell q1)).trans q1, (hTF.cell (lt_of_cell q2)).trans q2, (hTF.cell (lt_of_cell q3)).trans q3, (hTF.cell (lt_of_cell q4)).trans q4⟩) (fun _ => trivial) ?_
                      clear hK K
                      try simp only [Act.put, List.getElem_toArray, List.getElem_cons_succ, List.getElem_cons_zero, List.setIfInBounds_toArray, List.set_cons_zero, List.set_cons_succ]
                      refine wpAnyJ_done (by kernel_rfl) ?_ _
                      clear qa qb qf qg
                      go_wp2_with fail
                      go_meet
                      case rel => exact ⟨wS.heap.size, _, _, rfl, by omega, kF, oF.more (by simp), hBS.trans (hTF.mono hzS)⟩
                  case' _ =>
                    go_simp
                    obtain ⟨wz49, hwz49⟩ : ∃ xx, Hid (wz41.alloc (.cells #[.int .i64 x.a, .int .i64 x.b, .string x.s] 44) = xx) := ⟨_, Lib.hid rfl⟩
                    have hBwz49 : Below wz41.heap.size wz41 wz49 := by rw [← hwz49.out]; exact (Below.refl _ _).alloc (Nat.le_refl _) _
                    have hnwz49 : wz41.heap.size < wz49.heap.size := by rw [← hwz49.out]; simp
                    have k7wz49 : Blk wz49 wz41.heap.size 44 #[.int .i64 x.a, .int .i64 x.b, .string x.s] := by rw [← hwz49.out]; exact Blk.new wz41 _ _
                    have hTwz49 := hTwz41.trans (hBwz49.mono hTwz41.size)
                    have hzwz49 := hTwz49.size
                    have hSwz49 : wz49.cell? ⟨w.heap.size, 0, none⟩ = some (.int .i64 P) ∧ wz49.cell? ⟨w.heap.size, 1, none⟩ = some (.slice A l.length c) ∧ wz49.cell? ⟨w2.heap.size, 0, none⟩ = some (.int .i64 x.a) ∧ wz49.cell? ⟨w2.heap.size, 1, none⟩ = some (.int .i64 x.b) ∧ wz49.cell? ⟨w2.heap.size, 2, none⟩ = some (.string x.s) := by obtain ⟨q0, q1, q2, q3, q4⟩ := hSS; exact ⟨(hTwz49.cell (lt_of_cell q0)).trans q0, (hTwz49.cell (lt_of_cell q1)).trans q1, (hTwz49.cell (lt_of_cell q2)).trans q2, (hTwz49.cell (lt_of_cell q3)).trans q3, (hTwz49.cell (lt_of_cell q4)).trans q4⟩
                    have k10wz49 := k10wz41.below' hBwz49
                    rw [hwz49.out]
                    refine hK.out _ _ hSwz49 (fun _ => trivial) ?_
                    clear hK K
                    try simp only [Act.put, List.getElem_toArray, List.getElem_cons_succ, List.getElem_cons_zero, List.setIfInBounds_toArray, List.set_cons_zero, List.set_cons_succ]
                    refine wpAnyJ_ready [2] (by kernel_rfl) (by simp) (NextJ.cons rfl (fun K hK => ?_) NextJ.nil)
                    go_simp
                    obtain ⟨wz50, hwz50⟩ : ∃ xx, Hid (wz49.alloc (.cells #[] 44) = xx) := ⟨_, Lib.hid rfl⟩
                    have hBwz50 : Below wz49.heap.size wz49 wz50 := by rw [← hwz50.out]; exact (Below.refl _ _).alloc (Nat.le_refl _) _
                    have hnwz50 : wz49.heap.size < wz50.heap.size := by rw [← hwz50.out]; simp
                    have oEwz50 : Own 3 Tri.enc wz50 wS.heap.size 44 (.slice (some ⟨wz49.heap.size, 0, none⟩) 0 0) ([] : List Tri) := by rw [← hwz50.out]; exact own_empty wz49 _ (by have := hTwz49.size; omega) _
                    have hTwz50 := hTwz49.trans (hBwz50.mono hTwz49.size)
                    have hzwz50 := hTwz50.size
                    have hSwz50 : wz50.cell? ⟨w.heap.size, 0, none⟩ = some (.int .i64 P) ∧ wz50.cell? ⟨w.heap.size, 1, none⟩ = some (.slice A l.length c) ∧ wz50.cell? ⟨w2.heap.size, 0, none⟩ = some (.int .i64 x.a) ∧ wz50.cell? ⟨w2.heap.size, 1, none⟩ = some (.int .i64 x.b) ∧ wz50.cell? ⟨w2.heap.size, 2, none⟩ = some (.string x.s) := by obtain ⟨q0, q1, q2, q3, q4⟩ := hSS; exact ⟨(hTwz50.cell (lt_of_cell q0)).trans q0, (hTwz50.cell (lt_of_cell q1)).trans q1, (hTwz50.cell (lt_of_cell q2)).trans q2, (hTwz50.cell (lt_of_cell q3)).trans q3, (hTwz50.cell (lt_of_cell q4)).trans q4⟩
                    have k7wz50 := k7wz49.below' hBwz50
                    have k10wz50 := k10wz49.below' hBwz50
                    rw [hwz50.out]
                    refine hK.out _ _ hSwz50 (fun _ => trivial) ?_
                    clear hK K
                    try simp only [Act.put, List.getElem_toArray, List.getElem_cons_succ, List.getElem_cons_zero, List.setIfInBounds_toArray, List.set_cons_zero, List.set_cons_succ]
                    refine wpAnyJ_ready [5] (by kernel_rfl) (by simp) (NextJ.cons rfl (fun K hK => ?_) NextJ.nil)
                    refine step_append_tris rfl _ _ _ rfl wS.heap.size _ i0 _ Tryz.underlying23 hi0 hz0' hz1' hz2' rfl _ [] rfl oEwz50 A l c H rfl hnil (hrS.below' hTwz50 hHS) (by simp) hl6 (by have := hTwz50.size; omega) ?_
                    intro v6 wz51 o6 hgwz51
                    have hnwz51 : wz50.heap.size ≤ wz51.heap.size := hgwz51.size
                    rw [List.nil_append] at o6
                    obtain ⟨A6, c6, rfl, _, _⟩ := Own.rd tri_len o6
                    have hTwz51 := oEwz50.grown hTwz50 hgwz51 (by have := hTwz50.size; omega)
                    have hzwz51 := hTwz51.size
                    have hSwz51 : wz51.cell? ⟨w.heap.size, 0, none⟩ = some (.int .i64 P) ∧ wz51.cell? ⟨w.heap.size, 1, none⟩ = some (.slice A l.length c) ∧ wz51.cell? ⟨w2.heap.size, 0, none⟩ = some (.int .i64 x.a) ∧ wz51.cell? ⟨w2.heap.size, 1, none⟩ = some (.int .i64 x.b) ∧ wz51.cell? ⟨w2.heap.size, 2, none⟩ = some (.string x.s) := by obtain ⟨q0, q1, q2, q3, q4⟩ := hSS; exact ⟨(hTwz51.cell (lt_of_cell q0)).trans q0, (hTwz51.cell (lt_of_cell q1)).trans q1, (hTwz51.cell (lt_of_cell q2)).trans q2, (hTwz51.cell (lt_of_cell q3)).trans q3, (hTwz51.cell (lt_of_cell q4)).trans q4⟩
                    have k7wz51 := k7wz50.grown hgwz51 (fun e => by have e2 : wz41.heap.size = wz49.heap.size := Option.some.inj e; omega)
                    have k10wz51 := k10wz50.grown hgwz51 (fun e => by have e2 : wS.heap.size = wz49.heap.size := Option.some.inj e; omega)
                    refine hK.out _ _ hSwz51 (fun _ => trivial) ?_
                    clear hK K
                    try simp only [Act.put, List.getElem_toArray, List.getElem_cons_succ, List.getElem_cons_zero, List.setIfInBounds_toArray, List.set_cons_zero, List.set_cons_succ]
                    refine wpAnyJ_ready [8] (by kernel_rfl) (by simp) (NextJ.cons rfl (fun K hK => ?_) NextJ.nil)
                    refine step_append_tri rfl _ _ _ rfl wS.heap.size _ i0 _ Tryz.underlying23 hi0 hz0' hz1' hz2' rfl _ l rfl o6 wz41.heap.size x rfl (k7wz51.cell 0 _ rfl) (k7wz51.cell 1 _ rfl) (k7wz51.cell 2 _ rfl) (by omega) (by have := hTwz51.size; omega) ?_
                    intro v8 wz52 o8 hgwz52
                    have hnwz52 : wz51.heap.size ≤ wz52.heap.size := hgwz52.size
                    obtain ⟨A8, c8, rfl, _, _⟩ := Own.rd tri_len o8
                    simp only [List.length_append, List.length_cons, List.length_nil, Nat.zero_add] at o8 ⊢
                    have hTwz52 := o6.grown hTwz51 hgwz52 (by have := hTwz51.size; omega)
                    have hzwz52 := hTwz52.size
                    have hSwz52 : wz52.cell? ⟨w.heap.size, 0, none⟩ = some (.int .i64 P) ∧ wz52.cell? ⟨w.heap.size, 1, none⟩ = some (.slice A l.length c) ∧ wz52.cell? ⟨w2.heap.size, 0, none⟩ = some (.int .i64 x.a) ∧ wz52.cell? ⟨w2.heap.size, 1, none⟩ = some (.int .i64 x.b) ∧ wz52.cell? ⟨w2.heap.size, 2, none⟩ = some (.string x.s) := by obtain ⟨q0, q1, q2, q3, q4⟩ := hSS; exact ⟨(hTwz52.cell (lt_of_cell q0)).trans q0, (hTwz52.cell (lt_of_cell q1)).trans q1, (hTwz52.cell (lt_of_cell q2)).trans q2, (hTwz52.cell (lt_of_cell q3)).trans q3, (hTwz52.cell (lt_of_cell q4)).trans q4⟩
                    have k10wz52 := k10wz51.grown hgwz52 (o6.ne_block k10wz51 (by decide))
                    refine hK.out _ _ hSwz52 (fun _ => trivial) ?_
                    clear hK K
                    try simp only [Act.put, List.getElem_toArray, List.getElem_cons_succ, List.getElem_cons_zero, List.setIfInBounds_toArray, List.set_cons_zero, List.set_cons_succ]
                    refine wpAnyJ_take1 9 rfl (by kernel_rfl) (by kernel_rfl) rfl (by kernel_rfl) (fun _ _ _ h => h) (by first | kernel_rfl | rfl) hSwz52 (fun w' hSw => (by obtain ⟨q0, q1, q2, q3, q4⟩ := hSw; go_simp; try (with_reducible rfl))) ?_
                    try simp only [Act.put, List.getElem_toArray, List.getElem_cons_succ, List.getElem_cons_zero, List.setIfInBounds_toArray, List.set_cons_zero, List.set_cons_succ]
                    have ne8 : ∀ a, A8 = some a → a.block ≠ wS.heap.size := fun a e he => by have := o8.ne_block k10wz52 (by decide); rw [e] at this; simp [Value.ownBlock] at this; omega
                    refine wpAnyJ_ready [11] (by kernel_rfl) (by simp) (NextJ.cons rfl (fun K hK => ?_) NextJ.nil)
                    have qa := k10wz52.cell 0 _ rfl
                    have qb := k10wz52.cell 1 _ rfl
                    have qf := k10wz52.frozen 0
                    have qg := k10wz52.frozen 1
                    have ql := k10wz52.lt
                    have qt := hTwz52.size
                    go_simp
                    have kF : Blk ((wz52.setCell ⟨wS.heap.size, 0, none⟩ (.int .i64 P)).setCell ⟨wS.heap.size, 1, none⟩ (.slice A8 (l.length + 1) c8)) wS.heap.size 25 #[.int .i64 P, (.slice A8 (l.length + 1) c8)] := by simpa using (k10wz52.set_ 0 (.int .i64 P)).set_ 1 (.slice A8 (l.length + 1) c8)
                    have oF := rd_far (rd_far (Own.rd' tri_len o8) (g := wS.heap.size) (by intro a e; exact ne8 a e) 0 (.int .i64 P)) (g := wS.heap.size) (by intro a e; exact ne8 a e) 1 (.slice A8 (l.length + 1) c8)
                    have hTF : Below wS.heap.size wS ((wz52.setCell ⟨wS.heap.size, 0, none⟩ (.int .i64 P)).setCell ⟨wS.heap.size, 1, none⟩ (.slice A8 (l.length + 1) c8)) := (hTwz52.setCell (by show wS.heap.size ≤ wS.heap.size; omega) _).setCell (by show wS.heap.size ≤ wS.heap.size; omega) _
                    refine hK.out _ _ (by obtain ⟨q0, q1, q2, q3, q4⟩ := hSS; exact ⟨(hTF.cell (lt_of_cell q0)).trans q0, (hTF.cell (lt_of_cell q1)).trans q1, (hTF.cell (lt_of_cell q2)).trans q2, (hTF.cell (lt_of_cell q3)).trans q3, (hTF.cell (lt_of_cell q4)).trans q4⟩) (fun _ => trivial) ?_
                    clear hK K
                    try simp only [Act.put, List.getElem_toArray, List.getElem_cons_succ, List.getElem_cons_zero, List.setIfInBounds_toArray, List.set_cons_zero, List.set_cons_succ]
                    refine wpAnyJ_done (by kernel_rfl) ?_ _
                    clear qa qb qf qg
                    go_wp2_with fail
                    go_meet
                    case rel => exact ⟨wS.heap.size, _, _, rfl, by omega, kF, oF.more (by simp), hBS.trans (hTF.mono hzS)⟩
            case rest =>
              as_aux_lemma =>
                obtain ⟨g, A8, c8, rfl, hg, kT, rT, hBT⟩ := hcut
                have hBwo := hBw3.trans (hB.mono hBw3.size)
                have hBwc := hBwo.trans (hBT.mono hBwo.size)
                have hB3c := hB.trans (hBT.mono hB.size)
                have hokx := okD_snoc HOK.out (by omega) HXB.out hqP HXW.out
                have hlx : (l ++ [x]).length = l.length + 1 := by simp
                have hUX := u_rows P A8 (l ++ [x]) c8 wc wc.heap.size rT (Nat.le_refl _) (fun k hk => by have := okD_words hokx k hk; omega) (by omega)
                have hRA2 : rowsA P (l ++ [x]) = rowsS P (l ++ [x]) := by unfold rowsA; rw [if_pos hokx.chk, Int.toNat_natCast]
                rw [hRA2, hokx.chk, hlx] at hUX
                have hRin2 := fun r (hr : r ∈ rowsS P (l ++ [x])) => row_in hr
                have hRle2 := fun r (hr : r ∈ rowsS P (l ++ [x])) => row_len hokx.inP hr
                have hLF := fun n => row_left (l := l) (x := x) P n
                have hNW := fun n => row_new (l := l) (x := x) (p := P) (t := q) (by omega) HXB.out n
                have hRBl := rowsS_snoc_len (l := l) (x := x) P
                rw [hRR.out] at hLF hRBl
                rw [hG.out] at hRBl hNW
                rw [hlx] at hRin2 hRle2
                obtain ⟨RB, hRB⟩ : ∃ RB, Hid (rowsS P (l ++ [x]) = RB) := ⟨_, Lib.hid rfl⟩
                rw [hRB.out] at hUX hRin2 hRle2 hLF hNW hRBl
                have HUX := Lib.hid hUX
                have HRIN := Lib.hid hRin2
                have HRLE := Lib.hid hRle2
                have HLF := Lib.hid hLF
                have HNW := Lib.hid hNW
                have HML := Lib.hid hRBl
                have hRB4 : RB.length ≤ 402 := by omega
                have zmx : ((RB.length : Int) != max (RR.length : Int) ((G : Int) + 1)) = false := by rw [bne_eq_false_iff_eq]; omega
                have eG : IntKind.i64.wrap ((G : Int) + 1) = (G : Int) + 1 := IntWalk.i64_in _ (by omega)
                have t0 := kT.cell 0 _ rfl
                have t1 := kT.cell 1 _ rfl
                have tl := kT.lt
                clear hUX hRin2 hRle2 hLF hNW hRBl hRA2 hlx hokx
                go_wp2_with (first
                  | (go_at_call 18; refine HUX.out.mono ?_; rintro e w9 ⟨A9, c9, rfl, g9, hB9⟩)
                  | fail)
                have hBw9 := hBwc.trans (hB9.mono hBwc.size)
                have hB39 := hB3c.trans (hB9.mono hB3c.size)
                clear t0 t1 tl zmx
                obtain ⟨j0, hj0, hy0', hy1', hy2'⟩ := info_parts infoInt
                go_loopw [16] (fun nv wr => ∃ n : Nat, n ≤ RB.length ∧ nv = .int .i64 n ∧ Below w9.heap.size w9 wr) (fun nv _ => RB.length - (intOf nv).toNat)
                case atStart => exact ⟨0, Nat.zero_le _, rfl, Below.refl _ _⟩
                case round =>
                  obtain ⟨n, hn2, rfl, hBn⟩ := hrel
                  have hB3m := hB39.trans (hBn.mono hB39.size)
                  have hBwm := hBw9.trans (hBn.mono hBw9.size)
                  by_cases hlt2 : n < RB.length
                  · obtain ⟨b9, o9, hA9, hb9, Ak, ck, h0, hAr⟩ := (g9.below' hBn (Nat.le_refl _)).row hlt2
                    subst hA9
                    have l1 := lt_of_cell h0
                    have hzn := hBn.size
                    have m0' : (0 : Int) ≤ (n : Int) := by omega
                    have m1' : (n : Int) < (RB.length : Int) := by omega
                    have e4 : IntKind.i64.wrap ((n : Int) + 1) = (n : Int) + 1 := IntWalk.i64_in _ (by omega)
                    have hin := HRIN.out _ (List.getElem_mem hlt2)
                    have hrl := HRLE.out _ (List.getElem_mem hlt2)
                    have hgd : RB.getD n [] = RB[n] := by rw [List.getD_eq_getElem?_getD, List.getElem?_eq_getElem hlt2]; rfl
                    have hlf := HLF.out n
                    have hnw := HNW.out n
                    rw [hgd] at hlf hnw
                    obtain ⟨r, hr0⟩ : ∃ r, Hid (RB[n] = r) := ⟨_, Lib.hid rfl⟩
                    rw [hr0.out] at hin hrl hlf hnw h0 hAr
                    have HIN := Lib.hid hin
                    have HLN := Lib.hid hlf
                    have HNN := Lib.hid hnw
                    clear hin hlf hnw hgd
                    go_wp2_with fail
                    obtain ⟨wm, hwm⟩ : ∃ wm : World, wm = wr := ⟨_, rfl⟩
                    obtain rfl := hwm
                    go_loopw [17, 18, 19] (fun lv mv iv wr => ∃ (i : Nat) (L : List Nat) (MB : Bool), i ≤ r.length ∧ iv = .int .i64 i ∧ mv = .bool MB ∧ Hid (MB = decide (l.length ∈ r.take i)) ∧ Hid (L = (r.take i).filter (fun j => decide (j ≠ l.length))) ∧ Own 1 nenc wr wm.heap.size 3 lv L ∧ Below wm.heap.size wm wr) (fun _ _ iv _ => r.length - (intOf iv).toNat)
                    case atStart => exact ⟨0, [], false, Nat.zero_le _, rfl, rfl, Lib.hid (by simp), Lib.hid (by simp), Own.nil _ _ _, Below.refl _ _⟩
                    case round =>
                      obtain ⟨i, L, MB, hi, rfl, rfl, hMB, hL, hown, hBi⟩ := hrel
                      have hzm := hBi.size
                      have hB3i := hB3m.trans (hBi.mono hB3m.size)
                      have hLl : L.length ≤ r.length := by rw [hL.out]; exact Nat.le_trans (List.length_filter_le _ _) (by rw [List.length_take]; omega)
                      have h0i := (hBi.cell (p := ⟨b9, o9 + n, none⟩) l1).trans h0
                      have l1i := lt_of_cell h0i
                      by_cases hil : i < r.length
                      · obtain ⟨rb, ro, hAr2, hrb, m0⟩ := (hAr.below' hBi (by omega)).nat hil
                        subst hAr2
                        have kS := kS3.below' hB3i
                        have s0 := kS.cell 0 _ rfl
                        have s1 := kS.cell 1 _ rfl
                        have sl := kS.lt
                        have lr := lt_of_cell m0
                        have hts := take_snoc r i hil
                        obtain ⟨y, hy⟩ : ∃ y, Hid (r[i] = y) := ⟨_, Lib.hid rfl⟩
                        rw [hy.out] at hts
                        simp only [hy.out] at m0
                        have HTS := Lib.hid hts
                        clear hts
                        have i0 : (0 : Int) ≤ (i : Int) := by omega
                        have i1 : (i : Int) < (r.length : Int) := by omega
                        have e5 : IntKind.i64.wrap ((i : Int) + 1) = (i : Int) + 1 := IntWalk.i64_in _ (by omega)
                        by_cases hyl : y = l.length
                        · have z1 : ((y : Int) == (l.length : Int)) = true := by simp; omega
                          have HMN : Hid (true = decide (l.length ∈ r.take (i + 1))) := Lib.hid (by rw [HTS.out, hyl]; simp)
                          have HLL : Hid (L = (r.take (i + 1)).filter (fun j => decide (j ≠ l.length))) := Lib.hid (by rw [HTS.out, List.filter_append, ← hL.out, hyl]; simp)
                          have HYL := Lib.hid hyl
                          clear hyl
                          go_wp2_with fail
                          go_quiet (fail)
                          go_wp2_with fail
                          go_roundw
                          case rel => exact ⟨i + 1, L, true, by omega, by go_num, rfl, HMN, HLL, hown.below ((Below.refl _ _).drewN nq), hBi.drewN nq⟩
                          case measure => simp [intOf]; omega
                        · have z1 : ((y : Int) == (l.length : Int)) = false := by rw [beq_eq_false_iff_ne]; omega
                          have HMN : Hid (MB = decide (l.length ∈ r.take (i + 1))) := Lib.hid (by rw [HTS.out, hMB.out]; congr 1; simp only [List.mem_append, List.mem_singleton, eq_iff_iff]; exact ⟨.inl, fun h => h.elim id (fun e => absurd e.symm hyl)⟩)
                          have HLL : Hid (L ++ [y] = (r.take (i + 1)).filter (fun j => decide (j ≠ l.length))) := Lib.hid (by rw [HTS.out, List.filter_append, ← hL.out]; simp [hyl])
                          have HYL := Lib.hid hyl
                          clear hyl
                          go_wp2_with fail
                          go_quiet (fail)
                          have hBqr : Below wr.heap.size wr (wr.drewN nq) := (Below.refl _ _).drewN nq
                          have hBq := hBi.drewN nq
                          have hownq := hown.below hBqr
                          generalize wr.drewN nq = wq at hBq hownq hBqr ⊢
                          clear kS s0 s1 sl h0i l1i m0 lr hB3i hzm hrb
                          have hzm := hBq.size
                          have h0i := (hBq.cell (p := ⟨b9, o9 + n, none⟩) l1).trans h0
                          have l1i := lt_of_cell h0i
                          obtain ⟨_, _, hA3, _, m0⟩ := (hAr.below' hBq (by omega)).nat hil
                          cases hA3
                          simp only [hy.out] at m0
                          have lr := lt_of_cell m0
                          go_wp2_with (first
                            | (at_builtin; refine wpList_append_n rfl (.tmp 161) (.tmp 169) _ rfl wm.heap.size _ j0 _ Tryz.underlying45 hj0 hy0' hy1' hy2' rfl _ L rfl (hownq.alloc _) wq.heap.size y rfl (cell_new rfl) (by omega) (by simp; omega) ?_; intro v' w4 hown4 hg4)
                            | fail)
                          go_roundw
                          case rel => exact ⟨i + 1, L ++ [y], MB, by omega, by go_num, rfl, HMN, HLL, hown4, (hownq.alloc (.cells #[.int .i64 y] 3)).grown (hBq.alloc hzm _) hg4 (by simp; omega)⟩
                          case measure => simp [intOf]; omega
                      · have er : r.take i = r := List.take_of_length_le (by omega)
                        have hL2 := hL.out
                        have hM2 := hMB.out
                        rw [er] at hL2 hM2
                        rw [HLN.out] at hL2
                        have hi1 : ¬ (i : Int) < (r.length : Int) := by omega
                        obtain ⟨A17, c17, rfl, hc17, r17⟩ := Own.rd nenc_len hown
                        have hMG : Hid (MB = decide (n = G)) := Lib.hid (by rw [hM2]; exact decide_eq_decide.2 HNN.out)
                        have HL2 := Lib.hid hL2
                        clear hL2 hM2 er hown
                        have hLl4 : L.length ≤ 500 := by omega
                        by_cases hG2 : n = G
                        · have zG : ((n : Int) == (G : Int)) = true := by simp; omega
                          have hMv : MB = true := by rw [hMG.out]; simp [hG2]
                          subst hMv
                          have HG2 := Lib.hid hG2
                          clear hG2
                          by_cases hnR : n < RR.length
                          · obtain ⟨b3, o3, hA3, hb3, Ao, co, p0, hAo⟩ := (g3.below' hB3i hz3).row hnR
                            have hn3 : (n : Int) < (RR.length : Int) := by omega
                            subst hA3
                            have l3 := lt_of_cell p0
                            have hO : RR.getD n [] = RR[n] := by rw [List.getD_eq_getElem?_getD, List.getElem?_eq_getElem hnR]; rfl
                            have hLO := HL2.out
                            rw [hO] at hLO
                            rw [← hLO] at p0 hAo
                            have HLO := Lib.hid hLO
                            clear hO hLO
                            have HSI := sameInts_any A17 Ao (castL L) (castL L) c17 co wr wr.heap.size (by rw [castL_len]; omega) (by rw [castL_len]; omega) (rdI_of r17) ((rdI_of hAo).more (by have := hB3i.size; omega)) (Nat.le_refl _)
                            rw [castL_len, show decide (castL L = castL L) = true by simp] at HSI
                            have HSI := Lib.hid HSI
                            go_wp2_with (first
                              | (go_at_call 20; refine HSI.out.mono ?_; rintro e w5 ⟨rfl, hB5⟩)
                              | fail)
                            go_roundw
                            case rel => exact ⟨n + 1, by omega, by go_num, hBn.trans ((hBi.trans (hB5.mono hzm)).mono hBn.size)⟩
                            case measure => simp [intOf]; omega
                          · have hn3 : ¬ (n : Int) < (RR.length : Int) := by omega
                            have hO : RR.getD n [] = [] := by rw [List.getD_eq_getElem?_getD, List.getElem?_eq_none (by omega)]; rfl
                            have hLO := HL2.out
                            rw [hO] at hLO
                            subst hLO
                            clear hO
                            have HSI := sameInts_any A17 none [] [] c17 0 wr wr.heap.size (by simp) (by simp) (fun h => absurd rfl h) (fun h => absurd rfl h) (Nat.le_refl _)
                            rw [show decide (([] : List Int) = []) = true by simp] at HSI
                            have HSI := Lib.hid HSI
                            go_wp2_with (first
                              | (go_at_call 20; refine HSI.out.mono ?_; rintro e w5 ⟨rfl, hB5⟩)
                              | fail)
                            go_roundw
                            case rel => exact ⟨n + 1, by omega, by go_num, hBn.trans ((hBi.trans (hB5.mono hzm)).mono hBn.size)⟩
                            case measure => simp [intOf]; omega
                        · have zG : ((n : Int) == (G : Int)) = false := by rw [beq_eq_false_iff_ne]; omega
                          have hMv : MB = false := by rw [hMG.out]; simp [hG2]
                          subst hMv
                          have HG2 := Lib.hid hG2
                          clear hG2
                          by_cases hnR : n < RR.length
                          · obtain ⟨b3, o3, hA3, hb3, Ao, co, p0, hAo⟩ := (g3.below' hB3i hz3).row hnR
                            have hn3 : (n : Int) < (RR.length : Int) := by omega
                            subst hA3
                            have l3 := lt_of_cell p0
                            have hO : RR.getD n [] = RR[n] := by rw [List.getD_eq_getElem?_getD, List.getElem?_eq_getElem hnR]; rfl
                            have hLO := HL2.out
                            rw [hO] at hLO
                            rw [← hLO] at p0 hAo
                            have HLO := Lib.hid hLO
                            clear hO hLO
                            have HSI := sameInts_any A17 Ao (castL L) (castL L) c17 co wr wr.heap.size (by rw [castL_len]; omega) (by rw [castL_len]; omega) (rdI_of r17) ((rdI_of hAo).more (by have := hB3i.size; omega)) (Nat.le_refl _)
                            rw [castL_len, show decide (castL L = castL L) = true by simp] at HSI
                            have HSI := Lib.hid HSI
                            go_wp2_with (first
                              | (go_at_call 20; refine HSI.out.mono ?_; rintro e w5 ⟨rfl, hB5⟩)
                              | fail)
                            go_roundw
                            case rel => exact ⟨n + 1, by omega, by go_num, hBn.trans ((hBi.trans (hB5.mono hzm)).mono hBn.size)⟩
                            case measure => simp [intOf]; omega
                          · have hn3 : ¬ (n : Int) < (RR.length : Int) := by omega
                            have hO : RR.getD n [] = [] := by rw [List.getD_eq_getElem?_getD, List.getElem?_eq_none (by omega)]; rfl
                            have hLO := HL2.out
                            rw [hO] at hLO
                            subst hLO
                            clear hO
                            have HSI := sameInts_any A17 none [] [] c17 0 wr wr.heap.size (by simp) (by simp) (fun h => absurd rfl h) (fun h => absurd rfl h) (Nat.le_refl _)
                            rw [show decide (([] : List Int) = []) = true by simp] at HSI
                            have HSI := Lib.hid HSI
                            go_wp2_with (first
                              | (go_at_call 20; refine HSI.out.mono ?_; rintro e w5 ⟨rfl, hB5⟩)
                              | fail)
                            go_roundw
                            case rel => exact ⟨n + 1, by omega, by go_num, hBn.trans ((hBi.trans (hB5.mono hzm)).mono hBn.size)⟩
                            case measure => simp [intOf]; omega
                  · have n2' : ¬ (n : Int) < (RB.length : Int) := by omega
                    go_wp2_with (first
                      | (go_at_call 10; refine (shown_any wr (hDt.below hBwm)).mono ?_; rintro e w6 ⟨rfl, hB6⟩)
                      | fail)
                    go_ret
                    exact ⟨rfl, hBwm.trans (hB6.mono hBwm.size)⟩
    · have hRA : rowsA p l = [] := by unfold rowsA; rw [if_neg hE]
      rw [hRA] at hUR
      clear hRA
      obtain ⟨E, hEE⟩ : ∃ E, Hid (sheetE p l = E) := ⟨_, Lib.hid rfl⟩
      rw [hEE.out] at hE hUR
      have z1 : (E == 0) = false := by simpa using hE
      have z1n : (E != 0) = true := by simpa using hE
      go_wp2_with (first
        | (go_at_call 15; rw [hwA.out]; refine HF.out.mono ?_; rintro e w1 ⟨rfl, hB1⟩
           have hBw1 := hBA.trans (hB1.mono hzA)
           have kS1 := kSA.below' hB1
           have hz1 := hB1.size
           have a01 := kS1.cell 0 _ rfl
           have a11 := kS1.cell 1 _ rfl
           have al1 := kS1.lt)
        | (go_at_call 18; refine (hUR.out w1 hBw1).mono ?_; rintro e w2 ⟨A2, c2, rfl, g2, hB2⟩
           have hBw2 := hBw1.trans (hB2.mono hBw1.size)
           have kS2 := kS1.below' hB2
           have hz2 := hB2.size
           have a02 := kS2.cell 0 _ rfl
           have a12 := kS2.cell 1 _ rfl
           have al2 := kS2.lt)
        | (go_at_call 10; refine (shown_any w2 (hDt.below hBw2)).mono ?_; rintro e w3 ⟨rfl, hB3⟩
           have hBw3 := hBw2.trans (hB3.mono hBw2.size))
        | fail)
      go_ret
      exact ⟨rfl, hBw3⟩
end Go.Proofs.YtoccplfnjammjaaGreatDoor
