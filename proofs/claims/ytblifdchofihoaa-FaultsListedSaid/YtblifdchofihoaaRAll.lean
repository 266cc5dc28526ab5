/- torchonref25: All. -/
import Derived.Test.YtblifdchofihoaaFltRow
import Derived.Test.YtblifdchofihoaaRef25d
set_option linter.unusedSimpArgs false
set_option linter.unusedVariables false
namespace Go.Proofs.Ytblifdchofihoaa
open Go Go.RowKit Tor

set_option maxRecDepth 100000 in
set_option maxHeartbeats 8000000 in
theorem rall_any (p s : Int) (A : Option Addr) (l : List Tri) (c : Nat) (w : World) (H : Nat) (hr : RdT w H A l) (hH : H ≤ w.heap.size)
    (hw : ∀ (k : Nat) (hk : k < l.length), l[k].s.size ≤ 9223372036854775807) (hl : l.length ≤ 100000) (hlc : l.length ≤ c) :
    Calls Try.prog 22 #[.int .i64 p, .int .i64 s, .slice A l.length c] w (FltRet w (allR p s l).1 (allR p s l).2) := by
  obtain ⟨i0, hi0, hz0', hz1', hz2'⟩ := info_parts infoFlt
  have HC := Lib.hid (rsheet_any p s A l c w H hr hH hw hl)
  unfold SheetPost at HC
  by_cases hz : (sheetR p s l).2.2.2 = 0
  rotate_left
  · have hA : Hid (allR p s l = ([], (sheetR p s l).2.2.2)) := by unfold allR; rw [if_pos hz]; exact Lib.hid rfl
    rw [hA.out]
    generalize (sheetR p s l).1 = x1 at *
    generalize (sheetR p s l).2.1 = x2 at *
    generalize (sheetR p s l).2.2.1 = x3 at *
    obtain ⟨e, he⟩ : ∃ e, Hid ((sheetR p s l).2.2.2 = e) := ⟨_, Lib.hid rfl⟩
    rw [he.out] at HC hz ⊢
    clear hA
    have y1 : (e == 0) = false := by simpa using hz
    have y2 : (e != 0) = true := by simpa using hz
    clear hz
    go_enter Try.func22, Try.ntmps22
    go_wp2_with (first | (go_at_call 15; refine HC.out.mono ?_; rintro e w1 ⟨v1, rfl, hown1, hB1⟩
                          obtain ⟨A1, c1, rfl, _, _⟩ := Own.rd tri_len hown1) | fail)
    go_ret2
    exact ⟨_, rfl, Own.nil _ _ _, hB1.alloc hB1.size _⟩
  · have hok := Lib.hid (ins_ok hz)
    have HL := Lib.hid (show allR p s l = if 20000 < (allF p s l).length then ([], 5) else (allF p s l, 0) by unfold allR; rw [if_neg (by simpa using hz)])
    have hl1 := hok.out.len
    have HS16 : Hid (∀ (k : Nat) (hk : k < l.length), l[k].s.size ≤ 16) := Lib.hid (fun k hk => wordE_size (hok.out.w k hk))
    rw [hz] at HC
    clear hz
    generalize (sheetR p s l).1 = x1 at *
    generalize (sheetR p s l).2.1 = x2 at *
    generalize (sheetR p s l).2.2.1 = x3 at *
    go_enter Try.func22, Try.ntmps22
    go_wp2_with (first | (go_at_call 15; refine HC.out.mono ?_; rintro e w1 ⟨v1, rfl, hown1, hB1⟩
                          obtain ⟨A1, c1, rfl, _, _⟩ := Own.rd tri_len hown1) | fail)
    have hB2 := hB1.alloc hB1.size (.cells #[.int .i64 x1, .slice A1 x2.length c1] 38)
    clear HC hown1 hB1
    obtain ⟨w2, hw2⟩ : ∃ w2, Hid (w1.alloc (.cells #[.int .i64 x1, .slice A1 x2.length c1] 38) = w2) := ⟨_, Lib.hid rfl⟩
    rw [hw2.out] at hB2 ⊢
    clear hw2
    have hr2 := hr.below' hB2 hH
    have hH2 : H ≤ w2.heap.size := Nat.le_trans hH hB2.size
    go_loopw [11, 12] (fun v i wr => ∃ a : Nat, a ≤ l.length ∧ i = .int .i64 a ∧ Own 4 fencL wr w2.heap.size 24 v (rp1 p s l a) ∧ (rp1 p s l a).length ≤ 20000 ∧ Below w2.heap.size w2 wr) (fun _ i _ => l.length - (intOf i).toNat)
    case atStart => exact ⟨0, by omega, rfl, by simpa [rp1] using Own.nil _ _ _, by simp [rp1], Below.refl _ _⟩
    case round =>
      obtain ⟨a, ha, rfl, hown, h2k, hB⟩ := hrel
      have H2k := Lib.hid h2k
      by_cases hlt : a < l.length
      · have h16 := HS16.out a hlt
        have hxa : Hid (xAt l a = l[a]) := Lib.hid (xAt_of hlt)
        obtain ⟨b, o, rfl, hb, g0, g1, g2⟩ := hr2.tri hlt
        have g2a := (hB.cell (p := ⟨b, _, none⟩) (Nat.lt_of_lt_of_le hb hH2)).trans g2
        go_wp2_with fail
        go_loopw [11, 13] (fun v i w3 => ∃ j : Nat, j ≤ 6 ∧ i = .int .i64 ((j : Int) + 1) ∧ Own 4 fencL w3 w2.heap.size 24 v (rp2 p s l a j) ∧ Below w2.heap.size w2 w3) (fun _ i _ => 7 - (intOf i).toNat)
        case atStart => exact ⟨0, by omega, rfl, by rw [rp2_zero]; exact hown, hB⟩
        case round =>
          obtain ⟨j, hj, rfl, hown, hB⟩ := hrel
          obtain ⟨w3, rfl⟩ : ∃ wo : World, wo = wr := ⟨_, rfl⟩
          by_cases hj6 : j < 6
          · have a1 : (j : Int) + 1 ≤ 6 := by omega
            go_wp2_with fail
            go_loopw [11, 14] (fun v i w4 => ∃ n : Nat, n ≤ l[a].s.size + 1 ∧ i = .int .i64 n ∧ Own 4 fencL w4 w2.heap.size 24 v (rp3 p s l a j n) ∧ Below w2.heap.size w2 w4) (fun _ i _ => l[a].s.size + 1 - (intOf i).toNat)
            case atStart => exact ⟨0, by omega, rfl, by rw [rp3_zero]; exact hown, hB⟩
            case round =>
              obtain ⟨n, hn, rfl, hown, hB⟩ := hrel
              obtain ⟨w4, rfl⟩ : ∃ wo : World, wo = wr := ⟨_, rfl⟩
              have g2b := (hB.cell (p := ⟨b, _, none⟩) (Nat.lt_of_lt_of_le hb hH2)).trans g2
              have a0 : (a : Int) < (l.length : Int) := by omega
              by_cases hn2 : n ≤ l[a].s.size
              · have a2 : (n : Int) ≤ (l[a].s.size : Int) := by omega
                go_wp2_with fail
                go_loopw [11, 15] (fun v i w5 => ∃ m : Nat, m ≤ 129 ∧ i = .int .i64 ((m : Int) - 1) ∧ Own 4 fencL w5 w2.heap.size 24 v (rp4 p s l a j n m) ∧ Below w2.heap.size w2 w5) (fun _ i _ => (128 - intOf i).toNat)
                case atStart => exact ⟨0, by omega, rfl, by rw [rp4_zero]; exact hown, hB⟩
                case round =>
                  obtain ⟨m, hm, rfl, hown, hB⟩ := hrel
                  obtain ⟨w5, rfl⟩ : ∃ wo : World, wo = wr := ⟨_, rfl⟩
                  by_cases hm2 : m < 129
                  · have a3 : (m : Int) - 1 < 128 := by omega
                    have hnx := Lib.hid (rp4_next p s l a j n m hm2)
                    have hln := Lib.hid (rp4_len p s l a j n m H2k.out (by rw [hxa.out]; exact h16) (by omega) hj6)
                    obtain ⟨f, hf⟩ : ∃ f : Flt, Hid (⟨(j : Int) + 1, a, n, (m : Int) - 1⟩ = f) := ⟨_, Lib.hid rfl⟩
                    have hfk : Hid (f = ⟨(j : Int) + 1, a, n, (m : Int) - 1⟩) := Lib.hid hf.out.symm
                    have HSH := Lib.hid (fun (w' : World) => (by have := shaped_any25 f w'; rw [hfk.out] at this ⊢; exact this : Calls Try.prog 47 #[.agg #[.int .i64 ((j : Int) + 1), .int .i64 a, .int .i64 n, .int .i64 ((m : Int) - 1)]] w' (Ret (.bool (shapedF f)) w')))
                    have HFT := Lib.hid (fun (w' : World) (hB : Below w2.heap.size w2 w') => (by have := fits_any25 (some ⟨b, o, none⟩) l c f w' H (hr2.below' hB hH2) (Nat.le_trans hH2 hB.size) (by omega) (fun k hk => by have := HS16.out k hk; omega); rw [hfk.out] at this ⊢; exact this : Calls Try.prog 48 #[.slice (some ⟨b, o, none⟩) l.length c, .agg #[.int .i64 ((j : Int) + 1), .int .i64 a, .int .i64 n, .int .i64 ((m : Int) - 1)]] w' (Ret (.bool (fitsF l f)) w')))
                    have HAC := Lib.hid (fun (w' : World) (hB : Below w2.heap.size w2 w') => (by have := racc_any p s (some ⟨b, o, none⟩) l c f w' H (hr2.below' hB hH2) (Nat.le_trans hH2 hB.size) hok.out hlc; rw [hfk.out] at this ⊢; exact this : Calls Try.prog 29 #[.int .i64 p, .int .i64 s, .slice (some ⟨b, o, none⟩) l.length c, .agg #[.int .i64 ((j : Int) + 1), .int .i64 a, .int .i64 n, .int .i64 ((m : Int) - 1)]] w' (PutRet w' (accF p s l f).1 (accF p s l f).2)))
                    unfold PutRet at HAC
                    rw [hf.out] at hnx
                    have hBB : Below w2.heap.size w2 (w5.alloc (.cells #[.int .i64 ((j : Int) + 1), .int .i64 a, .int .i64 n, .int .i64 ((m : Int) - 1)] 24)) := hB.alloc hB.size _
                    have kF := Blk.new w5 24 #[.int .i64 ((j : Int) + 1), .int .i64 a, .int .i64 n, .int .i64 ((m : Int) - 1)]
                    have hownA := hown.alloc (.cells #[.int .i64 ((j : Int) + 1), .int .i64 a, .int .i64 n, .int .i64 ((m : Int) - 1)] 24)
                    cases hsh : shapedF f
                    · have hno := ok_shaped (p := p) (s := s) (l := l) hsh
                      have hnx := hnx.out
                      rw [hno] at hnx
                      simp only [Bool.false_eq_true, if_false, List.append_nil] at hnx
                      have hnx := Lib.hid hnx
                      rw [hsh] at HSH
                      clear hno hsh
                      go_wp2_with (first | (go_at_call 47; refine (HSH.out _).mono ?_; rintro e w6 ⟨rfl, hB6⟩) | fail)
                      go_roundw
                      case rel => exact ⟨m + 1, by omega, by go_num, by rw [hnx.out]; exact hownA.below hB6, hBB.trans (hB6.mono hBB.size)⟩
                      case measure => simp [intOf]; omega
                    rw [hsh] at HSH
                    cases hfit : fitsF l f
                    · have hno := ok_fits (p := p) (s := s) (l := l) hfit
                      have hnx := hnx.out
                      rw [hno] at hnx
                      simp only [Bool.false_eq_true, if_false, List.append_nil] at hnx
                      have hnx := Lib.hid hnx
                      rw [hfit] at HFT
                      clear hno hsh hfit
                      go_wp2_with (first
                        | (go_at_call 47; refine (HSH.out _).mono ?_; rintro e w6 ⟨rfl, hB6⟩
                           have hB7 := hBB.trans (hB6.mono hBB.size)
                           have kF6 := kF.below' hB6
                           have p0 := kF6.cell 0 (.int .i64 ((j : Int) + 1)) rfl
                           have p1 := kF6.cell 1 (.int .i64 a) rfl
                           have p2 := kF6.cell 2 (.int .i64 n) rfl
                           have p3 := kF6.cell 3 (.int .i64 ((m : Int) - 1)) rfl)
                        | (go_at_call 48; refine (HFT.out _ hB7).mono ?_; rintro e w8 ⟨rfl, hB8⟩)
                        | fail)
                      go_roundw
                      case rel => exact ⟨m + 1, by omega, by go_num, by rw [hnx.out]; exact (hownA.below hB6).below hB8, hB7.trans (hB8.mono hB7.size)⟩
                      case measure => simp [intOf]; omega
                    rw [hfit] at HFT
                    obtain ⟨E, hE⟩ : ∃ E, Hid ((accF p s l f).2 = E) := ⟨_, Lib.hid rfl⟩
                    rw [hE.out] at HAC
                    by_cases hz : E = 0
                    · have hyes : okF p s l f = true := by unfold okF; rw [hE.out]; exact decide_eq_true hz
                      have hnx := hnx.out
                      rw [hyes, if_pos rfl] at hnx
                      have hnx := Lib.hid hnx
                      subst hz
                      clear hyes hsh hfit
                      go_wp2_with (first
                        | (go_at_call 47; refine (HSH.out _).mono ?_; rintro e w6 ⟨rfl, hB6⟩
                           have hB7 := hBB.trans (hB6.mono hBB.size)
                           have kF6 := kF.below' hB6
                           have p0 := kF6.cell 0 (.int .i64 ((j : Int) + 1)) rfl
                           have p1 := kF6.cell 1 (.int .i64 a) rfl
                           have p2 := kF6.cell 2 (.int .i64 n) rfl
                           have p3 := kF6.cell 3 (.int .i64 ((m : Int) - 1)) rfl)
                        | (go_at_call 48; refine (HFT.out _ hB7).mono ?_; rintro e w8 ⟨rfl, hB8⟩
                           have hB9 := hB7.trans (hB8.mono hB7.size)
                           have kF8 := kF6.below' hB8
                           have p0 := kF8.cell 0 (.int .i64 ((j : Int) + 1)) rfl
                           have p1 := kF8.cell 1 (.int .i64 a) rfl
                           have p2 := kF8.cell 2 (.int .i64 n) rfl
                           have p3 := kF8.cell 3 (.int .i64 ((m : Int) - 1)) rfl)
                        | (go_at_call 29; refine (HAC.out _ hB9).mono ?_; rintro e wa ⟨Aa, ca, rfl, hra, hBa⟩
                           have hBb := hB9.trans (hBa.mono hB9.size)
                           have hszb := hBb.size
                           have kFa := kF8.below' hBa
                           have p0 := kFa.cell 0 (.int .i64 ((j : Int) + 1)) rfl
                           have p1 := kFa.cell 1 (.int .i64 a) rfl
                           have p2 := kFa.cell 2 (.int .i64 n) rfl
                           have p3 := kFa.cell 3 (.int .i64 ((m : Int) - 1)) rfl
                           have hownB := ((hownA.below hB6).below hB8).below hBa)
                        | (at_builtin; refine wpList_append_flt rfl (.tmp 78) (.tmp 80) _ rfl w2.heap.size _ i0 _ Try.underlying52 hi0 hz0' hz1' hz2' rfl _ _ rfl (hownB.alloc _) wa.heap.size ⟨(j : Int) + 1, a, n, (m : Int) - 1⟩ rfl (World.cell?_alloc_new _ _ _ 0) (World.cell?_alloc_new _ _ _ 1) (World.cell?_alloc_new _ _ _ 2) (World.cell?_alloc_new _ _ _ 3) hln.out (by simp; omega) ?_; intro vc wc hownC hgC)
                        | fail)
                      go_roundw
                      case rel =>
                        exact ⟨m + 1, by omega, by go_num, by rw [hnx.out, hfk.out]; exact hownC, (hownB.alloc _).grown (hBb.alloc hBb.size _) hgC (by simp; omega)⟩
                      case measure => simp [intOf]; omega
                    · have hno : okF p s l f = false := by unfold okF; rw [hE.out]; exact decide_eq_false hz
                      have hnx := hnx.out
                      rw [hno] at hnx
                      simp only [Bool.false_eq_true, if_false, List.append_nil] at hnx
                      have hnx := Lib.hid hnx
                      have y1 : (E == 0) = false := by simpa using hz
                      clear hno hsh hfit hz
                      go_wp2_with (first
                        | (go_at_call 47; refine (HSH.out _).mono ?_; rintro e w6 ⟨rfl, hB6⟩
                           have hB7 := hBB.trans (hB6.mono hBB.size)
                           have kF6 := kF.below' hB6
                           have p0 := kF6.cell 0 (.int .i64 ((j : Int) + 1)) rfl
                           have p1 := kF6.cell 1 (.int .i64 a) rfl
                           have p2 := kF6.cell 2 (.int .i64 n) rfl
                           have p3 := kF6.cell 3 (.int .i64 ((m : Int) - 1)) rfl)
                        | (go_at_call 48; refine (HFT.out _ hB7).mono ?_; rintro e w8 ⟨rfl, hB8⟩
                           have hB9 := hB7.trans (hB8.mono hB7.size)
                           have kF8 := kF6.below' hB8
                           have p0 := kF8.cell 0 (.int .i64 ((j : Int) + 1)) rfl
                           have p1 := kF8.cell 1 (.int .i64 a) rfl
                           have p2 := kF8.cell 2 (.int .i64 n) rfl
                           have p3 := kF8.cell 3 (.int .i64 ((m : Int) - 1)) rfl)
                        | (go_at_call 29; refine (HAC.out _ hB9).mono ?_; rintro e wa ⟨Aa, ca, rfl, hra, hBa⟩
                           have hBb := hB9.trans (hBa.mono hB9.size))
                        | fail)
                      go_roundw
                      case rel =>
                        exact ⟨m + 1, by omega, by go_num, by rw [hnx.out]; exact ((hownA.below hB6).below hB8).below hBa, hBb⟩
                      case measure => simp [intOf]; omega
                  · have e129 : m = 129 := by omega
                    subst e129
                    go_wp2_with fail
                    go_roundw
                    case rel => exact ⟨n + 1, by omega, by go_num, by rw [rp3_next]; exact hown, hB⟩
                    case measure => simp [intOf]; omega
              · have en : n = l[a].s.size + 1 := by omega
                have a2 : ¬ (n : Int) ≤ (l[a].s.size : Int) := by omega
                have hq := Lib.hid (rp2_next p s l a j hj6)
                rw [hxa.out, ← en] at hq
                clear en
                go_wp2_with fail
                go_roundw
                case rel => exact ⟨j + 1, by omega, by go_num, by rw [hq.out]; exact hown, hB⟩
                case measure => simp [intOf]; omega
          · have e6 : j = 6 := by omega
            subst e6
            rw [← rp1_next] at hown
            obtain ⟨A7, c7, hv, -, hrd⟩ := Own.rd flt_len hown
            subst hv
            by_cases hfull : 20000 < (rp1 p s l (a + 1)).length
            · have hR : Hid (allR p s l = ([], 5)) := by rw [HL.out, if_pos (Nat.lt_of_lt_of_le hfull (rp1_more p s l (by omega)))]; exact Lib.hid rfl
              have b1 : (20000 : Int) < ((rp1 p s l (a + 1)).length : Int) := by omega
              go_wp2_with fail
              go_ret2
              rw [hR.out]
              exact ⟨_, rfl, Own.nil _ _ _, hB2.trans (hB.mono hB2.size)⟩
            · have b1 : ¬ (20000 : Int) < ((rp1 p s l (a + 1)).length : Int) := by omega
              go_wp2_with fail
              go_roundw
              case rel => exact ⟨a + 1, by omega, by go_num, hown, by omega, hB⟩
              case measure => simp [intOf]; omega
      · have ea : a = l.length := by omega
        subst ea
        rw [rp1_all] at hown h2k
        have hR : Hid (allR p s l = (allF p s l, 0)) := by rw [HL.out, if_neg (by omega)]; exact Lib.hid rfl
        go_wp2_with fail
        go_ret2
        rw [hR.out]
        exact ⟨_, rfl, hown.base hB2.size, hB2.trans (hB.mono hB2.size)⟩
end Go.Proofs.Ytblifdchofihoaa
