/- torchonref05.Levels. -/
import Derived.Test.YtoccplfnjammjaaGreatDoorDiaA
import Derived.BigRegion
set_option linter.unusedSimpArgs false
set_option linter.unusedVariables false
namespace Go.Proofs.YtoccplfnjammjaaGreatDoor
open Go Go.RowKit Tor

def levU (l : List Tri) (L : List Nat) (m k : Nat) : Nat := supL ((List.range k).map fun j => if touchB (xAt l j).b (xAt l m).b = true then L.getD j 0 + 1 else 0)
theorem levU_zero (l : List Tri) (L : List Nat) (m : Nat) : levU l L m 0 = 0 := rfl
theorem levU_all (l : List Tri) (L : List Nat) (m : Nat) : levU l L m m = levAt l L m := rfl
theorem levU_succ (l : List Tri) (L : List Nat) (m k : Nat) : levU l L m (k + 1) = max (levU l L m k) (if touchB (xAt l k).b (xAt l m).b = true then L.getD k 0 + 1 else 0) := by
  unfold levU
  rw [List.range_succ, List.map_append]
  exact supL_snoc _ _
theorem lev_small (l : List Tri) (m k : Nat) (h : k < m) : (levL l m).getD k 0 ≤ k := by
  rw [levL_get l m k h]
  exact Nat.le_trans (lev_le_rows l _ k (levL_len l k)) (rowsN_le l k)
theorem levU_le (l : List Tri) (m k : Nat) (h : k ≤ m) : levU l (levL l m) m k ≤ m := by
  unfold levU
  refine supL_le.2 fun x hx => ?_
  obtain ⟨j, hj, rfl⟩ := List.mem_map.1 hx
  have hj' := List.mem_range.1 hj
  have := lev_small l m j (by omega)
  split <;> omega
set_option maxRecDepth 100000 in
set_option maxHeartbeats 4000000 in
theorem rlevels_any (p : Nat) (A : Option Addr) (l : List Tri) (c : Nat) (w : World) (H : Nat) (hr : RdT w H A l) (hH : H ≤ w.heap.size)
    (hw : ∀ (k : Nat) (hk : k < l.length), l[k].s.size ≤ 9223372036854775807) (hchk : sheetE p l = 0)
    (hb : ∀ (k : Nat) (hk : k < l.length), 0 ≤ l[k].b ∧ l[k].b ≤ 100) (hl : l.length ≤ 400) :
    Calls Tryz.prog 62 #[.agg #[.int .i64 p, .slice A l.length c]] w fun e w' => ∃ v, e = .returned (.tuple #[v, .int .i64 0]) ∧ Own 1 nenc w' w.heap.size 3 v (levL l l.length) ∧ Below w.heap.size w w' := by
  obtain ⟨i0, hi0, hz0', hz1', hz2'⟩ := info_parts infoInt
  have HC := Lib.hid hchk
  have HH := Lib.hid hb
  have kS0 := Blk.new w 25 #[.int .i64 p, .slice A l.length c]
  have hB0 : Below w.heap.size w (w.alloc (.cells #[.int .i64 p, .slice A l.length c] 25)) := (Below.refl _ _).alloc (Nat.le_refl _) _
  have HSH := Lib.hid (sheetRef_any p A l c (w.alloc (.cells #[.int .i64 p, .slice A l.length c] 25)) H (hr.below' hB0 hH) (Nat.le_trans hH hB0.size) hw (by omega))
  rw [hchk] at HSH
  clear hchk hb
  go_enter Tryz.func62, Tryz.ntmps62
  go_wp2_with (first
    | (go_at_call 84; refine HSH.out.mono ?_; rintro e w1 ⟨rfl, hB1⟩
       have kS := kS0.below' hB1
       have hBw := hB0.trans (hB1.mono hB0.size)
       have c1 := kS.cell 1 (.slice A l.length c) rfl
       have n0 := kS.lt)
    | fail)
  go_loopw [5, 6] (fun v i wr => ∃ m : Nat, m ≤ l.length ∧ i = .int .i64 m ∧ Own 1 nenc wr w1.heap.size 3 v (levL l m) ∧ Below w1.heap.size w1 wr) (fun _ i _ => l.length - (intOf i).toNat)
  case atStart => exact ⟨0, Nat.zero_le _, rfl, Own.nil _ _ _, Below.refl _ _⟩
  case round =>
    obtain ⟨m, hm, rfl, hown, hB⟩ := hrel
    have hz := hB.size
    have kSr := kS.below' hB
    have c1r := kSr.cell 1 (.slice A l.length c) rfl
    have n0r := kSr.lt
    have hLl := levL_len l m
    obtain ⟨Av, cv, rfl, hcv, hrd⟩ := Own.rd nenc_len hown
    rw [hLl] at hcv hown
    by_cases hlt : m < l.length
    · have i1 : (m : Int) < (l.length : Int) := by omega
      have i2 : (0 : Int) ≤ (m : Int) := by omega
      rw [hLl]
      have HLl := Lib.hid hLl
      clear hLl
      go_wp2_with fail
      obtain ⟨wo, hwo⟩ : ∃ wo : World, wo = wr := ⟨_, rfl⟩
      obtain rfl := hwo
      go_loopw [7, 8] (fun lv kv wr => ∃ k : Nat, k ≤ m ∧ kv = .int .i64 k ∧ lv = .int .i64 (levU l (levL l m) m k) ∧ Below wo.heap.size wo wr) (fun _ kv _ => m - (intOf kv).toNat)
      case atStart => exact ⟨0, Nat.zero_le _, rfl, rfl, Below.refl _ _⟩
      case round =>
        obtain ⟨k, hk, rfl, rfl, hB2⟩ := hrel
        have hB3 := hB.trans (hB2.mono hz)
        have hz3 := hB3.size
        have hBf := hBw.trans (hB3.mono hBw.size)
        have kS2 := kS.below' hB3
        have c12 := kS2.cell 1 (.slice A l.length c) rfl
        have n02 := kS2.lt
        have hrr := hr.below' hBf hH
        have hU := levU_le l m k hk
        have hUs := Lib.hid (levU_succ l (levL l m) m k)
        obtain ⟨X, hX⟩ : ∃ X, Hid (levU l (levL l m) m k = X) := ⟨_, Lib.hid rfl⟩
        rw [hX.out] at hU
        by_cases hkl : k < m
        · have hkL : k < (levL l m).length := by rw [HLl.out]; exact hkl
          obtain ⟨gv, go, hAv, hgv, y0⟩ := (hrd.below hB2).nat hkL
          subst hAv
          have hyS := lev_small l m k hkl
          have hyE : (levL l m)[k] = (levL l m).getD k 0 := by rw [List.getD_eq_getElem?_getD, List.getElem?_eq_getElem hkL]; rfl
          rw [hyE] at y0
          obtain ⟨Y, hY⟩ : ∃ Y, Hid ((levL l m).getD k 0 = Y) := ⟨_, Lib.hid rfl⟩
          rw [hY.out] at y0 hyS
          clear hyE
          obtain ⟨b, o, hA, hb0, h0, h1, h2⟩ := hrr.tri (k := k) (by omega)
          subst hA
          obtain ⟨_, g0, g1, g2⟩ := hrr.triAt hlt
          have hbb := lt_of_cell h0
          have hyl := lt_of_cell y0
          have x1 := HH.out k (by omega)
          have x2 := HH.out m hlt
          have k0 : (0 : Int) ≤ (k : Int) := by omega
          have k1 : (k : Int) < (l.length : Int) := by omega
          have k2 : (k : Int) < (m : Int) := by omega
          have e1 : IntKind.i64.wrap ((Y : Int) + 1) = (Y : Int) + 1 := IntWalk.i64_in _ (by omega)
          have hTA : Hid (touchB (xAt l k).b (xAt l m).b = touchB l[k].b l[m].b) := by rw [Hid, xAt_of (show k < l.length by omega), xAt_of hlt]
          rw [hX.out]
          cases ht : touchB l[k].b l[m].b
          · have HT := Lib.hid ht
            clear ht
            go_wp2_with fail
            refine wp_region_ex (by kernel_rfl) (by kernel_rfl) ?_
            repeat (go_big_quiet_step ((go_at_call 19; refine (touch_ex _ _ _ _ (by omega) (by omega) (by omega) (by omega)).mono ?_; rintro e w' ⟨rfl, hg⟩; rw [HT.out]; exact ⟨rfl, hg⟩)))
            refine wpQuiet_nil ?_
            intro _ hw'
            obtain ⟨g, hw''⟩ := hw'
            subst hw''
            have hq := g.h
            go_wp2_with fail
            go_roundw
            case rel =>
              refine ⟨k + 1, by omega, by go_num, ?_, hB2.trans (hq.mono hB2.size)⟩
              rw [hUs.out, hX.out, hTA.out, HT.out, if_neg (by decide), Nat.max_eq_left (by omega)]
            case measure => simp [intOf]; omega
          · have HT := Lib.hid ht
            clear ht
            go_wp2_with fail
            refine wp_region_ex (by kernel_rfl) (by kernel_rfl) ?_
            repeat (go_big_quiet_step ((go_at_call 19; refine (touch_ex _ _ _ _ (by omega) (by omega) (by omega) (by omega)).mono ?_; rintro e w' ⟨rfl, hg⟩; rw [HT.out]; exact ⟨rfl, hg⟩)))
            refine wpQuiet_nil ?_
            intro _ hw'
            obtain ⟨g, hw''⟩ := hw'
            subst hw''
            have hq := g.h
            have y1 : g.w.cell? ⟨gv, go + k, none⟩ = some (.int .i64 (Y : Nat)) := (hq.cell (p := ⟨gv, _, none⟩) hyl).trans y0
            have hyl2 := lt_of_cell y1
            go_wp2_with fail
            go_roundw
            case rel =>
              refine ⟨k + 1, by omega, by go_num, ?_, hB2.trans (hq.mono hB2.size)⟩
              rw [hUs.out, hX.out, hTA.out, HT.out, if_pos rfl, hY.out]
              congr 1
              omega
            case measure => simp [intOf]; omega
        · obtain rfl : k = m := by omega
          rw [hX.out]
          rw [levU_all] at hX
          have hLk := HLl.out
          have hownr := hown.below hB2
          clear hkl
          go_wp2_with (first
            | (at_builtin; refine wpList_append_n rfl (.tmp 44) (.tmp 46) _ rfl w1.heap.size _ i0 _ Tryz.underlying45 hi0 hz0' hz1' hz2' rfl _ (levL l k) rfl (hownr.alloc _) wr.heap.size X rfl (cell_new rfl) (by omega) (by simp; omega) ?_; intro v5 w5 ho5 hg5
               have hB5 := (hownr.alloc (.cells #[.int .i64 (X : Nat)] 3)).grown (hB3.alloc hz3 (.cells #[.int .i64 (X : Nat)] 3)) hg5 (by simp; omega))
            | fail)
          go_roundw
          case rel => exact ⟨k + 1, by omega, by go_num, by rw [levL, hX.out]; exact ho5, hB5⟩
          case measure => simp [intOf]; omega
    · obtain rfl : m = l.length := by omega
      have hLl2 := hLl
      rw [hLl]
      clear hLl
      go_wp2_with fail
      go_ret2
      exact ⟨_, rfl, hown.base hBw.size, hBw.trans (hB.mono hBw.size)⟩
end Go.Proofs.YtoccplfnjammjaaGreatDoor
