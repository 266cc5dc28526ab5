/- torchonref01: texts, List. -/
import Derived.Test.YtohcmfobnkaaiaaGreatDoorRLstM
import Derived.Test.YtohcmfobnkaaiaaGreatDoorRPrs
import Derived.Test.YtohcmfobnkaaiaaGreatDoorWLs1
import Derived.Test.YtohcmfobnkaaiaaGreatDoorShow01
import Derived.Deep.QuietTactic
import Derived.BigQuiet
set_option linter.unusedSimpArgs false
set_option linter.unusedVariables false
namespace Go.Proofs.YtohcmfobnkaaiaaGreatDoor
open Go Go.RowKit Tor

def tencS (x : List UInt8) : List Value := [.string (bN x)]
theorem tencS_len (x : List UInt8) : (tencS x).length = 1 := rfl
/-- texts that are returned -/
def TxsRet (w : World) (l : List (List UInt8)) (e : Ending) (w' : World) : Prop := ∃ A c, e = .returned (.slice A l.length c) ∧ Rd 1 tencS w' w'.heap.size A l ∧ Below w.heap.size w w' ∧ ∀ a, A = some a → w.heap.size ≤ a.block
theorem rdigL_any {n : Int} (h0 : 0 ≤ n) (h1 : n ≤ 9999) (w : World) : Calls Tryz.prog 24 #[.int .i64 n] w (Ret (.string (bN (digL n))) w) := by
  have := rdig_any n (by omega) (by omega) w
  rw [← digL_eq h0 (by omega)] at this
  exact this
theorem rdig_ex {n : Int} (h0 : 0 ≤ n) (h1 : n ≤ 9999) (w : World) (g : Ex w) : Calls Tryz.prog 24 #[.int .i64 n] g.w (fun e w'' => e = .returned (.string (bN (digL n))) ∧ ∃ g' : Ex w, w'' = g'.w) :=
  calls_ex (rdigL_any h0 h1 g.w)
theorem txs_one (w : World) (T : TypeId) (x : List UInt8) {w0 : World} (hB : Below w0.heap.size w0 w) : TxsRet w0 [x] (.returned (.slice (some ⟨w.heap.size, 0, none⟩) 1 1)) (w.alloc (.cells #[.string (bN x)] T)) :=
  ⟨some ⟨w.heap.size, 0, none⟩, 1, rfl, rd_new tencS_len (T := T) [x] (by simp) (Blk.new w T #[.string (bN x)]), hB.alloc hB.size _, fun a e => by cases e; exact hB.size⟩
set_option maxRecDepth 100000 in
set_option maxHeartbeats 8000000 in
theorem rtexts_any (b o : Nat) (m : List Int) (c : Nat) (w : World) (hr : RdI w w.heap.size (some ⟨b, o, none⟩) m) (hok : OkL m) (h0 : m ≠ []) (hl : m.length ≤ 9999) :
    Calls Tryz.prog 19 #[.slice (some ⟨b, o, none⟩) m.length c] w (TxsRet w (textsP m)) := by
  have hl1 : 0 < m.length := List.length_pos_iff.2 h0
  have a1 : (0 : Int) < (m.length : Int) := by omega
  have a2 : (0 : Int) ≤ (m.length : Int) - 1 := by omega
  have a3 : (m.length : Int) - 1 < (m.length : Int) := by omega
  have hln : m.length - 1 < m.length := by omega
  have i2 : (m.length : Int) - 1 = (m.length - 1 : Nat) := by omega
  have cell : ∀ k (hk : k < m.length), b < w.heap.size ∧ w.cell? ⟨b, o + k, none⟩ = some (.int .i64 (m.getD k 0)) := fun k hk => by
    obtain ⟨b', o', e, hb, hc⟩ := Rd.int hr hk
    simp only [Option.some.injEq, Addr.mk.injEq, and_true] at e
    obtain ⟨rfl, rfl⟩ := e
    rw [getD_lt hk] at hc
    exact ⟨hb, hc⟩
  have hb := (cell 0 hl1).1
  have q0 := (cell 0 hl1).2
  have q1 := (cell (m.length - 1) hln).2
  rw [← headD_getD, Nat.add_zero] at q0
  have hx0 := hok.headD
  have hx1 := hok.getD (m.length - 1)
  have CELL := Lib.hid cell
  obtain ⟨x0, e0⟩ : ∃ x, Hid (m.headD 0 = x) := ⟨_, Lib.hid rfl⟩
  obtain ⟨x1, e1⟩ : ∃ x, Hid (m.getD (m.length - 1) 0 = x) := ⟨_, Lib.hid rfl⟩
  rw [e0.out] at q0 hx0
  rw [e1.out] at q1 hx1
  obtain ⟨hx01, hx02⟩ := hx0
  obtain ⟨hx11, hx12⟩ := hx1
  obtain ⟨T, hT⟩ : ∃ T, Hid (textsP m = T) := ⟨_, Lib.hid rfl⟩
  rw [hT.out]
  have hT2 : Hid (T = if m.length = 1 then [digL x0] else if upB m m.length then [digL x0 ++ 45 :: digL x1] else if alB m m.length then [digL ((m.length : Nat) : Int) ++ 120 :: digL x0] else []) := by
    rw [Hid, ← hT.out]; unfold textsP; rw [e0.out, e1.out]
  have D0 := Lib.hid (fun w (g : Ex w) => rdig_ex hx01 hx02 w g)
  have D1 := Lib.hid (fun w (g : Ex w) => rdig_ex hx11 hx12 w g)
  have dl0 := digL_4 hx01 hx02
  have dl1 := digL_4 hx11 hx12
  obtain ⟨s0, hs0⟩ : ∃ s, Hid (digL x0 = s) := ⟨_, Lib.hid rfl⟩
  obtain ⟨s1, hs1⟩ : ∃ s, Hid (digL x1 = s) := ⟨_, Lib.hid rfl⟩
  rw [hs0.out] at D0 dl0 hT2
  rw [hs1.out] at D1 dl1 hT2
  have z0 : (bN s0).size = s0.length := rfl
  have z1 : (bN s1).size = s1.length := rfl
  have hI2 := Lib.hid i2
  clear hT cell h0 i2
  have iw : IntKind.i64.wrap ((m.length : Int) - 1) = ((m.length - 1 : Nat) : Int) := by rw [← hI2.out]; exact IntWalk.i64_in _ (by omega)
  have a2' : (0 : Int) ≤ ((m.length - 1 : Nat) : Int) := by omega
  have a3' : ((m.length - 1 : Nat) : Int) < (m.length : Int) := by omega
  clear a2 a3
  go_enter Tryz.func19, Tryz.ntmps19
  go_wp2_with fail
  refine wp_region_ex (by kernel_rfl) (by kernel_rfl) ?_
  repeat (go_big_quiet_step ((go_at_call 24; first | (with_reducible exact D0.out _ _) | (with_reducible exact D1.out _ _))))
  refine wpQuiet_nil ?_
  intro _ hw'
  obtain ⟨g, hw''⟩ := hw'
  subst hw''
  have hq := g.h
  obtain ⟨W, hW⟩ : ∃ W, g.w = W := ⟨_, rfl⟩
  rw [hW] at hq ⊢
  clear hW g iw
  have hs := hq.size
  by_cases h1 : m.length = 1
  · have b1 : ((m.length : Int) == 1) = true := by rw [beq_iff_eq]; omega
    have hTT : Hid (T = [s0]) := by rw [Hid, hT2.out, if_pos h1]
    clear h1 hT2
    go_wp2_with fail
    go_ret
    rw [hTT.out]
    exact txs_one W _ s0 hq
  have b1 : ((m.length : Int) == 1) = false := by rw [beq_eq_false_iff_ne]; omega
  have hT3 : Hid (T = if upB m m.length then [s0 ++ 45 :: s1] else if alB m m.length then [digL ((m.length : Nat) : Int) ++ 120 :: s0] else []) := by rw [Hid, hT2.out, if_neg h1]
  clear hT2 h1
  go_wp2_with fail
  go_loopw [5, 6, 7] (fun u v iv wr => ∃ i : Nat, 1 ≤ i ∧ i ≤ m.length ∧ iv = .int .i64 i ∧ u = .bool (upB m i) ∧ v = .bool (alB m i) ∧ Below w.heap.size w wr) (fun _ _ i _ => m.length - (intOf i).toNat)
  case atStart =>
    refine ⟨1, Nat.le_refl _, by omega, rfl, ?_, ?_, hq⟩
    · rw [upB_iff.2 (fun i hi => by rw [show i = 0 by omega, headD_getD]; simp)]
    · rw [alB_iff.2 (fun i hi => by rw [show i = 0 by omega, headD_getD])]
  case round =>
    clear hq hs
    obtain ⟨i, hi1, hi, rfl, rfl, rfl, hB⟩ := hrel
    obtain ⟨wo, rfl⟩ : ∃ wo : World, wo = wr := ⟨_, rfl⟩
    have hs := hB.size
    by_cases hlt : i < m.length
    · have c1 : (i : Int) < (m.length : Int) := by omega
      have c1' : (0 : Int) ≤ (i : Int) := by omega
      obtain ⟨_, qi⟩ := CELL.out i hlt
      have hxi := hok.getD i
      have un := upB_next m i
      have an := alB_next m i
      rw [e0.out] at un an
      obtain ⟨xi, ei⟩ : ∃ x, Hid (m.getD i 0 = x) := ⟨_, Lib.hid rfl⟩
      rw [ei.out] at qi hxi un an
      obtain ⟨hxi1, hxi2⟩ := hxi
      have g0 : wo.cell? ⟨b, o, none⟩ = some (.int .i64 x0) := (hB.cell (p := ⟨b, o, none⟩) hb).trans q0
      have gi : wo.cell? ⟨b, o + i, none⟩ = some (.int .i64 xi) := (hB.cell (p := ⟨b, o + i, none⟩) hb).trans qi
      have iw : IntKind.i64.wrap (x0 + (i : Int)) = x0 + (i : Int) := IntWalk.i64_in _ (by omega)
      have UN := Lib.hid un
      have AN := Lib.hid an
      clear un an qi
      have bu : decide (xi = x0 + (i : Int)) = (xi == x0 + (i : Int)) := rfl
      have ba : decide (xi = x0) = (xi == x0) := rfl
      have BU := Lib.hid bu
      have BA := Lib.hid ba
      clear bu ba
      cases hu : upB m i <;> cases ha : alB m i
      all_goals
        rw [hu] at UN
        rw [ha] at AN
        go_wp2_with fail
        go_quiet (fail)
        go_wp2_with fail
        go_quiet (fail)
        go_wp2_with fail
        go_roundw
        case rel => exact ⟨i + 1, by omega, by omega, by go_num, by rw [UN.out]; simp [BU.out], by rw [AN.out]; simp [BA.out], hB.drewN _⟩
        case measure => simp [intOf]; omega
    · obtain rfl : i = m.length := by omega
      have c1 : ¬ (m.length : Int) < (m.length : Int) := by omega
      obtain ⟨u, hu⟩ : ∃ u, Hid (upB m m.length = u) := ⟨_, Lib.hid rfl⟩
      obtain ⟨v, hv⟩ : ∃ u, Hid (alB m m.length = u) := ⟨_, Lib.hid rfl⟩
      rw [hu.out, hv.out] at hT3 ⊢
      clear hu hv
      have m1 : (⟨#[45]⟩ : ByteArray).size = 1 := rfl
      have m2 : (⟨#[120]⟩ : ByteArray).size = 1 := rfl
      cases u
      · cases v
        · have hTT : Hid (T = []) := by rw [Hid, hT3.out]; rfl
          clear hT3
          go_wp2_with fail
          go_ret
          rw [hTT.out]
          exact ⟨none, 0, rfl, Rd.nil, hB, fun a e => by cases e⟩
        · have hTT : Hid (T = [digL ((m.length : Nat) : Int) ++ 120 :: s0]) := by rw [Hid, hT3.out]; rfl
          have DN := Lib.hid (fun w' => rdigL_any (n := ((m.length : Nat) : Int)) (by omega) (by omega) w')
          have dn := digL_4 (a := ((m.length : Nat) : Int)) (by omega) (by omega)
          obtain ⟨y, hy⟩ : ∃ y, Hid (digL ((m.length : Nat) : Int) = y) := ⟨_, Lib.hid rfl⟩
          rw [hy.out] at DN dn hTT
          have zy : (bN y).size = y.length := rfl
          have zz1 : (bN y).size + (⟨#[120]⟩ : ByteArray).size ≤ 9223372036854775807 := by rw [zy, m2]; omega
          have zz2 : (bN y ++ ⟨#[120]⟩).size + (bN s0).size ≤ 9223372036854775807 := by rw [ByteArray.size_append, zy, m2, z0]; omega
          have hcat : Hid (bN y ++ ⟨#[120]⟩ ++ bN s0 = bN (y ++ 120 :: s0)) := by
            rw [Hid, show (⟨#[120]⟩ : ByteArray) = bN [120] from rfl, bN_cat, bN_cat]; simp
          clear hT3 hy
          go_wp2_with fail
          refine (DN.out _).mono ?_
          rintro e9 w5 ⟨rfl, hB5⟩
          go_wp2_with fail
          go_ret
          rw [hTT.out, hcat.out]
          exact txs_one w5 _ _ (hB.trans (hB5.mono hB.size))
      · have hTT : Hid (T = [s0 ++ 45 :: s1]) := by rw [Hid, hT3.out]; rfl
        have zz1 : (bN s0).size + (⟨#[45]⟩ : ByteArray).size ≤ 9223372036854775807 := by rw [z0, m1]; omega
        have zz2 : (bN s0 ++ ⟨#[45]⟩).size + (bN s1).size ≤ 9223372036854775807 := by rw [ByteArray.size_append, z0, m1, z1]; omega
        have hcat : Hid (bN s0 ++ ⟨#[45]⟩ ++ bN s1 = bN (s0 ++ 45 :: s1)) := by
          rw [Hid, show (⟨#[45]⟩ : ByteArray) = bN [45] from rfl, bN_cat, bN_cat]; simp
        clear hT3
        go_wp2_with fail
        go_ret
        rw [hTT.out, hcat.out]
        exact txs_one wo _ _ hB
end Go.Proofs.YtohcmfobnkaaiaaGreatDoor
