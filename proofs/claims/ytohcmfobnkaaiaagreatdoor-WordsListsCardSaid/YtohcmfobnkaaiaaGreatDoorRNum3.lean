/- torchonref01: Int. -/
import Derived.Test.YtohcmfobnkaaiaaGreatDoorRNum2
set_option linter.unusedSimpArgs false
set_option linter.unusedVariables false
namespace Go.Proofs.YtohcmfobnkaaiaaGreatDoor
open Go Go.RowKit Tor

theorem nDig_le : ∀ (k u : Nat), u < 10 ^ (k + 1) → Lib.nDigits u ≤ k + 1
  | 0, u, h => by rw [Lib.nDigits_small (by simpa using h)]; omega
  | k + 1, u, h => by
    by_cases h9 : u < 10
    · rw [Lib.nDigits_small h9]; omega
    · rw [Lib.nDigits_big h9]
      have := nDig_le k (u / 10) (by rw [Nat.pow_succ] at h; omega)
      omega
theorem itoa_20 (n : Int) (h0 : -9223372036854775808 ≤ n) (h1 : n ≤ 9223372036854775807) : (Lib.itoa n).length ≤ 20 := by
  have h19 : ∀ u : Nat, u ≤ 9223372036854775808 → (Lib.decDigits u).length ≤ 19 := fun u hu => by
    rw [Lib.decDigits_length]
    exact nDig_le 18 u (by have : (10 : Nat) ^ (18 + 1) = 10000000000000000000 := by decide
                           omega)
  unfold Lib.itoa
  split
  · have := h19 n.natAbs (by omega)
    simp; omega
  · have := h19 n.toNat (by omega)
    omega
theorem whole_long {L : List UInt8} (h : wholeB L = true) (hl : 20 < L.length) : valB L < -9223372036854775808 ∨ 9223372036854775807 < valB L := by
  apply Classical.byContradiction
  intro hc
  have := itoa_20 (valB L) (by omega) (by omega)
  rw [itoa_of h] at this
  omega
def sgN (N : Bool) (v : Nat) : Int := if N then -(v : Int) else v
theorem wrap_step (a d : Int) : IntKind.i64.wrap (IntKind.i64.wrap (10 * IntKind.i64.wrap a) + d) = IntKind.i64.wrap (10 * a + d) := by
  rw [IntWalk.i64_left, IntWalk.i64_left, IntWalk.i64_left, IntWalk.i64_left]
  unfold wrap64
  omega
theorem wrap_range (a : Int) : -9223372036854775808 ≤ IntKind.i64.wrap a ∧ IntKind.i64.wrap a ≤ 9223372036854775807 := by
  rw [IntWalk.i64_left]; unfold wrap64; omega
/-- what the first k bytes spell -/
def partN (N : Bool) (L : List UInt8) (k : Nat) : Int := sgN N (natA 0 ((L.take k).drop (if N then 1 else 0)))
theorem part_zero (N : Bool) (L : List UInt8) : partN N L 0 = 0 := by cases N <;> rfl
theorem part_all (L : List UInt8) : partN (negB L) L L.length = valB L := by
  unfold partN valB natV
  rw [List.take_length, ← magL_drop]
  rfl
theorem part_sign {L : List UInt8} (hN : negB L = true) : partN true L 1 = 0 := by
  unfold partN
  cases L <;> rfl
theorem part_next {N : Bool} {L : List UInt8} {k : Nat} (hk : k < L.length) (hf : (if N then 1 else 0) ≤ k) : partN N L (k + 1) = 10 * partN N L k + sgN N (L[k].toNat - 48) := by
  unfold partN
  rw [← List.take_append_getElem hk, List.drop_append_of_le_length (by rw [List.length_take]; omega), natA_append]
  have e : natA (natA 0 ((L.take k).drop (if N then 1 else 0))) [L[k]] = natA 0 ((L.take k).drop (if N then 1 else 0)) * 10 + (L[k].toNat - 48) := rfl
  rw [e]
  unfold sgN
  cases N
  · simp; omega
  · simp; omega

set_option maxRecDepth 100000 in
set_option maxHeartbeats 4000000 in
theorem rint_any (L : List UInt8) (least most : Int) (w : World) (hl : L.length ≤ 1000000) :
    Calls Tryz.prog 25 #[.string (bN L), .int .i64 least, .int .i64 most] w (Ret (.tuple #[.int .i64 (intW L least most).1, .int .i64 (intW L least most).2]) w) := by
  by_cases hlm : most < least
  · have hI : Hid (intW L least most = (0, 2)) := by rw [Hid]; unfold intW; rw [if_pos hlm]
    rw [hI.out]
    go_enter Tryz.func25, Tryz.ntmps25
    go_wp2_with fail
    go_ret2
    exact ⟨rfl, Below.refl _ _⟩
  have HWH := Lib.hid (fun w' => rwhole_any L w' hl)
  cases hwh : wholeB L
  · have hI : Hid (intW L least most = (0, 6)) := by rw [Hid]; unfold intW; rw [if_neg hlm, if_pos hwh]
    rw [hI.out]
    rw [hwh] at HWH
    clear hwh hI
    go_enter Tryz.func25, Tryz.ntmps25
    go_wp2_with (first
      | (go_at_call 39; refine (HWH.out w).mono ?_; rintro e w1 ⟨rfl, hB1⟩)
      | fail)
    go_ret2
    exact ⟨rfl, hB1⟩
  rw [hwh] at HWH
  have hz : (bN L).size = L.length := rfl
  have HI : Hid (intW L least most = if valB L < -9223372036854775808 ∨ 9223372036854775807 < valB L ∨ valB L < least ∨ most < valB L then (0, 7) else (valB L, 0)) := by
    rw [Hid]; unfold intW; rw [if_neg hlm, if_neg (by rw [hwh]; decide)]
  by_cases h20 : 20 < L.length
  · have e20 : (20 : Int) < (L.length : Int) := by omega
    have hI : Hid (intW L least most = (0, 7)) := by
      have := whole_long hwh h20
      rw [Hid, HI.out, if_pos (by omega)]
    rw [hI.out]
    clear hwh hI h20
    go_enter Tryz.func25, Tryz.ntmps25
    go_wp2_with (first
      | (go_at_call 39; refine (HWH.out w).mono ?_; rintro e w1 ⟨rfl, hB1⟩)
      | fail)
    go_ret2
    exact ⟨rfl, hB1⟩
  have e20 : ¬ (20 : Int) < (L.length : Int) := by omega
  have HWt := Lib.hid hwh
  have hw1 := hwh
  unfold wholeB natB at hw1
  simp only [Bool.and_eq_true, decide_eq_true_eq] at hw1
  obtain ⟨⟨⟨hall, hne⟩, _⟩, _⟩ := hw1
  have hL0 : L ≠ [] := fun e => hne (by rw [e]; rfl)
  have hx : 0 < (bN L).size := by
    have : L.length ≠ 0 := fun e => hL0 (List.length_eq_zero_iff.1 e)
    show 0 < L.length
    omega
  obtain ⟨N, hN⟩ : ∃ N, Hid (negB L = N) := ⟨_, Lib.hid rfl⟩
  have q45 : ((((bN L)[0]'hx).toNat : Int) == 45) = N := by
    have e1 : L.head? = some ((bN L)[0]'hx) := by rw [List.head?_eq_getElem?, List.getElem?_eq_getElem hx]; rfl
    rw [← hN.out]
    unfold negB
    rw [e1]
    by_cases h : (bN L)[0]'hx = 45
    · rw [h]; rfl
    · have h9 : ((bN L)[0]'hx).toNat ≠ 45 := fun e => h (UInt8.toNat_inj.1 e)
      have h8 : ((((bN L)[0]'hx).toNat : Int) == 45) = false := by simp; omega
      rw [h8]
      exact (decide_eq_false (fun e => h (Option.some.inj e))).symm
  have HALL := Lib.hid (fun (k : Nat) (hk : k < L.length) (hf : (if N then 1 else 0) ≤ k) => (by
    have hin : L[k] ∈ magL L := by
      rw [magL_drop, hN.out]
      refine List.mem_iff_getElem.2 ⟨k - (if N then 1 else 0), by rw [List.length_drop]; omega, ?_⟩
      rw [List.getElem_drop]
      congr 1
      omega
    exact List.all_eq_true.1 hall _ hin : digB L[k] = true))
  have HPA : Hid (partN N L L.length = valB L) := by rw [Hid, ← hN.out]; exact part_all L
  have HS1 : Hid (N = true → partN N L 1 = 0 ∧ digB (L[0]'hx) = false) := Lib.hid (fun h => by
    refine ⟨by rw [h]; exact part_sign (hN.out.trans h), ?_⟩
    have hn := hN.out.trans h
    unfold negB at hn
    have hn := of_decide_eq_true hn
    rw [List.head?_eq_getElem?, List.getElem?_eq_getElem hx] at hn
    rw [Option.some.inj hn]
    decide)
  clear hwh hall hne hL0 h20
  go_enter Tryz.func25, Tryz.ntmps25
  go_wp2_with (first
    | (go_at_call 39; refine (HWH.out w).mono ?_; rintro e w1 ⟨rfl, hB1⟩)
    | fail)
  go_loopw [8, 9] (fun v i wr => ∃ k : Nat, k ≤ L.length ∧ i = .int .i64 k ∧ v = .int .i64 (IntKind.i64.wrap (partN N L k)) ∧ Below w1.heap.size w1 wr) (fun _ i _ => L.length - (intOf i).toNat)
  case atStart => exact ⟨0, Nat.zero_le _, rfl, by rw [part_zero]; rfl, Below.refl _ _⟩
  case round =>
    obtain ⟨k, hk, rfl, rfl, hB⟩ := hrel
    by_cases hlt : k < L.length
    · have hk' : k < (bN L).size := hlt
      have HD := Lib.hid (fun (w' : World) => (rdigitN_any (L[k]'hlt) w' : Calls Tryz.prog 40 #[.int .u8 (((bN L)[k]'hk').toNat : Int)] w' (Ret (.bool (digB (L[k]'hlt))) w')))
      obtain ⟨n, hn⟩ : ∃ n, Hid (IntKind.i64.wrap (partN N L k) = n) := ⟨_, Lib.hid rfl⟩
      rw [hn.out]
      cases hd : digB (L[k]'hlt)
      · have hNt : N = true ∧ k = 0 := by
          by_cases hf : (if N then 1 else 0) ≤ k
          · have := HALL.out k hlt hf
            rw [hd] at this; cases this
          · cases N
            · simp at hf
            · simp at hf; exact ⟨rfl, hf⟩
        have hnx : Hid (IntKind.i64.wrap (partN N L (k + 1)) = n) := by
          obtain ⟨e1, e2⟩ := hNt
          rw [Hid, ← hn.out, e2, (HS1.out e1).1, part_zero]
        rw [hd] at HD
        clear hd hNt
        go_wp2_with (first
          | (go_at_call 40; refine (HD.out _).mono ?_; rintro e w2 ⟨rfl, hB2⟩)
          | fail)
        go_roundw
        case rel => exact ⟨k + 1, by omega, by go_num, by rw [hnx.out], hB.trans (hB2.mono hB.size)⟩
        case measure => simp [intOf]; omega
      · have hf : (if N then 1 else 0) ≤ k := by
          cases N
          · simp
          · apply Classical.byContradiction
            intro hc
            have h0 : k = 0 := by simp at hc; exact hc
            subst h0
            have h9 := (HS1.out rfl).2
            have h8 : digB (L[0]'hlt) = true := hd
            have h7 : false = true := h9.symm.trans h8
            cases h7
        have hnx := Lib.hid (part_next (N := N) hlt hf)
        have hst := Lib.hid (wrap_step (partN N L k) (sgN N ((L[k]'hlt).toNat - 48)))
        have hd2 := hd
        simp only [digB, Bool.and_eq_true, decide_eq_true_eq] at hd2
        have hu8 : IntKind.u8.wrap ((((bN L)[k]'hk').toNat : Int) - 48) = (((bN L)[k]'hk').toNat : Int) - 48 := by
          have e : (bN L)[k]'hk' = L[k]'hlt := rfl
          rw [e]
          exact IntWalk.u8_in _ (by omega)
        rw [hd] at HD
        clear hd
        have ek' : (((bN L)[k]'hk').toNat : Int) = ((L[k]'hlt).toNat : Int) := rfl
        cases N
        · have hq : Hid (wrap64 (wrap64 (10 * n) + wrap64 ((((bN L)[k]'hk').toNat : Int) - 48)) = IntKind.i64.wrap (partN false L (k + 1))) := by
            rw [Hid, hnx.out, ← hst.out, hn.out, IntWalk.i64_left, IntWalk.i64_left, ek']
            have : wrap64 (((L[k]'hlt).toNat : Int) - 48) = sgN false ((L[k]'hlt).toNat - 48) := by
              unfold sgN wrap64; simp; omega
            rw [this]
          clear ek' hd2 hnx hst
          go_wp2_with (first
            | (go_at_call 40; refine (HD.out _).mono ?_; rintro e w2 ⟨rfl, hB2⟩)
            | fail)
          go_roundw
          case rel => exact ⟨k + 1, by omega, by go_num, by rw [hq.out], hB.trans (hB2.mono hB.size)⟩
          case measure => simp [intOf]; omega
        · have hq : Hid (wrap64 (wrap64 (10 * n) + wrap64 (-wrap64 ((((bN L)[k]'hk').toNat : Int) - 48))) = IntKind.i64.wrap (partN true L (k + 1))) := by
            rw [Hid, hnx.out, ← hst.out, hn.out, IntWalk.i64_left, IntWalk.i64_left, ek']
            have : wrap64 (-wrap64 (((L[k]'hlt).toNat : Int) - 48)) = sgN true ((L[k]'hlt).toNat - 48) := by
              unfold sgN wrap64; simp; omega
            rw [this]
          clear ek' hd2 hnx hst
          go_wp2_with (first
            | (go_at_call 40; refine (HD.out _).mono ?_; rintro e w2 ⟨rfl, hB2⟩)
            | fail)
          go_roundw
          case rel => exact ⟨k + 1, by omega, by go_num, by rw [hq.out], hB.trans (hB2.mono hB.size)⟩
          case measure => simp [intOf]; omega
    · have ek : k = L.length := by omega
      subst ek
      rw [HPA.out]
      have hrg := wrap_range (valB L)
      have hcmp : ((bN (Lib.itoa (IntKind.i64.wrap (valB L)))).toList == (bN L).toList) = decide (IntKind.i64.wrap (valB L) = valB L) := by
        rw [ByteArray.toList_eq, ByteArray.toList_eq]
        show (Lib.itoa (IntKind.i64.wrap (valB L)) == L) = _
        by_cases h : IntKind.i64.wrap (valB L) = valB L
        · rw [decide_eq_true h, h, itoa_of HWt.out]; exact beq_self_eq_true L
        · have : Lib.itoa (IntKind.i64.wrap (valB L)) ≠ L := fun e => h ((itoa_facts _).2.symm.trans (congrArg valB e))
          rw [decide_eq_false h]; exact beq_false_of_ne this
      by_cases hin : -9223372036854775808 ≤ valB L ∧ valB L ≤ 9223372036854775807
      · have hw9 : IntKind.i64.wrap (valB L) = valB L := IntWalk.i64_in _ hin
        rw [hw9] at hcmp hrg ⊢
        obtain ⟨v, hv⟩ : ∃ v, Hid (valB L = v) := ⟨_, Lib.hid rfl⟩
        rw [hv.out] at hcmp hrg HI hin ⊢
        have HDG := Lib.hid (fun w' => rdig_any v hin.1 hin.2 w')
        have hcmp' : ((bN (Lib.itoa v)).toList == (bN L).toList) = true := by rw [hcmp]; exact decide_eq_true rfl
        obtain ⟨X, hX⟩ : ∃ X, Hid (bN (Lib.itoa v) = X) := ⟨_, Lib.hid rfl⟩
        rw [hX.out] at hcmp' HDG
        have HIN := Lib.hid hin
        clear hcmp hw9 hrg hin
        by_cases c1 : v < least
        · have hI : Hid (intW L least most = (0, 7)) := by have := HIN.out; rw [Hid, HI.out, if_pos (by omega)]
          go_wp2_with (first
            | (go_at_call 24; refine (HDG.out _).mono ?_; rintro e w2 ⟨rfl, hB2⟩)
            | fail)
          go_ret2
          rw [hI.out]
          exact ⟨rfl, hB1.trans ((hB.trans (hB2.mono hB.size)).mono hB1.size)⟩
        · by_cases c2 : most < v
          · have hI : Hid (intW L least most = (0, 7)) := by have := HIN.out; rw [Hid, HI.out, if_pos (by omega)]
            go_wp2_with (first
              | (go_at_call 24; refine (HDG.out _).mono ?_; rintro e w2 ⟨rfl, hB2⟩)
              | fail)
            go_ret2
            rw [hI.out]
            exact ⟨rfl, hB1.trans ((hB.trans (hB2.mono hB.size)).mono hB1.size)⟩
          · have hI : Hid (intW L least most = (v, 0)) := by have := HIN.out; rw [Hid, HI.out, if_neg (by omega)]
            go_wp2_with (first
              | (go_at_call 24; refine (HDG.out _).mono ?_; rintro e w2 ⟨rfl, hB2⟩)
              | fail)
            go_ret2
            rw [hI.out]
            exact ⟨rfl, hB1.trans ((hB.trans (hB2.mono hB.size)).mono hB1.size)⟩
      · have hne : IntKind.i64.wrap (valB L) ≠ valB L := fun e => by rw [e] at hrg; exact hin hrg
        obtain ⟨v, hv⟩ : ∃ v, Hid (IntKind.i64.wrap (valB L) = v) := ⟨_, Lib.hid rfl⟩
        have hI : Hid (intW L least most = (0, 7)) := by rw [Hid, HI.out, if_pos (by omega)]
        have hcmp' : ((bN (Lib.itoa v)).toList == (bN L).toList) = false := by rw [← hv.out, hcmp]; exact decide_eq_false hne
        rw [hv.out] at hrg ⊢
        have HDG := Lib.hid (fun w' => rdig_any v hrg.1 hrg.2 w')
        obtain ⟨X, hX⟩ : ∃ X, Hid (bN (Lib.itoa v) = X) := ⟨_, Lib.hid rfl⟩
        rw [hX.out] at hcmp' HDG
        clear hcmp hne hrg hin
        go_wp2_with (first
          | (go_at_call 24; refine (HDG.out _).mono ?_; rintro e w2 ⟨rfl, hB2⟩)
          | fail)
        go_ret2
        rw [hI.out]
        exact ⟨rfl, hB1.trans ((hB.trans (hB2.mono hB.size)).mono hB1.size)⟩
end Go.Proofs.YtohcmfobnkaaiaaGreatDoor
