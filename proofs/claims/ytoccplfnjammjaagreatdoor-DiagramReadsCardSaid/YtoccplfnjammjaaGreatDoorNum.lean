/- words: Digits, Int. -/
import Derived.Test.YtoccplfnjammjaaGreatDoorNumM
import Derived.Test.YtoccplfnjammjaaGreatDoorOldA1
import Derived.Test.YtoccplfnjammjaaGreatDoorShelf
import Derived.Laws.EntriesVeiled
set_option linter.unusedSimpArgs false
set_option linter.unusedVariables false
namespace Go.Proofs.YtoccplfnjammjaaGreatDoor
open Go Go.RowKit Tor

def bN (L : List UInt8) : ByteArray := ⟨L.toArray⟩
theorem bN_get (L : List UInt8) (k : Nat) (h : k < (bN L).size) : (bN L)[k] = L[k]'h := rfl
theorem bN_self (s : ByteArray) : bN s.data.toList = s := ByteArray.ext (Array.ext' rfl)
/-- the error of the library that a number is out of range is an error, or none -/
def ErrAt (w : World) : Prop := ∃ ev, w.cell? ⟨3, 0, none⟩ = some ev ∧ (ev = .nilIface ∨ ∃ te pe, ev = .iface te pe)
theorem ErrAt.below {w w' : World} (h : ErrAt w) (hB : Below w.heap.size w w') : ErrAt w' := by
  obtain ⟨ev, h1, h2⟩ := h
  exact ⟨ev, (hB.cell (p := ⟨3, 0, none⟩) (lt_of_cell h1)).trans h1, h2⟩

theorem digitN_any (c : UInt8) (w : World) : Calls Tryz.prog 96 #[.int .u8 c.toNat] w (Ret (.bool (digB c)) w) := by
  have hv : Hid (digB c = (decide (48 ≤ (c.toNat : Int)) && decide ((c.toNat : Int) ≤ 57))) := by
    rw [Hid]; unfold digB
    have e1 : decide (48 ≤ c.toNat) = decide (48 ≤ (c.toNat : Int)) := by apply decide_eq_decide.2; omega
    have e2 : decide (c.toNat ≤ 57) = decide ((c.toNat : Int) ≤ 57) := by apply decide_eq_decide.2; omega
    rw [e1, e2]
  rw [hv.out]
  by_cases h1 : 48 ≤ (c.toNat : Int) <;> by_cases h2 : (c.toNat : Int) ≤ 57
  all_goals
    go_enter Tryz.func96, Tryz.ntmps96
    go_wp2_with fail
    go_ret
    exact Ret.val (by simp [h1, h2]) (Below.refl _ _)

theorem trim_neg (s : List UInt8) : Lib.trimPrefix s [45] = magL s ∧ Lib.hasPrefix s [45] = negB s := by
  cases s with
  | nil => exact ⟨rfl, rfl⟩
  | cons c r =>
    by_cases hc : c = 45
    · subst hc; exact ⟨rfl, rfl⟩
    · have e : negB (c :: r) = false := by unfold negB; rw [List.head?_cons]; exact decide_eq_false (fun e => hc (Option.some.inj e))
      have e2 : Lib.hasPrefix (c :: r) [45] = false := by cases h : Lib.hasPrefix (c :: r) [45] with | false => rfl | true => exact absurd (by simpa [Lib.hasPrefix, List.isPrefixOf] using h) (fun h : (45 : UInt8) = c => hc h.symm)
      refine ⟨?_, by rw [e, e2]⟩
      unfold magL
      rw [e]
      unfold Lib.trimPrefix
      rw [e2]
      rfl

set_option maxRecDepth 100000 in
set_option maxHeartbeats 4000000 in
theorem wint_any (s : ByteArray) (least most : Int) (w : World) (hs : s.size ≤ 1000000) (hE : ErrAt w) :
    Calls Tryz.prog 71 #[.string s, .int .i64 least, .int .i64 most] w (Ret (.tuple #[.int .i64 (intW s.data.toList least most).1, .int .i64 (intW s.data.toList least most).2]) w) := by
  by_cases hlm : most < least
  · have hI : Hid (intW s.data.toList least most = (0, 2)) := by rw [Hid]; unfold intW; rw [if_pos hlm]
    rw [hI.out]
    go_enter Tryz.func71, Tryz.ntmps71
    go_wp2_with fail
    go_ret2
    exact ⟨rfl, Below.refl _ _⟩
  obtain ⟨L, hL⟩ : ∃ L, Hid (s.data.toList = L) := ⟨_, Lib.hid rfl⟩
  obtain ⟨T, hT⟩ : ∃ T, Hid (magL L = T) := ⟨_, Lib.hid rfl⟩
  obtain ⟨N, hN⟩ : ∃ N, Hid (negB L = N) := ⟨_, Lib.hid rfl⟩
  have hTl : T.length ≤ s.size := by
    have h1 : L.length = s.size := by rw [← hL.out]; rfl
    rw [← hT.out, ← h1]
    unfold magL
    split
    · rw [List.length_tail]; omega
    · omega
  have HCP : Hid (∀ w' : World, Calls Tryz.prog 95 #[.string s, .string ⟨#[45]⟩] w' fun e w'' => e = .returned (.tuple #[.string (bN T), .bool N]) ∧ w'' = w') := by
    refine Lib.hid (fun w' => ?_)
    have h := Tryz.strings_CutPrefix s ⟨#[45]⟩ w'
    have e0 : (⟨#[45]⟩ : ByteArray).data.toList = [45] := rfl
    rw [e0, hL.out, (trim_neg L).1, (trim_neg L).2, hT.out, hN.out] at h
    exact h
  rw [hL.out]
  have HI : Hid (intW L least most = if (natB T && !(N && decide (T = [48]))) = false then (0, 6) else if valB L < -9223372036854775808 ∨ 9223372036854775807 < valB L ∨ valB L < least ∨ most < valB L then (0, 7) else (valB L, 0)) := by
    rw [Hid]; unfold intW wholeB; rw [if_neg hlm, hT.out, hN.out]
  have HW : Hid (wholeB L = (natB T && !(N && decide (T = [48])))) := by rw [Hid]; unfold wholeB; rw [hT.out, hN.out]
  have HP := Lib.hid (fun (h : wholeB L = true) => parse_whole h)
  have hz : (bN T).size = T.length := rfl
  have hlm' : ¬ most < least := hlm
  clear hlm
  go_enter Tryz.func71, Tryz.ntmps71
  go_wp2_with (first
    | (go_at_call 95; refine (HCP.out w).mono ?_; rintro e w1 ⟨rfl, rfl⟩)
    | fail)
  go_loopw [23] (fun i wr => ∃ k : Nat, k ≤ T.length ∧ i = .int .i64 k ∧ Hid ((T.take k).all digB = true) ∧ Below w1.heap.size w1 wr) (fun i _ => T.length - (intOf i).toNat)
  case atStart => exact ⟨0, Nat.zero_le _, rfl, Lib.hid rfl, Below.refl _ _⟩
  case round =>
    obtain ⟨k, hk, rfl, hall, hB⟩ := hrel
    by_cases hlt : k < T.length
    · have hk' : k < (bN T).size := hlt
      have HD := Lib.hid (fun (w' : World) => (digitN_any (T[k]'hlt) w' : Calls Tryz.prog 96 #[.int .u8 (((bN T)[k]'hk').toNat : Int)] w' (Ret (.bool (digB (T[k]'hlt))) w')))
      have htk : T.take (k + 1) = T.take k ++ [T[k]'hlt] := (List.take_append_getElem hlt).symm
      cases hd : digB (T[k]'hlt)
      · have hI : Hid (intW L least most = (0, 6)) := by
          rw [Hid, HI.out, if_pos]
          have : T.all digB = false := by
            apply Classical.byContradiction; intro hc
            have hc : T.all digB = true := by cases h : T.all digB <;> simp_all
            have := List.all_eq_true.1 hc _ (List.getElem_mem hlt)
            rw [hd] at this; cases this
          unfold natB; rw [this]; rfl
        rw [hd] at HD
        clear hd htk
        go_wp2_with (first
          | (go_at_call 96; refine (HD.out _).mono ?_; rintro e w2 ⟨rfl, hB2⟩)
          | fail)
        go_ret2
        rw [hI.out]
        exact ⟨rfl, hB.trans (hB2.mono hB.size)⟩
      · have hall' : Hid ((T.take (k + 1)).all digB = true) := by
          rw [Hid, htk, List.all_append, hall.out]; simp [hd]
        rw [hd] at HD
        clear hd htk
        go_wp2_with (first
          | (go_at_call 96; refine (HD.out _).mono ?_; rintro e w2 ⟨rfl, hB2⟩)
          | fail)
        go_roundw
        case rel => exact ⟨k + 1, by omega, by go_num, hall', hB.trans (hB2.mono hB.size)⟩
        case measure => simp [intOf]; omega
    · have ek : k = T.length := by omega
      subst ek
      have hal : T.all digB = true := by have := hall.out; rwa [List.take_length] at this
      have HAL := Lib.hid hal
      clear hal hall
      by_cases hT0 : T = []
      · have q0 : ((bN T).toList == ([] : List UInt8)) = true := by rw [ByteArray.toList_eq, hT0]; rfl
        have HT0 := Lib.hid hT0
        clear hT0
        have hI : Hid (intW L least most = (0, 6)) := by
          rw [Hid, HI.out, if_pos]
          unfold natB; rw [HT0.out]; rfl
        go_wp2_with fail
        go_ret2
        rw [hI.out]
        exact ⟨rfl, hB⟩
      · have hx : 0 < (bN T).size := by
          have : T.length ≠ 0 := fun e => hT0 (List.length_eq_zero_iff.1 e)
          show 0 < T.length
          omega
        have q0 : ((bN T).toList == ([] : List UInt8)) = false := by
          rw [ByteArray.toList_eq]
          show (T == []) = false
          cases T with
          | nil => exact absurd rfl hT0
          | cons a r => rfl
        have hg0 : (bN T)[0]'hx = T[0]'hx := rfl
        have hhd : T.head? = some (T[0]'hx) := by rw [List.head?_eq_getElem?, List.getElem?_eq_getElem hx]
        by_cases h48 : T[0]'hx = 48
        · have q1 : ((((bN T)[0]'hx).toNat : Int) == 48) = true := by rw [hg0, h48]; rfl
          by_cases h1 : 1 < T.length
          · have q2 : (1 : Int) < (T.length : Int) := by omega
            have HH := Lib.hid (show natB T = false by unfold natB; rw [hhd, h48]; simp [h1])
            clear hhd hg0 h48
            have hI : Hid (intW L least most = (0, 6)) := by
              rw [Hid, HI.out, if_pos]
              rw [HH.out]; rfl
            go_wp2_with fail
            go_ret2
            rw [hI.out]
            exact ⟨rfl, hB⟩
          · have q2 : ¬ (1 : Int) < (T.length : Int) := by omega
            have eT : T = [48] := by
              match T, hx, h48, h1 with
              | [a], _, h48, _ => have h9 : a = 48 := h48; rw [h9]
              | [], hx, _, _ => exact absurd hx (by decide)
              | a :: b :: r, _, _, h1 => simp at h1
            have HET := Lib.hid eT
            clear eT hhd hg0 h48
            cases N
            · have hwh : wholeB L = true := by rw [HW.out, HET.out]; decide
              have HWt := Lib.hid hwh
              have hpw := HP.out hwh
              rw [HW.out] at hwh
              by_cases hr : valB L < -9223372036854775808 ∨ 9223372036854775807 < valB L
              · have hI : Hid (intW L least most = (0, 7)) := by
                  rw [Hid, HI.out, if_neg (by rw [hwh]; decide), if_pos (by omega)]
                rw [if_pos hr] at hpw
                have HPR := Lib.hid (fun (w' : World) (hE' : ErrAt w') => (by obtain ⟨ev, h1, h2⟩ := hE'; exact (Tryz.strconv_ParseInt_10_at64_range s (by omega) (by rw [hL.out]; exact hpw) ev w' h1 h2).mono (fun e w'' ⟨N9, q1, _, _, q2⟩ => ⟨_, N9, q1, q2⟩) : Calls Tryz.prog 97 #[.string s, .int .i64 10, .int .i64 64] w' fun e w'' => ∃ (x : Int) (N9 : Nat), e = .returned (.tuple #[.int .i64 x, .iface 172 (.pointer (some ⟨N9, 0, none⟩))]) ∧ Below w'.heap.size w' w''))
                have hE' := hE.below hB
                clear hwh hpw hr
                go_wp2_with (first
                  | (go_at_call 97; refine (HPR.out _ hE').mono ?_; rintro e w2 ⟨x2, N2, rfl, hB2⟩)
                  | fail)
                go_ret2
                rw [hI.out]
                exact ⟨rfl, hB.trans (hB2.mono hB.size)⟩
              · rw [if_neg hr] at hpw
                have HPO := Lib.hid (fun (w' : World) => Tryz.strconv_ParseInt_10_at64_ok s (by omega) (valB L) (by rw [hL.out]; exact hpw) w')
                obtain ⟨v, hv⟩ : ∃ v, Hid (valB L = v) := ⟨_, Lib.hid rfl⟩
                rw [hv.out] at HPO HI hr
                have HR := Lib.hid hr
                have hbw : ∀ w2, (w2 = wr ∨ ∃ t, w2 = Lib.bytesWorld wr 5 t) → Below wr.heap.size wr w2 := fun w2 hw2 => by
                  rcases hw2 with rfl | ⟨t, rfl⟩
                  · exact Below.refl _ _
                  · exact ⟨rfl, rfl, rfl, by rw [Lib.bytesWorld_size]; omega, fun k hk => Lib.bytesWorld_at_old _ _ _ k hk⟩
                have HBW := Lib.hid hbw
                clear hbw hpw
                by_cases h1 : v < least
                · have hI : Hid (intW L least most = (0, 7)) := by
                    rw [Hid, HI.out, if_neg (by rw [hwh]; decide), if_pos (by omega)]
                  clear hwh hr
                  go_wp2_with (first
                    | (go_at_call 97; refine (HPO.out wr).mono ?_; rintro e w2 ⟨rfl, hw2⟩; have hB2 := HBW.out w2 hw2; clear hw2)
                    | fail)
                  go_ret2
                  rw [hI.out]
                  exact ⟨rfl, hB.trans (hB2.mono hB.size)⟩
                · by_cases h2 : most < v
                  · have hI : Hid (intW L least most = (0, 7)) := by
                      rw [Hid, HI.out, if_neg (by rw [hwh]; decide), if_pos (by omega)]
                    clear hwh hr
                    go_wp2_with (first
                      | (go_at_call 97; refine (HPO.out wr).mono ?_; rintro e w2 ⟨rfl, hw2⟩; have hB2 := HBW.out w2 hw2; clear hw2)
                      | fail)
                    go_ret2
                    rw [hI.out]
                    exact ⟨rfl, hB.trans (hB2.mono hB.size)⟩
                  · have hI : Hid (intW L least most = (v, 0)) := by
                      rw [Hid, HI.out, if_neg (by rw [hwh]; decide), if_neg (by omega)]
                    clear hwh hr
                    go_wp2_with (first
                      | (go_at_call 97; refine (HPO.out wr).mono ?_; rintro e w2 ⟨rfl, hw2⟩; have hB2 := HBW.out w2 hw2; clear hw2)
                      | fail)
                    go_ret2
                    rw [hI.out]
                    exact ⟨rfl, hB.trans (hB2.mono hB.size)⟩
            · skip
              have hI : Hid (intW L least most = (0, 6)) := by
                rw [Hid, HI.out, if_pos]
                rw [HET.out]; decide
              go_wp2_with fail
              go_ret2
              rw [hI.out]
              exact ⟨rfl, hB⟩
        · have q1 : ((((bN T)[0]'hx).toNat : Int) == 48) = false := by
            rw [hg0]
            have : (T[0]'hx).toNat ≠ 48 := fun e => h48 (UInt8.toNat_inj.1 e)
            simp; omega
          have hwh : wholeB L = true := by
            have h9 : T.head? ≠ some 48 := by rw [hhd]; exact fun e => h48 (Option.some.inj e)
            have h8 : T ≠ [48] := fun e => h9 (by rw [e]; rfl)
            rw [HW.out]; unfold natB
            rw [HAL.out]
            simp [hT0, h9, h8]
          clear hhd hg0 h48
          have HWt := Lib.hid hwh
          have hpw := HP.out hwh
          rw [HW.out] at hwh
          by_cases hr : valB L < -9223372036854775808 ∨ 9223372036854775807 < valB L
          · have hI : Hid (intW L least most = (0, 7)) := by
              rw [Hid, HI.out, if_neg (by rw [hwh]; decide), if_pos (by omega)]
            rw [if_pos hr] at hpw
            have HPR := Lib.hid (fun (w' : World) (hE' : ErrAt w') => (by obtain ⟨ev, h1, h2⟩ := hE'; exact (Tryz.strconv_ParseInt_10_at64_range s (by omega) (by rw [hL.out]; exact hpw) ev w' h1 h2).mono (fun e w'' ⟨N9, q1, _, _, q2⟩ => ⟨_, N9, q1, q2⟩) : Calls Tryz.prog 97 #[.string s, .int .i64 10, .int .i64 64] w' fun e w'' => ∃ (x : Int) (N9 : Nat), e = .returned (.tuple #[.int .i64 x, .iface 172 (.pointer (some ⟨N9, 0, none⟩))]) ∧ Below w'.heap.size w' w''))
            have hE' := hE.below hB
            clear hwh hpw hr
            go_wp2_with (first
              | (go_at_call 97; refine (HPR.out _ hE').mono ?_; rintro e w2 ⟨x2, N2, rfl, hB2⟩)
              | fail)
            go_ret2
            rw [hI.out]
            exact ⟨rfl, hB.trans (hB2.mono hB.size)⟩
          · rw [if_neg hr] at hpw
            have HPO := Lib.hid (fun (w' : World) => Tryz.strconv_ParseInt_10_at64_ok s (by omega) (valB L) (by rw [hL.out]; exact hpw) w')
            obtain ⟨v, hv⟩ : ∃ v, Hid (valB L = v) := ⟨_, Lib.hid rfl⟩
            rw [hv.out] at HPO HI hr
            have HR := Lib.hid hr
            have hbw : ∀ w2, (w2 = wr ∨ ∃ t, w2 = Lib.bytesWorld wr 5 t) → Below wr.heap.size wr w2 := fun w2 hw2 => by
              rcases hw2 with rfl | ⟨t, rfl⟩
              · exact Below.refl _ _
              · exact ⟨rfl, rfl, rfl, by rw [Lib.bytesWorld_size]; omega, fun k hk => Lib.bytesWorld_at_old _ _ _ k hk⟩
            have HBW := Lib.hid hbw
            clear hbw hpw
            by_cases h1 : v < least
            · have hI : Hid (intW L least most = (0, 7)) := by
                rw [Hid, HI.out, if_neg (by rw [hwh]; decide), if_pos (by omega)]
              clear hwh hr
              go_wp2_with (first
                | (go_at_call 97; refine (HPO.out wr).mono ?_; rintro e w2 ⟨rfl, hw2⟩; have hB2 := HBW.out w2 hw2; clear hw2)
                | fail)
              go_ret2
              rw [hI.out]
              exact ⟨rfl, hB.trans (hB2.mono hB.size)⟩
            · by_cases h2 : most < v
              · have hI : Hid (intW L least most = (0, 7)) := by
                  rw [Hid, HI.out, if_neg (by rw [hwh]; decide), if_pos (by omega)]
                clear hwh hr
                go_wp2_with (first
                  | (go_at_call 97; refine (HPO.out wr).mono ?_; rintro e w2 ⟨rfl, hw2⟩; have hB2 := HBW.out w2 hw2; clear hw2)
                  | fail)
                go_ret2
                rw [hI.out]
                exact ⟨rfl, hB.trans (hB2.mono hB.size)⟩
              · have hI : Hid (intW L least most = (v, 0)) := by
                  rw [Hid, HI.out, if_neg (by rw [hwh]; decide), if_neg (by omega)]
                clear hwh hr
                go_wp2_with (first
                  | (go_at_call 97; refine (HPO.out wr).mono ?_; rintro e w2 ⟨rfl, hw2⟩; have hB2 := HBW.out w2 hw2; clear hw2)
                  | fail)
                go_ret2
                rw [hI.out]
                exact ⟨rfl, hB.trans (hB2.mono hB.size)⟩
end Go.Proofs.YtoccplfnjammjaaGreatDoor
