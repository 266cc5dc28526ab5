/- torchonref01: whole. -/
import Derived.Test.YtohcmfobnkaaiaaGreatDoorRNum
set_option linter.unusedSimpArgs false
set_option linter.unusedVariables false
namespace Go.Proofs.YtohcmfobnkaaiaaGreatDoor
open Go Go.RowKit Tor

theorem rdigitN_any (c : UInt8) (w : World) : Calls Tryz.prog 40 #[.int .u8 c.toNat] w (Ret (.bool (digB c)) w) := by
  have hv : Hid (digB c = (decide (48 ≤ (c.toNat : Int)) && decide ((c.toNat : Int) ≤ 57))) := by
    rw [Hid]; unfold digB
    have e1 : decide (48 ≤ c.toNat) = decide (48 ≤ (c.toNat : Int)) := by apply decide_eq_decide.2; omega
    have e2 : decide (c.toNat ≤ 57) = decide ((c.toNat : Int) ≤ 57) := by apply decide_eq_decide.2; omega
    rw [e1, e2]
  rw [hv.out]
  by_cases h1 : 48 ≤ (c.toNat : Int) <;> by_cases h2 : (c.toNat : Int) ≤ 57
  all_goals
    go_enter Tryz.func40, Tryz.ntmps40
    go_wp2_with fail
    go_ret
    exact Ret.val (by simp [h1, h2]) (Below.refl _ _)
theorem magL_drop (L : List UInt8) : magL L = L.drop (if negB L then 1 else 0) := by
  unfold magL
  cases negB L
  · rfl
  · cases L <;> rfl

theorem two_of {L : List UInt8} (h : L.length = 2) (hN : negB L = true) (hm : magL L = [48]) : L = [45, 48] := by
  unfold magL at hm
  rw [hN] at hm
  match L, h with
  | [a, b], _ =>
    have hb : b = 48 := by simpa using hm
    have ha := of_decide_eq_true hN
    rw [List.head?_cons] at ha
    rw [Option.some.inj ha, hb]

set_option maxRecDepth 100000 in
set_option maxHeartbeats 4000000 in
theorem rwhole_any (L : List UInt8) (w : World) (hl : L.length ≤ 1000000) : Calls Tryz.prog 39 #[.string (bN L)] w (Ret (.bool (wholeB L)) w) := by
  obtain ⟨f, hf⟩ : ∃ f : Nat, Hid ((if negB L then 1 else 0) = f) := ⟨_, Lib.hid rfl⟩
  have hm := magL_drop L
  rw [hf.out] at hm
  have HM := Lib.hid hm
  have hfl : f ≤ L.length := by
    rw [← hf.out]
    cases L with
    | nil => decide
    | cons a r => split <;> simp
  have hz : (bN L).size = L.length := rfl
  have hf1 : f ≤ 1 := by rw [← hf.out]; split <;> omega
  obtain ⟨wo, rfl⟩ : ∃ wo : World, wo = w := ⟨_, rfl⟩
  have main : ∀ (Q : Prop), Q → Q := fun _ h => h
  clear main hm
  -- the sign
  by_cases hL0 : L = []
  · have hW : Hid (wholeB L = false) := by rw [Hid, hL0]; rfl
    rw [hW.out]
    have h0 : L.length = 0 := by rw [hL0]; rfl
    have n0 : ¬ (0 : Int) < (L.length : Int) := by omega
    rw [hL0]
    clear HM hf hfl hf1 hW n0 h0 hz hL0
    go_enter Tryz.func39, Tryz.ntmps39
    go_wp2_with fail
    go_loopw [4] (fun i wr => i = .int .i64 0 ∧ Below wo.heap.size wo wr) (fun i _ => 0)
    case atStart => exact ⟨rfl, Below.refl _ _⟩
    case round =>
      obtain ⟨rfl, hB⟩ := hrel
      have hz0 : (bN []).size = 0 := rfl
      go_wp2_with fail
      go_ret
      exact Ret.val rfl hB
  · have hx : 0 < (bN L).size := by
      have : L.length ≠ 0 := fun e => hL0 (List.length_eq_zero_iff.1 e)
      show 0 < L.length
      omega
    have n0 : (0 : Int) < (L.length : Int) := by have : 0 < L.length := hx; omega
    have q45 : ((((bN L)[0]'hx).toNat : Int) == 45) = negB L := by
      have e1 : L.head? = some ((bN L)[0]'hx) := by rw [List.head?_eq_getElem?, List.getElem?_eq_getElem hx]; rfl
      unfold negB
      rw [e1]
      by_cases h : (bN L)[0]'hx = 45
      · rw [h]; rfl
      · have h9 : ((bN L)[0]'hx).toNat ≠ 45 := fun e => h (UInt8.toNat_inj.1 e)
        have h8 : ((((bN L)[0]'hx).toNat : Int) == 45) = false := by simp; omega
        rw [h8]
        exact (decide_eq_false (fun e => h (Option.some.inj e))).symm
    cases hN : negB L
    · rw [hN] at q45 hf
      have hf0 : f = 0 := hf.out.symm
      subst hf0
      clear hf hf1
      go_enter Tryz.func39, Tryz.ntmps39
      go_wp2_with fail
      go_loopw [4] (fun i wr => ∃ k : Nat, 0 ≤ k ∧ k ≤ L.length ∧ i = .int .i64 k ∧ Hid (((L.take k).drop 0).all digB = true) ∧ Below wo.heap.size wo wr) (fun i _ => L.length - (intOf i).toNat)
      case atStart => exact ⟨0, Nat.le_refl _, hfl, rfl, Lib.hid (by rw [List.drop_take]; rfl), Below.refl _ _⟩
      case round =>
        obtain ⟨k, hfk, hk, rfl, hall, hB⟩ := hrel
        by_cases hlt : k < L.length
        · have hk' : k < (bN L).size := hlt
          have HD := Lib.hid (fun (w' : World) => (rdigitN_any (L[k]'hlt) w' : Calls Tryz.prog 40 #[.int .u8 (((bN L)[k]'hk').toNat : Int)] w' (Ret (.bool (digB (L[k]'hlt))) w')))
          have hin : L[k]'hlt ∈ magL L := by
            rw [HM.out]
            refine List.mem_iff_getElem.2 ⟨k - 0, by rw [List.length_drop]; omega, ?_⟩
            rw [List.getElem_drop]
            congr 1
            omega
          have htk : (L.take (k + 1)).drop 0 = (L.take k).drop 0 ++ [L[k]'hlt] := by
            rw [← List.take_append_getElem hlt, List.drop_append_of_le_length (by rw [List.length_take]; omega)]
          cases hd : digB (L[k]'hlt)
          · have hI : Hid (wholeB L = false) := by
              have : (magL L).all digB = false := by
                cases h : (magL L).all digB
                · rfl
                · have := List.all_eq_true.1 h _ hin
                  rw [hd] at this; cases this
              rw [Hid]; unfold wholeB natB; rw [this]; rfl
            rw [hd] at HD
            clear hd htk hin
            go_wp2_with (first
              | (go_at_call 40; refine (HD.out _).mono ?_; rintro e w2 ⟨rfl, hB2⟩)
              | fail)
            go_ret
            rw [hI.out]
            exact Ret.val rfl (hB.trans (hB2.mono hB.size))
          · have hall' : Hid (((L.take (k + 1)).drop 0).all digB = true) := by
              rw [Hid, htk, List.all_append, hall.out]; simp [hd]
            rw [hd] at HD
            clear hd htk hin
            go_wp2_with (first
              | (go_at_call 40; refine (HD.out _).mono ?_; rintro e w2 ⟨rfl, hB2⟩)
              | fail)
            go_roundw
            case rel => exact ⟨k + 1, by omega, by omega, by go_num, hall', hB.trans (hB2.mono hB.size)⟩
            case measure => simp [intOf]; omega
        · have ek : k = L.length := by omega
          subst ek
          have hal : (magL L).all digB = true := by have := hall.out; rw [List.take_length] at this; rw [HM.out]; exact this
          have HAL := Lib.hid hal
          have hml : (magL L).length = L.length - 0 := by rw [HM.out, List.length_drop]
          clear hal hall
          by_cases he : L.length = 0
          · have e0 : ((L.length : Int) == 0) = true := by rw [he]; rfl
            have hI : Hid (wholeB L = false) := by
              have : magL L = [] := List.length_eq_zero_iff.1 (by omega)
              rw [Hid]; unfold wholeB natB; rw [this]; rfl
            clear he hml
            go_wp2_with fail
            go_ret
            rw [hI.out]
            exact Ret.val rfl hB
          · have e0 : ((L.length : Int) == 0) = false := by simp; omega
            have hxf : 0 < (bN L).size := by show 0 < L.length; omega
            have hg : (bN L)[0]'hxf = L[0]'hxf := rfl
            have hhd : (magL L).head? = some (L[0]'hxf) := by rw [HM.out, List.head?_drop, List.getElem?_eq_getElem hxf]
            by_cases h48 : L[0]'hxf = 48
            · have q48 : ((((bN L)[0]'hxf).toNat : Int) == 48) = true := by rw [hg, h48]; rfl
              by_cases h1 : 1 < L.length
              · have e1 : (1 : Int) < (L.length : Int) := by omega
                have hI : Hid (wholeB L = false) := by
                  rw [Hid]; unfold wholeB natB; rw [hhd, h48]
                  have : 1 < (magL L).length := by omega
                  simp [this]
                clear he hml hhd h48 h1 hg
                go_wp2_with fail
                go_ret
                rw [hI.out]
                exact Ret.val rfl hB
              · have e1 : ¬ (1 : Int) < (L.length : Int) := by omega
                have em : magL L = [48] := by
                  have hl1 : (magL L).length = 1 := by omega
                  match hM : magL L, hl1, hhd with
                  | [a], _, hhd => rw [List.head?_cons] at hhd; rw [Option.some.inj hhd, h48]
                have hI : Hid (wholeB L = true) := by
                  rw [Hid]; unfold wholeB; rw [em, hN]; decide
                have hq : Hid ((!decide (L = [45, 48])) = true) := by
                  have : L ≠ [45, 48] := fun e => by
                    rw [e] at hN; revert hN; decide
                    done
                  rw [Hid]; simp [this]
                have hq2 : ((bN L).toList == [45, 48]) = decide (L = [45, 48]) := by rw [ByteArray.toList_eq, show (bN L).data.toList = L from rfl]; by_cases h : L = [45, 48] <;> simp [h]
                clear he hml hhd h48 h1 hg em
                go_wp2_with fail
                go_ret
                rw [hI.out]
                exact Ret.val (by show Value.bool (!decide (L = [45, 48])) = _; rw [hq.out]) hB
            · have q48 : ((((bN L)[0]'hxf).toNat : Int) == 48) = false := by
                rw [hg]
                have : (L[0]'hxf).toNat ≠ 48 := fun e => h48 (UInt8.toNat_inj.1 e)
                simp; omega
              have hI : Hid (wholeB L = true) := by
                have h9 : (magL L).head? ≠ some 48 := by rw [hhd]; exact fun e => h48 (Option.some.inj e)
                have h8 : magL L ≠ [48] := fun e => h9 (by rw [e]; rfl)
                have h7 : magL L ≠ [] := fun e => by rw [e] at hml; simp at hml; omega
                rw [Hid]; unfold wholeB natB
                rw [HAL.out]
                simp [h7, h8, h9]
              have hq : Hid ((!decide (L = [45, 48])) = true) := by
                have : L ≠ [45, 48] := fun e => by
                  rw [e] at hN; revert hN; decide
                  done
                rw [Hid]; simp [this]
              have hq2 : ((bN L).toList == [45, 48]) = decide (L = [45, 48]) := by rw [ByteArray.toList_eq, show (bN L).data.toList = L from rfl]; by_cases h : L = [45, 48] <;> simp [h]
              clear he hml hhd h48 hg
              go_wp2_with fail
              go_ret
              rw [hI.out]
              exact Ret.val (by show Value.bool (!decide (L = [45, 48])) = _; rw [hq.out]) hB
    · rw [hN] at q45 hf
      have hf0 : f = 1 := hf.out.symm
      subst hf0
      clear hf hf1
      go_enter Tryz.func39, Tryz.ntmps39
      go_wp2_with fail
      go_loopw [4] (fun i wr => ∃ k : Nat, 1 ≤ k ∧ k ≤ L.length ∧ i = .int .i64 k ∧ Hid (((L.take k).drop 1).all digB = true) ∧ Below wo.heap.size wo wr) (fun i _ => L.length - (intOf i).toNat)
      case atStart => exact ⟨1, Nat.le_refl _, hfl, rfl, Lib.hid (by rw [List.drop_take]; rfl), Below.refl _ _⟩
      case round =>
        obtain ⟨k, hfk, hk, rfl, hall, hB⟩ := hrel
        by_cases hlt : k < L.length
        · have hk' : k < (bN L).size := hlt
          have HD := Lib.hid (fun (w' : World) => (rdigitN_any (L[k]'hlt) w' : Calls Tryz.prog 40 #[.int .u8 (((bN L)[k]'hk').toNat : Int)] w' (Ret (.bool (digB (L[k]'hlt))) w')))
          have hin : L[k]'hlt ∈ magL L := by
            rw [HM.out]
            refine List.mem_iff_getElem.2 ⟨k - 1, by rw [List.length_drop]; omega, ?_⟩
            rw [List.getElem_drop]
            congr 1
            omega
          have htk : (L.take (k + 1)).drop 1 = (L.take k).drop 1 ++ [L[k]'hlt] := by
            rw [← List.take_append_getElem hlt, List.drop_append_of_le_length (by rw [List.length_take]; omega)]
          cases hd : digB (L[k]'hlt)
          · have hI : Hid (wholeB L = false) := by
              have : (magL L).all digB = false := by
                cases h : (magL L).all digB
                · rfl
                · have := List.all_eq_true.1 h _ hin
                  rw [hd] at this; cases this
              rw [Hid]; unfold wholeB natB; rw [this]; rfl
            rw [hd] at HD
            clear hd htk hin
            go_wp2_with (first
              | (go_at_call 40; refine (HD.out _).mono ?_; rintro e w2 ⟨rfl, hB2⟩)
              | fail)
            go_ret
            rw [hI.out]
            exact Ret.val rfl (hB.trans (hB2.mono hB.size))
          · have hall' : Hid (((L.take (k + 1)).drop 1).all digB = true) := by
              rw [Hid, htk, List.all_append, hall.out]; simp [hd]
            rw [hd] at HD
            clear hd htk hin
            go_wp2_with (first
              | (go_at_call 40; refine (HD.out _).mono ?_; rintro e w2 ⟨rfl, hB2⟩)
              | fail)
            go_roundw
            case rel => exact ⟨k + 1, by omega, by omega, by go_num, hall', hB.trans (hB2.mono hB.size)⟩
            case measure => simp [intOf]; omega
        · have ek : k = L.length := by omega
          subst ek
          have hal : (magL L).all digB = true := by have := hall.out; rw [List.take_length] at this; rw [HM.out]; exact this
          have HAL := Lib.hid hal
          have hml : (magL L).length = L.length - 1 := by rw [HM.out, List.length_drop]
          clear hal hall
          by_cases he : L.length = 1
          · have e0 : ((L.length : Int) == 1) = true := by rw [he]; rfl
            have hI : Hid (wholeB L = false) := by
              have : magL L = [] := List.length_eq_zero_iff.1 (by omega)
              rw [Hid]; unfold wholeB natB; rw [this]; rfl
            clear he hml
            go_wp2_with fail
            go_ret
            rw [hI.out]
            exact Ret.val rfl hB
          · have e0 : ((L.length : Int) == 1) = false := by simp; omega
            have hxf : 1 < (bN L).size := by show 1 < L.length; omega
            have hg : (bN L)[1]'hxf = L[1]'hxf := rfl
            have hhd : (magL L).head? = some (L[1]'hxf) := by rw [HM.out, List.head?_drop, List.getElem?_eq_getElem hxf]
            by_cases h48 : L[1]'hxf = 48
            · have q48 : ((((bN L)[1]'hxf).toNat : Int) == 48) = true := by rw [hg, h48]; rfl
              by_cases h1 : 2 < L.length
              · have e1 : (2 : Int) < (L.length : Int) := by omega
                have hI : Hid (wholeB L = false) := by
                  rw [Hid]; unfold wholeB natB; rw [hhd, h48]
                  have : 1 < (magL L).length := by omega
                  simp [this]
                clear he hml hhd h48 h1 hg
                go_wp2_with fail
                go_ret
                rw [hI.out]
                exact Ret.val rfl hB
              · have e1 : ¬ (2 : Int) < (L.length : Int) := by omega
                have em : magL L = [48] := by
                  have hl1 : (magL L).length = 1 := by omega
                  match hM : magL L, hl1, hhd with
                  | [a], _, hhd => rw [List.head?_cons] at hhd; rw [Option.some.inj hhd, h48]
                have hI : Hid (wholeB L = false) := by
                  rw [Hid]; unfold wholeB; rw [em, hN]; decide
                have hq : Hid ((!decide (L = [45, 48])) = false) := by
                  have : L = [45, 48] := by
                    have h2 : L.length = 2 := by omega
                    exact two_of h2 hN em
                  rw [Hid]; simp [this]
                have hq2 : ((bN L).toList == [45, 48]) = decide (L = [45, 48]) := by rw [ByteArray.toList_eq, show (bN L).data.toList = L from rfl]; by_cases h : L = [45, 48] <;> simp [h]
                clear he hml hhd h48 h1 hg em
                go_wp2_with fail
                go_ret
                rw [hI.out]
                exact Ret.val (by show Value.bool (!decide (L = [45, 48])) = _; rw [hq.out]) hB
            · have q48 : ((((bN L)[1]'hxf).toNat : Int) == 48) = false := by
                rw [hg]
                have : (L[1]'hxf).toNat ≠ 48 := fun e => h48 (UInt8.toNat_inj.1 e)
                simp; omega
              have hI : Hid (wholeB L = true) := by
                have h9 : (magL L).head? ≠ some 48 := by rw [hhd]; exact fun e => h48 (Option.some.inj e)
                have h8 : magL L ≠ [48] := fun e => h9 (by rw [e]; rfl)
                have h7 : magL L ≠ [] := fun e => by rw [e] at hml; simp at hml; omega
                rw [Hid]; unfold wholeB natB
                rw [HAL.out]
                simp [h7, h8, h9]
              have hq : Hid ((!decide (L = [45, 48])) = true) := by
                have : L ≠ [45, 48] := fun e => by
                  have h9 : (magL L) = [48] := by rw [e]; rfl
                  rw [h9] at hhd; exact h48 (Option.some.inj hhd).symm
                rw [Hid]; simp [this]
              have hq2 : ((bN L).toList == [45, 48]) = decide (L = [45, 48]) := by rw [ByteArray.toList_eq, show (bN L).data.toList = L from rfl]; by_cases h : L = [45, 48] <;> simp [h]
              clear he hml hhd h48 hg
              go_wp2_with fail
              go_ret
              rw [hI.out]
              exact Ret.val (by show Value.bool (!decide (L = [45, 48])) = _; rw [hq.out]) hB
end Go.Proofs.YtohcmfobnkaaiaaGreatDoor
