/- words: the method right of a field. -/
import Derived.Test.YtohcmfobnkaaiaaGreatDoorWUnq
set_option linter.unusedSimpArgs false
set_option linter.unusedVariables false
namespace Go.Proofs.YtohcmfobnkaaiaaGreatDoor
open Go Go.RowKit Tor

theorem idx_contains : ∀ (L : List UInt8) (c : UInt8), decide (0 ≤ Lib.indexByte L c) = L.contains c
  | [], c => rfl
  | b :: L, c => by
    have ih := idx_contains L c
    have hg := Lib.indexByte_ge L c
    rw [Lib.indexByte, List.contains_cons]
    by_cases hb : b = c
    · subst hb
      simp
    · have h1 : (b == c) = false := beq_eq_false_iff_ne.2 hb
      have h2 : (c == b) = false := beq_eq_false_iff_ne.2 (fun h => hb h.symm)
      rw [h1, h2, Bool.false_or, ← ih]
      by_cases hi : Lib.indexByte L c = -1
      · rw [hi]; rfl
      · have h3 : (Lib.indexByte L c == -1) = false := beq_eq_false_iff_ne.2 hi
        simp only [h3, Bool.false_eq_true, if_false]
        rw [decide_eq_true (by omega), decide_eq_true (by omega)]

/-- a field as the machine holds it -/
def fldV (x : Fld) : Value := .agg #[.bool x.q, .string (bN x.s)]
set_option maxRecDepth 100000 in
set_option maxHeartbeats 2000000 in
theorem right_any (x : Fld) (w : World) (hs : x.s.length ≤ 1000000) : Calls Tryz.prog 31 #[.agg #[.bool x.q, .string (bN x.s)]] w (Ret (.bool (rightF x)) w) := by
  obtain ⟨q, L⟩ := x
  simp only at hs ⊢
  have hz : (bN L).size = L.length := rfl
  have HT := Lib.hid (fun w => text_any L w (by omega))
  have HP := Lib.hid (fun w => printed_any L 33 w (by omega))
  have HC := Lib.hid (fun w => (by have := Tryz.strings_Contains_one (bN L) 34 w; rw [show (bN L).data.toList = L from rfl, idx_contains] at this; exact this : Calls Tryz.prog 47 #[.string (bN L), .string ⟨#[34]⟩] w fun e w' => e = .returned (.bool (L.contains 34)) ∧ w' = w))
  cases q
  · have hP : Hid (rightF ⟨false, L⟩ = (decide (L ≠ []) && (decide (L.length ≤ 200) && (prB 33 L && !L.contains 34)))) := Lib.hid rfl
    rw [hP.out]
    obtain ⟨c, hc⟩ : ∃ c, Hid (L.contains 34 = c) := ⟨_, Lib.hid rfl⟩
    obtain ⟨p, hp⟩ : ∃ p, Hid (prB 33 L = p) := ⟨_, Lib.hid rfl⟩
    rw [hc.out] at HC ⊢
    rw [hp.out] at HP ⊢
    clear hc hp hP HT
    by_cases h0 : L = []
    · subst h0
      rw [show (decide (([] : List UInt8) ≠ []) && (decide (([] : List UInt8).length ≤ 200) && (p && !c))) = false from rfl]
      clear HP HC
      have tL : (bN []).toList = [] := Lib.toList_data _
      go_enter Tryz.func31, Tryz.ntmps31
      go_wp2_with fail
      go_ret
      exact ⟨rfl, by (repeat' first | exact Below.refl _ _ | apply Below.drew | (refine Below.setCells ?_ _ _ ?_) | (refine Below.setCell ?_ ?_ _) | (refine Below.alloc ?_ ?_ _) | (simp; done) | (simp; omega))⟩
    have h0' : (L == []) = false := beq_eq_false_iff_ne.2 h0
    have tL : (bN L).toList = L := Lib.toList_data _
    rw [decide_eq_true h0]
    clear h0
    by_cases h2 : L.length ≤ 200
    · rw [decide_eq_true h2]
      have h1 : (L.length : Int) ≤ 200 := by omega
      clear h2 hs
      cases p
      · go_enter Tryz.func31, Tryz.ntmps31
        go_wp2_with (first
          | (go_at_call 41
             refine (HP.out _).mono ?_
             rintro e w1 ⟨rfl, hB1⟩)
          | fail)
        go_ret
        exact ⟨rfl, ((Below.refl _ _).alloc (Nat.le_refl _) _).trans (hB1.mono (by simp))⟩
      · go_enter Tryz.func31, Tryz.ntmps31
        go_wp2_with (first
          | (go_at_call 41
             refine (HP.out _).mono ?_
             rintro e w1 ⟨rfl, hB1⟩
             have k1 := ((Blk.new w 78 #[.bool false, .string (bN L)]).below' hB1).cell 1 _ rfl)
          | (go_at_call 47
             refine (HC.out _).mono ?_
             rintro e w2 ⟨rfl, rfl⟩)
          | fail)
        go_ret
        exact ⟨by simp, ((Below.refl _ _).alloc (Nat.le_refl _) _).trans (hB1.mono (by simp))⟩
    · rw [decide_eq_false h2]
      have h1 : ¬ (L.length : Int) ≤ 200 := by omega
      clear h2 hs HP HC
      go_enter Tryz.func31, Tryz.ntmps31
      go_wp2_with fail
      go_ret
      exact ⟨rfl, by (repeat' first | exact Below.refl _ _ | apply Below.drew | (refine Below.setCells ?_ _ _ ?_) | (refine Below.setCell ?_ ?_ _) | (refine Below.alloc ?_ ?_ _) | (simp; done) | (simp; omega))⟩
  · have hP : Hid (rightF ⟨true, L⟩ = textB L) := Lib.hid rfl
    rw [hP.out]
    obtain ⟨b, hb⟩ : ∃ b, Hid (textB L = b) := ⟨_, Lib.hid rfl⟩
    rw [hb.out] at HT ⊢
    clear hb hP HP HC
    go_enter Tryz.func31, Tryz.ntmps31
    go_wp2_with (first
      | (go_at_call 26
         refine (HT.out _).mono ?_
         rintro e w1 ⟨rfl, hB1⟩)
      | fail)
    go_ret
    exact ⟨rfl, ((Below.refl _ _).alloc (Nat.le_refl _) _).trans (hB1.mono (by simp))⟩
end Go.Proofs.YtohcmfobnkaaiaaGreatDoor
