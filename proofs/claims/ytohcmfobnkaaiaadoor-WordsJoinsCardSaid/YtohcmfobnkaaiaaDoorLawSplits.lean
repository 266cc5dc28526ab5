/- torchonlaw01: WordsSplits. -/
import Derived.Test.YtohcmfobnkaaiaaDoorJoinM
set_option linter.unusedSimpArgs false
set_option linter.unusedVariables false
namespace Go.Proofs.YtohcmfobnkaaiaaDoor
open Go Go.RowKit Tor

set_option maxRecDepth 100000 in
set_option maxHeartbeats 2000000 in
theorem lawSplits_any (L : List UInt8) (w : World) (h : WdAt w) : Calls Tryd.prog 10 #[.string (bN L)] w (Ret (.bool true) w) := by
  have hz : (bN L).size = L.length := rfl
  have HS := Lib.hid (fun (w' : World) (hw : WdAt w') => shown_any w' hw)
  by_cases h2 : 6000 < L.length
  · have i1 : (6000 : Int) < L.length := by omega
    clear h2
    go_enter Tryd.func10, Tryd.ntmps10
    go_wp2_with (first
      | (go_at_call 12; refine (HS.out _ h).mono ?_; rintro e w1 ⟨rfl, hB1⟩)
      | fail)
    go_ret
    exact ⟨rfl, hB1⟩
  have i1 : ¬ (6000 : Int) < L.length := by omega
  have H1 := Lib.hid (fun w' hw' => wsplit_any L w' (by omega) hw')
  have H2 := Lib.hid (fun w' => rsplit_any L w' (by omega))
  have tL : (bN L).toList = L := Lib.toList_data _
  obtain ⟨l, n, hP, hl, hsx, hn⟩ : ∃ l n, splitP L = (l, n) ∧ l.length ≤ 64 ∧ (∀ x ∈ l, x.s.length ≤ 200) ∧ ((n = 0 ∧ joinP l = (L, 0)) ∨ (n == 0) = false) := by
    rcases split_kinds L with ⟨l, a, b, c⟩ | ⟨n, a, b⟩
    · exact ⟨l, 0, a, b, c, .inl ⟨rfl, split_join a⟩⟩
    · exact ⟨[], n, a, by simp, by simp, .inr b⟩
  rw [hP] at H1 H2
  have HSX := Lib.hid hsx
  clear h2 hP hsx
  rcases hn with ⟨rfl, hj⟩ | hn
  · have HJ := Lib.hid hj
    clear hj
    go_enter Tryd.func10, Tryd.ntmps10
    go_wp2_with fail
    refine (H1.out _ h).mono ?_
    rintro e w1 ⟨v1, rfl, ho1, hB1⟩
    obtain ⟨A, c, rfl, _, hr1⟩ := Tor.Own.rd fenc_len ho1
    go_wp2_with fail
    refine (H2.out _).mono ?_
    rintro e w2 ⟨v2, rfl, ho2, hB2⟩
    obtain ⟨A', c', rfl, _, hr2⟩ := Tor.Own.rd fenc_len ho2
    have q2 := hB1.trans (hB2.mono hB1.size)
    have hr1' := (hr1.below hB2).more hB2.size
    go_wp2_with fail
    refine (lfields_any A l c w2 hr1' (by omega)).mono ?_
    rintro e w3 ⟨v3, rfl, ho3, hB3⟩
    obtain ⟨A3, c3, rfl, _, hr3⟩ := Tor.Own.rd fenc_len ho3
    have q3 := q2.trans (hB3.mono q2.size)
    have hr1'' := (hr1'.below hB3).more hB3.size
    have hr2' := (hr2.below hB3).more hB3.size
    go_wp2_with fail
    refine (lalike_any A3 A' l l c3 c' w3 hr3 hr2' (by omega) (by omega)).mono ?_
    rw [decide_eq_true (rfl : l = l)]
    rintro e w4 ⟨rfl, hB4⟩
    have q4 := q3.trans (hB4.mono q3.size)
    have hr14 := (hr1''.below hB4).more hB4.size
    go_wp2_with fail
    refine (wjoin_any A l c w4 (h.below q4) hr14 (by omega) (fun x hx => by have := HSX.out x hx; omega)).mono ?_
    rw [HJ.out]
    rintro e w5 ⟨rfl, hB5⟩
    have q5 := q4.trans (hB5.mono q4.size)
    go_wp2_with fail
    refine (HS.out _ (h.below q5)).mono ?_
    rintro e w6 ⟨rfl, hB6⟩
    go_wp2_with fail
    go_ret
    exact ⟨rfl, q5.trans (hB6.mono q5.size)⟩
  · go_enter Tryd.func10, Tryd.ntmps10
    go_wp2_with fail
    refine (H1.out _ h).mono ?_
    rintro e w1 ⟨v1, rfl, ho1, hB1⟩
    obtain ⟨A, c, rfl, _, hr1⟩ := Tor.Own.rd fenc_len ho1
    go_wp2_with fail
    refine (H2.out _).mono ?_
    rintro e w2 ⟨v2, rfl, ho2, hB2⟩
    obtain ⟨A', c', rfl, _, hr2⟩ := Tor.Own.rd fenc_len ho2
    have q2 := hB1.trans (hB2.mono hB1.size)
    have hr1' := (hr1.below hB2).more hB2.size
    go_wp2_with fail
    refine (lfields_any A l c w2 hr1' (by omega)).mono ?_
    rintro e w3 ⟨v3, rfl, ho3, hB3⟩
    obtain ⟨A3, c3, rfl, _, hr3⟩ := Tor.Own.rd fenc_len ho3
    have q3 := q2.trans (hB3.mono q2.size)
    have hr2' := (hr2.below hB3).more hB3.size
    go_wp2_with fail
    refine (lalike_any A3 A' l l c3 c' w3 hr3 hr2' (by omega) (by omega)).mono ?_
    rw [decide_eq_true (rfl : l = l)]
    rintro e w4 ⟨rfl, hB4⟩
    have q4 := q3.trans (hB4.mono q3.size)
    go_wp2_with fail
    refine (HS.out _ (h.below q4)).mono ?_
    rintro e w6 ⟨rfl, hB6⟩
    go_wp2_with fail
    go_ret
    exact ⟨rfl, q4.trans (hB6.mono q4.size)⟩
end Go.Proofs.YtohcmfobnkaaiaaDoor
