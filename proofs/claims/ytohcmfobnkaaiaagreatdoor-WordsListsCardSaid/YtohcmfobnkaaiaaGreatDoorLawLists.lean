/- torchonlaw01: WordsLists. -/
import Derived.Test.YtohcmfobnkaaiaaGreatDoorRLst2
import Derived.Test.YtohcmfobnkaaiaaGreatDoorRPrs2
set_option linter.unusedSimpArgs false
set_option linter.unusedVariables false
namespace Go.Proofs.YtohcmfobnkaaiaaGreatDoor
open Go Go.RowKit Tor

theorem list_kinds (l : List Int) : (∃ t, listP l = (t, 0) ∧ parseP t = (l, 0) ∧ t.length ≤ 2500 ∧ l.length ≤ 500) ∨ ∃ n : Int, listP l = ([], n) ∧ (n == 0) = false := by
  by_cases h5 : 500 < l.length
  · exact .inr ⟨3, by unfold listP; rw [if_pos h5], rfl⟩
  by_cases hb : l.any (fun n => decide (n < 0) || decide (9999 < n)) = true
  · exact .inr ⟨7, by unfold listP; rw [if_neg h5, if_pos hb], rfl⟩
  · have hok : OkL l := fun x hx => by
      have := List.any_eq_false.1 (Bool.eq_false_iff.2 hb) x hx
      simp only [Bool.or_eq_true, decide_eq_true_eq] at this
      omega
    have := lst_len hok (by omega)
    exact .inl ⟨lstT l, listP_ok hok (by omega), parse_list hok (by omega), by omega, by omega⟩
theorem parse_len (L : List UInt8) : ∃ m n, parseP L = (m, n) ∧ m.length ≤ 500 := by
  rcases parse_kinds L with ⟨l, h, _, hn, _⟩ | ⟨n, h, _⟩
  · exact ⟨l, 0, h, hn⟩
  · exact ⟨[], n, h, by simp⟩
set_option maxRecDepth 100000 in
set_option maxHeartbeats 8000000 in
theorem lawLists_any (A : Option Addr) (l : List Int) (c : Nat) (L : List UInt8) (w : World) (h : WdAt w) (hr : RdI w w.heap.size A l) (hlc : l.length ≤ c) (hc : c ≤ 9223372036854775807) :
    Calls Tryz.prog 3 #[.slice A l.length c, .string (bN L)] w (Ret (.bool true) w) := by
  have hz : (bN L).size = L.length := rfl
  have HS := Lib.hid (fun (w' : World) (hw : WdAt w') => shown_any w' hw)
  by_cases h1 : 520 < l.length
  · have i1 : (520 : Int) < l.length := by omega
    clear h1
    go_enter Tryz.func3, Tryz.ntmps3
    go_wp2_with fail
    refine (HS.out _ h).mono ?_
    rintro e w1 ⟨rfl, hB1⟩
    go_wp2_with fail
    go_ret
    exact ⟨rfl, hB1⟩
  have i1 : ¬ (520 : Int) < l.length := by omega
  by_cases h2 : 3000 < L.length
  · have i2 : (3000 : Int) < L.length := by omega
    clear h1 h2
    go_enter Tryz.func3, Tryz.ntmps3
    go_wp2_with fail
    refine (HS.out _ h).mono ?_
    rintro e w1 ⟨rfl, hB1⟩
    go_wp2_with fail
    go_ret
    exact ⟨rfl, hB1⟩
  have i2 : ¬ (3000 : Int) < L.length := by omega
  have H1 := Lib.hid (fun w' hr' hw' => wlist_any A l c w' hr' (by omega) hlc hw')
  have H2 := Lib.hid (fun w' hr' => rlist_any A l c w' hr' (by omega) hlc hc)
  have H3 := Lib.hid (fun w' hw' => parse_any L w' (by omega) hw' (fun t ht => okIdx_any t (by have := split_mem ht; omega)))
  have H4 := Lib.hid (fun w' => rparse_any L w' (by omega))
  obtain ⟨m, n, hm, hml⟩ := parse_len L
  rw [hm] at H3 H4
  clear h1 h2 hm
  rcases list_kinds l with ⟨t, ht, hp, htl, hl5⟩ | ⟨k, hk, hk0⟩
  · rw [ht] at H1 H2
    have H5 := Lib.hid (fun w' hw' => parse_any t w' (by omega) hw' (fun u hu => okIdx_any u (by have := split_mem hu; omega)))
    rw [hp] at H5
    have tt : (bN t).toList = t := Lib.toList_data _
    clear ht hp
    go_enter Tryz.func3, Tryz.ntmps3
    go_wp2_with fail
    refine (H1.out _ hr h).mono ?_
    rintro e w1 ⟨rfl, hB1⟩
    have hr1 := (hr.below hB1).more hB1.size
    go_wp2_with fail
    refine (H2.out _ hr1).mono ?_
    rintro e w2 ⟨rfl, hB2⟩
    have q2 := hB1.trans (hB2.mono hB1.size)
    go_wp2_with fail
    refine (H3.out _ (h.below q2)).mono ?_
    rintro e w3 ⟨v3, rfl, ho3, hB3⟩
    obtain ⟨A3, c3, rfl, _, hr3⟩ := Tor.Own.rd int_len ho3
    have q3 := q2.trans (hB3.mono q2.size)
    go_wp2_with fail
    refine (H4.out _).mono ?_
    rintro e w4 ⟨v4, rfl, ho4, hB4⟩
    obtain ⟨A4, c4, rfl, _, hr4⟩ := Tor.Own.rd int_len ho4
    have q4 := q3.trans (hB4.mono q3.size)
    have hr34 := (hr3.below hB4).more hB4.size
    go_wp2_with fail
    refine (lints_any A3 A4 m m c3 c4 w4 hr34 hr4 (by omega) (by omega)).mono ?_
    rw [decide_eq_true (rfl : m = m)]
    rintro e w5 ⟨rfl, hB5⟩
    have q5 := q4.trans (hB5.mono q4.size)
    go_wp2_with fail
    refine (H5.out _ (h.below q5)).mono ?_
    rintro e w6 ⟨v6, rfl, ho6, hB6⟩
    obtain ⟨A6, c6, rfl, _, hr6⟩ := Tor.Own.rd int_len ho6
    have q6 := q5.trans (hB6.mono q5.size)
    go_wp2_with fail
    refine (lints_any A6 A l l c6 c w6 hr6 ((hr.below q6).more q6.size) (by omega) (by omega)).mono ?_
    rw [decide_eq_true (rfl : l = l)]
    rintro e w7 ⟨rfl, hB7⟩
    have q7 := q6.trans (hB7.mono q6.size)
    go_wp2_with fail
    refine (HS.out _ (h.below q7)).mono ?_
    rintro e w8 ⟨rfl, hB8⟩
    go_wp2_with fail
    go_ret
    exact ⟨rfl, q7.trans (hB8.mono q7.size)⟩
  · rw [hk] at H1 H2
    clear hk
    go_enter Tryz.func3, Tryz.ntmps3
    go_wp2_with fail
    refine (H1.out _ hr h).mono ?_
    rintro e w1 ⟨rfl, hB1⟩
    have hr1 := (hr.below hB1).more hB1.size
    go_wp2_with fail
    refine (H2.out _ hr1).mono ?_
    rintro e w2 ⟨rfl, hB2⟩
    have q2 := hB1.trans (hB2.mono hB1.size)
    go_wp2_with fail
    refine (H3.out _ (h.below q2)).mono ?_
    rintro e w3 ⟨v3, rfl, ho3, hB3⟩
    obtain ⟨A3, c3, rfl, _, hr3⟩ := Tor.Own.rd int_len ho3
    have q3 := q2.trans (hB3.mono q2.size)
    go_wp2_with fail
    refine (H4.out _).mono ?_
    rintro e w4 ⟨v4, rfl, ho4, hB4⟩
    obtain ⟨A4, c4, rfl, _, hr4⟩ := Tor.Own.rd int_len ho4
    have q4 := q3.trans (hB4.mono q3.size)
    have hr34 := (hr3.below hB4).more hB4.size
    go_wp2_with fail
    refine (lints_any A3 A4 m m c3 c4 w4 hr34 hr4 (by omega) (by omega)).mono ?_
    rw [decide_eq_true (rfl : m = m)]
    rintro e w5 ⟨rfl, hB5⟩
    have q5 := q4.trans (hB5.mono q4.size)
    go_wp2_with fail
    refine (HS.out _ (h.below q5)).mono ?_
    rintro e w8 ⟨rfl, hB8⟩
    go_wp2_with fail
    go_ret
    exact ⟨rfl, q5.trans (hB8.mono q5.size)⟩
end Go.Proofs.YtohcmfobnkaaiaaGreatDoor
