/- torchonlaw01: WordsLeast. -/
import Derived.Test.YtohcmfobnkaaiaaDoorAppM
import Derived.Test.YtohcmfobnkaaiaaDoorIdxA
import Derived.Test.YtohcmfobnkaaiaaDoorLaw01
import Derived.Test.YtohcmfobnkaaiaaDoorShow01
import Derived.Laws.Cover1
set_option linter.unusedSimpArgs false
set_option linter.unusedVariables false
namespace Go.Proofs.YtohcmfobnkaaiaaDoor
open Go Go.RowKit Tor

set_option maxRecDepth 100000 in
set_option maxHeartbeats 4000000 in
theorem lawLeast_any (L : List UInt8) (w : World) (h : WdAt w) : Calls Tryd.prog 3 #[.string (bN L)] w (Ret (.bool true) w) := by
  have hz : (bN L).size = L.length := rfl
  have HS := Lib.hid (fun (w' : World) (hw : WdAt w') => shown_any w' hw)
  by_cases h2 : 3000 < L.length
  · have i1 : (3000 : Int) < L.length := by omega
    clear h2
    go_enter Tryd.func3, Tryd.ntmps3
    go_wp2_with (first
      | (go_at_call 12; refine (HS.out _ h).mono ?_; rintro e w1 ⟨rfl, hB1⟩)
      | fail)
    go_ret
    exact ⟨rfl, hB1⟩
  have i1 : ¬ (3000 : Int) < L.length := by omega
  have H1 := Lib.hid (fun w' hw' => parse_any L w' (by omega) hw' (fun t ht => okIdx_any t (by have := split_mem ht; omega)))
  rcases parse_kinds L with ⟨l, hP, hok, hn, hle, _⟩ | ⟨n, hP, hn0⟩
  · rw [hP] at H1
    obtain ⟨t, ht⟩ : ∃ t, Hid (lstT l = t) := ⟨_, Lib.hid rfl⟩
    have hlP := listP_ok hok hn
    have hpl := parse_list hok hn
    have htl := lst_len hok (by omega)
    rw [ht.out] at hlP hpl htl hle
    have H2 := Lib.hid (fun A c w' hr hc hw' => wlist_any A l c w' hr (by omega) hc hw')
    rw [hlP] at H2
    have H3 := Lib.hid (fun w' hw' => parse_any t w' (by omega) hw' (fun t ht => okIdx_any t (by have := split_mem ht; omega)))
    rw [hpl] at H3
    have tz : (bN t).size = t.length := rfl
    have tt : (bN t).toList = t := Lib.toList_data _
    have tL : (bN L).toList = L := Lib.toList_data _
    have HLE := Lib.hid hle
    clear h2 hP hok hle hlP hpl ht
    go_enter Tryd.func3, Tryd.ntmps3
    go_wp2_with fail
    refine (H1.out _ h).mono ?_
    rintro e w1 ⟨v1, rfl, ho1, hB1⟩
    obtain ⟨A, c, rfl, hc1, hr1⟩ := Tor.Own.rd int_len ho1
    go_wp2_with fail
    refine (H2.out _ _ _ hr1 hc1 (h.below hB1)).mono ?_
    rintro e w2 ⟨rfl, hB2⟩
    have q2 := hB1.trans (hB2.mono hB1.size)
    have hr1' := (hr1.below hB2).more hB2.size
    go_wp2_with fail
    refine (H3.out _ (h.below q2)).mono ?_
    rintro e w3 ⟨v3, rfl, ho3, hB3⟩
    obtain ⟨A3, c3, rfl, _, hr3⟩ := Tor.Own.rd int_len ho3
    have q3 := q2.trans (hB3.mono q2.size)
    have hr1'' := (hr1'.below hB3).more hB3.size
    go_wp2_with fail
    refine (lints_any A A3 l l c c3 w3 hr1'' hr3 (by omega) (by omega)).mono ?_
    rw [decide_eq_true (rfl : l = l)]
    rintro e w4 ⟨rfl, hB4⟩
    have q4 := q3.trans (hB4.mono q3.size)
    by_cases hlt : t.length < L.length
    · have j1 : (t.length : Int) < L.length := by omega
      clear hlt
      go_wp2_with fail
      refine (HS.out _ (h.below q4)).mono ?_
      rintro e w6 ⟨rfl, hB6⟩
      go_wp2_with fail
      go_ret
      exact ⟨rfl, q4.trans (hB6.mono q4.size)⟩
    · have hd := HLE.out
      unfold ltB at hd
      rw [Bool.or_eq_false_iff, decide_eq_false_iff_not, Bool.and_eq_false_iff, decide_eq_false_iff_not] at hd
      have hll : t.length = L.length := by omega
      have hbl : Op.bytesLess L t = false := by
        rcases hd.2 with hh | hh
        · exact absurd hll.symm hh
        · exact hh
      have j1 : ¬ (t.length : Int) < L.length := by omega
      have j2 : ((t.length : Int) == (L.length : Int)) = true := by rw [beq_iff_eq]; omega
      have j3 : (Op.bytesLess t L || t == L) = true := by
        cases hb : Op.bytesLess t L with
        | true => rfl
        | false => rw [bl_tri _ _ hb hbl]; simp
      have J2 := Lib.hid j2
      clear hlt hd hll hbl
      go_wp2_with fail
      refine (HS.out _ (h.below q4)).mono ?_
      rintro e w6 ⟨rfl, hB6⟩
      go_wp2_with fail
      go_ret
      exact ⟨rfl, q4.trans (hB6.mono q4.size)⟩
  · rw [hP] at H1
    clear h2 hP
    go_enter Tryd.func3, Tryd.ntmps3
    go_wp2_with fail
    refine (H1.out _ h).mono ?_
    rintro e w1 ⟨v1, rfl, ho1, hB1⟩
    obtain ⟨A, c, rfl, hc1, hr1⟩ := Tor.Own.rd int_len ho1
    go_wp2_with fail
    refine (HS.out _ (h.below hB1)).mono ?_
    rintro e w6 ⟨rfl, hB6⟩
    go_wp2_with fail
    go_ret
    exact ⟨rfl, hB1.trans (hB6.mono hB1.size)⟩
end Go.Proofs.YtohcmfobnkaaiaaDoor
