/- torchonlaw01: WordsQuotes. -/
import Derived.Test.YtohcmfobnkaaiaaDoorRQuo
import Derived.Test.YtohcmfobnkaaiaaDoorShow01
set_option linter.unusedSimpArgs false
set_option linter.unusedVariables false
namespace Go.Proofs.YtohcmfobnkaaiaaDoor
open Go Go.RowKit Tor

theorem unq_quote {L : List UInt8} (ht : textB L = true) : unqP (quoteL L) = (L, 0) := by
  have hm : midL (34 :: (qd L ++ [34])) = qd L := by
    unfold midL
    simp
  rw [quoteL_eq, unqP_eq, hm, und_qd]
  · simp [ht]
  · simp [List.getLast?_cons]
theorem unq_two (L : List UInt8) : unqP L = ([], 6) ∨ ∃ t, unqP L = (t, 0) ∧ quoteP t = (L, 0) := by
  unfold unqP
  split
  · exact .inl rfl
  · split
    · rename_i h; exact .inr ⟨_, rfl, h⟩
    · exact .inl rfl
theorem quoteL_length (L : List UInt8) : (quoteL L).length ≤ 2 * L.length + 2 := by
  rw [quoteL_eq]
  have : (qd L).length ≤ 2 * L.length := by
    unfold qd
    induction L with
    | nil => simp
    | cons c r ih => 
      simp only [List.flatMap_cons, List.length_append, List.length_cons]
      have h2 : (if c = 34 then [34, 34] else [c] : List UInt8).length ≤ 2 := by split <;> simp
      omega
  simp
  omega
theorem quoteP_len {t L : List UInt8} (h : quoteP t = (L, 0)) : t.length ≤ 200 := by
  unfold quoteP at h
  split at h
  · rename_i ht
    unfold textB at ht
    simp only [Bool.and_eq_true, decide_eq_true_eq] at ht
    exact ht.1
  · cases h

set_option maxRecDepth 100000 in
set_option maxHeartbeats 1000000 in
theorem lawQuotes_any (L : List UInt8) (w : World) (h : WdAt w) : Calls Tryd.prog 5 #[.string (bN L)] w (Ret (.bool true) w) := by
  have hz : (bN L).size = L.length := rfl
  have HS := Lib.hid (fun (w' : World) (hw : WdAt w') => shown_any w' hw)
  by_cases h2 : 20000 < L.length
  · have i1 : (20000 : Int) < L.length := by omega
    clear h2
    go_enter Tryd.func5, Tryd.ntmps5
    go_wp2_with (first
      | (go_at_call 12; refine (HS.out _ h).mono ?_; rintro e w1 ⟨rfl, hB1⟩)
      | fail)
    go_ret
    exact ⟨rfl, hB1⟩
  have i1 : ¬ (20000 : Int) < L.length := by omega
  have H1 := Lib.hid (fun w' hw' => quote_any L w' (by omega) hw')
  have H2 := Lib.hid (fun w' => rquote_any L w' (by omega))
  have H3 := Lib.hid (fun w' hw' => unquote_any L w' (by omega) hw')
  have H4 := Lib.hid (fun w' => runquote_any L w' (by omega))
  have HA : textB L = true → Hid (∀ w', WdAt w' → Calls Tryd.prog 18 #[.string (bN (quoteL L))] w' (Ret (.tuple #[.string (bN L), .int .i64 0]) w')) := fun ht => Lib.hid (fun w' hw' => by
    have hl : L.length ≤ 200 := by
      unfold textB at ht
      simp only [Bool.and_eq_true, decide_eq_true_eq] at ht
      exact ht.1
    have := unquote_any (quoteL L) w' (by have := quoteL_length L; omega) hw'
    rw [unq_quote ht] at this
    exact this)
  have HB : ∀ t, quoteP t = (L, 0) → Hid (∀ w', WdAt w' → Calls Tryd.prog 16 #[.string (bN t)] w' (Ret (.tuple #[.string (bN L), .int .i64 0]) w')) := fun t ht => Lib.hid (fun w' hw' => by
    have := quote_any t w' (by have := quoteP_len ht; omega) hw'
    rw [ht] at this
    exact this)
  have tL : (bN L).toList = L := Lib.toList_data _
  cases ht : textB L
  · have hP : Hid (quoteP L = ([], 2)) := by rw [Hid]; unfold quoteP; rw [ht]; rfl
    rw [hP.out] at H1 H2
    rcases unq_two L with hU | ⟨t, hU, hq⟩
    · rw [hU] at H3 H4
      clear hU hP ht HA HB h2 tL
      go_enter Tryd.func5, Tryd.ntmps5
      go_wp2_with (first
        | (go_at_call 16; refine (H1.out _ h).mono ?_; rintro e w1 ⟨rfl, hB1⟩)
        | (go_at_call 17; refine (H2.out _).mono ?_; rintro e w2 ⟨rfl, hB2⟩; have q2 := hB1.trans (hB2.mono hB1.size))
        | (go_at_call 18; refine (H3.out _ (h.below q2)).mono ?_; rintro e w3 ⟨rfl, hB3⟩; have q3 := q2.trans (hB3.mono q2.size))
        | (go_at_call 19; refine (H4.out _).mono ?_; rintro e w4 ⟨rfl, hB4⟩; have q4 := q3.trans (hB4.mono q3.size))
        | (go_at_call 12; refine (HS.out _ (h.below q4)).mono ?_; rintro e w5 ⟨rfl, hB5⟩)
        | fail)
      go_ret
      exact ⟨rfl, q4.trans (hB5.mono q4.size)⟩
    · rw [hU] at H3 H4
      have H6 := HB t hq
      have tt : (bN t).toList = t := Lib.toList_data _
      clear hU hP ht HA HB h2 hq
      go_enter Tryd.func5, Tryd.ntmps5
      go_wp2_with fail
      refine (H1.out _ h).mono ?_
      rintro e w1 ⟨rfl, hB1⟩
      go_wp2_with fail
      refine (H2.out _).mono ?_
      rintro e w2 ⟨rfl, hB2⟩
      have q2 := hB1.trans (hB2.mono hB1.size)
      go_wp2_with fail
      refine (H3.out _ (h.below q2)).mono ?_
      rintro e w3 ⟨rfl, hB3⟩
      have q3 := q2.trans (hB3.mono q2.size)
      go_wp2_with fail
      refine (H4.out _).mono ?_
      rintro e w4 ⟨rfl, hB4⟩
      have q4 := q3.trans (hB4.mono q3.size)
      go_wp2_with fail
      refine (H6.out _ (h.below q4)).mono ?_
      rintro e w5 ⟨rfl, hB5⟩
      have q5 := q4.trans (hB5.mono q4.size)
      go_wp2_with fail
      refine (HS.out _ (h.below q5)).mono ?_
      rintro e w6 ⟨rfl, hB6⟩
      go_wp2_with fail
      go_ret
      exact ⟨rfl, q5.trans (hB6.mono q5.size)⟩
  · have hP : Hid (quoteP L = (quoteL L, 0)) := by rw [Hid]; unfold quoteP; rw [ht]; rfl
    rw [hP.out] at H1 H2
    have H5 := HA ht
    obtain ⟨Q, hQ⟩ : ∃ Q, Hid (quoteL L = Q) := ⟨_, Lib.hid rfl⟩
    rw [hQ.out] at H1 H2 H5
    have tQ : (bN Q).toList = Q := Lib.toList_data _
    rcases unq_two L with hU | ⟨t, hU, hq⟩
    · rw [hU] at H3 H4
      clear hU hP ht HA HB h2 hQ
      go_enter Tryd.func5, Tryd.ntmps5
      go_wp2_with fail
      refine (H1.out _ h).mono ?_
      rintro e w1 ⟨rfl, hB1⟩
      go_wp2_with fail
      refine (H2.out _).mono ?_
      rintro e w2 ⟨rfl, hB2⟩
      have q2 := hB1.trans (hB2.mono hB1.size)
      go_wp2_with fail
      refine (H3.out _ (h.below q2)).mono ?_
      rintro e w3 ⟨rfl, hB3⟩
      have q3 := q2.trans (hB3.mono q2.size)
      go_wp2_with fail
      refine (H4.out _).mono ?_
      rintro e w4 ⟨rfl, hB4⟩
      have q4 := q3.trans (hB4.mono q3.size)
      go_wp2_with fail
      refine (H5.out _ (h.below q4)).mono ?_
      rintro e w5 ⟨rfl, hB5⟩
      have q5 := q4.trans (hB5.mono q4.size)
      go_wp2_with fail
      refine (HS.out _ (h.below q5)).mono ?_
      rintro e w6 ⟨rfl, hB6⟩
      go_wp2_with fail
      go_ret
      exact ⟨rfl, q5.trans (hB6.mono q5.size)⟩
    · rw [hU] at H3 H4
      have H6 := HB t hq
      have tt : (bN t).toList = t := Lib.toList_data _
      clear hU hP ht HA HB h2 hQ hq
      go_enter Tryd.func5, Tryd.ntmps5
      go_wp2_with fail
      refine (H1.out _ h).mono ?_
      rintro e w1 ⟨rfl, hB1⟩
      go_wp2_with fail
      refine (H2.out _).mono ?_
      rintro e w2 ⟨rfl, hB2⟩
      have q2 := hB1.trans (hB2.mono hB1.size)
      go_wp2_with fail
      refine (H3.out _ (h.below q2)).mono ?_
      rintro e w3 ⟨rfl, hB3⟩
      have q3 := q2.trans (hB3.mono q2.size)
      go_wp2_with fail
      refine (H4.out _).mono ?_
      rintro e w4 ⟨rfl, hB4⟩
      have q4 := q3.trans (hB4.mono q3.size)
      go_wp2_with fail
      refine (H5.out _ (h.below q4)).mono ?_
      rintro e w5 ⟨rfl, hB5⟩
      have q5 := q4.trans (hB5.mono q4.size)
      go_wp2_with fail
      refine (H6.out _ (h.below q5)).mono ?_
      rintro e w6 ⟨rfl, hB6⟩
      have q6 := q5.trans (hB6.mono q5.size)
      go_wp2_with fail
      refine (HS.out _ (h.below q6)).mono ?_
      rintro e w7 ⟨rfl, hB7⟩
      go_wp2_with fail
      go_ret
      exact ⟨rfl, q6.trans (hB7.mono q6.size)⟩
end Go.Proofs.YtohcmfobnkaaiaaDoor
