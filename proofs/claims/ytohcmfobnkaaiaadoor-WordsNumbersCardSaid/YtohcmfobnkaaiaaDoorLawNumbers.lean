/- torchonlaw01: WordsNumbers. -/
import Derived.Test.YtohcmfobnkaaiaaDoorRNum3
import Derived.Test.YtohcmfobnkaaiaaDoorShow01
set_option linter.unusedSimpArgs false
set_option linter.unusedVariables false
namespace Go.Proofs.YtohcmfobnkaaiaaDoor
open Go Go.RowKit Tor

theorem intW_itoa (n : Int) (h0 : -9223372036854775808 ≤ n) (h1 : n ≤ 9223372036854775807) : intW (Lib.itoa n) (-9223372036854775808) 9223372036854775807 = (n, 0) := by
  obtain ⟨a, b⟩ := itoa_facts n
  unfold intW
  rw [if_neg (by omega), if_neg (by rw [a]; simp), b, if_neg (by omega)]
set_option maxRecDepth 100000 in
set_option maxHeartbeats 1000000 in
theorem lawNumbers_any (n : Int) (L : List UInt8) (least most : Int) (h0 : -9223372036854775808 ≤ n) (h1 : n ≤ 9223372036854775807) (w : World) (h : WdAt w) :
    Calls Tryd.prog 7 #[.int .i64 n, .agg #[.string (bN L), .int .i64 least, .int .i64 most]] w (Ret (.bool true) w) := by
  have hz : (bN L).size = L.length := rfl
  have HS := Lib.hid (fun (w' : World) (hw : WdAt w') => shown_any w' hw)
  have kB := Blk.new w 43 #[.string (bN L), .int .i64 least, .int .i64 most]
  have hB : Below w.heap.size w (w.alloc (.cells #[.string (bN L), .int .i64 least, .int .i64 most] 43)) := (Below.refl _ _).alloc (Nat.le_refl _) _
  have hw := h.below hB
  by_cases h2 : 20000 < L.length
  · have i1 : (20000 : Int) < L.length := by omega
    clear h2
    go_enter Tryd.func7, Tryd.ntmps7
    go_wp2_with (first
      | (go_at_call 12; refine (HS.out _ hw).mono ?_; rintro e w1 ⟨rfl, hB1⟩)
      | fail)
    go_ret
    exact ⟨rfl, hB.trans (hB1.mono hB.size)⟩
  have i1 : ¬ (20000 : Int) < L.length := by omega
  have H1 : Hid (∀ w', WdAt w' → Calls Tryd.prog 21 #[.string (bN L), .int .i64 least, .int .i64 most] w' (Ret (.tuple #[.int .i64 (intW L least most).1, .int .i64 (intW L least most).2]) w')) := Lib.hid (fun w' hw' => wint_any (bN L) least most w' (by show L.length ≤ _; omega) hw'.err)
  have H2 := Lib.hid (fun w' => rint_any L least most w' (by omega))
  obtain ⟨a, ha⟩ : ∃ a, Hid ((intW L least most).1 = a) := ⟨_, Lib.hid rfl⟩
  obtain ⟨b, hb⟩ : ∃ a, Hid ((intW L least most).2 = a) := ⟨_, Lib.hid rfl⟩
  rw [ha.out, hb.out] at H1 H2
  have hd := Lib.itoa_length_le n h0 h1
  have H3 := Lib.hid (fun w' hw' => digits_gen n h0 h1 w' hw')
  have H4 := Lib.hid (fun w' => rdig_any n h0 h1 w')
  have H5 : Hid (∀ w', WdAt w' → Calls Tryd.prog 21 #[.string (bN (Lib.itoa n)), .int .i64 (-9223372036854775808), .int .i64 9223372036854775807] w' (Ret (.tuple #[.int .i64 n, .int .i64 0]) w')) := Lib.hid (fun w' hw' => by
    have := wint_any (bN (Lib.itoa n)) (-9223372036854775808) 9223372036854775807 w' (by show (Lib.itoa n).length ≤ _; omega) hw'.err
    rw [show (bN (Lib.itoa n)).data.toList = Lib.itoa n from rfl, intW_itoa n h0 h1] at this
    exact this)
  obtain ⟨d, hdd⟩ : ∃ d, Hid (Lib.itoa n = d) := ⟨_, Lib.hid rfl⟩
  rw [hdd.out] at H3 H4 H5
  clear ha hb hdd hd h2
  go_enter Tryd.func7, Tryd.ntmps7
  go_wp2_with fail
  refine (H1.out _ hw).mono ?_
  rintro e w1 ⟨rfl, hB1⟩
  have k1 := kB.below' hB1
  have c0 := k1.cell 0 _ rfl
  have c1 := k1.cell 1 _ rfl
  have c2 := k1.cell 2 _ rfl
  have q1 := hB.trans (hB1.mono hB.size)
  go_wp2_with fail
  refine (H2.out _).mono ?_
  rintro e w2 ⟨rfl, hB2⟩
  have q2 := q1.trans (hB2.mono q1.size)
  go_wp2_with fail
  refine (H3.out _ (h.below q2)).mono ?_
  rintro e w3 ⟨rfl, hB3⟩
  have q3 := q2.trans (hB3.mono q2.size)
  go_wp2_with fail
  refine (H5.out _ (h.below q3)).mono ?_
  rintro e w4 ⟨rfl, hB4⟩
  have q4 := q3.trans (hB4.mono q3.size)
  go_wp2_with fail
  refine (H3.out _ (h.below q4)).mono ?_
  rintro e w5 ⟨rfl, hB5⟩
  have q5 := q4.trans (hB5.mono q4.size)
  go_wp2_with fail
  refine (H4.out _).mono ?_
  rintro e w6 ⟨rfl, hB6⟩
  have q6 := q5.trans (hB6.mono q5.size)
  go_wp2_with fail
  refine (HS.out _ (h.below q6)).mono ?_
  rintro e w7 ⟨rfl, hB7⟩
  go_wp2_with fail
  go_ret
  exact ⟨rfl, q6.trans (hB7.mono q6.size)⟩
end Go.Proofs.YtohcmfobnkaaiaaDoor
