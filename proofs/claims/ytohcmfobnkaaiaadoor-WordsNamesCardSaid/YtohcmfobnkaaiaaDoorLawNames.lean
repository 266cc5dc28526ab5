/- torchonlaw01: WordsNames. -/
import Derived.Test.YtohcmfobnkaaiaaDoorNames
import Derived.Test.YtohcmfobnkaaiaaDoorShow01
set_option linter.unusedSimpArgs false
set_option linter.unusedVariables false
namespace Go.Proofs.YtohcmfobnkaaiaaDoor
open Go Go.RowKit Tor

set_option maxRecDepth 100000 in
theorem lawNames_any (L : List UInt8) (w : World) (h : WdAt w) : Calls Tryd.prog 8 #[.string (bN L)] w (Ret (.bool true) w) := by
  have hz : (bN L).size = L.length := rfl
  have HS := Lib.hid (fun (w' : World) (hw : WdAt w') => shown_any w' hw)
  by_cases h2 : 20000 < L.length
  · have i1 : (20000 : Int) < L.length := by omega
    clear h2
    go_enter Tryd.func8, Tryd.ntmps8
    go_wp2_with (first
      | (go_at_call 12; refine (HS.out _ h).mono ?_; rintro e w1 ⟨rfl, hB1⟩)
      | fail)
    go_ret
    exact ⟨rfl, hB1⟩
  have i1 : ¬ (20000 : Int) < L.length := by omega
  have H1 := Lib.hid (fun w' => wname_any L w' (by omega))
  have H2 := Lib.hid (fun w' => rname_any L w' (by omega))
  have H3 := Lib.hid (fun w' => text_any L w' (by omega))
  have H4 := Lib.hid (fun w' => rtext_any L w' (by omega))
  obtain ⟨a, ha⟩ : ∃ a, Hid (nameP L = a) := ⟨_, Lib.hid rfl⟩
  obtain ⟨b, hb⟩ : ∃ a, Hid (textB L = a) := ⟨_, Lib.hid rfl⟩
  rw [ha.out] at H1 H2
  rw [hb.out] at H3 H4
  clear h2 ha hb
  go_enter Tryd.func8, Tryd.ntmps8
  go_wp2_with (first
    | (go_at_call 25; refine (H1.out _).mono ?_; rintro e w1 ⟨rfl, hB1⟩)
    | (go_at_call 26; refine (H2.out _).mono ?_; rintro e w2 ⟨rfl, hB2⟩)
    | (go_at_call 27; refine (H3.out _).mono ?_; rintro e w3 ⟨rfl, hB3⟩)
    | (go_at_call 28; refine (H4.out _).mono ?_; rintro e w4 ⟨rfl, hB4⟩
       have q2 := hB1.trans (hB2.mono hB1.size)
       have q3 := q2.trans (hB3.mono q2.size)
       have q4 := q3.trans (hB4.mono q3.size))
    | (go_at_call 12; refine (HS.out _ (h.below q4)).mono ?_; rintro e w5 ⟨rfl, hB5⟩)
    | fail)
  go_ret
  exact ⟨rfl, q4.trans (hB5.mono q4.size)⟩
end Go.Proofs.YtohcmfobnkaaiaaDoor
