/- torchonlaw01: WordsLines. -/
import Derived.Test.YtohcmfobnkaaiaaDoorLines
set_option linter.unusedSimpArgs false
set_option linter.unusedVariables false
namespace Go.Proofs.YtohcmfobnkaaiaaDoor
open Go Go.RowKit Tor

theorem _root_.Tor.Rd.txt {w : World} {B : Nat} {A : Option Addr} {l : List (List UInt8)} (h : Rd 1 tenc w B A l) {k : Nat} (hk : k < l.length) :
    ∃ b o, A = some ⟨b, o, none⟩ ∧ b < B ∧ w.cell? ⟨b, o + k, none⟩ = some (.string (bN l[k])) := by
  obtain ⟨b, o, e, hb, hc⟩ := h (by intro e; subst e; simp at hk)
  have hx : l[k]? = some l[k] := List.getElem?_eq_getElem hk
  exact ⟨b, o, e, hb, by have := hc k _ hx 0 _ rfl; simpa using this⟩
theorem linL_le (L : List UInt8) : (linesP L).1.length ≤ 1000000 := by
  unfold linesP
  split
  · simp
  split
  · simp
  split
  · simp
  split
  · simp
  · rw [linL_length]; omega

set_option maxRecDepth 100000 in
set_option maxHeartbeats 2000000 in
theorem lawLines_any (L : List UInt8) (w : World) (h : WdAt w) : Calls Tryd.prog 9 #[.string (bN L)] w (Ret (.bool true) w) := by
  have hz : (bN L).size = L.length := rfl
  have HS := Lib.hid (fun (w' : World) (hw : WdAt w') => shown_any w' hw)
  by_cases h2 : 1048676 < L.length
  · have i1 : (1048676 : Int) < L.length := by omega
    clear h2
    go_enter Tryd.func9, Tryd.ntmps9
    go_wp2_with (first
      | (go_at_call 12; refine (HS.out _ h).mono ?_; rintro e w1 ⟨rfl, hB1⟩)
      | fail)
    go_ret
    exact ⟨rfl, hB1⟩
  have i1 : ¬ (1048676 : Int) < L.length := by omega
  have H1 := Lib.hid (fun w' hw' => wlines_any L w' (by omega) hw')
  have H2 := Lib.hid (fun w' => rlines_any L w' (by omega))
  have hle := linL_le L
  obtain ⟨ls, hls⟩ : ∃ a, Hid ((linesP L).1 = a) := ⟨_, Lib.hid rfl⟩
  obtain ⟨n, hn⟩ : ∃ a, Hid ((linesP L).2 = a) := ⟨_, Lib.hid rfl⟩
  rw [hls.out, hn.out] at H1 H2
  rw [hls.out] at hle
  clear h2 hls hn
  go_enter Tryd.func9, Tryd.ntmps9
  go_wp2_with fail
  refine (H1.out _ h).mono ?_
  rintro e w1 ⟨v1, rfl, ho1, hB1⟩
  obtain ⟨A, c, rfl, _, hr1⟩ := Tor.Own.rd tenc_len ho1
  go_wp2_with fail
  refine (H2.out _).mono ?_
  rintro e w2 ⟨v2, rfl, ho2, hB2⟩
  obtain ⟨A', c', rfl, _, hr2⟩ := Tor.Own.rd tenc_len ho2
  have q2 := hB1.trans (hB2.mono hB1.size)
  go_wp2_with fail
  go_loopw [7] (fun i wr => ∃ j : Nat, j ≤ ls.length ∧ i = .int .i64 j ∧ Below w2.heap.size w2 wr) (fun i _ => ls.length - (intOf i).toNat)
  case atStart => exact ⟨0, Nat.zero_le _, rfl, Below.refl _ _⟩
  case round =>
    obtain ⟨j, hj, rfl, hB⟩ := hrel
    by_cases hlt : j < ls.length
    · obtain ⟨b, o, rfl, hb, hc⟩ := Rd.txt hr1 hlt
      obtain ⟨b', o', rfl, hb', hc'⟩ := Rd.txt hr2 hlt
      have a2 : (j : Int) < (ls.length : Int) := by omega
      obtain ⟨x, hx⟩ : ∃ x, Hid (ls[j] = x) := ⟨_, Lib.hid rfl⟩
      have hbl : b < w2.heap.size := Nat.lt_of_lt_of_le hb hB2.size
      have q3 := (hB.cell (p := ⟨b, o + j, none⟩) hbl).trans ((hB2.cell (p := ⟨b, o + j, none⟩) hb).trans hc)
      have q4 := (hB.cell (p := ⟨b', o' + j, none⟩) hb').trans hc'
      rw [hx.out] at q3 q4
      clear hc hc'
      have tx : (bN x).toList = x := Lib.toList_data _
      go_wp2_with fail
      go_quiet (fail)
      go_wp2_with fail
      go_roundw
      case rel => exact ⟨j + 1, by omega, by go_num, hB.drewN nq⟩
      case measure => simp [intOf]; omega
    · obtain rfl : j = ls.length := by omega
      have q5 := q2.trans (hB.mono q2.size)
      go_wp2_with fail
      refine (HS.out _ (h.below q5)).mono ?_
      rintro e w5 ⟨rfl, hB5⟩
      go_wp2_with fail
      go_ret
      exact ⟨rfl, q5.trans (hB5.mono q5.size)⟩
end Go.Proofs.YtohcmfobnkaaiaaDoor
