/- torchonlaw01: WordsJoins. -/
import Derived.Test.YtohcmfobnkaaiaaDoorJoinN
import Derived.Test.YtohcmfobnkaaiaaDoorRJoin
import Derived.Test.YtohcmfobnkaaiaaDoorLawSplits
set_option linter.unusedSimpArgs false
set_option linter.unusedVariables false
namespace Go.Proofs.YtohcmfobnkaaiaaDoor
open Go Go.RowKit Tor

/-- how long the fields are together, long ones counted less -/
def sumM (l : List Fld) : Nat := (l.map fun x => min x.s.length 6001).sum
theorem sumM_snoc (l : List Fld) (x : Fld) : sumM (l ++ [x]) = sumM l + min x.s.length 6001 := by unfold sumM; simp
theorem sumM_le {l : List Fld} {x : Fld} (h : x ∈ l) : min x.s.length 6001 ≤ sumM l := by
  unfold sumM
  induction l with
  | nil => simp at h
  | cons y r ih =>
    rw [List.map_cons, List.sum_cons]
    rcases List.mem_cons.1 h with rfl | h
    · omega
    · have := ih h; omega
theorem join_kinds (l : List Fld) : (∃ t, joinP l = (t, 0) ∧ t.length ≤ 4097 ∧ splitP t = (l, 0)) ∨ ∃ n : Int, joinP l = ([], n) ∧ (n == 0) = false := by
  by_cases h64 : 64 < l.length
  · exact .inr ⟨3, by unfold joinP; rw [if_pos h64], rfl⟩
  by_cases ha : l.all rightF = false
  · exact .inr ⟨2, by unfold joinP; rw [if_neg h64, if_pos ha], rfl⟩
  by_cases hz : 4097 < sizeF l
  · exact .inr ⟨3, by unfold joinP; rw [if_neg h64, if_neg ha, if_pos hz], rfl⟩
  · have h : joinP l = (Lib.join (l.map writeF) [32], 0) := by unfold joinP; rw [if_neg h64, if_neg ha, if_neg hz]
    exact .inl ⟨_, h, by have := joinF_len l; omega, join_split h⟩

set_option maxRecDepth 100000 in
set_option maxHeartbeats 4000000 in
theorem lawJoins_any (A : Option Addr) (l : List Fld) (c : Nat) (w : World) (h : WdAt w) (h1 : Rd 2 fenc w w.heap.size A l) (hsl : ∀ x ∈ l, x.s.length ≤ 9223372036854775807) :
    Calls Tryd.prog 11 #[.slice A l.length c] w (Ret (.bool true) w) := by
  have HS := Lib.hid (fun (w' : World) (hw : WdAt w') => shown_any w' hw)
  by_cases h2 : 100 < l.length
  · have i1 : (100 : Int) < l.length := by omega
    clear h2 h1 hsl
    go_enter Tryd.func11, Tryd.ntmps11
    go_wp2_with (first
      | (go_at_call 12; refine (HS.out _ h).mono ?_; rintro e w1 ⟨rfl, hB1⟩)
      | fail)
    go_ret
    exact ⟨rfl, hB1⟩
  have i1 : ¬ (100 : Int) < l.length := by omega
  have HSL := Lib.hid hsl
  clear hsl
  go_enter Tryd.func11, Tryd.ntmps11
  go_wp2_with fail
  go_loopw [3, 4] (fun nv iv wr => ∃ (j z : Nat), j ≤ l.length ∧ iv = .int .i64 j ∧ nv = .int .i64 z ∧ Hid (z = sumM (l.take j)) ∧ z ≤ 6001 * j ∧ wr = w) (fun _ i _ => l.length - (intOf i).toNat)
  case atStart => exact ⟨0, 0, Nat.zero_le _, rfl, rfl, Lib.hid rfl, Nat.le_refl _, rfl⟩
  case round =>
    obtain ⟨j, z, hj, rfl, rfl, hz, hz4, rfl⟩ := hrel
    by_cases hlt : j < l.length
    · obtain ⟨b, o, rfl, hb, hc0, hc1⟩ := Rd.fld h1 hlt
      have a2 : (j : Int) < (l.length : Int) := by omega
      have hsn := take_snoc l j hlt
      have hxl := HSL.out _ (List.getElem_mem hlt)
      obtain ⟨x, hx⟩ : ∃ x, Hid (l[j] = x) := ⟨_, Lib.hid rfl⟩
      rw [hx.out] at hc0 hc1 hsn hxl
      have hxz : (bN x.s).size = x.s.length := rfl
      have hgo : Hid (z + min x.s.length 6001 = sumM (l.take (j + 1))) := by rw [Hid, hsn, sumM_snoc, ← hz.out]
      clear hz hsn hx
      go_wp2_with fail
      go_roundw
      case rel => exact ⟨j + 1, z + min x.s.length 6001, by omega, by go_num, by go_num, hgo, by omega, trivial⟩
      case measure => simp [intOf]; omega
    · obtain rfl : j = l.length := by omega
      rw [List.take_length] at hz
      by_cases h60 : 6000 < z
      · have a2 : (6000 : Int) < z := by omega
        clear h60 hz
        go_wp2_with (first
          | (go_at_call 12; refine (HS.out _ h).mono ?_; rintro e w1 ⟨rfl, hB1⟩)
          | fail)
        go_ret
        exact ⟨rfl, hB1⟩
      have a2 : ¬ (6000 : Int) < z := by omega
      have hsx : ∀ x ∈ l, x.s.length ≤ 1000000 := fun x hx => by
        have := sumM_le hx
        rw [← hz.out] at this
        omega
      have HJ1 := Lib.hid (fun w' hw' hr' => wjoin_any A l c w' hw' hr' (by omega) hsx)
      have HJ2 := Lib.hid (fun A' c' w' hr' => rjoin_any A' l c' w' hr' (by omega) hsx)
      have HSX := Lib.hid hsx
      clear hsx hz h60
      rcases join_kinds l with ⟨t, hjt, htl, hst⟩ | ⟨n, hjn, hn0⟩
      · rw [hjt] at HJ1 HJ2
        have H3 := Lib.hid (fun w' hw' => wsplit_any t w' (by omega) hw')
        rw [hst] at H3
        have tt : (bN t).toList = t := Lib.toList_data _
        clear hjt hst
        go_wp2_with fail
        refine (HJ1.out _ h h1).mono ?_
        rintro e w1 ⟨rfl, hB1⟩
        have hr1 := (h1.below hB1).more hB1.size
        go_wp2_with fail
        refine (lfields_any A l c w1 hr1 (by omega)).mono ?_
        rintro e w2 ⟨v2, rfl, ho2, hB2⟩
        obtain ⟨A2, c2, rfl, _, hr2⟩ := Tor.Own.rd fenc_len ho2
        have q2 := hB1.trans (hB2.mono hB1.size)
        go_wp2_with fail
        refine (HJ2.out _ _ _ hr2).mono ?_
        rintro e w3 ⟨rfl, hB3⟩
        have q3 := q2.trans (hB3.mono q2.size)
        go_wp2_with fail
        refine (H3.out _ (h.below q3)).mono ?_
        rintro e w4 ⟨v4, rfl, ho4, hB4⟩
        obtain ⟨A4, c4, rfl, _, hr4⟩ := Tor.Own.rd fenc_len ho4
        have q4 := q3.trans (hB4.mono q3.size)
        go_wp2_with fail
        refine (lfields_any A4 l c4 w4 hr4 (by omega)).mono ?_
        rintro e w5 ⟨v5, rfl, ho5, hB5⟩
        obtain ⟨A5, c5, rfl, _, hr5⟩ := Tor.Own.rd fenc_len ho5
        have q5 := q4.trans (hB5.mono q4.size)
        go_wp2_with fail
        refine (lfields_any A l c w5 ((h1.below q5).more q5.size) (by omega)).mono ?_
        rintro e w6 ⟨v6, rfl, ho6, hB6⟩
        obtain ⟨A6, c6, rfl, _, hr6⟩ := Tor.Own.rd fenc_len ho6
        have q6 := q5.trans (hB6.mono q5.size)
        have hr5' := (hr5.below hB6).more hB6.size
        go_wp2_with fail
        refine (lalike_any A5 A6 l l c5 c6 w6 hr5' hr6 (by omega) (by omega)).mono ?_
        rw [decide_eq_true (rfl : l = l)]
        rintro e w7 ⟨rfl, hB7⟩
        have q7 := q6.trans (hB7.mono q6.size)
        go_wp2_with fail
        refine (HS.out _ (h.below q7)).mono ?_
        rintro e w8 ⟨rfl, hB8⟩
        go_wp2_with fail
        go_ret
        exact ⟨rfl, q7.trans (hB8.mono q7.size)⟩
      · rw [hjn] at HJ1 HJ2
        clear hjn
        go_wp2_with fail
        refine (HJ1.out _ h h1).mono ?_
        rintro e w1 ⟨rfl, hB1⟩
        have hr1 := (h1.below hB1).more hB1.size
        go_wp2_with fail
        refine (lfields_any A l c w1 hr1 (by omega)).mono ?_
        rintro e w2 ⟨v2, rfl, ho2, hB2⟩
        obtain ⟨A2, c2, rfl, _, hr2⟩ := Tor.Own.rd fenc_len ho2
        have q2 := hB1.trans (hB2.mono hB1.size)
        go_wp2_with fail
        refine (HJ2.out _ _ _ hr2).mono ?_
        rintro e w3 ⟨rfl, hB3⟩
        have q3 := q2.trans (hB3.mono q2.size)
        go_wp2_with fail
        refine (HS.out _ (h.below q3)).mono ?_
        rintro e w8 ⟨rfl, hB8⟩
        go_wp2_with fail
        go_ret
        exact ⟨rfl, q3.trans (hB8.mono q3.size)⟩
end Go.Proofs.YtohcmfobnkaaiaaDoor
