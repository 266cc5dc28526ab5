/- words: printed, Text, Quote, Unquote, right. -/
import Derived.Lib.ReplaceLaws
import Derived.Test.YtohcmfobnkaaiaaGreatDoorWNum
set_option linter.unusedSimpArgs false
set_option linter.unusedVariables false
namespace Go.Proofs.YtohcmfobnkaaiaaGreatDoor
open Go Go.RowKit Tor

theorem repK_len (old new : List UInt8) : ∀ (k : Nat) (s : List UInt8), (Lib.replaceK old new k s).length ≤ s.length + k * new.length
  | 0, s => by simp [Lib.replaceK]
  | k + 1, s => by
    unfold Lib.replaceK
    split
    · exact Nat.le_add_right _ _
    · have ih := repK_len old new k (s.drop ((Lib.index s old).toNat + old.length))
      have hm : (k + 1) * new.length = k * new.length + new.length := Nat.succ_mul _ _
      rw [List.length_append, List.length_append, List.length_take]
      rw [List.length_drop] at ih
      omega
theorem count_le (s old : List UInt8) (h1 : 1 ≤ old.length) : Lib.count s old ≤ s.length := by
  have h := Lib.countB_mul_le (bN old) h1 _ (bN s) (Nat.le_refl _)
  have e : Lib.countB (bN s) (bN old) = Lib.count s old := rfl
  have h2 : (bN s).size = s.length := rfl
  rw [e, h2] at h
  exact Nat.le_trans (Nat.le_mul_of_pos_right _ h1) h
theorem repA_len (s old new : List UInt8) (h1 : 1 ≤ old.length) : (Lib.replaceAll s old new).length ≤ s.length + s.length * new.length := by
  unfold Lib.replaceAll Lib.replace
  split
  · exact Nat.le_add_right _ _
  · refine Nat.le_trans (repK_len _ _ _ _) (Nat.add_le_add_left (Nat.mul_le_mul_right _ ?_) _)
    unfold Lib.replaceNum
    rw [if_pos (.inl (by omega))]
    exact count_le s old h1
theorem bN_cat (a b : List UInt8) : bN a ++ bN b = bN (a ++ b) := ByteArray.ext (Array.ext' (by rw [ByteArray.data_append, Array.toList_append]; rfl))

def prB (k : Nat) (L : List UInt8) : Bool := L.all fun c => decide (k ≤ c.toNat) && decide (c.toNat ≤ 126)
set_option maxRecDepth 100000 in
set_option maxHeartbeats 1000000 in
theorem printed_any (L : List UInt8) (k : Nat) (w : World) (hs : L.length ≤ 4000000) : Calls Tryz.prog 41 #[.string (bN L), .int .u8 k] w (Ret (.bool (prB k L)) w) := by
  have hz : (bN L).size = L.length := rfl
  obtain ⟨r, hr⟩ : ∃ r, Hid (prB k L = r) := ⟨_, Lib.hid rfl⟩
  rw [hr.out]
  go_enter Tryz.func41, Tryz.ntmps41
  go_wp2_with fail
  go_loopg [8] (L.length + 1) (fun gk i wr => ∃ j : Nat, j ≤ L.length ∧ gk = L.length + 1 - j ∧ i = .int .i64 j ∧ Hid (prB k (L.take j) = true) ∧ wr = w)
  case atStart => exact ⟨0, by omega, by omega, rfl, Lib.hid rfl, rfl⟩
  case round =>
    obtain ⟨j, hj, hgk, rfl, hp, rfl⟩ := hrel
    by_cases hlt : j < L.length
    · have a1 : (j : Int) < L.length := by omega
      have hsz : j < (bN L).size := hlt
      obtain ⟨c, hc⟩ : ∃ c, Hid (L[j] = c) := ⟨_, Lib.hid rfl⟩
      have hcb : (bN L)[j]'hsz = c := hc.out
      have hno : (¬ k ≤ c.toNat ∨ ¬ c.toNat ≤ 126) → Hid (r = false) := fun hh => by
        rw [Hid, ← hr.out]
        unfold prB
        rw [List.all_eq_false]
        refine ⟨L[j], List.getElem_mem hlt, ?_⟩
        rw [hc.out]
        simp only [Bool.and_eq_true, decide_eq_true_eq]
        omega
      by_cases h1 : (c.toNat : Int) < k
      · have hr0 := hno (by omega)
        clear hno hp
        go_wp2_with fail
        go_ret
        rw [hr0.out]
        exact ⟨rfl, Below.refl _ _⟩
      · by_cases h2 : 126 < (c.toNat : Int)
        · have hr0 := hno (by omega)
          clear hno hp
          go_wp2_with fail
          go_ret
          rw [hr0.out]
          exact ⟨rfl, Below.refl _ _⟩
        · clear hno
          go_wp2_with fail
          go_roundg (gk - 1)
          case measure => omega
          case rel =>
            refine ⟨j + 1, by omega, by omega, by go_num, Lib.hid ?_, rfl⟩
            unfold prB
            rw [List.take_add_one, List.getElem?_eq_getElem hlt, List.all_append]
            have := hp.out
            unfold prB at this
            rw [this, Bool.true_and]
            simp only [Option.toList_some, List.all_cons, List.all_nil, Bool.and_true, hc.out]
            have h3 : L[j].toNat = c.toNat := by rw [hc.out]
            rw [decide_eq_true (by omega), decide_eq_true (by omega)]
            rfl
    · obtain rfl : j = L.length := by omega
      have a1 : ¬ (L.length : Int) < L.length := by omega
      have hr1 : Hid (r = true) := by rw [Hid, ← hr.out]; have := hp.out; rw [List.take_length] at this; exact this
      clear hp
      go_wp2_with fail
      go_ret
      rw [hr1.out]
      exact ⟨rfl, Below.refl _ _⟩

set_option maxRecDepth 100000 in
set_option maxHeartbeats 1000000 in
theorem text_any (L : List UInt8) (w : World) (hs : L.length ≤ 4000000) : Calls Tryz.prog 26 #[.string (bN L)] w (Ret (.bool (textB L)) w) := by
  have hz : (bN L).size = L.length := rfl
  have HP := Lib.hid (fun w => printed_any L 32 w hs)
  have hT : Hid (textB L = (decide (L.length ≤ 200) && prB 32 L)) := Lib.hid rfl
  rw [hT.out]
  obtain ⟨b, hb⟩ : ∃ b, Hid (prB 32 L = b) := ⟨_, Lib.hid rfl⟩
  rw [hb.out] at HP ⊢
  clear hb hT
  by_cases h : L.length ≤ 200
  · rw [decide_eq_true h]
    have h1 : (L.length : Int) ≤ 200 := by omega
    clear h
    go_enter Tryz.func26, Tryz.ntmps26
    go_wp2_with (first | (go_at_call 41; refine (HP.out _).mono ?_; rintro e w1 ⟨rfl, hB1⟩) | fail)
    go_ret
    exact ⟨by simp, hB1⟩
  · rw [decide_eq_false h]
    have h1 : ¬ (L.length : Int) ≤ 200 := by omega
    clear h
    go_enter Tryz.func26, Tryz.ntmps26
    go_wp2_with (first | (go_at_call 41; refine (HP.out _).mono ?_; rintro e w1 ⟨rfl, hB1⟩) | fail)
    go_ret
    exact ⟨by simp, Below.refl _ _⟩

set_option maxRecDepth 100000 in
set_option maxHeartbeats 1000000 in
theorem quote_any (L : List UInt8) (w : World) (hs : L.length ≤ 4000000) (h : WdAt w) : Calls Tryz.prog 10 #[.string (bN L)] w (Ret (.tuple #[.string (bN (quoteP L).1), .int .i64 (quoteP L).2]) w) := by
  have HT := Lib.hid (text_any L w hs)
  cases hb : textB L
  · have hP : Hid (quoteP L = ([], 2)) := by rw [Hid]; unfold quoteP; rw [hb]; rfl
    rw [hP.out]
    rw [hb] at HT
    clear h hb hP
    go_enter Tryz.func10, Tryz.ntmps10
    go_wp2_with (first | (go_at_call 26; refine HT.out.mono ?_; rintro e w1 ⟨rfl, hB1⟩) | fail)
    go_ret2
    exact ⟨rfl, hB1⟩
  · have hP : Hid (quoteP L = (quoteL L, 0)) := by rw [Hid]; unfold quoteP; rw [hb]; rfl
    rw [hP.out]
    rw [hb] at HT
    have h200 : L.length ≤ 200 := by
      unfold textB at hb
      simp only [Bool.and_eq_true, decide_eq_true_eq] at hb
      exact hb.1
    have hlen := repA_len L [34] [34, 34] (by simp)
    have HR := Lib.hid (fun (w1 : World) (hw : WdAt w1) => (by
      obtain ⟨m, hm⟩ := hw.ml
      have hcb := Lib.countB_mul_le (bN [34]) (by show 1 ≤ 1; omega) _ (bN L) (Nat.le_refl _)
      have e1 : (bN L).size = L.length := rfl
      have e2 : (bN [34]).size = 1 := rfl
      have e3 : (bN [34, 34]).size = 2 := rfl
      rw [e1, e2] at hcb
      exact Tryz.strings_ReplaceAll (bN L) (bN [34]) (bN [34, 34]) m w1 (by rw [e1]; omega) hm (by rw [e2]; omega) (by rw [e1, e3]; omega) :
      Calls Tryz.prog 27 #[.string (bN L), .string ⟨#[34]⟩, .string ⟨#[34, 34]⟩] w1 (Ret (.string (bN (Lib.replaceAll L [34] [34, 34]))) w1)))
    have hQ : Hid (quoteL L = 34 :: (Lib.replaceAll L [34] [34, 34] ++ [34])) := Lib.hid rfl
    rw [hQ.out]
    obtain ⟨R, hR⟩ : ∃ R, Hid (Lib.replaceAll L [34] [34, 34] = R) := ⟨_, Lib.hid rfl⟩
    rw [hR.out] at HR hlen ⊢
    simp only [List.length_cons, List.length_nil] at hlen
    clear hb hP hQ hR
    have s1 : (bN R).size = R.length := rfl
    have c1 : (⟨#[34]⟩ : ByteArray) ++ bN R = bN (34 :: R) := bN_cat [34] R
    have s2 : (bN (34 :: R)).size = R.length + 1 := rfl
    have c2 : bN (34 :: R) ++ (⟨#[34]⟩ : ByteArray) = bN (34 :: (R ++ [34])) := bN_cat (34 :: R) [34]
    have s3 : (⟨#[34]⟩ : ByteArray).size = 1 := rfl
    have t1 : (⟨#[34]⟩ : ByteArray).size + (bN R).size ≤ 9223372036854775807 := by rw [s1, s3]; omega
    have t2 : (bN (34 :: R)).size + (⟨#[34]⟩ : ByteArray).size ≤ 9223372036854775807 := by rw [s2, s3]; omega
    clear s1 s2 s3
    go_enter Tryz.func10, Tryz.ntmps10
    go_wp2_with (first
      | (go_at_call 26
         refine HT.out.mono ?_
         rintro e w1 ⟨rfl, hB1⟩)
      | (go_at_call 27
         refine (HR.out _ (h.below hB1)).mono ?_
         rintro e w2 ⟨rfl, hB2⟩)
      | fail)
    go_ret2
    exact ⟨rfl, hB1.trans (hB2.mono hB1.size)⟩
end Go.Proofs.YtohcmfobnkaaiaaGreatDoor
