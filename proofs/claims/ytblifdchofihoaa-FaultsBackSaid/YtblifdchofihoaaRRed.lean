/- torchonref03: index, apart, many, times, ordered, long: strings as lists. -/
import Derived.Test.YtblifdchofihoaaRedM
import Derived.Test.YtblifdchofihoaaFaultM
import Derived.Test.YtblifdchofihoaaInv1
import Derived.BigQuiet
set_option linter.unusedSimpArgs false
set_option linter.unusedVariables false
namespace Go.Proofs.Ytblifdchofihoaa
open Go Go.RowKit Tor

/-- a string by its letters -/
def bL (L : List UInt8) : ByteArray := ⟨L.toArray⟩
theorem bL_data (L : List UInt8) : (bL L).data.toList = L := rfl
theorem bL_size (L : List UInt8) : (bL L).size = L.length := rfl
theorem bL_app (a b : List UInt8) : bL a ++ bL b = bL (a ++ b) := ByteArray.ext (Array.ext' (by rw [ByteArray.data_append, Array.toList_append]; rfl))
theorem bL_self (s : ByteArray) : bL s.data.toList = s := ByteArray.ext (Array.ext' rfl)
theorem bL_ext (L : List UInt8) (i j : Nat) : (bL L).extract i j = bL ((L.take j).drop i) := ByteArray.ext (Array.ext' (by
  rw [ByteArray.data_extract]
  show (L.toArray.extract i j).toList = ((L.take j).drop i)
  simp [List.extract_eq_take_drop, List.take_drop]
  by_cases h : i ≤ j
  · rw [Nat.add_comm, Nat.sub_add_cancel h]
  · rw [List.drop_eq_nil_of_le (by rw [List.length_take]; omega), List.drop_eq_nil_of_le (by rw [List.length_take]; omega)]))
theorem bL_get (L : List UInt8) (k : Nat) (h : k < (bL L).size) : (bL L)[k] = L[k]'h := rfl
theorem bL_one (L : List UInt8) (k : Nat) (h : k < L.length) : (bL L).extract k (k + 1) = bL [L[k]] := by
  rw [bL_ext, Tor.take_snoc L k h, List.drop_append, List.drop_eq_nil_of_le (by rw [List.length_take]; omega)]
  have : (L.take k).length = k := by rw [List.length_take]; omega
  rw [this, Nat.sub_self]; rfl

theorem index_same (s : ByteArray) (c : UInt8) (w : World) (hs : s.size ≤ 1000000) :
    Calls Try.prog 43 #[.string s, .int .u8 c.toNat] w fun e w' => e = .returned (.int .i64 (Lib.indexByte s.data.toList c)) ∧ w' = w := by
  go_enter Try.func43, Try.ntmps43
  go_wp2
  go_loop [5] (fun i => ∃ k : Nat, k ≤ s.size ∧ i = .int .i64 k ∧ Hid (∀ j, j < k → s.data.toList[j]? ≠ some c)) (fun i => s.size - (intOf i).toNat)
  case atStart => exact ⟨0, Nat.zero_le _, rfl, fun j hj => by omega⟩
  case round =>
    obtain ⟨k, hk, rfl, hno⟩ := hrel
    by_cases hlt : k < s.size
    · go_wp2
      · go_ret
        have h : ((s[k].toNat : Int) == (c.toNat : Int)) = true := by assumption
        have h' : s[k] = c := UInt8.toNat_inj.1 (by simp at h; omega)
        exact ⟨ret_int (idx_at _ c k hno.out (by rw [bget s k hlt, h'])).symm, rfl⟩
      · have h : ((s[k].toNat : Int) == (c.toNat : Int)) = false := by assumption
        have h' : s[k] ≠ c := fun e => by rw [e] at h; simp at h
        go_round
        case rel =>
          refine ⟨k + 1, by omega, by go_num, fun j hj => ?_⟩
          rcases Nat.lt_or_ge j k with hjk | hjk
          · exact hno.out j hjk
          · obtain rfl : j = k := by omega
            rw [bget s j hlt]
            simpa using h'
        case measure => simp [intOf]; omega
    · go_wp2
      go_ret
      exact ⟨ret_int (idx_none _ c (fun j hj => hno.out j (by rw [bsize] at hj; omega))).symm, rfl⟩

theorem idx_two (a b c : UInt8) : 0 ≤ Lib.indexByte [a, b] c ↔ c = a ∨ c = b := by
  by_cases h1 : a = c
  · simp [Lib.indexByte, h1]
  · by_cases h2 : b = c
    · simp [Lib.indexByte, h1, h2]
    · simp [Lib.indexByte, h1, h2, Ne.symm h1, Ne.symm h2]
theorem idx_three (a b d c : UInt8) : Lib.indexByte [a, b, d] c < 0 ↔ ¬ (c = a ∨ c = b ∨ c = d) := by
  by_cases h1 : a = c
  · simp [Lib.indexByte, h1]
  · by_cases h2 : b = c
    · simp [Lib.indexByte, h1, h2]
    · by_cases h3 : d = c
      · simp [Lib.indexByte, h1, h2, h3]
      · simp [Lib.indexByte, h1, h2, h3, Ne.symm h1, Ne.symm h2, Ne.symm h3]
theorem left_iff (c : UInt8) : leftB c = decide (0 ≤ Lib.indexByte [76, 108] c) := by
  unfold leftB; rw [Bool.eq_iff_iff, decide_eq_true_iff, decide_eq_true_iff, idx_two]
theorem right_iff (c : UInt8) : rightB c = decide (0 ≤ Lib.indexByte [82, 114] c) := by
  unfold rightB; rw [Bool.eq_iff_iff, decide_eq_true_iff, decide_eq_true_iff, idx_two]

set_option maxRecDepth 100000 in
set_option maxHeartbeats 2000000 in
theorem apart_same (a b : UInt8) (w : World) :
    Calls Try.prog 82 #[.int .u8 a.toNat, .int .u8 b.toNat] w fun e w' => e = .returned (.bool (apartB a b)) ∧ w' = w := by
  have HA := Lib.hid (index_same ⟨#[76, 108]⟩ a w (by decide))
  have HB := Lib.hid (index_same ⟨#[82, 114]⟩ a w (by decide))
  have HC := Lib.hid (index_same ⟨#[82, 114]⟩ b w (by decide))
  have HD := Lib.hid (index_same ⟨#[76, 108]⟩ b w (by decide))
  have hF : Hid (apartB a b = (decide (0 ≤ Lib.indexByte [76, 108] a) && decide (0 ≤ Lib.indexByte [82, 114] b) || decide (0 ≤ Lib.indexByte [82, 114] a) && decide (0 ≤ Lib.indexByte [76, 108] b))) := by
    rw [Hid]; unfold apartB; rw [left_iff a, right_iff a, right_iff b, left_iff b]
  rw [hF.out]
  have e1 : (⟨#[76, 108]⟩ : ByteArray).data.toList = [76, 108] := rfl
  have e2 : (⟨#[82, 114]⟩ : ByteArray).data.toList = [82, 114] := rfl
  rw [e1] at HA HD
  rw [e2] at HB HC
  clear e1 e2 hF
  obtain ⟨x1, h1⟩ : ∃ x, Hid (Lib.indexByte [76, 108] a = x) := ⟨_, Lib.hid rfl⟩
  obtain ⟨x2, h2⟩ : ∃ x, Hid (Lib.indexByte [82, 114] b = x) := ⟨_, Lib.hid rfl⟩
  obtain ⟨x3, h3⟩ : ∃ x, Hid (Lib.indexByte [82, 114] a = x) := ⟨_, Lib.hid rfl⟩
  obtain ⟨x4, h4⟩ : ∃ x, Hid (Lib.indexByte [76, 108] b = x) := ⟨_, Lib.hid rfl⟩
  rw [h1.out, h2.out, h3.out, h4.out]
  rw [h1.out] at HA
  rw [h3.out] at HB
  rw [h2.out] at HC
  rw [h4.out] at HD
  clear h1 h2 h3 h4
  by_cases c1 : 0 ≤ x1 <;> by_cases c2 : 0 ≤ x2 <;> by_cases c3 : 0 ≤ x3 <;> by_cases c4 : 0 ≤ x4
  all_goals
    have d1 : decide (0 ≤ x1) = decide (0 ≤ x1) := rfl
    simp only [c1, decide_true, decide_false] at d1
    go_enter Try.func82, Try.ntmps82
    go_wp2_with (first
      | (go_at_call 43; with_reducible refine HA.out.mono ?_; rintro e w1 ⟨rfl, rfl⟩)
      | (go_at_call 43; with_reducible refine HB.out.mono ?_; rintro e w1 ⟨rfl, rfl⟩)
      | (go_at_call 43; with_reducible refine HC.out.mono ?_; rintro e w1 ⟨rfl, rfl⟩)
      | (go_at_call 43; with_reducible refine HD.out.mono ?_; rintro e w1 ⟨rfl, rfl⟩)
      | fail)
    go_ret
    exact ⟨ret_bool (by first | (simp [c1, c2, c3, c4]; done) | (rw [Bool.eq_iff_iff]; simp; omega) | (simp; omega)), rfl⟩

set_option maxRecDepth 100000 in
theorem many_same (L : List UInt8) (c : UInt8) (w : World) (hL : L.length ≤ 1000) :
    Calls Try.prog 83 #[.string (bL L), .int .u8 c.toNat] w fun e w' => e = .returned (.int .i64 (L.count c)) ∧ w' = w := by
  have hz : (bL L).size = L.length := rfl
  go_enter Try.func83, Try.ntmps83
  go_wp2
  go_loop [5, 6] (fun n i => ∃ k m : Nat, k ≤ L.length ∧ i = .int .i64 k ∧ n = .int .i64 m ∧ m ≤ k ∧ Hid (m = (L.take k).count c)) (fun _ i => L.length - (intOf i).toNat)
  case atStart => exact ⟨0, 0, Nat.zero_le _, rfl, rfl, Nat.le_refl _, Lib.hid (by simp)⟩
  case round =>
    obtain ⟨k, m, hk, rfl, rfl, hmk, hm⟩ := hrel
    by_cases hlt : k < L.length
    · have hsn : Hid ((L.take (k + 1)).count c = m + if L[k] = c then 1 else 0) := by
        rw [Hid, Tor.take_snoc L k hlt, List.count_append, ← hm.out]
        congr 1
        by_cases h : L[k] = c <;> simp [h]
      by_cases hc : L[k] = c
      · have b1 : (((bL L)[k]'hlt).toNat : Int) == (c.toNat : Int) := by rw [bL_get L k hlt, hc]; simp
        have hs2 : Hid (m + 1 = (L.take (k + 1)).count c) := by rw [Hid, hsn.out, if_pos hc]
        clear hc hsn
        go_wp2
        go_round
        case rel => exact ⟨k + 1, m + 1, by omega, by go_num, by go_num, by omega, hs2⟩
        case measure => simp [intOf]; omega
      · have b1 : ((((bL L)[k]'hlt).toNat : Int) == (c.toNat : Int)) = false := by
          rw [bL_get L k hlt]
          simp
          intro h; exact hc (UInt8.toNat_inj.1 (by omega))
        have hs2 : Hid (m = (L.take (k + 1)).count c) := by rw [Hid, hsn.out, if_neg hc]; rfl
        clear hc hsn
        go_wp2
        go_round
        case rel => exact ⟨k + 1, m, by omega, by go_num, rfl, by omega, hs2⟩
        case measure => simp [intOf]; omega
    · go_wp2
      go_ret
      have : k = L.length := by omega
      subst this
      exact ⟨ret_int (by rw [hm.out, List.take_length]), rfl⟩

set_option maxRecDepth 100000 in
theorem times_same (c : UInt8) (n : Nat) (w : World) (hn : n ≤ 1000) :
    Calls Try.prog 84 #[.string ⟨#[c]⟩, .int .i64 n] w fun e w' => e = .returned (.string (bL (List.replicate n c))) ∧ w' = w := by
  have h1 : (⟨#[c]⟩ : ByteArray).size = 1 := rfl
  go_enter Try.func84, Try.ntmps84
  go_wp2
  go_loop [5, 6] (fun s i => ∃ k : Nat, k ≤ n ∧ i = .int .i64 k ∧ s = .string (bL (List.replicate k c))) (fun _ i => n - (intOf i).toNat)
  case atStart => exact ⟨0, Nat.zero_le _, rfl, rfl⟩
  case round =>
    obtain ⟨k, hk, rfl, rfl⟩ := hrel
    have hz : (bL (List.replicate k c)).size = k := by rw [bL_size, List.length_replicate]
    by_cases hlt : k < n
    · have hs2 : Hid (bL (List.replicate k c) ++ ⟨#[c]⟩ = bL (List.replicate (k + 1) c)) := by
        rw [Hid, List.replicate_succ', ← bL_app]; rfl
      go_wp2
      go_round
      case rel => exact ⟨k + 1, by omega, by go_num, congrArg Value.string hs2.out⟩
      case measure => simp [intOf]; omega
    · have : k = n := by omega
      subst this
      go_wp2
      go_ret
      exact ⟨rfl, rfl⟩

theorem times_int (c : UInt8) (x : Int) (w : World) (h0 : 0 ≤ x) (h1 : x ≤ 1000) :
    Calls Try.prog 84 #[.string ⟨#[c]⟩, .int .i64 x] w fun e w' => e = .returned (.string (bL (List.replicate x.toNat c))) ∧ w' = w := by
  obtain ⟨n, rfl⟩ : ∃ n : Nat, x = n := ⟨x.toNat, by omega⟩
  exact times_same c n w (by omega)
set_option maxRecDepth 100000 in
theorem long_same (L : List UInt8) (w : World) (hL : L.length ≤ 16) :
    Calls Try.prog 41 #[.string (bL L)] w fun e w' => e = .returned (.string (bL (longL L))) ∧ w' = w := by
  have hz : (bL L).size = L.length := rfl
  go_enter Try.func41, Try.ntmps41
  go_wp2
  go_loop [3, 4] (fun s i => ∃ (k : Nat) (X : List UInt8), k ≤ L.length ∧ i = .int .i64 k ∧ s = .string (bL X) ∧ X.length ≤ 2 * k ∧ Hid (X = longL (L.take k))) (fun _ i => L.length - (intOf i).toNat)
  case atStart => exact ⟨0, [], Nat.zero_le _, rfl, rfl, Nat.le_refl _, Lib.hid rfl⟩
  case round =>
    obtain ⟨k, X, hk, rfl, rfl, hX, hXe⟩ := hrel
    by_cases hlt : k < L.length
    · have hzX : (bL X).size = X.length := rfl
      have hsn : Hid (∀ Y, longL [L[k]] = Y → X ++ Y = longL (L.take (k + 1))) := fun Y hY => by
        rw [Tor.take_snoc L k hlt, hXe.out, ← hY]; unfold longL; rw [List.flatMap_append]
      have k0 : (k : Int) + 1 ≤ (L.length : Int) := by omega
      by_cases h1 : L[k] = 84
      · have b1 : ((((bL L)[k]'hlt).toNat : Int) == 84) = true := by rw [bL_get L k hlt, h1]; rfl
        have hs := Lib.hid (hsn.out [76, 82] (by rw [h1]; rfl))
        clear h1 hsn
        go_wp2
        go_round
        case rel => exact ⟨k + 1, X ++ [76, 82], by omega, by go_num, congrArg Value.string (bL_app X [76, 82]), by simp; omega, hs⟩
        case measure => simp [intOf]; omega
      · have b1 : ((((bL L)[k]'hlt).toNat : Int) == 84) = false := by
          rw [bL_get L k hlt]; simp
          intro h; exact h1 (UInt8.toNat_inj.1 (by have : (84 : UInt8).toNat = 84 := rfl; omega))
        by_cases h2 : L[k] = 116
        · have b2 : ((((bL L)[k]'hlt).toNat : Int) == 116) = true := by rw [bL_get L k hlt, h2]; rfl
          have hs := Lib.hid (hsn.out [108, 114] (by rw [h2]; rfl))
          clear h1 h2 hsn
          go_wp2
          go_round
          case rel => exact ⟨k + 1, X ++ [108, 114], by omega, by go_num, congrArg Value.string (bL_app X [108, 114]), by simp; omega, hs⟩
          case measure => simp [intOf]; omega
        · have b2 : ((((bL L)[k]'hlt).toNat : Int) == 116) = false := by
            rw [bL_get L k hlt]; simp
            intro h; exact h2 (UInt8.toNat_inj.1 (by have : (116 : UInt8).toNat = 116 := rfl; omega))
          have hs := Lib.hid (hsn.out [L[k]] (by unfold longL; simp [h1, h2]))
          have hx1 : (bL L).extract k (k + 1) = bL [L[k]] := bL_one L k hlt
          have hx2 : (bL [L[k]]).size = 1 := rfl
          clear h1 h2 hsn
          go_wp2
          go_round
          case rel => exact ⟨k + 1, X ++ [L[k]], by omega, by go_num, congrArg Value.string (bL_app X [L[k]]), by simp; omega, hs⟩
          case measure => simp [intOf]; omega
    · have : k = L.length := by omega
      subst this
      go_wp2
      go_ret
      exact ⟨by rw [hXe.out, List.take_length]; rfl, rfl⟩

theorem ordered_len (L : List UInt8) : (orderedL L).length ≤ L.length := by
  have h1 : ∀ (M : List UInt8), M.count 76 + M.count 82 + M.count 108 + M.count 114 ≤ M.length := fun M => by
    induction M with
    | nil => simp
    | cons a r ih =>
      simp only [List.count_cons, List.length_cons]
      by_cases e1 : a = 76
      · subst e1; simp; omega
      · by_cases e2 : a = 82
        · subst e2; simp; omega
        · by_cases e3 : a = 108
          · subst e3; simp; omega
          · by_cases e4 : a = 114
            · subst e4; simp; omega
            · simp [e1, e2, e3, e4]; omega
  have := h1 L
  unfold orderedL
  simp only [List.length_append, List.length_replicate]
  omega

set_option maxRecDepth 100000 in
set_option maxHeartbeats 4000000 in
theorem ordered_same (L : List UInt8) (w : World) (hL : L.length ≤ 100) :
    Calls Try.prog 44 #[.string (bL L)] w fun e w' => e = .returned (.string (bL (orderedL L))) ∧ w' = w := by
  have HA : Hid (Calls Try.prog 83 #[.string (bL L), .int .u8 76] w fun e w' => e = .returned (.int .i64 (L.count 76)) ∧ w' = w) := Lib.hid (many_same L 76 w (by omega))
  have HB : Hid (Calls Try.prog 83 #[.string (bL L), .int .u8 82] w fun e w' => e = .returned (.int .i64 (L.count 82)) ∧ w' = w) := Lib.hid (many_same L 82 w (by omega))
  have HC : Hid (Calls Try.prog 83 #[.string (bL L), .int .u8 108] w fun e w' => e = .returned (.int .i64 (L.count 108)) ∧ w' = w) := Lib.hid (many_same L 108 w (by omega))
  have HD : Hid (Calls Try.prog 83 #[.string (bL L), .int .u8 114] w fun e w' => e = .returned (.int .i64 (L.count 114)) ∧ w' = w) := Lib.hid (many_same L 114 w (by omega))
  have l1 := List.count_le_length (a := (76 : UInt8)) (l := L)
  have l2 := List.count_le_length (a := (82 : UInt8)) (l := L)
  have l3 := List.count_le_length (a := (108 : UInt8)) (l := L)
  have l4 := List.count_le_length (a := (114 : UInt8)) (l := L)
  unfold orderedL
  simp only
  generalize L.count 76 = a at *
  generalize L.count 82 = b at *
  generalize L.count 108 = c at *
  generalize L.count 114 = d at *
  have hzr : ∀ (n : Nat) (q : UInt8), (bL (List.replicate n q)).size = n := fun n q => by rw [bL_size, List.length_replicate]
  have hza : ∀ x y : ByteArray, (x ++ y).size = x.size + y.size := fun x y => ByteArray.size_append
  have i0 : (a : Int) ≤ 100 := by omega
  have i1 : (b : Int) ≤ 100 := by omega
  have i2 : (c : Int) ≤ 100 := by omega
  have i3 : (d : Int) ≤ 100 := by omega
  go_enter Try.func44, Try.ntmps44
  go_wp2_with (first
    | (go_at_call 83; with_reducible refine HA.out.mono ?_; rintro e w1 ⟨rfl, rfl⟩)
    | (go_at_call 83; with_reducible refine HB.out.mono ?_; rintro e w1 ⟨rfl, rfl⟩)
    | (go_at_call 83; with_reducible refine HC.out.mono ?_; rintro e w1 ⟨rfl, rfl⟩)
    | (go_at_call 83; with_reducible refine HD.out.mono ?_; rintro e w1 ⟨rfl, rfl⟩)
    | (go_at_call 84; refine (times_int _ _ _ (by omega) (by omega)).mono ?_; rintro e w1 ⟨rfl, rfl⟩)
    | fail)
  go_ret
  have e1 : ((a : Int) - min (a : Int) b).toNat = a - min a b := by omega
  have e2 : ((b : Int) - min (a : Int) b).toNat = b - min a b := by omega
  have e3 : (min (a : Int) b).toNat = min a b := by omega
  have e4 : ((c : Int) - min (c : Int) d).toNat = c - min c d := by omega
  have e5 : ((d : Int) - min (c : Int) d).toNat = d - min c d := by omega
  have e6 : (min (c : Int) d).toNat = min c d := by omega
  have hS : bL (List.replicate ((a : Int) - min (a : Int) b).toNat 76) ++ bL (List.replicate ((b : Int) - min (a : Int) b).toNat 82) ++ bL (List.replicate (min (a : Int) b).toNat 84) ++ bL (List.replicate ((c : Int) - min (c : Int) d).toNat 108) ++ bL (List.replicate ((d : Int) - min (c : Int) d).toNat 114) ++ bL (List.replicate (min (c : Int) d).toNat 116)
      = bL (List.replicate (a - min a b) 76 ++ List.replicate (b - min a b) 82 ++ List.replicate (min a b) 84 ++ List.replicate (c - min c d) 108 ++ List.replicate (d - min c d) 114 ++ List.replicate (min c d) 116) := by
    rw [e1, e2, e3, e4, e5, e6, bL_app, bL_app, bL_app, bL_app, bL_app]
  exact ⟨congrArg (fun x => Ending.returned (.string x)) hS, rfl⟩
end Go.Proofs.Ytblifdchofihoaa
