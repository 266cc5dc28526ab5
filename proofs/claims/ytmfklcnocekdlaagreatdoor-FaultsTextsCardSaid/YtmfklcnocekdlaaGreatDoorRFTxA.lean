/- torchonref25: text, Print, Parse. -/
import Derived.Test.YtmfklcnocekdlaaGreatDoorKinds
import Derived.BigQuiet
import Derived.Test.YtmfklcnocekdlaaGreatDoorFTxM
import Derived.Test.YtmfklcnocekdlaaGreatDoorRNumA
import Derived.Test.YtmfklcnocekdlaaGreatDoorShelf
set_option linter.unusedSimpArgs false
set_option linter.unusedVariables false
namespace Go.Proofs.YtmfklcnocekdlaaGreatDoor
open Go Go.RowKit Tor

set_option maxRecDepth 100000 in
theorem letters_same (w : World) : Calls Tryz.prog 128 #[] w fun e w' => e = .returned (.string ⟨#[67, 76, 80, 82, 84, 99, 108, 114, 116]⟩) ∧ w' = w := by
  go_enter Tryz.func128, Tryz.ntmps128
  go_wp2_with fail
  go_ret
  exact ⟨rfl, rfl⟩

set_option maxRecDepth 100000 in
set_option maxHeartbeats 2000000 in
theorem letter_any (n : Int) (w : World) : Calls Tryz.prog 104 #[.int .i64 n] w (Ret (.bool (decide (n ∈ faultLetters))) w) := by
  obtain ⟨wo, rfl⟩ : ∃ wo : World, wo = w := ⟨_, rfl⟩
  go_enter Tryz.func104, Tryz.ntmps104
  go_wp2_with fail
  go_loopw [3] (fun i wr => ∃ k : Nat, k ≤ 9 ∧ i = .int .i64 k ∧ Hid (n ∉ faultLetters.take k) ∧ Below wo.heap.size wo wr) (fun i _ => 9 - (intOf i).toNat)
  case atStart => exact ⟨0, by omega, rfl, Lib.hid (by simp), Below.refl _ _⟩
  case round =>
    obtain ⟨k, hk, rfl, hno, hB⟩ := hrel
    rcases (show k = 0 ∨ k = 1 ∨ k = 2 ∨ k = 3 ∨ k = 4 ∨ k = 5 ∨ k = 6 ∨ k = 7 ∨ k = 8 ∨ k = 9 by omega) with rfl | rfl | rfl | rfl | rfl | rfl | rfl | rfl | rfl | rfl
    · by_cases hc : n = 67
      · have hn : Hid (decide (n ∈ faultLetters) = true) := Lib.hid (by rw [hc]; decide)
        rw [hn.out]
        have x1 : (n == 67) = true := by rw [hc]; rfl
        have b1 : wrap64 (((⟨#[67, 76, 80, 82, 84, 99, 108, 114, 116]⟩ : ByteArray)[0]'(by decide)).toNat : Int) = 67 := by decide +kernel
        clear hc
        go_wp2_with (first | (go_at_call 128; refine (letters_same _).mono ?_; rintro e w1 ⟨rfl, rfl⟩) | fail)
        go_ret
        exact Ret.val rfl hB
      · have x1 : (n == 67) = false := by simpa using hc
        have b1 : wrap64 (((⟨#[67, 76, 80, 82, 84, 99, 108, 114, 116]⟩ : ByteArray)[0]'(by decide)).toNat : Int) = 67 := by decide +kernel
        have hno2 : Hid (n ∉ faultLetters.take 1) := Lib.hid (by
          have h := hno.out
          clear b1
          simp [faultLetters] at h ⊢
          omega)
        clear hc
        go_wp2_with (first | (go_at_call 128; refine (letters_same _).mono ?_; rintro e w1 ⟨rfl, rfl⟩) | fail)
        go_roundw
        case rel => exact ⟨1, by decide, by go_num, hno2, hB⟩
        case measure => simp [intOf]
    · by_cases hc : n = 76
      · have hn : Hid (decide (n ∈ faultLetters) = true) := Lib.hid (by rw [hc]; decide)
        rw [hn.out]
        have x1 : (n == 76) = true := by rw [hc]; rfl
        have b1 : wrap64 (((⟨#[67, 76, 80, 82, 84, 99, 108, 114, 116]⟩ : ByteArray)[1]'(by decide)).toNat : Int) = 76 := by decide +kernel
        clear hc
        go_wp2_with (first | (go_at_call 128; refine (letters_same _).mono ?_; rintro e w1 ⟨rfl, rfl⟩) | fail)
        go_ret
        exact Ret.val rfl hB
      · have x1 : (n == 76) = false := by simpa using hc
        have b1 : wrap64 (((⟨#[67, 76, 80, 82, 84, 99, 108, 114, 116]⟩ : ByteArray)[1]'(by decide)).toNat : Int) = 76 := by decide +kernel
        have hno2 : Hid (n ∉ faultLetters.take 2) := Lib.hid (by
          have h := hno.out
          clear b1
          simp [faultLetters] at h ⊢
          omega)
        clear hc
        go_wp2_with (first | (go_at_call 128; refine (letters_same _).mono ?_; rintro e w1 ⟨rfl, rfl⟩) | fail)
        go_roundw
        case rel => exact ⟨2, by decide, by go_num, hno2, hB⟩
        case measure => simp [intOf]
    · by_cases hc : n = 80
      · have hn : Hid (decide (n ∈ faultLetters) = true) := Lib.hid (by rw [hc]; decide)
        rw [hn.out]
        have x1 : (n == 80) = true := by rw [hc]; rfl
        have b1 : wrap64 (((⟨#[67, 76, 80, 82, 84, 99, 108, 114, 116]⟩ : ByteArray)[2]'(by decide)).toNat : Int) = 80 := by decide +kernel
        clear hc
        go_wp2_with (first | (go_at_call 128; refine (letters_same _).mono ?_; rintro e w1 ⟨rfl, rfl⟩) | fail)
        go_ret
        exact Ret.val rfl hB
      · have x1 : (n == 80) = false := by simpa using hc
        have b1 : wrap64 (((⟨#[67, 76, 80, 82, 84, 99, 108, 114, 116]⟩ : ByteArray)[2]'(by decide)).toNat : Int) = 80 := by decide +kernel
        have hno2 : Hid (n ∉ faultLetters.take 3) := Lib.hid (by
          have h := hno.out
          clear b1
          simp [faultLetters] at h ⊢
          omega)
        clear hc
        go_wp2_with (first | (go_at_call 128; refine (letters_same _).mono ?_; rintro e w1 ⟨rfl, rfl⟩) | fail)
        go_roundw
        case rel => exact ⟨3, by decide, by go_num, hno2, hB⟩
        case measure => simp [intOf]
    · by_cases hc : n = 82
      · have hn : Hid (decide (n ∈ faultLetters) = true) := Lib.hid (by rw [hc]; decide)
        rw [hn.out]
        have x1 : (n == 82) = true := by rw [hc]; rfl
        have b1 : wrap64 (((⟨#[67, 76, 80, 82, 84, 99, 108, 114, 116]⟩ : ByteArray)[3]'(by decide)).toNat : Int) = 82 := by decide +kernel
        clear hc
        go_wp2_with (first | (go_at_call 128; refine (letters_same _).mono ?_; rintro e w1 ⟨rfl, rfl⟩) | fail)
        go_ret
        exact Ret.val rfl hB
      · have x1 : (n == 82) = false := by simpa using hc
        have b1 : wrap64 (((⟨#[67, 76, 80, 82, 84, 99, 108, 114, 116]⟩ : ByteArray)[3]'(by decide)).toNat : Int) = 82 := by decide +kernel
        have hno2 : Hid (n ∉ faultLetters.take 4) := Lib.hid (by
          have h := hno.out
          clear b1
          simp [faultLetters] at h ⊢
          omega)
        clear hc
        go_wp2_with (first | (go_at_call 128; refine (letters_same _).mono ?_; rintro e w1 ⟨rfl, rfl⟩) | fail)
        go_roundw
        case rel => exact ⟨4, by decide, by go_num, hno2, hB⟩
        case measure => simp [intOf]
    · by_cases hc : n = 84
      · have hn : Hid (decide (n ∈ faultLetters) = true) := Lib.hid (by rw [hc]; decide)
        rw [hn.out]
        have x1 : (n == 84) = true := by rw [hc]; rfl
        have b1 : wrap64 (((⟨#[67, 76, 80, 82, 84, 99, 108, 114, 116]⟩ : ByteArray)[4]'(by decide)).toNat : Int) = 84 := by decide +kernel
        clear hc
        go_wp2_with (first | (go_at_call 128; refine (letters_same _).mono ?_; rintro e w1 ⟨rfl, rfl⟩) | fail)
        go_ret
        exact Ret.val rfl hB
      · have x1 : (n == 84) = false := by simpa using hc
        have b1 : wrap64 (((⟨#[67, 76, 80, 82, 84, 99, 108, 114, 116]⟩ : ByteArray)[4]'(by decide)).toNat : Int) = 84 := by decide +kernel
        have hno2 : Hid (n ∉ faultLetters.take 5) := Lib.hid (by
          have h := hno.out
          clear b1
          simp [faultLetters] at h ⊢
          omega)
        clear hc
        go_wp2_with (first | (go_at_call 128; refine (letters_same _).mono ?_; rintro e w1 ⟨rfl, rfl⟩) | fail)
        go_roundw
        case rel => exact ⟨5, by decide, by go_num, hno2, hB⟩
        case measure => simp [intOf]
    · by_cases hc : n = 99
      · have hn : Hid (decide (n ∈ faultLetters) = true) := Lib.hid (by rw [hc]; decide)
        rw [hn.out]
        have x1 : (n == 99) = true := by rw [hc]; rfl
        have b1 : wrap64 (((⟨#[67, 76, 80, 82, 84, 99, 108, 114, 116]⟩ : ByteArray)[5]'(by decide)).toNat : Int) = 99 := by decide +kernel
        clear hc
        go_wp2_with (first | (go_at_call 128; refine (letters_same _).mono ?_; rintro e w1 ⟨rfl, rfl⟩) | fail)
        go_ret
        exact Ret.val rfl hB
      · have x1 : (n == 99) = false := by simpa using hc
        have b1 : wrap64 (((⟨#[67, 76, 80, 82, 84, 99, 108, 114, 116]⟩ : ByteArray)[5]'(by decide)).toNat : Int) = 99 := by decide +kernel
        have hno2 : Hid (n ∉ faultLetters.take 6) := Lib.hid (by
          have h := hno.out
          clear b1
          simp [faultLetters] at h ⊢
          omega)
        clear hc
        go_wp2_with (first | (go_at_call 128; refine (letters_same _).mono ?_; rintro e w1 ⟨rfl, rfl⟩) | fail)
        go_roundw
        case rel => exact ⟨6, by decide, by go_num, hno2, hB⟩
        case measure => simp [intOf]
    · by_cases hc : n = 108
      · have hn : Hid (decide (n ∈ faultLetters) = true) := Lib.hid (by rw [hc]; decide)
        rw [hn.out]
        have x1 : (n == 108) = true := by rw [hc]; rfl
        have b1 : wrap64 (((⟨#[67, 76, 80, 82, 84, 99, 108, 114, 116]⟩ : ByteArray)[6]'(by decide)).toNat : Int) = 108 := by decide +kernel
        clear hc
        go_wp2_with (first | (go_at_call 128; refine (letters_same _).mono ?_; rintro e w1 ⟨rfl, rfl⟩) | fail)
        go_ret
        exact Ret.val rfl hB
      · have x1 : (n == 108) = false := by simpa using hc
        have b1 : wrap64 (((⟨#[67, 76, 80, 82, 84, 99, 108, 114, 116]⟩ : ByteArray)[6]'(by decide)).toNat : Int) = 108 := by decide +kernel
        have hno2 : Hid (n ∉ faultLetters.take 7) := Lib.hid (by
          have h := hno.out
          clear b1
          simp [faultLetters] at h ⊢
          omega)
        clear hc
        go_wp2_with (first | (go_at_call 128; refine (letters_same _).mono ?_; rintro e w1 ⟨rfl, rfl⟩) | fail)
        go_roundw
        case rel => exact ⟨7, by decide, by go_num, hno2, hB⟩
        case measure => simp [intOf]
    · by_cases hc : n = 114
      · have hn : Hid (decide (n ∈ faultLetters) = true) := Lib.hid (by rw [hc]; decide)
        rw [hn.out]
        have x1 : (n == 114) = true := by rw [hc]; rfl
        have b1 : wrap64 (((⟨#[67, 76, 80, 82, 84, 99, 108, 114, 116]⟩ : ByteArray)[7]'(by decide)).toNat : Int) = 114 := by decide +kernel
        clear hc
        go_wp2_with (first | (go_at_call 128; refine (letters_same _).mono ?_; rintro e w1 ⟨rfl, rfl⟩) | fail)
        go_ret
        exact Ret.val rfl hB
      · have x1 : (n == 114) = false := by simpa using hc
        have b1 : wrap64 (((⟨#[67, 76, 80, 82, 84, 99, 108, 114, 116]⟩ : ByteArray)[7]'(by decide)).toNat : Int) = 114 := by decide +kernel
        have hno2 : Hid (n ∉ faultLetters.take 8) := Lib.hid (by
          have h := hno.out
          clear b1
          simp [faultLetters] at h ⊢
          omega)
        clear hc
        go_wp2_with (first | (go_at_call 128; refine (letters_same _).mono ?_; rintro e w1 ⟨rfl, rfl⟩) | fail)
        go_roundw
        case rel => exact ⟨8, by decide, by go_num, hno2, hB⟩
        case measure => simp [intOf]
    · by_cases hc : n = 116
      · have hn : Hid (decide (n ∈ faultLetters) = true) := Lib.hid (by rw [hc]; decide)
        rw [hn.out]
        have x1 : (n == 116) = true := by rw [hc]; rfl
        have b1 : wrap64 (((⟨#[67, 76, 80, 82, 84, 99, 108, 114, 116]⟩ : ByteArray)[8]'(by decide)).toNat : Int) = 116 := by decide +kernel
        clear hc
        go_wp2_with (first | (go_at_call 128; refine (letters_same _).mono ?_; rintro e w1 ⟨rfl, rfl⟩) | fail)
        go_ret
        exact Ret.val rfl hB
      · have x1 : (n == 116) = false := by simpa using hc
        have b1 : wrap64 (((⟨#[67, 76, 80, 82, 84, 99, 108, 114, 116]⟩ : ByteArray)[8]'(by decide)).toNat : Int) = 116 := by decide +kernel
        have hno2 : Hid (n ∉ faultLetters.take 9) := Lib.hid (by
          have h := hno.out
          clear b1
          simp [faultLetters] at h ⊢
          omega)
        clear hc
        go_wp2_with (first | (go_at_call 128; refine (letters_same _).mono ?_; rintro e w1 ⟨rfl, rfl⟩) | fail)
        go_roundw
        case rel => exact ⟨9, by decide, by go_num, hno2, hB⟩
        case measure => simp [intOf]
    · have hn : Hid (decide (n ∈ faultLetters) = false) := Lib.hid (decide_eq_false hno.out)
      rw [hn.out]
      go_wp2_with (first | (go_at_call 128; refine (letters_same _).mono ?_; rintro e w1 ⟨rfl, rfl⟩) | fail)
      go_ret
      exact Ret.val (by rw [hn.out]; rfl) hB


set_option maxRecDepth 100000 in
set_option maxHeartbeats 4000000 in
theorem shaped_any25 (f : Flt) (w : World) : Calls Tryz.prog 56 #[.agg #[.int .i64 f.k, .int .i64 f.st, .int .i64 f.lt, .int .i64 f.wi]] w (Ret (.bool (shapedF f)) w) := by
  obtain ⟨k, st, lt, wi⟩ := f
  simp only
  have hBB : Below w.heap.size w (w.alloc (.cells #[.int .i64 k, .int .i64 st, .int .i64 lt, .int .i64 wi] 41)) := by (repeat' first | exact Below.refl _ _ | apply Below.drew | (refine Below.setCells ?_ _ _ ?_) | (refine Below.setCell ?_ ?_ _) | (refine Below.alloc ?_ ?_ _) | (simp; done) | (simp; omega))
  by_cases hin : 1 ≤ k ∧ k ≤ 6
  · rcases (show k = 1 ∨ k = 2 ∨ k = 3 ∨ k = 4 ∨ k = 5 ∨ k = 6 by omega) with rfl | rfl | rfl | rfl | rfl | rfl
    · go_enter Tryz.func56, Tryz.ntmps56
      go_wp2_with fail
      go_ret
      exact Ret.val (by simp [shapedF]; rfl) hBB
    · go_enter Tryz.func56, Tryz.ntmps56
      go_wp2_with (first | (go_at_call 104; refine (letter_any wi _).mono ?_; rintro e w1 ⟨rfl, hB1⟩) | fail)
      go_ret
      exact Ret.val (by simp [shapedF]) (hBB.trans (hB1.mono hBB.size))
    · go_enter Tryz.func56, Tryz.ntmps56
      go_wp2_with fail
      go_ret
      exact Ret.val (by simp [shapedF]; rfl) hBB
    · rcases (show (lt = 0 ∧ wi = 0) ∨ (lt = 0 ∧ ¬ wi = 0) ∨ (¬ lt = 0 ∧ wi = 0) ∨ (¬ lt = 0 ∧ ¬ wi = 0) by omega) with ⟨h1, h2⟩ | ⟨h1, h2⟩ | ⟨h1, h2⟩ | ⟨h1, h2⟩
      · have x1 : (lt == 0) = true := by simpa using h1
        have x2 : (wi == 0) = true := by simpa using h2
        have hs : Hid (shapedF ⟨4, st, lt, wi⟩ = true) := by rw [Hid]; unfold shapedF; simp [h1, h2]
        rw [hs.out]
        clear h1 h2
        go_enter Tryz.func56, Tryz.ntmps56
        go_wp2_with fail
        go_ret
        exact Ret.val rfl hBB
      · have x1 : (lt == 0) = true := by simpa using h1
        have x2 : (wi == 0) = false := by simpa using h2
        have hs : Hid (shapedF ⟨4, st, lt, wi⟩ = false) := by rw [Hid]; unfold shapedF; simp [h1, h2]
        rw [hs.out]
        clear h1 h2
        go_enter Tryz.func56, Tryz.ntmps56
        go_wp2_with fail
        go_ret
        exact Ret.val rfl hBB
      · have x1 : (lt == 0) = false := by simpa using h1
        have x2 : (wi == 0) = true := by simpa using h2
        have hs : Hid (shapedF ⟨4, st, lt, wi⟩ = false) := by rw [Hid]; unfold shapedF; simp [h1, h2]
        rw [hs.out]
        clear h1 h2
        go_enter Tryz.func56, Tryz.ntmps56
        go_wp2_with fail
        go_ret
        exact Ret.val rfl hBB
      · have x1 : (lt == 0) = false := by simpa using h1
        have x2 : (wi == 0) = false := by simpa using h2
        have hs : Hid (shapedF ⟨4, st, lt, wi⟩ = false) := by rw [Hid]; unfold shapedF; simp [h1, h2]
        rw [hs.out]
        clear h1 h2
        go_enter Tryz.func56, Tryz.ntmps56
        go_wp2_with fail
        go_ret
        exact Ret.val rfl hBB
    · rcases (show (lt = 0 ∧ wi = 1) ∨ (lt = 0 ∧ wi = -1) ∨ (lt = 0 ∧ ¬ wi = 1 ∧ ¬ wi = -1) ∨ ¬ lt = 0 by omega) with ⟨h1, h2⟩ | ⟨h1, h2⟩ | ⟨h1, h2, h3⟩ | h1
      · skip
        have x1 : (lt == 0) = true := by simpa using h1
        have x2 : (wi == 1) = true := by simpa using h2
        have hs : Hid (shapedF ⟨5, st, lt, wi⟩ = true) := by rw [Hid]; unfold shapedF; simp [h1, h2]
        rw [hs.out]
        clear h1 h2
        go_enter Tryz.func56, Tryz.ntmps56
        go_wp2_with fail
        go_ret
        exact Ret.val rfl hBB
      · skip
        have x1 : (lt == 0) = true := by simpa using h1
        have x2 : (wi == 1) = false := by simp; omega
        have x3 : (wi == -1) = true := by simpa using h2
        have hs : Hid (shapedF ⟨5, st, lt, wi⟩ = true) := by rw [Hid]; unfold shapedF; simp [h1, h2]
        rw [hs.out]
        clear h1 h2
        go_enter Tryz.func56, Tryz.ntmps56
        go_wp2_with fail
        go_ret
        exact Ret.val rfl hBB
      · skip
        have x1 : (lt == 0) = true := by simpa using h1
        have x2 : (wi == 1) = false := by simpa using h2
        have x3 : (wi == -1) = false := by simpa using h3
        have hs : Hid (shapedF ⟨5, st, lt, wi⟩ = false) := by rw [Hid]; unfold shapedF; simp [h1, h2, h3]
        rw [hs.out]
        clear h1 h2 h3
        go_enter Tryz.func56, Tryz.ntmps56
        go_wp2_with fail
        go_ret
        exact Ret.val rfl hBB
      · skip
        have x1 : (lt == 0) = false := by simpa using h1
        have hs : Hid (shapedF ⟨5, st, lt, wi⟩ = false) := by rw [Hid]; unfold shapedF; simp [h1]
        rw [hs.out]
        clear h1
        go_enter Tryz.func56, Tryz.ntmps56
        go_wp2_with fail
        go_ret
        exact Ret.val rfl hBB
    · rcases (show (lt = 0 ∧ wi = 0) ∨ (lt = 0 ∧ ¬ wi = 0) ∨ (¬ lt = 0 ∧ wi = 0) ∨ (¬ lt = 0 ∧ ¬ wi = 0) by omega) with ⟨h1, h2⟩ | ⟨h1, h2⟩ | ⟨h1, h2⟩ | ⟨h1, h2⟩
      · have x1 : (lt == 0) = true := by simpa using h1
        have x2 : (wi == 0) = true := by simpa using h2
        have hs : Hid (shapedF ⟨6, st, lt, wi⟩ = true) := by rw [Hid]; unfold shapedF; simp [h1, h2]
        rw [hs.out]
        clear h1 h2
        go_enter Tryz.func56, Tryz.ntmps56
        go_wp2_with fail
        go_ret
        exact Ret.val rfl hBB
      · have x1 : (lt == 0) = true := by simpa using h1
        have x2 : (wi == 0) = false := by simpa using h2
        have hs : Hid (shapedF ⟨6, st, lt, wi⟩ = false) := by rw [Hid]; unfold shapedF; simp [h1, h2]
        rw [hs.out]
        clear h1 h2
        go_enter Tryz.func56, Tryz.ntmps56
        go_wp2_with fail
        go_ret
        exact Ret.val rfl hBB
      · have x1 : (lt == 0) = false := by simpa using h1
        have x2 : (wi == 0) = true := by simpa using h2
        have hs : Hid (shapedF ⟨6, st, lt, wi⟩ = false) := by rw [Hid]; unfold shapedF; simp [h1, h2]
        rw [hs.out]
        clear h1 h2
        go_enter Tryz.func56, Tryz.ntmps56
        go_wp2_with fail
        go_ret
        exact Ret.val rfl hBB
      · have x1 : (lt == 0) = false := by simpa using h1
        have x2 : (wi == 0) = false := by simpa using h2
        have hs : Hid (shapedF ⟨6, st, lt, wi⟩ = false) := by rw [Hid]; unfold shapedF; simp [h1, h2]
        rw [hs.out]
        clear h1 h2
        go_enter Tryz.func56, Tryz.ntmps56
        go_wp2_with fail
        go_ret
        exact Ret.val rfl hBB
  · have hs := Lib.hid (shapedF_out (f := ⟨k, st, lt, wi⟩) hin)
    rw [hs.out]
    have x1 : (k == 1) = false := by simp; omega
    have x2 : (k == 2) = false := by simp; omega
    have x3 : (k == 3) = false := by simp; omega
    have x4 : (k == 4) = false := by simp; omega
    have x5 : (k == 5) = false := by simp; omega
    have x6 : (k == 6) = false := by simp; omega
    clear hin
    go_enter Tryz.func56, Tryz.ntmps56
    go_wp2_with fail
    go_ret
    exact Ret.val rfl hBB


end Go.Proofs.YtmfklcnocekdlaaGreatDoor

namespace Go.Proofs.YtmfklcnocekdlaaGreatDoor
open Go Go.RowKit Tor

theorem below_drew {W w' : World} (h : Below W.drew.heap.size W.drew w') : Below W.heap.size W w' := ⟨h.os, h.tape, h.output, h.size, h.block⟩
theorem bN_cat25 (a b : List UInt8) : bN a ++ bN b = bN (a ++ b) := ByteArray.ext (Array.ext' (by rw [ByteArray.data_append, Array.toList_append]; rfl))
set_option maxRecDepth 100000 in
theorem names25_any (w : World) : Calls Tryz.prog 105 #[] w fun e w' => ∃ g : Nat, e = .returned (.slice (some ⟨g, 0, none⟩) 7 7) ∧ (∀ k : Nat, 1 ≤ k → k ≤ 6 → w'.cell? ⟨g, k, none⟩ = some (.string (bN (fnm k)))) ∧ g < w'.heap.size ∧ Below w.heap.size w w' := by
  go_enter Tryz.func105, Tryz.ntmps105
  go_wp2_with fail
  go_ret
  have kB := Blk.new w 9 #[.string ⟨#[]⟩, .string ⟨#[109, 105, 115, 115]⟩, .string ⟨#[101, 120, 116, 114, 97]⟩, .string ⟨#[116, 117, 114, 110]⟩, .string ⟨#[115, 107, 105, 112]⟩, .string ⟨#[112, 108, 97, 99, 101]⟩, .string ⟨#[115, 119, 97, 112]⟩]
  refine ⟨w.heap.size, rfl, fun k h1 h6 => ?_, kB.lt, (Below.refl _ _).alloc (Nat.le_refl _) _⟩
  rcases (show k = 1 ∨ k = 2 ∨ k = 3 ∨ k = 4 ∨ k = 5 ∨ k = 6 by omega) with rfl | rfl | rfl | rfl | rfl | rfl
  · exact kB.cell 1 _ rfl
  · exact kB.cell 2 _ rfl
  · exact kB.cell 3 _ rfl
  · exact kB.cell 4 _ rfl
  · exact kB.cell 5 _ rfl
  · exact kB.cell 6 _ rfl
theorem itoa_len3 {n : Int} (h0 : -1 ≤ n) (h1 : n ≤ 999) : (Lib.itoa n).length ≤ 1000 := by
  unfold Lib.itoa
  split
  · have : n = -1 := by omega
    subst this
    rw [show (-1 : Int).natAbs = 1 from rfl, Lib.decDigits_one (by omega)]; simp
  · have := Lib.decDigits_length n.toNat
    have h2 : Lib.nDigits n.toNat ≤ n.toNat + 1 := by
      have key : ∀ u : Nat, Lib.nDigits u ≤ u + 1 := by
        intro u
        induction u using Nat.strongRecOn with
        | _ u ih =>
          rw [Lib.nDigits]
          split
          · omega
          · have := ih (u / 10) (by omega); omega
      exact key _
    omega
theorem fnm_len (k : Int) : (fnm k).length ≤ 5 := by
  unfold fnm kname
  repeat' split
  all_goals decide
set_option maxRecDepth 100000 in
set_option maxHeartbeats 4000000 in
theorem text25_D (k : Nat) (st lt wi : Int) (h1 : 1 ≤ k) (h6 : k ≤ 6) (hk : k = 4 ∨ k = 6) (hs0 : 0 ≤ st) (hs1 : st ≤ 999) (hl0 : 0 ≤ lt) (hl1 : lt ≤ 16) (w : World) :
    Calls Tryz.prog 57 #[.agg #[.int .i64 (k : Int), .int .i64 st, .int .i64 lt, .int .i64 wi]] w (Ret (.string (bN (textF ⟨k, st, lt, wi⟩))) w) := by
  have HD := Lib.hid (fun w' => rdig_any st (by omega) (by omega) w')
  have zd := itoa_len3 (n := st) (by omega) (by omega)
  have zn := fnm_len k
  have c3 : ¬ (k : Int) ≤ 3 := by omega
  have c2 : ((k : Int) == 2) = false := by rw [beq_eq_false_iff_ne]; omega
  have c5 : ((k : Int) == 5) = false := by rw [beq_eq_false_iff_ne]; omega
  obtain ⟨NM, hNM⟩ : ∃ NM, Hid (bN (fnm k) = NM) := ⟨_, Lib.hid rfl⟩
  obtain ⟨D, hD⟩ : ∃ D, Hid (bN (Lib.itoa st) = D) := ⟨_, Lib.hid rfl⟩
  have zN : NM.size ≤ 5 := by rw [← hNM.out]; exact zn
  have zD : D.size ≤ 1000 := by rw [← hD.out]; exact zd
  have zS : (⟨#[32]⟩ : ByteArray).size = 1 := rfl
  rw [hD.out] at HD
  obtain ⟨T, HT⟩ : ∃ T, Hid (bN (textF ⟨k, st, lt, wi⟩) = T) := ⟨_, Lib.hid rfl⟩
  have hcat : Hid (NM ++ ⟨#[32]⟩ ++ D = T) := by
    rw [Hid, ← HT.out, ← hNM.out, ← hD.out, show (⟨#[32]⟩ : ByteArray) = bN [32] from rfl]
    simp only [bN_cat25]
    congr 1
    rcases hk with rfl | rfl <;> simp [textF, piecesF, klet, joinS]
  rw [HT.out]
  clear zn zd
  have HK := Lib.hid hk
  clear hk
  have kb0 : (0 : Int) ≤ (k : Int) := by omega
  have kb1 : (k : Int) < 7 := by omega
  have hBB : Below w.heap.size w (w.alloc (.cells #[.int .i64 (k : Int), .int .i64 st, .int .i64 lt, .int .i64 wi] 41)) := by (repeat' first | exact Below.refl _ _ | apply Below.drew | (refine Below.setCells ?_ _ _ ?_) | (refine Below.setCell ?_ ?_ _) | (refine Below.alloc ?_ ?_ _) | (simp; done) | (simp; omega))
  have kF := Blk.new w 41 #[.int .i64 (k : Int), .int .i64 st, .int .i64 lt, .int .i64 wi]
  have y1 : ¬ 9223372036854775807 < NM.size + 1 := by omega
  have y2 : (NM ++ ⟨#[32]⟩).size + D.size ≤ 9223372036854775807 := by rw [ByteArray.size_append]; omega
  have y2' : ¬ 9223372036854775807 < NM.size + 1 + D.size := by omega
  go_enter Tryz.func57, Tryz.ntmps57
  go_wp2_with fail
  have fl := kF.lt
  generalize w.alloc (.cells #[.int .i64 (k : Int), .int .i64 st, .int .i64 lt, .int .i64 wi] 41) = W at *
  refine wp_region_J (fun w' => w'.cell? ⟨w.heap.size, 0, none⟩ = some (.int .i64 (k : Int)) ∧ w'.cell? ⟨w.heap.size, 1, none⟩ = some (.int .i64 st)) (fun _ => True) (fun _ => false) (by kernel_rfl) ?_
  have hS1 : W.drew.cell? ⟨w.heap.size, 0, none⟩ = some (.int .i64 (k : Int)) ∧ W.drew.cell? ⟨w.heap.size, 1, none⟩ = some (.int .i64 st) := ⟨kF.cell 0 _ rfl, kF.cell 1 _ rfl⟩
  refine wpAnyJ_take1 1 rfl (by kernel_rfl) (by kernel_rfl) rfl (by kernel_rfl) (fun _ _ _ h => h) (by rfl) hS1 (fun w' hSw => (by obtain ⟨z1, z2⟩ := hSw; go_simp; try (with_reducible rfl))) ?_
  try simp only [Act.put, List.getElem_toArray, List.getElem_cons_succ, List.getElem_cons_zero, List.setIfInBounds_toArray, List.set_cons_zero, List.set_cons_succ]
  refine wpAnyJ_take1 2 rfl (by kernel_rfl) (by kernel_rfl) rfl (by kernel_rfl) (fun _ _ _ h => h) (by rfl) hS1 (fun w' hSw => (by obtain ⟨z1, z2⟩ := hSw; go_simp; try (with_reducible rfl))) ?_
  try simp only [Act.put, List.getElem_toArray, List.getElem_cons_succ, List.getElem_cons_zero, List.setIfInBounds_toArray, List.set_cons_zero, List.set_cons_succ]
  refine wpAnyJ_take1 6 rfl (by kernel_rfl) (by kernel_rfl) rfl (by kernel_rfl) (fun _ _ _ h => h) (by rfl) hS1 (fun w' hSw => (by obtain ⟨z1, z2⟩ := hSw; go_simp; try (with_reducible rfl))) ?_
  try simp only [Act.put, List.getElem_toArray, List.getElem_cons_succ, List.getElem_cons_zero, List.setIfInBounds_toArray, List.set_cons_zero, List.set_cons_succ]
  refine wpAnyJ_take1 7 rfl (by kernel_rfl) (by kernel_rfl) rfl (by kernel_rfl) (fun _ _ _ h => h) (by rfl) hS1 (fun w' hSw => (by obtain ⟨z1, z2⟩ := hSw; go_simp; try (with_reducible rfl))) ?_
  try simp only [Act.put, List.getElem_toArray, List.getElem_cons_succ, List.getElem_cons_zero, List.setIfInBounds_toArray, List.set_cons_zero, List.set_cons_succ]
  refine wpAnyJ_ready [0] (by kernel_rfl) (by simp) (NextJ.cons rfl (fun K hK => ?_) NextJ.nil)
  go_simp
  refine (names25_any W.drew).mono ?_
  rintro e w5 ⟨g, rfl, hN, hg, hB5⟩
  have n5 := hN k h1 h6
  rw [hNM.out] at n5
  have hn5 := Lib.hid hN
  clear hN
  have kF5 := kF.drew.below' hB5
  have q5 := hBB.trans ((below_drew hB5).mono hBB.size)
  have hS5 := And.intro (kF5.cell 0 _ rfl) (kF5.cell 1 _ rfl)
  go_simp
  refine hK.out _ _ hS5 (fun h => absurd h (by decide)) ?_
  clear hK K
  try simp only [Act.put, List.getElem_toArray, List.getElem_cons_succ, List.getElem_cons_zero, List.setIfInBounds_toArray, List.set_cons_zero, List.set_cons_succ]
  refine wpAnyJ_take1 3 rfl (by kernel_rfl) (by kernel_rfl) rfl (by kernel_rfl) (fun _ _ _ h => h) (by rfl) hS5 (fun w' hSw => (by obtain ⟨z1, z2⟩ := hSw; go_simp; try (with_reducible rfl))) ?_
  try simp only [Act.put, List.getElem_toArray, List.getElem_cons_succ, List.getElem_cons_zero, List.setIfInBounds_toArray, List.set_cons_zero, List.set_cons_succ]
  refine wpAnyJ_ready [4, 8] (by kernel_rfl) (by simp) (NextJ.cons rfl (fun K hK => ?_) (NextJ.cons rfl (fun K hK => ?_) NextJ.nil))
  · skip
    go_simp
    refine hK.out _ _ hS5 (fun h => absurd h (by decide)) ?_
    clear hK K
    try simp only [Act.put, List.getElem_toArray, List.getElem_cons_succ, List.getElem_cons_zero, List.setIfInBounds_toArray, List.set_cons_zero, List.set_cons_succ]
    refine wpAnyJ_take1 5 rfl (by kernel_rfl) (by kernel_rfl) rfl (by kernel_rfl) (fun _ _ _ h => h) (by rfl) hS5 (fun w' hSw => (by obtain ⟨z1, z2⟩ := hSw; go_simp; try (with_reducible rfl))) ?_
    try simp only [Act.put, List.getElem_toArray, List.getElem_cons_succ, List.getElem_cons_zero, List.setIfInBounds_toArray, List.set_cons_zero, List.set_cons_succ]
    refine wpAnyJ_ready [8] (by kernel_rfl) (by simp) (NextJ.cons rfl (fun K hK => ?_) NextJ.nil)
    go_simp
    refine (HD.out w5).mono ?_
    rintro e w6 ⟨rfl, hB6⟩
    have kF6 := kF5.below' hB6
    have q6 := q5.trans (hB6.mono q5.size)
    have hS6 := And.intro (kF6.cell 0 _ rfl) (kF6.cell 1 _ rfl)
    go_simp
    refine hK.out _ _ hS6 (fun h => absurd h (by decide)) ?_
    clear hK K
    try simp only [Act.put, List.getElem_toArray, List.getElem_cons_succ, List.getElem_cons_zero, List.setIfInBounds_toArray, List.set_cons_zero, List.set_cons_succ]
    refine wpAnyJ_take1 9 rfl (by kernel_rfl) (by kernel_rfl) rfl (by kernel_rfl) (fun _ _ _ h => h) (by rfl) hS6 (fun w' hSw => (by obtain ⟨z1, z2⟩ := hSw; go_simp; try (with_reducible rfl))) ?_
    try simp only [Act.put, List.getElem_toArray, List.getElem_cons_succ, List.getElem_cons_zero, List.setIfInBounds_toArray, List.set_cons_zero, List.set_cons_succ]
    refine wpAnyJ_take1 10 rfl (by kernel_rfl) (by kernel_rfl) rfl (by kernel_rfl) (fun _ _ _ h => h) (by rfl) hS6 (fun w' hSw => (by obtain ⟨z1, z2⟩ := hSw; go_simp; try (with_reducible rfl))) ?_
    try simp only [Act.put, List.getElem_toArray, List.getElem_cons_succ, List.getElem_cons_zero, List.setIfInBounds_toArray, List.set_cons_zero, List.set_cons_succ]
    refine wpAnyJ_done (by kernel_rfl) ?_ _
    have f0 := kF6.cell 0 _ rfl
    have f2 := kF6.cell 2 _ rfl
    have f3 := kF6.cell 3 _ rfl
    have fl' := kF6.lt
    clear hS1
    go_wp2_with fail
    go_ret
    rw [hcat.out]
    exact ⟨rfl, q6⟩
  · skip
    go_simp
    refine (HD.out w5).mono ?_
    rintro e w6 ⟨rfl, hB6⟩
    have kF6 := kF5.below' hB6
    have q6 := q5.trans (hB6.mono q5.size)
    have hS6 := And.intro (kF6.cell 0 _ rfl) (kF6.cell 1 _ rfl)
    go_simp
    refine hK.out _ _ hS6 (fun h => absurd h (by decide)) ?_
    clear hK K
    try simp only [Act.put, List.getElem_toArray, List.getElem_cons_succ, List.getElem_cons_zero, List.setIfInBounds_toArray, List.set_cons_zero, List.set_cons_succ]
    have n6 := (hB6.cell (p := ⟨g, k, none⟩) hg).trans n5
    refine wpAnyJ_ready [4] (by kernel_rfl) (by simp) (NextJ.cons rfl (fun K hK => ?_) NextJ.nil)
    go_simp
    refine hK.out _ _ hS6 (fun h => absurd h (by decide)) ?_
    clear hK K
    try simp only [Act.put, List.getElem_toArray, List.getElem_cons_succ, List.getElem_cons_zero, List.setIfInBounds_toArray, List.set_cons_zero, List.set_cons_succ]
    refine wpAnyJ_take1 5 rfl (by kernel_rfl) (by kernel_rfl) rfl (by kernel_rfl) (fun _ _ _ h => h) (by rfl) hS6 (fun w' hSw => (by obtain ⟨z1, z2⟩ := hSw; go_simp; try (with_reducible rfl))) ?_
    try simp only [Act.put, List.getElem_toArray, List.getElem_cons_succ, List.getElem_cons_zero, List.setIfInBounds_toArray, List.set_cons_zero, List.set_cons_succ]
    refine wpAnyJ_take1 9 rfl (by kernel_rfl) (by kernel_rfl) rfl (by kernel_rfl) (fun _ _ _ h => h) (by rfl) hS6 (fun w' hSw => (by obtain ⟨z1, z2⟩ := hSw; go_simp; try (with_reducible rfl))) ?_
    try simp only [Act.put, List.getElem_toArray, List.getElem_cons_succ, List.getElem_cons_zero, List.setIfInBounds_toArray, List.set_cons_zero, List.set_cons_succ]
    refine wpAnyJ_take1 10 rfl (by kernel_rfl) (by kernel_rfl) rfl (by kernel_rfl) (fun _ _ _ h => h) (by rfl) hS6 (fun w' hSw => (by obtain ⟨z1, z2⟩ := hSw; go_simp; try (with_reducible rfl))) ?_
    try simp only [Act.put, List.getElem_toArray, List.getElem_cons_succ, List.getElem_cons_zero, List.setIfInBounds_toArray, List.set_cons_zero, List.set_cons_succ]
    refine wpAnyJ_done (by kernel_rfl) ?_ _
    have f0 := kF6.cell 0 _ rfl
    have f2 := kF6.cell 2 _ rfl
    have f3 := kF6.cell 3 _ rfl
    have fl' := kF6.lt
    clear hS1
    go_wp2_with fail
    go_ret
    rw [hcat.out]
    exact ⟨rfl, q6⟩
set_option maxRecDepth 100000 in
set_option maxHeartbeats 4000000 in
theorem text25_A (k : Nat) (st lt wi : Int) (h1 : 1 ≤ k) (h6 : k ≤ 6) (hk : k = 1 ∨ k = 3) (hs0 : 0 ≤ st) (hs1 : st ≤ 999) (hl0 : 0 ≤ lt) (hl1 : lt ≤ 16) (w : World) :
    Calls Tryz.prog 57 #[.agg #[.int .i64 (k : Int), .int .i64 st, .int .i64 lt, .int .i64 wi]] w (Ret (.string (bN (textF ⟨k, st, lt, wi⟩))) w) := by
  have HD := Lib.hid (fun w' => rdig_any st (by omega) (by omega) w')
  have zd := itoa_len3 (n := st) (by omega) (by omega)
  have zn := fnm_len k
  have c3 : (k : Int) ≤ 3 := by omega
  have c2 : ((k : Int) == 2) = false := by rw [beq_eq_false_iff_ne]; omega
  have c5 : ((k : Int) == 5) = false := by rw [beq_eq_false_iff_ne]; omega
  obtain ⟨NM, hNM⟩ : ∃ NM, Hid (bN (fnm k) = NM) := ⟨_, Lib.hid rfl⟩
  obtain ⟨D, hD⟩ : ∃ D, Hid (bN (Lib.itoa st) = D) := ⟨_, Lib.hid rfl⟩
  have zN : NM.size ≤ 5 := by rw [← hNM.out]; exact zn
  have zD : D.size ≤ 1000 := by rw [← hD.out]; exact zd
  have zS : (⟨#[32]⟩ : ByteArray).size = 1 := rfl
  rw [hD.out] at HD
  have HE := Lib.hid (fun w' => rdig_any lt (by omega) (by omega) w')
  have ze := itoa_len3 (n := lt) (by omega) (by omega)
  obtain ⟨E, hE⟩ : ∃ E, Hid (bN (Lib.itoa lt) = E) := ⟨_, Lib.hid rfl⟩
  have zE : E.size ≤ 1000 := by rw [← hE.out]; exact ze
  rw [hE.out] at HE
  clear ze
  have y3 : (NM ++ ⟨#[32]⟩ ++ D).size + 1 ≤ 9223372036854775807 := by rw [ByteArray.size_append, ByteArray.size_append]; omega
  have y4 : (NM ++ ⟨#[32]⟩ ++ D ++ ⟨#[32]⟩).size + E.size ≤ 9223372036854775807 := by rw [ByteArray.size_append, ByteArray.size_append, ByteArray.size_append]; omega
  obtain ⟨T, HT⟩ : ∃ T, Hid (bN (textF ⟨k, st, lt, wi⟩) = T) := ⟨_, Lib.hid rfl⟩
  have hcat : Hid (NM ++ ⟨#[32]⟩ ++ D ++ ⟨#[32]⟩ ++ E = T) := by
    rw [Hid, ← HT.out, ← hNM.out, ← hD.out, ← hE.out, show (⟨#[32]⟩ : ByteArray) = bN [32] from rfl]
    simp only [bN_cat25]
    congr 1
    rcases hk with rfl | rfl <;> simp [textF, piecesF, klet, joinS]
  rw [HT.out]
  clear zn zd
  have HK := Lib.hid hk
  clear hk
  have kb0 : (0 : Int) ≤ (k : Int) := by omega
  have kb1 : (k : Int) < 7 := by omega
  have hBB : Below w.heap.size w (w.alloc (.cells #[.int .i64 (k : Int), .int .i64 st, .int .i64 lt, .int .i64 wi] 41)) := by (repeat' first | exact Below.refl _ _ | apply Below.drew | (refine Below.setCells ?_ _ _ ?_) | (refine Below.setCell ?_ ?_ _) | (refine Below.alloc ?_ ?_ _) | (simp; done) | (simp; omega))
  have kF := Blk.new w 41 #[.int .i64 (k : Int), .int .i64 st, .int .i64 lt, .int .i64 wi]
  have y1 : ¬ 9223372036854775807 < NM.size + 1 := by omega
  have y2 : (NM ++ ⟨#[32]⟩).size + D.size ≤ 9223372036854775807 := by rw [ByteArray.size_append]; omega
  have y2' : ¬ 9223372036854775807 < NM.size + 1 + D.size := by omega
  go_enter Tryz.func57, Tryz.ntmps57
  go_wp2_with fail
  have fl := kF.lt
  generalize w.alloc (.cells #[.int .i64 (k : Int), .int .i64 st, .int .i64 lt, .int .i64 wi] 41) = W at *
  refine wp_region_J (fun w' => w'.cell? ⟨w.heap.size, 0, none⟩ = some (.int .i64 (k : Int)) ∧ w'.cell? ⟨w.heap.size, 1, none⟩ = some (.int .i64 st)) (fun _ => True) (fun _ => false) (by kernel_rfl) ?_
  have hS1 : W.drew.cell? ⟨w.heap.size, 0, none⟩ = some (.int .i64 (k : Int)) ∧ W.drew.cell? ⟨w.heap.size, 1, none⟩ = some (.int .i64 st) := ⟨kF.cell 0 _ rfl, kF.cell 1 _ rfl⟩
  refine wpAnyJ_take1 1 rfl (by kernel_rfl) (by kernel_rfl) rfl (by kernel_rfl) (fun _ _ _ h => h) (by rfl) hS1 (fun w' hSw => (by obtain ⟨z1, z2⟩ := hSw; go_simp; try (with_reducible rfl))) ?_
  try simp only [Act.put, List.getElem_toArray, List.getElem_cons_succ, List.getElem_cons_zero, List.setIfInBounds_toArray, List.set_cons_zero, List.set_cons_succ]
  refine wpAnyJ_take1 2 rfl (by kernel_rfl) (by kernel_rfl) rfl (by kernel_rfl) (fun _ _ _ h => h) (by rfl) hS1 (fun w' hSw => (by obtain ⟨z1, z2⟩ := hSw; go_simp; try (with_reducible rfl))) ?_
  try simp only [Act.put, List.getElem_toArray, List.getElem_cons_succ, List.getElem_cons_zero, List.setIfInBounds_toArray, List.set_cons_zero, List.set_cons_succ]
  refine wpAnyJ_take1 6 rfl (by kernel_rfl) (by kernel_rfl) rfl (by kernel_rfl) (fun _ _ _ h => h) (by rfl) hS1 (fun w' hSw => (by obtain ⟨z1, z2⟩ := hSw; go_simp; try (with_reducible rfl))) ?_
  try simp only [Act.put, List.getElem_toArray, List.getElem_cons_succ, List.getElem_cons_zero, List.setIfInBounds_toArray, List.set_cons_zero, List.set_cons_succ]
  refine wpAnyJ_take1 7 rfl (by kernel_rfl) (by kernel_rfl) rfl (by kernel_rfl) (fun _ _ _ h => h) (by rfl) hS1 (fun w' hSw => (by obtain ⟨z1, z2⟩ := hSw; go_simp; try (with_reducible rfl))) ?_
  try simp only [Act.put, List.getElem_toArray, List.getElem_cons_succ, List.getElem_cons_zero, List.setIfInBounds_toArray, List.set_cons_zero, List.set_cons_succ]
  refine wpAnyJ_ready [0] (by kernel_rfl) (by simp) (NextJ.cons rfl (fun K hK => ?_) NextJ.nil)
  go_simp
  refine (names25_any W.drew).mono ?_
  rintro e w5 ⟨g, rfl, hN, hg, hB5⟩
  have n5 := hN k h1 h6
  rw [hNM.out] at n5
  have hn5 := Lib.hid hN
  clear hN
  have kF5 := kF.drew.below' hB5
  have q5 := hBB.trans ((below_drew hB5).mono hBB.size)
  have hS5 := And.intro (kF5.cell 0 _ rfl) (kF5.cell 1 _ rfl)
  go_simp
  refine hK.out _ _ hS5 (fun h => absurd h (by decide)) ?_
  clear hK K
  try simp only [Act.put, List.getElem_toArray, List.getElem_cons_succ, List.getElem_cons_zero, List.setIfInBounds_toArray, List.set_cons_zero, List.set_cons_succ]
  refine wpAnyJ_take1 3 rfl (by kernel_rfl) (by kernel_rfl) rfl (by kernel_rfl) (fun _ _ _ h => h) (by rfl) hS5 (fun w' hSw => (by obtain ⟨z1, z2⟩ := hSw; go_simp; try (with_reducible rfl))) ?_
  try simp only [Act.put, List.getElem_toArray, List.getElem_cons_succ, List.getElem_cons_zero, List.setIfInBounds_toArray, List.set_cons_zero, List.set_cons_succ]
  refine wpAnyJ_ready [4, 8] (by kernel_rfl) (by simp) (NextJ.cons rfl (fun K hK => ?_) (NextJ.cons rfl (fun K hK => ?_) NextJ.nil))
  · skip
    go_simp
    refine hK.out _ _ hS5 (fun h => absurd h (by decide)) ?_
    clear hK K
    try simp only [Act.put, List.getElem_toArray, List.getElem_cons_succ, List.getElem_cons_zero, List.setIfInBounds_toArray, List.set_cons_zero, List.set_cons_succ]
    refine wpAnyJ_take1 5 rfl (by kernel_rfl) (by kernel_rfl) rfl (by kernel_rfl) (fun _ _ _ h => h) (by rfl) hS5 (fun w' hSw => (by obtain ⟨z1, z2⟩ := hSw; go_simp; try (with_reducible rfl))) ?_
    try simp only [Act.put, List.getElem_toArray, List.getElem_cons_succ, List.getElem_cons_zero, List.setIfInBounds_toArray, List.set_cons_zero, List.set_cons_succ]
    refine wpAnyJ_ready [8] (by kernel_rfl) (by simp) (NextJ.cons rfl (fun K hK => ?_) NextJ.nil)
    go_simp
    refine (HD.out w5).mono ?_
    rintro e w6 ⟨rfl, hB6⟩
    have kF6 := kF5.below' hB6
    have q6 := q5.trans (hB6.mono q5.size)
    have hS6 := And.intro (kF6.cell 0 _ rfl) (kF6.cell 1 _ rfl)
    go_simp
    refine hK.out _ _ hS6 (fun h => absurd h (by decide)) ?_
    clear hK K
    try simp only [Act.put, List.getElem_toArray, List.getElem_cons_succ, List.getElem_cons_zero, List.setIfInBounds_toArray, List.set_cons_zero, List.set_cons_succ]
    refine wpAnyJ_take1 9 rfl (by kernel_rfl) (by kernel_rfl) rfl (by kernel_rfl) (fun _ _ _ h => h) (by rfl) hS6 (fun w' hSw => (by obtain ⟨z1, z2⟩ := hSw; go_simp; try (with_reducible rfl))) ?_
    try simp only [Act.put, List.getElem_toArray, List.getElem_cons_succ, List.getElem_cons_zero, List.setIfInBounds_toArray, List.set_cons_zero, List.set_cons_succ]
    refine wpAnyJ_take1 10 rfl (by kernel_rfl) (by kernel_rfl) rfl (by kernel_rfl) (fun _ _ _ h => h) (by rfl) hS6 (fun w' hSw => (by obtain ⟨z1, z2⟩ := hSw; go_simp; try (with_reducible rfl))) ?_
    try simp only [Act.put, List.getElem_toArray, List.getElem_cons_succ, List.getElem_cons_zero, List.setIfInBounds_toArray, List.set_cons_zero, List.set_cons_succ]
    refine wpAnyJ_done (by kernel_rfl) ?_ _
    have f0 := kF6.cell 0 _ rfl
    have f2 := kF6.cell 2 _ rfl
    have f3 := kF6.cell 3 _ rfl
    have fl' := kF6.lt
    clear hS1
    go_wp2_with fail
    refine (HE.out _).mono ?_
    rintro e9 w9 ⟨rfl, hB9⟩
    have k9 := kF6.below' hB9
    have f0 := k9.cell 0 _ rfl
    have f2 := k9.cell 2 _ rfl
    have f3 := k9.cell 3 _ rfl
    have fl' := k9.lt
    go_wp2_with fail
    go_ret
    rw [hcat.out]
    exact ⟨rfl, q6.trans (hB9.mono q6.size)⟩
  · skip
    go_simp
    refine (HD.out w5).mono ?_
    rintro e w6 ⟨rfl, hB6⟩
    have kF6 := kF5.below' hB6
    have q6 := q5.trans (hB6.mono q5.size)
    have hS6 := And.intro (kF6.cell 0 _ rfl) (kF6.cell 1 _ rfl)
    go_simp
    refine hK.out _ _ hS6 (fun h => absurd h (by decide)) ?_
    clear hK K
    try simp only [Act.put, List.getElem_toArray, List.getElem_cons_succ, List.getElem_cons_zero, List.setIfInBounds_toArray, List.set_cons_zero, List.set_cons_succ]
    have n6 := (hB6.cell (p := ⟨g, k, none⟩) hg).trans n5
    refine wpAnyJ_ready [4] (by kernel_rfl) (by simp) (NextJ.cons rfl (fun K hK => ?_) NextJ.nil)
    go_simp
    refine hK.out _ _ hS6 (fun h => absurd h (by decide)) ?_
    clear hK K
    try simp only [Act.put, List.getElem_toArray, List.getElem_cons_succ, List.getElem_cons_zero, List.setIfInBounds_toArray, List.set_cons_zero, List.set_cons_succ]
    refine wpAnyJ_take1 5 rfl (by kernel_rfl) (by kernel_rfl) rfl (by kernel_rfl) (fun _ _ _ h => h) (by rfl) hS6 (fun w' hSw => (by obtain ⟨z1, z2⟩ := hSw; go_simp; try (with_reducible rfl))) ?_
    try simp only [Act.put, List.getElem_toArray, List.getElem_cons_succ, List.getElem_cons_zero, List.setIfInBounds_toArray, List.set_cons_zero, List.set_cons_succ]
    refine wpAnyJ_take1 9 rfl (by kernel_rfl) (by kernel_rfl) rfl (by kernel_rfl) (fun _ _ _ h => h) (by rfl) hS6 (fun w' hSw => (by obtain ⟨z1, z2⟩ := hSw; go_simp; try (with_reducible rfl))) ?_
    try simp only [Act.put, List.getElem_toArray, List.getElem_cons_succ, List.getElem_cons_zero, List.setIfInBounds_toArray, List.set_cons_zero, List.set_cons_succ]
    refine wpAnyJ_take1 10 rfl (by kernel_rfl) (by kernel_rfl) rfl (by kernel_rfl) (fun _ _ _ h => h) (by rfl) hS6 (fun w' hSw => (by obtain ⟨z1, z2⟩ := hSw; go_simp; try (with_reducible rfl))) ?_
    try simp only [Act.put, List.getElem_toArray, List.getElem_cons_succ, List.getElem_cons_zero, List.setIfInBounds_toArray, List.set_cons_zero, List.set_cons_succ]
    refine wpAnyJ_done (by kernel_rfl) ?_ _
    have f0 := kF6.cell 0 _ rfl
    have f2 := kF6.cell 2 _ rfl
    have f3 := kF6.cell 3 _ rfl
    have fl' := kF6.lt
    clear hS1
    go_wp2_with fail
    refine (HE.out _).mono ?_
    rintro e9 w9 ⟨rfl, hB9⟩
    have k9 := kF6.below' hB9
    have f0 := k9.cell 0 _ rfl
    have f2 := k9.cell 2 _ rfl
    have f3 := k9.cell 3 _ rfl
    have fl' := k9.lt
    go_wp2_with fail
    go_ret
    rw [hcat.out]
    exact ⟨rfl, q6.trans (hB9.mono q6.size)⟩
set_option maxRecDepth 100000 in
set_option maxHeartbeats 4000000 in
theorem text25_C (k : Nat) (st lt wi : Int) (h1 : 1 ≤ k) (h6 : k ≤ 6) (hk : k = 5) (hw : wi = 1 ∨ wi = -1) (hs0 : 0 ≤ st) (hs1 : st ≤ 999) (hl0 : 0 ≤ lt) (hl1 : lt ≤ 16) (w : World) :
    Calls Tryz.prog 57 #[.agg #[.int .i64 (k : Int), .int .i64 st, .int .i64 lt, .int .i64 wi]] w (Ret (.string (bN (textF ⟨k, st, lt, wi⟩))) w) := by
  have HD := Lib.hid (fun w' => rdig_any st (by omega) (by omega) w')
  have zd := itoa_len3 (n := st) (by omega) (by omega)
  have zn := fnm_len k
  have c3 : ¬ (k : Int) ≤ 3 := by omega
  have c2 : ((k : Int) == 2) = false := by rw [beq_eq_false_iff_ne]; omega
  have c5 : ((k : Int) == 5) = true := by rw [hk]; rfl
  obtain ⟨NM, hNM⟩ : ∃ NM, Hid (bN (fnm k) = NM) := ⟨_, Lib.hid rfl⟩
  obtain ⟨D, hD⟩ : ∃ D, Hid (bN (Lib.itoa st) = D) := ⟨_, Lib.hid rfl⟩
  have zN : NM.size ≤ 5 := by rw [← hNM.out]; exact zn
  have zD : D.size ≤ 1000 := by rw [← hD.out]; exact zd
  have zS : (⟨#[32]⟩ : ByteArray).size = 1 := rfl
  rw [hD.out] at HD
  have HE := Lib.hid (fun w' => rdig_any wi (by omega) (by omega) w')
  have ze := itoa_len3 (n := wi) (by omega) (by omega)
  obtain ⟨E, hE⟩ : ∃ E, Hid (bN (Lib.itoa wi) = E) := ⟨_, Lib.hid rfl⟩
  have zE : E.size ≤ 1000 := by rw [← hE.out]; exact ze
  rw [hE.out] at HE
  clear ze
  have y3 : (NM ++ ⟨#[32]⟩ ++ D).size + 1 ≤ 9223372036854775807 := by rw [ByteArray.size_append, ByteArray.size_append]; omega
  have y4 : (NM ++ ⟨#[32]⟩ ++ D ++ ⟨#[32]⟩).size + E.size ≤ 9223372036854775807 := by rw [ByteArray.size_append, ByteArray.size_append, ByteArray.size_append]; omega
  obtain ⟨T, HT⟩ : ∃ T, Hid (bN (textF ⟨k, st, lt, wi⟩) = T) := ⟨_, Lib.hid rfl⟩
  have hcat : Hid (NM ++ ⟨#[32]⟩ ++ D ++ ⟨#[32]⟩ ++ E = T) := by
    rw [Hid, ← HT.out, ← hNM.out, ← hD.out, ← hE.out, show (⟨#[32]⟩ : ByteArray) = bN [32] from rfl]
    simp only [bN_cat25]
    congr 1
    subst hk; simp [textF, piecesF, klet, joinS]
  rw [HT.out]
  clear zn zd
  have HK := Lib.hid hk
  clear hk
  have kb0 : (0 : Int) ≤ (k : Int) := by omega
  have kb1 : (k : Int) < 7 := by omega
  have hBB : Below w.heap.size w (w.alloc (.cells #[.int .i64 (k : Int), .int .i64 st, .int .i64 lt, .int .i64 wi] 41)) := by (repeat' first | exact Below.refl _ _ | apply Below.drew | (refine Below.setCells ?_ _ _ ?_) | (refine Below.setCell ?_ ?_ _) | (refine Below.alloc ?_ ?_ _) | (simp; done) | (simp; omega))
  have kF := Blk.new w 41 #[.int .i64 (k : Int), .int .i64 st, .int .i64 lt, .int .i64 wi]
  have y1 : ¬ 9223372036854775807 < NM.size + 1 := by omega
  have y2 : (NM ++ ⟨#[32]⟩).size + D.size ≤ 9223372036854775807 := by rw [ByteArray.size_append]; omega
  have y2' : ¬ 9223372036854775807 < NM.size + 1 + D.size := by omega
  go_enter Tryz.func57, Tryz.ntmps57
  go_wp2_with fail
  have fl := kF.lt
  generalize w.alloc (.cells #[.int .i64 (k : Int), .int .i64 st, .int .i64 lt, .int .i64 wi] 41) = W at *
  refine wp_region_J (fun w' => w'.cell? ⟨w.heap.size, 0, none⟩ = some (.int .i64 (k : Int)) ∧ w'.cell? ⟨w.heap.size, 1, none⟩ = some (.int .i64 st)) (fun _ => True) (fun _ => false) (by kernel_rfl) ?_
  have hS1 : W.drew.cell? ⟨w.heap.size, 0, none⟩ = some (.int .i64 (k : Int)) ∧ W.drew.cell? ⟨w.heap.size, 1, none⟩ = some (.int .i64 st) := ⟨kF.cell 0 _ rfl, kF.cell 1 _ rfl⟩
  refine wpAnyJ_take1 1 rfl (by kernel_rfl) (by kernel_rfl) rfl (by kernel_rfl) (fun _ _ _ h => h) (by rfl) hS1 (fun w' hSw => (by obtain ⟨z1, z2⟩ := hSw; go_simp; try (with_reducible rfl))) ?_
  try simp only [Act.put, List.getElem_toArray, List.getElem_cons_succ, List.getElem_cons_zero, List.setIfInBounds_toArray, List.set_cons_zero, List.set_cons_succ]
  refine wpAnyJ_take1 2 rfl (by kernel_rfl) (by kernel_rfl) rfl (by kernel_rfl) (fun _ _ _ h => h) (by rfl) hS1 (fun w' hSw => (by obtain ⟨z1, z2⟩ := hSw; go_simp; try (with_reducible rfl))) ?_
  try simp only [Act.put, List.getElem_toArray, List.getElem_cons_succ, List.getElem_cons_zero, List.setIfInBounds_toArray, List.set_cons_zero, List.set_cons_succ]
  refine wpAnyJ_take1 6 rfl (by kernel_rfl) (by kernel_rfl) rfl (by kernel_rfl) (fun _ _ _ h => h) (by rfl) hS1 (fun w' hSw => (by obtain ⟨z1, z2⟩ := hSw; go_simp; try (with_reducible rfl))) ?_
  try simp only [Act.put, List.getElem_toArray, List.getElem_cons_succ, List.getElem_cons_zero, List.setIfInBounds_toArray, List.set_cons_zero, List.set_cons_succ]
  refine wpAnyJ_take1 7 rfl (by kernel_rfl) (by kernel_rfl) rfl (by kernel_rfl) (fun _ _ _ h => h) (by rfl) hS1 (fun w' hSw => (by obtain ⟨z1, z2⟩ := hSw; go_simp; try (with_reducible rfl))) ?_
  try simp only [Act.put, List.getElem_toArray, List.getElem_cons_succ, List.getElem_cons_zero, List.setIfInBounds_toArray, List.set_cons_zero, List.set_cons_succ]
  refine wpAnyJ_ready [0] (by kernel_rfl) (by simp) (NextJ.cons rfl (fun K hK => ?_) NextJ.nil)
  go_simp
  refine (names25_any W.drew).mono ?_
  rintro e w5 ⟨g, rfl, hN, hg, hB5⟩
  have n5 := hN k h1 h6
  rw [hNM.out] at n5
  have hn5 := Lib.hid hN
  clear hN
  have kF5 := kF.drew.below' hB5
  have q5 := hBB.trans ((below_drew hB5).mono hBB.size)
  have hS5 := And.intro (kF5.cell 0 _ rfl) (kF5.cell 1 _ rfl)
  go_simp
  refine hK.out _ _ hS5 (fun h => absurd h (by decide)) ?_
  clear hK K
  try simp only [Act.put, List.getElem_toArray, List.getElem_cons_succ, List.getElem_cons_zero, List.setIfInBounds_toArray, List.set_cons_zero, List.set_cons_succ]
  refine wpAnyJ_take1 3 rfl (by kernel_rfl) (by kernel_rfl) rfl (by kernel_rfl) (fun _ _ _ h => h) (by rfl) hS5 (fun w' hSw => (by obtain ⟨z1, z2⟩ := hSw; go_simp; try (with_reducible rfl))) ?_
  try simp only [Act.put, List.getElem_toArray, List.getElem_cons_succ, List.getElem_cons_zero, List.setIfInBounds_toArray, List.set_cons_zero, List.set_cons_succ]
  refine wpAnyJ_ready [4, 8] (by kernel_rfl) (by simp) (NextJ.cons rfl (fun K hK => ?_) (NextJ.cons rfl (fun K hK => ?_) NextJ.nil))
  · skip
    go_simp
    refine hK.out _ _ hS5 (fun h => absurd h (by decide)) ?_
    clear hK K
    try simp only [Act.put, List.getElem_toArray, List.getElem_cons_succ, List.getElem_cons_zero, List.setIfInBounds_toArray, List.set_cons_zero, List.set_cons_succ]
    refine wpAnyJ_take1 5 rfl (by kernel_rfl) (by kernel_rfl) rfl (by kernel_rfl) (fun _ _ _ h => h) (by rfl) hS5 (fun w' hSw => (by obtain ⟨z1, z2⟩ := hSw; go_simp; try (with_reducible rfl))) ?_
    try simp only [Act.put, List.getElem_toArray, List.getElem_cons_succ, List.getElem_cons_zero, List.setIfInBounds_toArray, List.set_cons_zero, List.set_cons_succ]
    refine wpAnyJ_ready [8] (by kernel_rfl) (by simp) (NextJ.cons rfl (fun K hK => ?_) NextJ.nil)
    go_simp
    refine (HD.out w5).mono ?_
    rintro e w6 ⟨rfl, hB6⟩
    have kF6 := kF5.below' hB6
    have q6 := q5.trans (hB6.mono q5.size)
    have hS6 := And.intro (kF6.cell 0 _ rfl) (kF6.cell 1 _ rfl)
    go_simp
    refine hK.out _ _ hS6 (fun h => absurd h (by decide)) ?_
    clear hK K
    try simp only [Act.put, List.getElem_toArray, List.getElem_cons_succ, List.getElem_cons_zero, List.setIfInBounds_toArray, List.set_cons_zero, List.set_cons_succ]
    refine wpAnyJ_take1 9 rfl (by kernel_rfl) (by kernel_rfl) rfl (by kernel_rfl) (fun _ _ _ h => h) (by rfl) hS6 (fun w' hSw => (by obtain ⟨z1, z2⟩ := hSw; go_simp; try (with_reducible rfl))) ?_
    try simp only [Act.put, List.getElem_toArray, List.getElem_cons_succ, List.getElem_cons_zero, List.setIfInBounds_toArray, List.set_cons_zero, List.set_cons_succ]
    refine wpAnyJ_take1 10 rfl (by kernel_rfl) (by kernel_rfl) rfl (by kernel_rfl) (fun _ _ _ h => h) (by rfl) hS6 (fun w' hSw => (by obtain ⟨z1, z2⟩ := hSw; go_simp; try (with_reducible rfl))) ?_
    try simp only [Act.put, List.getElem_toArray, List.getElem_cons_succ, List.getElem_cons_zero, List.setIfInBounds_toArray, List.set_cons_zero, List.set_cons_succ]
    refine wpAnyJ_done (by kernel_rfl) ?_ _
    have f0 := kF6.cell 0 _ rfl
    have f2 := kF6.cell 2 _ rfl
    have f3 := kF6.cell 3 _ rfl
    have fl' := kF6.lt
    clear hS1
    go_wp2_with fail
    refine (HE.out _).mono ?_
    rintro e9 w9 ⟨rfl, hB9⟩
    have k9 := kF6.below' hB9
    have f0 := k9.cell 0 _ rfl
    have f2 := k9.cell 2 _ rfl
    have f3 := k9.cell 3 _ rfl
    have fl' := k9.lt
    go_wp2_with fail
    go_ret
    rw [hcat.out]
    exact ⟨rfl, q6.trans (hB9.mono q6.size)⟩
  · skip
    go_simp
    refine (HD.out w5).mono ?_
    rintro e w6 ⟨rfl, hB6⟩
    have kF6 := kF5.below' hB6
    have q6 := q5.trans (hB6.mono q5.size)
    have hS6 := And.intro (kF6.cell 0 _ rfl) (kF6.cell 1 _ rfl)
    go_simp
    refine hK.out _ _ hS6 (fun h => absurd h (by decide)) ?_
    clear hK K
    try simp only [Act.put, List.getElem_toArray, List.getElem_cons_succ, List.getElem_cons_zero, List.setIfInBounds_toArray, List.set_cons_zero, List.set_cons_succ]
    have n6 := (hB6.cell (p := ⟨g, k, none⟩) hg).trans n5
    refine wpAnyJ_ready [4] (by kernel_rfl) (by simp) (NextJ.cons rfl (fun K hK => ?_) NextJ.nil)
    go_simp
    refine hK.out _ _ hS6 (fun h => absurd h (by decide)) ?_
    clear hK K
    try simp only [Act.put, List.getElem_toArray, List.getElem_cons_succ, List.getElem_cons_zero, List.setIfInBounds_toArray, List.set_cons_zero, List.set_cons_succ]
    refine wpAnyJ_take1 5 rfl (by kernel_rfl) (by kernel_rfl) rfl (by kernel_rfl) (fun _ _ _ h => h) (by rfl) hS6 (fun w' hSw => (by obtain ⟨z1, z2⟩ := hSw; go_simp; try (with_reducible rfl))) ?_
    try simp only [Act.put, List.getElem_toArray, List.getElem_cons_succ, List.getElem_cons_zero, List.setIfInBounds_toArray, List.set_cons_zero, List.set_cons_succ]
    refine wpAnyJ_take1 9 rfl (by kernel_rfl) (by kernel_rfl) rfl (by kernel_rfl) (fun _ _ _ h => h) (by rfl) hS6 (fun w' hSw => (by obtain ⟨z1, z2⟩ := hSw; go_simp; try (with_reducible rfl))) ?_
    try simp only [Act.put, List.getElem_toArray, List.getElem_cons_succ, List.getElem_cons_zero, List.setIfInBounds_toArray, List.set_cons_zero, List.set_cons_succ]
    refine wpAnyJ_take1 10 rfl (by kernel_rfl) (by kernel_rfl) rfl (by kernel_rfl) (fun _ _ _ h => h) (by rfl) hS6 (fun w' hSw => (by obtain ⟨z1, z2⟩ := hSw; go_simp; try (with_reducible rfl))) ?_
    try simp only [Act.put, List.getElem_toArray, List.getElem_cons_succ, List.getElem_cons_zero, List.setIfInBounds_toArray, List.set_cons_zero, List.set_cons_succ]
    refine wpAnyJ_done (by kernel_rfl) ?_ _
    have f0 := kF6.cell 0 _ rfl
    have f2 := kF6.cell 2 _ rfl
    have f3 := kF6.cell 3 _ rfl
    have fl' := kF6.lt
    clear hS1
    go_wp2_with fail
    refine (HE.out _).mono ?_
    rintro e9 w9 ⟨rfl, hB9⟩
    have k9 := kF6.below' hB9
    have f0 := k9.cell 0 _ rfl
    have f2 := k9.cell 2 _ rfl
    have f3 := k9.cell 3 _ rfl
    have fl' := k9.lt
    go_wp2_with fail
    go_ret
    rw [hcat.out]
    exact ⟨rfl, q6.trans (hB9.mono q6.size)⟩
set_option maxRecDepth 100000 in
set_option maxHeartbeats 4000000 in
theorem text25_B (k : Nat) (st lt wi : Int) (h1 : 1 ≤ k) (h6 : k ≤ 6) (hk : k = 2) (hw : wi ∈ faultLetters) (hs0 : 0 ≤ st) (hs1 : st ≤ 999) (hl0 : 0 ≤ lt) (hl1 : lt ≤ 16) (w : World) :
    Calls Tryz.prog 57 #[.agg #[.int .i64 (k : Int), .int .i64 st, .int .i64 lt, .int .i64 wi]] w (Ret (.string (bN (textF ⟨k, st, lt, wi⟩))) w) := by
  have HD := Lib.hid (fun w' => rdig_any st (by omega) (by omega) w')
  have zd := itoa_len3 (n := st) (by omega) (by omega)
  have zn := fnm_len k
  have c3 : (k : Int) ≤ 3 := by omega
  have c2 : ((k : Int) == 2) = true := by rw [hk]; rfl
  have c5 : ((k : Int) == 5) = false := by rw [beq_eq_false_iff_ne]; omega
  obtain ⟨NM, hNM⟩ : ∃ NM, Hid (bN (fnm k) = NM) := ⟨_, Lib.hid rfl⟩
  obtain ⟨D, hD⟩ : ∃ D, Hid (bN (Lib.itoa st) = D) := ⟨_, Lib.hid rfl⟩
  have zN : NM.size ≤ 5 := by rw [← hNM.out]; exact zn
  have zD : D.size ≤ 1000 := by rw [← hD.out]; exact zd
  have zS : (⟨#[32]⟩ : ByteArray).size = 1 := rfl
  rw [hD.out] at HD
  have HE := Lib.hid (fun w' => rdig_any lt (by omega) (by omega) w')
  have ze := itoa_len3 (n := lt) (by omega) (by omega)
  obtain ⟨E, hE⟩ : ∃ E, Hid (bN (Lib.itoa lt) = E) := ⟨_, Lib.hid rfl⟩
  have zE : E.size ≤ 1000 := by rw [← hE.out]; exact ze
  rw [hE.out] at HE
  clear ze
  have y3 : (NM ++ ⟨#[32]⟩ ++ D).size + 1 ≤ 9223372036854775807 := by rw [ByteArray.size_append, ByteArray.size_append]; omega
  have y4 : (NM ++ ⟨#[32]⟩ ++ D ++ ⟨#[32]⟩).size + E.size ≤ 9223372036854775807 := by rw [ByteArray.size_append, ByteArray.size_append, ByteArray.size_append]; omega
  have hdw : Hid (((UInt8.ofNat wi.toNat).toNat : Int) = wi % 256) := Lib.hid (by have h1 := (letter_noblank hw).2; have h2 := withs_bd (k := 2) (x := wi) (by simpa [withsL] using hw); omega)
  obtain ⟨C, hC⟩ : ∃ C, Hid (bN [UInt8.ofNat wi.toNat] = C) := ⟨_, Lib.hid rfl⟩
  have zC : C.size = 1 := by rw [← hC.out]; rfl
  have y5 : (NM ++ ⟨#[32]⟩ ++ D ++ ⟨#[32]⟩ ++ E).size + 1 ≤ 9223372036854775807 := by rw [ByteArray.size_append, ByteArray.size_append, ByteArray.size_append, ByteArray.size_append]; omega
  have y6 : (NM ++ ⟨#[32]⟩ ++ D ++ ⟨#[32]⟩ ++ E ++ ⟨#[32]⟩).size + C.size ≤ 9223372036854775807 := by rw [ByteArray.size_append, ByteArray.size_append, ByteArray.size_append, ByteArray.size_append, ByteArray.size_append]; omega
  obtain ⟨T, HT⟩ : ∃ T, Hid (bN (textF ⟨k, st, lt, wi⟩) = T) := ⟨_, Lib.hid rfl⟩
  have hcat : Hid (NM ++ ⟨#[32]⟩ ++ D ++ ⟨#[32]⟩ ++ E ++ ⟨#[32]⟩ ++ C = T) := by
    rw [Hid, ← HT.out, ← hNM.out, ← hD.out, ← hE.out, ← hC.out, show (⟨#[32]⟩ : ByteArray) = bN [32] from rfl]
    simp only [bN_cat25]
    congr 1
    subst hk; simp [textF, piecesF, klet, joinS]
  rw [HT.out]
  clear zn zd
  have HK := Lib.hid hk
  clear hk
  have kb0 : (0 : Int) ≤ (k : Int) := by omega
  have kb1 : (k : Int) < 7 := by omega
  have hBB : Below w.heap.size w (w.alloc (.cells #[.int .i64 (k : Int), .int .i64 st, .int .i64 lt, .int .i64 wi] 41)) := by (repeat' first | exact Below.refl _ _ | apply Below.drew | (refine Below.setCells ?_ _ _ ?_) | (refine Below.setCell ?_ ?_ _) | (refine Below.alloc ?_ ?_ _) | (simp; done) | (simp; omega))
  have kF := Blk.new w 41 #[.int .i64 (k : Int), .int .i64 st, .int .i64 lt, .int .i64 wi]
  have y1 : ¬ 9223372036854775807 < NM.size + 1 := by omega
  have y2 : (NM ++ ⟨#[32]⟩).size + D.size ≤ 9223372036854775807 := by rw [ByteArray.size_append]; omega
  have y2' : ¬ 9223372036854775807 < NM.size + 1 + D.size := by omega
  go_enter Tryz.func57, Tryz.ntmps57
  go_wp2_with fail
  have fl := kF.lt
  generalize w.alloc (.cells #[.int .i64 (k : Int), .int .i64 st, .int .i64 lt, .int .i64 wi] 41) = W at *
  refine wp_region_J (fun w' => w'.cell? ⟨w.heap.size, 0, none⟩ = some (.int .i64 (k : Int)) ∧ w'.cell? ⟨w.heap.size, 1, none⟩ = some (.int .i64 st)) (fun _ => True) (fun _ => false) (by kernel_rfl) ?_
  have hS1 : W.drew.cell? ⟨w.heap.size, 0, none⟩ = some (.int .i64 (k : Int)) ∧ W.drew.cell? ⟨w.heap.size, 1, none⟩ = some (.int .i64 st) := ⟨kF.cell 0 _ rfl, kF.cell 1 _ rfl⟩
  refine wpAnyJ_take1 1 rfl (by kernel_rfl) (by kernel_rfl) rfl (by kernel_rfl) (fun _ _ _ h => h) (by rfl) hS1 (fun w' hSw => (by obtain ⟨z1, z2⟩ := hSw; go_simp; try (with_reducible rfl))) ?_
  try simp only [Act.put, List.getElem_toArray, List.getElem_cons_succ, List.getElem_cons_zero, List.setIfInBounds_toArray, List.set_cons_zero, List.set_cons_succ]
  refine wpAnyJ_take1 2 rfl (by kernel_rfl) (by kernel_rfl) rfl (by kernel_rfl) (fun _ _ _ h => h) (by rfl) hS1 (fun w' hSw => (by obtain ⟨z1, z2⟩ := hSw; go_simp; try (with_reducible rfl))) ?_
  try simp only [Act.put, List.getElem_toArray, List.getElem_cons_succ, List.getElem_cons_zero, List.setIfInBounds_toArray, List.set_cons_zero, List.set_cons_succ]
  refine wpAnyJ_take1 6 rfl (by kernel_rfl) (by kernel_rfl) rfl (by kernel_rfl) (fun _ _ _ h => h) (by rfl) hS1 (fun w' hSw => (by obtain ⟨z1, z2⟩ := hSw; go_simp; try (with_reducible rfl))) ?_
  try simp only [Act.put, List.getElem_toArray, List.getElem_cons_succ, List.getElem_cons_zero, List.setIfInBounds_toArray, List.set_cons_zero, List.set_cons_succ]
  refine wpAnyJ_take1 7 rfl (by kernel_rfl) (by kernel_rfl) rfl (by kernel_rfl) (fun _ _ _ h => h) (by rfl) hS1 (fun w' hSw => (by obtain ⟨z1, z2⟩ := hSw; go_simp; try (with_reducible rfl))) ?_
  try simp only [Act.put, List.getElem_toArray, List.getElem_cons_succ, List.getElem_cons_zero, List.setIfInBounds_toArray, List.set_cons_zero, List.set_cons_succ]
  refine wpAnyJ_ready [0] (by kernel_rfl) (by simp) (NextJ.cons rfl (fun K hK => ?_) NextJ.nil)
  go_simp
  refine (names25_any W.drew).mono ?_
  rintro e w5 ⟨g, rfl, hN, hg, hB5⟩
  have n5 := hN k h1 h6
  rw [hNM.out] at n5
  have hn5 := Lib.hid hN
  clear hN
  have kF5 := kF.drew.below' hB5
  have q5 := hBB.trans ((below_drew hB5).mono hBB.size)
  have hS5 := And.intro (kF5.cell 0 _ rfl) (kF5.cell 1 _ rfl)
  go_simp
  refine hK.out _ _ hS5 (fun h => absurd h (by decide)) ?_
  clear hK K
  try simp only [Act.put, List.getElem_toArray, List.getElem_cons_succ, List.getElem_cons_zero, List.setIfInBounds_toArray, List.set_cons_zero, List.set_cons_succ]
  refine wpAnyJ_take1 3 rfl (by kernel_rfl) (by kernel_rfl) rfl (by kernel_rfl) (fun _ _ _ h => h) (by rfl) hS5 (fun w' hSw => (by obtain ⟨z1, z2⟩ := hSw; go_simp; try (with_reducible rfl))) ?_
  try simp only [Act.put, List.getElem_toArray, List.getElem_cons_succ, List.getElem_cons_zero, List.setIfInBounds_toArray, List.set_cons_zero, List.set_cons_succ]
  refine wpAnyJ_ready [4, 8] (by kernel_rfl) (by simp) (NextJ.cons rfl (fun K hK => ?_) (NextJ.cons rfl (fun K hK => ?_) NextJ.nil))
  · skip
    go_simp
    refine hK.out _ _ hS5 (fun h => absurd h (by decide)) ?_
    clear hK K
    try simp only [Act.put, List.getElem_toArray, List.getElem_cons_succ, List.getElem_cons_zero, List.setIfInBounds_toArray, List.set_cons_zero, List.set_cons_succ]
    refine wpAnyJ_take1 5 rfl (by kernel_rfl) (by kernel_rfl) rfl (by kernel_rfl) (fun _ _ _ h => h) (by rfl) hS5 (fun w' hSw => (by obtain ⟨z1, z2⟩ := hSw; go_simp; try (with_reducible rfl))) ?_
    try simp only [Act.put, List.getElem_toArray, List.getElem_cons_succ, List.getElem_cons_zero, List.setIfInBounds_toArray, List.set_cons_zero, List.set_cons_succ]
    refine wpAnyJ_ready [8] (by kernel_rfl) (by simp) (NextJ.cons rfl (fun K hK => ?_) NextJ.nil)
    go_simp
    refine (HD.out w5).mono ?_
    rintro e w6 ⟨rfl, hB6⟩
    have kF6 := kF5.below' hB6
    have q6 := q5.trans (hB6.mono q5.size)
    have hS6 := And.intro (kF6.cell 0 _ rfl) (kF6.cell 1 _ rfl)
    go_simp
    refine hK.out _ _ hS6 (fun h => absurd h (by decide)) ?_
    clear hK K
    try simp only [Act.put, List.getElem_toArray, List.getElem_cons_succ, List.getElem_cons_zero, List.setIfInBounds_toArray, List.set_cons_zero, List.set_cons_succ]
    refine wpAnyJ_take1 9 rfl (by kernel_rfl) (by kernel_rfl) rfl (by kernel_rfl) (fun _ _ _ h => h) (by rfl) hS6 (fun w' hSw => (by obtain ⟨z1, z2⟩ := hSw; go_simp; try (with_reducible rfl))) ?_
    try simp only [Act.put, List.getElem_toArray, List.getElem_cons_succ, List.getElem_cons_zero, List.setIfInBounds_toArray, List.set_cons_zero, List.set_cons_succ]
    refine wpAnyJ_take1 10 rfl (by kernel_rfl) (by kernel_rfl) rfl (by kernel_rfl) (fun _ _ _ h => h) (by rfl) hS6 (fun w' hSw => (by obtain ⟨z1, z2⟩ := hSw; go_simp; try (with_reducible rfl))) ?_
    try simp only [Act.put, List.getElem_toArray, List.getElem_cons_succ, List.getElem_cons_zero, List.setIfInBounds_toArray, List.set_cons_zero, List.set_cons_succ]
    refine wpAnyJ_done (by kernel_rfl) ?_ _
    have f0 := kF6.cell 0 _ rfl
    have f2 := kF6.cell 2 _ rfl
    have f3 := kF6.cell 3 _ rfl
    have fl' := kF6.lt
    clear hS1
    go_wp2_with fail
    refine (HE.out _).mono ?_
    rintro e9 w9 ⟨rfl, hB9⟩
    have k9 := kF6.below' hB9
    have f0 := k9.cell 0 _ rfl
    have f2 := k9.cell 2 _ rfl
    have f3 := k9.cell 3 _ rfl
    have fl' := k9.lt
    have hcb : (convert 57 9 (.slice (some ⟨w9.heap.size, 0, none⟩) 1 1)).run Tryz.prog (w9.alloc (.cells #[.int .u8 (wi % 256)] 5)) = .ok (.string C) _ := (by rw [← hC.out]; exact conv_byte w9.heap.size 1 (UInt8.ofNat wi.toNat) _ hdw.out _ (cell_new rfl))
    have g0 := k9.alloc (.cells #[.int .u8 (wi % 256)] 5)
    have g1 := g0.cell 0 _ rfl
    have g2 := g0.lt
    clear g0
    go_wp2_with fail
    go_ret
    rw [hcat.out]
    exact ⟨rfl, (q6.trans (hB9.mono q6.size)).alloc (q6.trans (hB9.mono q6.size)).size _⟩
  · skip
    go_simp
    refine (HD.out w5).mono ?_
    rintro e w6 ⟨rfl, hB6⟩
    have kF6 := kF5.below' hB6
    have q6 := q5.trans (hB6.mono q5.size)
    have hS6 := And.intro (kF6.cell 0 _ rfl) (kF6.cell 1 _ rfl)
    go_simp
    refine hK.out _ _ hS6 (fun h => absurd h (by decide)) ?_
    clear hK K
    try simp only [Act.put, List.getElem_toArray, List.getElem_cons_succ, List.getElem_cons_zero, List.setIfInBounds_toArray, List.set_cons_zero, List.set_cons_succ]
    have n6 := (hB6.cell (p := ⟨g, k, none⟩) hg).trans n5
    refine wpAnyJ_ready [4] (by kernel_rfl) (by simp) (NextJ.cons rfl (fun K hK => ?_) NextJ.nil)
    go_simp
    refine hK.out _ _ hS6 (fun h => absurd h (by decide)) ?_
    clear hK K
    try simp only [Act.put, List.getElem_toArray, List.getElem_cons_succ, List.getElem_cons_zero, List.setIfInBounds_toArray, List.set_cons_zero, List.set_cons_succ]
    refine wpAnyJ_take1 5 rfl (by kernel_rfl) (by kernel_rfl) rfl (by kernel_rfl) (fun _ _ _ h => h) (by rfl) hS6 (fun w' hSw => (by obtain ⟨z1, z2⟩ := hSw; go_simp; try (with_reducible rfl))) ?_
    try simp only [Act.put, List.getElem_toArray, List.getElem_cons_succ, List.getElem_cons_zero, List.setIfInBounds_toArray, List.set_cons_zero, List.set_cons_succ]
    refine wpAnyJ_take1 9 rfl (by kernel_rfl) (by kernel_rfl) rfl (by kernel_rfl) (fun _ _ _ h => h) (by rfl) hS6 (fun w' hSw => (by obtain ⟨z1, z2⟩ := hSw; go_simp; try (with_reducible rfl))) ?_
    try simp only [Act.put, List.getElem_toArray, List.getElem_cons_succ, List.getElem_cons_zero, List.setIfInBounds_toArray, List.set_cons_zero, List.set_cons_succ]
    refine wpAnyJ_take1 10 rfl (by kernel_rfl) (by kernel_rfl) rfl (by kernel_rfl) (fun _ _ _ h => h) (by rfl) hS6 (fun w' hSw => (by obtain ⟨z1, z2⟩ := hSw; go_simp; try (with_reducible rfl))) ?_
    try simp only [Act.put, List.getElem_toArray, List.getElem_cons_succ, List.getElem_cons_zero, List.setIfInBounds_toArray, List.set_cons_zero, List.set_cons_succ]
    refine wpAnyJ_done (by kernel_rfl) ?_ _
    have f0 := kF6.cell 0 _ rfl
    have f2 := kF6.cell 2 _ rfl
    have f3 := kF6.cell 3 _ rfl
    have fl' := kF6.lt
    clear hS1
    go_wp2_with fail
    refine (HE.out _).mono ?_
    rintro e9 w9 ⟨rfl, hB9⟩
    have k9 := kF6.below' hB9
    have f0 := k9.cell 0 _ rfl
    have f2 := k9.cell 2 _ rfl
    have f3 := k9.cell 3 _ rfl
    have fl' := k9.lt
    have hcb : (convert 57 9 (.slice (some ⟨w9.heap.size, 0, none⟩) 1 1)).run Tryz.prog (w9.alloc (.cells #[.int .u8 (wi % 256)] 5)) = .ok (.string C) _ := (by rw [← hC.out]; exact conv_byte w9.heap.size 1 (UInt8.ofNat wi.toNat) _ hdw.out _ (cell_new rfl))
    have g0 := k9.alloc (.cells #[.int .u8 (wi % 256)] 5)
    have g1 := g0.cell 0 _ rfl
    have g2 := g0.lt
    clear g0
    go_wp2_with fail
    go_ret
    rw [hcat.out]
    exact ⟨rfl, (q6.trans (hB9.mono q6.size)).alloc (q6.trans (hB9.mono q6.size)).size _⟩
end Go.Proofs.YtmfklcnocekdlaaGreatDoor

namespace Go.Proofs.YtmfklcnocekdlaaGreatDoor
open Go Go.RowKit Tor

theorem flt_ret2 {fn : Func} {p u : Tmp} (h : fn.results = #[.cell p 41, .tmp u]) {R : Ending → World → Prop} {a : Act} {w : World} {g : Nat} {x y z v : Value} (hp : a.tmps.getD p undef = .pointer (some ⟨g, 0, none⟩))
    (hb : Blk w g 41 #[x, y, z, v]) (hd : a.defers = []) (hR : R (.returned (.tuple #[.agg #[x, y, z, v], a.tmps.getD u undef])) w) : bodyPost Tryz.prog fn R .ret a w := by
  refine bodyPost_ret (v := .tuple #[.agg #[x, y, z, v], a.tmps.getD u undef]) ?_ hd hR
  have c0 := hb.cell 0 x rfl
  have c1 := hb.cell 1 y rfl
  have c2 := hb.cell 2 z rfl
  have c3 := hb.cell 3 v rfl
  have hp' : a.tmps[p]?.getD undef = .pointer (some ⟨g, 0, none⟩) := by simpa using hp
  simp only [results, h]
  simp [Sem.run_bind, Result.andThen, hp']
  go_simp
theorem text25_any (k st lt wi : Int) (h : FOk ⟨k, st, lt, wi⟩) (w : World) : Calls Tryz.prog 57 #[.agg #[.int .i64 k, .int .i64 st, .int .i64 lt, .int .i64 wi]] w (Ret (.string (bN (textF ⟨k, st, lt, wi⟩))) w) := by
  have hk := h.k
  have hw := h.w
  have s0 := h.s0
  have s1 := h.s1
  have l0 := h.l0
  have l1 := h.l1
  simp only at hk hw s0 s1 l0 l1
  obtain ⟨n, rfl⟩ : ∃ n : Nat, k = n := ⟨k.toNat, by omega⟩
  rcases (show n = 1 ∨ n = 2 ∨ n = 3 ∨ n = 4 ∨ n = 5 ∨ n = 6 by omega) with rfl | rfl | rfl | rfl | rfl | rfl
  · exact text25_A 1 st lt wi (by omega) (by omega) (.inl rfl) s0 s1 l0 l1 w
  · exact text25_B 2 st lt wi (by omega) (by omega) rfl (by simpa [withsL] using hw) s0 s1 l0 l1 w
  · exact text25_A 3 st lt wi (by omega) (by omega) (.inr rfl) s0 s1 l0 l1 w
  · exact text25_D 4 st lt wi (by omega) (by omega) (.inl rfl) s0 s1 l0 l1 w
  · have h5 : wi = -1 ∨ wi = 1 := by simpa [withsL] using hw
    exact text25_C 5 st lt wi (by omega) (by omega) rfl (by omega) s0 s1 l0 l1 w
  · exact text25_D 6 st lt wi (by omega) (by omega) (.inr rfl) s0 s1 l0 l1 w
set_option maxRecDepth 100000 in
theorem prnt25_s (k st lt wi : Int) (hs : shapedF ⟨k, st, lt, wi⟩ = false)  (w : World) :
    Calls Tryz.prog 19 #[.agg #[.int .i64 k, .int .i64 st, .int .i64 lt, .int .i64 wi]] w (Ret (.tuple #[.string (bN (printF ⟨k, st, lt, wi⟩).1), .int .i64 (printF ⟨k, st, lt, wi⟩).2]) w) := by
  have HS : Hid (∀ w', Calls Tryz.prog 56 #[.agg #[.int .i64 k, .int .i64 st, .int .i64 lt, .int .i64 wi]] w' (Ret (.bool false) w')) := Lib.hid (fun w' => by have := shaped_any25 ⟨k, st, lt, wi⟩ w'; rw [hs] at this; exact this)
  have HP : Hid (printF ⟨k, st, lt, wi⟩ = ([], 2)) := by rw [Hid]; unfold printF; rw [if_pos hs]
  rw [HP.out]
  have kF := Blk.new w 41 #[.int .i64 k, .int .i64 st, .int .i64 lt, .int .i64 wi]
  have hBB : Below w.heap.size w (w.alloc (.cells #[.int .i64 k, .int .i64 st, .int .i64 lt, .int .i64 wi] 41)) := (Below.refl _ _).alloc (Nat.le_refl _) _
  clear hs
  go_enter Tryz.func19, Tryz.ntmps19
  go_wp2_with fail
  refine (HS.out _).mono ?_
  rintro e w1 ⟨rfl, hB1⟩
  have k1 := kF.below' hB1
  have b1 := hBB.trans (hB1.mono hBB.size)
  have q0 := k1.cell 0 _ rfl
  have q1 := k1.cell 1 _ rfl
  have q2 := k1.cell 2 _ rfl
  have q3 := k1.cell 3 _ rfl
  have l0 := k1.lt
  go_wp2_with fail
  go_ret2
  exact ⟨rfl, b1⟩
set_option maxRecDepth 100000 in
theorem prnt25_1 (k st lt wi : Int) (hs : shapedF ⟨k, st, lt, wi⟩ = true) (a1 : st < 0) (w : World) :
    Calls Tryz.prog 19 #[.agg #[.int .i64 k, .int .i64 st, .int .i64 lt, .int .i64 wi]] w (Ret (.tuple #[.string (bN (printF ⟨k, st, lt, wi⟩).1), .int .i64 (printF ⟨k, st, lt, wi⟩).2]) w) := by
  have HS : Hid (∀ w', Calls Tryz.prog 56 #[.agg #[.int .i64 k, .int .i64 st, .int .i64 lt, .int .i64 wi]] w' (Ret (.bool true) w')) := Lib.hid (fun w' => by have := shaped_any25 ⟨k, st, lt, wi⟩ w'; rw [hs] at this; exact this)
  have HP : Hid (printF ⟨k, st, lt, wi⟩ = ([], 7)) := by
    rw [Hid]; unfold printF
    rw [if_neg (by rw [hs]; decide), if_pos]
    exact .inl a1
  rw [HP.out]
  have kF := Blk.new w 41 #[.int .i64 k, .int .i64 st, .int .i64 lt, .int .i64 wi]
  have hBB : Below w.heap.size w (w.alloc (.cells #[.int .i64 k, .int .i64 st, .int .i64 lt, .int .i64 wi] 41)) := (Below.refl _ _).alloc (Nat.le_refl _) _
  clear hs
  go_enter Tryz.func19, Tryz.ntmps19
  go_wp2_with fail
  refine (HS.out _).mono ?_
  rintro e w1 ⟨rfl, hB1⟩
  have k1 := kF.below' hB1
  have b1 := hBB.trans (hB1.mono hBB.size)
  have q0 := k1.cell 0 _ rfl
  have q1 := k1.cell 1 _ rfl
  have q2 := k1.cell 2 _ rfl
  have q3 := k1.cell 3 _ rfl
  have l0 := k1.lt
  go_wp2_with fail
  go_ret2
  exact ⟨rfl, b1⟩
set_option maxRecDepth 100000 in
theorem prnt25_2 (k st lt wi : Int) (hs : shapedF ⟨k, st, lt, wi⟩ = true) (a1 : ¬ st < 0) (a2 : 999 < st) (w : World) :
    Calls Tryz.prog 19 #[.agg #[.int .i64 k, .int .i64 st, .int .i64 lt, .int .i64 wi]] w (Ret (.tuple #[.string (bN (printF ⟨k, st, lt, wi⟩).1), .int .i64 (printF ⟨k, st, lt, wi⟩).2]) w) := by
  have HS : Hid (∀ w', Calls Tryz.prog 56 #[.agg #[.int .i64 k, .int .i64 st, .int .i64 lt, .int .i64 wi]] w' (Ret (.bool true) w')) := Lib.hid (fun w' => by have := shaped_any25 ⟨k, st, lt, wi⟩ w'; rw [hs] at this; exact this)
  have HP : Hid (printF ⟨k, st, lt, wi⟩ = ([], 7)) := by
    rw [Hid]; unfold printF
    rw [if_neg (by rw [hs]; decide), if_pos]
    exact .inr (.inl a2)
  rw [HP.out]
  have kF := Blk.new w 41 #[.int .i64 k, .int .i64 st, .int .i64 lt, .int .i64 wi]
  have hBB : Below w.heap.size w (w.alloc (.cells #[.int .i64 k, .int .i64 st, .int .i64 lt, .int .i64 wi] 41)) := (Below.refl _ _).alloc (Nat.le_refl _) _
  clear hs
  go_enter Tryz.func19, Tryz.ntmps19
  go_wp2_with fail
  refine (HS.out _).mono ?_
  rintro e w1 ⟨rfl, hB1⟩
  have k1 := kF.below' hB1
  have b1 := hBB.trans (hB1.mono hBB.size)
  have q0 := k1.cell 0 _ rfl
  have q1 := k1.cell 1 _ rfl
  have q2 := k1.cell 2 _ rfl
  have q3 := k1.cell 3 _ rfl
  have l0 := k1.lt
  go_wp2_with fail
  go_ret2
  exact ⟨rfl, b1⟩
set_option maxRecDepth 100000 in
theorem prnt25_3 (k st lt wi : Int) (hs : shapedF ⟨k, st, lt, wi⟩ = true) (a1 : ¬ st < 0) (a2 : ¬ 999 < st) (a3 : lt < 0) (w : World) :
    Calls Tryz.prog 19 #[.agg #[.int .i64 k, .int .i64 st, .int .i64 lt, .int .i64 wi]] w (Ret (.tuple #[.string (bN (printF ⟨k, st, lt, wi⟩).1), .int .i64 (printF ⟨k, st, lt, wi⟩).2]) w) := by
  have HS : Hid (∀ w', Calls Tryz.prog 56 #[.agg #[.int .i64 k, .int .i64 st, .int .i64 lt, .int .i64 wi]] w' (Ret (.bool true) w')) := Lib.hid (fun w' => by have := shaped_any25 ⟨k, st, lt, wi⟩ w'; rw [hs] at this; exact this)
  have HP : Hid (printF ⟨k, st, lt, wi⟩ = ([], 7)) := by
    rw [Hid]; unfold printF
    rw [if_neg (by rw [hs]; decide), if_pos]
    exact .inr (.inr (.inl a3))
  rw [HP.out]
  have kF := Blk.new w 41 #[.int .i64 k, .int .i64 st, .int .i64 lt, .int .i64 wi]
  have hBB : Below w.heap.size w (w.alloc (.cells #[.int .i64 k, .int .i64 st, .int .i64 lt, .int .i64 wi] 41)) := (Below.refl _ _).alloc (Nat.le_refl _) _
  clear hs
  go_enter Tryz.func19, Tryz.ntmps19
  go_wp2_with fail
  refine (HS.out _).mono ?_
  rintro e w1 ⟨rfl, hB1⟩
  have k1 := kF.below' hB1
  have b1 := hBB.trans (hB1.mono hBB.size)
  have q0 := k1.cell 0 _ rfl
  have q1 := k1.cell 1 _ rfl
  have q2 := k1.cell 2 _ rfl
  have q3 := k1.cell 3 _ rfl
  have l0 := k1.lt
  go_wp2_with fail
  go_ret2
  exact ⟨rfl, b1⟩
set_option maxRecDepth 100000 in
theorem prnt25_4 (k st lt wi : Int) (hs : shapedF ⟨k, st, lt, wi⟩ = true) (a1 : ¬ st < 0) (a2 : ¬ 999 < st) (a3 : ¬ lt < 0) (a4 : 16 < lt) (w : World) :
    Calls Tryz.prog 19 #[.agg #[.int .i64 k, .int .i64 st, .int .i64 lt, .int .i64 wi]] w (Ret (.tuple #[.string (bN (printF ⟨k, st, lt, wi⟩).1), .int .i64 (printF ⟨k, st, lt, wi⟩).2]) w) := by
  have HS : Hid (∀ w', Calls Tryz.prog 56 #[.agg #[.int .i64 k, .int .i64 st, .int .i64 lt, .int .i64 wi]] w' (Ret (.bool true) w')) := Lib.hid (fun w' => by have := shaped_any25 ⟨k, st, lt, wi⟩ w'; rw [hs] at this; exact this)
  have HP : Hid (printF ⟨k, st, lt, wi⟩ = ([], 7)) := by
    rw [Hid]; unfold printF
    rw [if_neg (by rw [hs]; decide), if_pos]
    exact .inr (.inr (.inr a4))
  rw [HP.out]
  have kF := Blk.new w 41 #[.int .i64 k, .int .i64 st, .int .i64 lt, .int .i64 wi]
  have hBB : Below w.heap.size w (w.alloc (.cells #[.int .i64 k, .int .i64 st, .int .i64 lt, .int .i64 wi] 41)) := (Below.refl _ _).alloc (Nat.le_refl _) _
  clear hs
  go_enter Tryz.func19, Tryz.ntmps19
  go_wp2_with fail
  refine (HS.out _).mono ?_
  rintro e w1 ⟨rfl, hB1⟩
  have k1 := kF.below' hB1
  have b1 := hBB.trans (hB1.mono hBB.size)
  have q0 := k1.cell 0 _ rfl
  have q1 := k1.cell 1 _ rfl
  have q2 := k1.cell 2 _ rfl
  have q3 := k1.cell 3 _ rfl
  have l0 := k1.lt
  go_wp2_with fail
  go_ret2
  exact ⟨rfl, b1⟩
set_option maxRecDepth 100000 in
theorem prnt25_5 (k st lt wi : Int) (hs : shapedF ⟨k, st, lt, wi⟩ = true) (a1 : ¬ st < 0) (a2 : ¬ 999 < st) (a3 : ¬ lt < 0) (a4 : ¬ 16 < lt) (w : World) :
    Calls Tryz.prog 19 #[.agg #[.int .i64 k, .int .i64 st, .int .i64 lt, .int .i64 wi]] w (Ret (.tuple #[.string (bN (printF ⟨k, st, lt, wi⟩).1), .int .i64 (printF ⟨k, st, lt, wi⟩).2]) w) := by
  have HS : Hid (∀ w', Calls Tryz.prog 56 #[.agg #[.int .i64 k, .int .i64 st, .int .i64 lt, .int .i64 wi]] w' (Ret (.bool true) w')) := Lib.hid (fun w' => by have := shaped_any25 ⟨k, st, lt, wi⟩ w'; rw [hs] at this; exact this)
  have HT := Lib.hid (fun w' => text25_any k st lt wi ⟨hs, by simp only; omega, by simp only; omega, by simp only; omega, by simp only; omega⟩ w')
  have HP : Hid (printF ⟨k, st, lt, wi⟩ = (textF ⟨k, st, lt, wi⟩, 0)) := by
    rw [Hid]; unfold printF
    rw [if_neg (by rw [hs]; decide), if_neg (by simp only; omega)]
  rw [HP.out]
  obtain ⟨Y, hY⟩ : ∃ Y, Hid (bN (textF ⟨k, st, lt, wi⟩) = Y) := ⟨_, Lib.hid rfl⟩
  dsimp only
  rw [hY.out] at HT ⊢
  have kF := Blk.new w 41 #[.int .i64 k, .int .i64 st, .int .i64 lt, .int .i64 wi]
  have hBB : Below w.heap.size w (w.alloc (.cells #[.int .i64 k, .int .i64 st, .int .i64 lt, .int .i64 wi] 41)) := (Below.refl _ _).alloc (Nat.le_refl _) _
  clear hs
  go_enter Tryz.func19, Tryz.ntmps19
  go_wp2_with fail
  refine (HS.out _).mono ?_
  rintro e w1 ⟨rfl, hB1⟩
  have k1 := kF.below' hB1
  have b1 := hBB.trans (hB1.mono hBB.size)
  have q0 := k1.cell 0 _ rfl
  have q1 := k1.cell 1 _ rfl
  have q2 := k1.cell 2 _ rfl
  have q3 := k1.cell 3 _ rfl
  have l0 := k1.lt
  go_wp2_with fail
  refine (HT.out _).mono ?_
  rintro e w2 ⟨rfl, hB2⟩
  go_wp2_with fail
  go_ret2
  exact ⟨rfl, b1.trans (hB2.mono b1.size)⟩
theorem rprint25_any (k st lt wi : Int) (w : World) : Calls Tryz.prog 19 #[.agg #[.int .i64 k, .int .i64 st, .int .i64 lt, .int .i64 wi]] w (Ret (.tuple #[.string (bN (printF ⟨k, st, lt, wi⟩).1), .int .i64 (printF ⟨k, st, lt, wi⟩).2]) w) := by
  cases hs : shapedF ⟨k, st, lt, wi⟩
  · exact prnt25_s k st lt wi hs w
  by_cases a1 : st < 0
  · exact prnt25_1 k st lt wi hs a1 w
  by_cases a2 : 999 < st
  · exact prnt25_2 k st lt wi hs a1 a2 w
  by_cases a3 : lt < 0
  · exact prnt25_3 k st lt wi hs a1 a2 a3 w
  by_cases a4 : 16 < lt
  · exact prnt25_4 k st lt wi hs a1 a2 a3 a4 w
  · exact prnt25_5 k st lt wi hs a1 a2 a3 a4 w
/-- where the number of a text stands -/
def numF (L : List UInt8) : List UInt8 := (L.drop (min (blK L + 1) L.length)).take (blK (L.drop (min (blK L + 1) L.length)))
theorem numF_text {f : Flt} : numF (textF f) = Lib.itoa f.st := by
  obtain ⟨r, hr, hr2⟩ := text_st (f := f)
  have h1 := blK_app (Lib.itoa f.st ++ r) _ (fnm_noblank f.k)
  unfold numF
  rw [hr, h1]
  have e1 : min ((fnm f.k).length + 1) (fnm f.k ++ 32 :: (Lib.itoa f.st ++ r)).length = (fnm f.k ++ [32]).length := by
    simp only [List.length_append, List.length_cons, List.length_nil]; omega
  have e2 : fnm f.k ++ 32 :: (Lib.itoa f.st ++ r) = (fnm f.k ++ [32]) ++ (Lib.itoa f.st ++ r) := by simp
  rw [e1, e2, List.drop_left']
  · rcases hr2 with rfl | ⟨r', rfl⟩
    · rw [List.append_nil, blK_all _ (itoa_noblank f.st), List.take_length]
    · rw [blK_app _ _ (itoa_noblank f.st), List.take_left']; rfl
  · rfl
theorem bN_sub (L : List UInt8) (a n : Nat) (h : a + n ≤ L.length) : (bN L).extract a (a + n) = bN ((L.drop a).take n) := by
  refine ByteArray.ext (Array.ext' ?_)
  rw [ByteArray.data_extract]
  simp only [bN, Array.toList_extract, List.extract_eq_take_drop]
  congr 1
  omega
theorem blK_step {L : List UInt8} {j : Nat} (hj : j < L.length) (h : L[j] ≠ 32) : blK (L.drop (j + 1)) + (j + 1) = blK (L.drop j) + j := by
  rw [List.drop_eq_getElem_cons hj, blK, if_neg h]; omega
theorem blK_stop {L : List UInt8} {j : Nat} (hj : j < L.length) (h : L[j] = 32) : blK (L.drop j) = 0 := by
  rw [List.drop_eq_getElem_cons hj, blK, if_pos h]
theorem blK_end {L : List UInt8} : blK (L.drop L.length) = 0 := by rw [List.drop_length]; rfl
/-- no fault of these numbers gives the text -/
def NoF (L : List UInt8) (n k a b : Int) : Prop := shapedF ⟨k, n, a, b⟩ = true → textF ⟨k, n, a, b⟩ ≠ L
end Go.Proofs.YtmfklcnocekdlaaGreatDoor

namespace Go.Proofs.YtmfklcnocekdlaaGreatDoor
open Go Go.RowKit Tor

set_option maxRecDepth 100000 in
set_option maxHeartbeats 16000000 in
theorem rparse25_spec (L : List UInt8) (w : World) (hl : L.length ≤ 1000000) : Calls Tryz.prog 21 #[.string (bN L)] w fun e w' => ∃ r : Flt × Int, e = .returned (.tuple #[.agg r.1.enc, .int .i64 r.2]) ∧ PSpec L r ∧ Below w.heap.size w w' := by
  have hz : (bN L).size = L.length := rfl
  have tL : (bN L).toList = L := Lib.toList_data _
  have kR := Blk.new w 41 #[.int .i64 0, .int .i64 0, .int .i64 0, .int .i64 0]
  have hBB : Below w.heap.size w (w.alloc (.cells #[.int .i64 0, .int .i64 0, .int .i64 0, .int .i64 0] 41)) := (Below.refl _ _).alloc (Nat.le_refl _) _
  obtain ⟨B, hB⟩ : ∃ B, Hid (blK L = B) := ⟨_, Lib.hid rfl⟩
  have hBl : B ≤ L.length := by rw [← hB.out]; exact blK_le L
  obtain ⟨F, hFF⟩ : ∃ F, Hid (min (B + 1) L.length = F) := ⟨_, Lib.hid rfl⟩
  have hFl : F ≤ L.length := by rw [← hFF.out]; omega
  obtain ⟨T, hTT⟩ : ∃ T, Hid (blK (L.drop F) + F = T) := ⟨_, Lib.hid rfl⟩
  have hTl : T ≤ L.length := by have := blK_le (L.drop F); rw [List.length_drop] at this; rw [← hTT.out]; omega
  have hFT : F ≤ T := by rw [← hTT.out]; omega
  have hnum : Hid (numF L = (L.drop F).take (T - F)) := by rw [Hid]; unfold numF; rw [hB.out, hFF.out, ← hTT.out, Nat.add_sub_cancel]
  have hex : (bN L).extract F T = bN (numF L) := by
    have := bN_sub L F (T - F) (by omega)
    rw [show F + (T - F) = T by omega] at this
    rw [this, hnum.out]
  obtain ⟨X, hX⟩ : ∃ X, Hid (bN (numF L) = X) := ⟨_, Lib.hid rfl⟩
  have hnl : (numF L).length ≤ 1000000 := by rw [hnum.out, List.length_take, List.length_drop]; omega
  have HI := Lib.hid (fun w' => rint_any (numF L) 0 999 w' hnl)
  have hbd := intW_bd (numF L) (least := 0) (most := 999) (by omega) (by omega)
  obtain ⟨⟨N, E⟩, hNE⟩ : ∃ x, Hid (intW (numF L) 0 999 = x) := ⟨_, Lib.hid rfl⟩
  rw [hX.out] at hex HI
  rw [hNE.out] at HI hbd
  obtain ⟨hN0, hN1⟩ := hbd
  dsimp only at HI hN0 hN1
  have HB0 := Lib.hid hB.out
  clear hnum hnl
  have k0 : (0 : Int) ≤ F := by omega
  have k1 : (F : Int) ≤ (T : Int) := by omega
  have k2 : (T : Int) ≤ (L.length : Int) := by omega
  go_enter Tryz.func21, Tryz.ntmps21
  go_wp2_with fail
  go_loopw [4] (fun iv wr => ∃ j : Nat, 0 ≤ j ∧ j ≤ L.length ∧ iv = .int .i64 j ∧ Hid (blK (L.drop j) + j = B) ∧ w.alloc (.cells #[.int .i64 0, .int .i64 0, .int .i64 0, .int .i64 0] 41) = wr) (fun i _ => L.length - (intOf i).toNat)
  case atStart => exact ⟨0, Nat.le_refl _, Nat.zero_le _, rfl, Lib.hid (by rw [List.drop_zero, hB.out]; rfl), rfl⟩
  case round =>
    obtain ⟨j, hlow, hj, rfl, hst, rfl⟩ := hrel
    by_cases hlt : j < L.length
    · have a1 : (j : Int) < (L.length : Int) := by omega
      have hsz : j < (bN L).size := hlt
      obtain ⟨d, hd⟩ : ∃ d, Hid (L[j]'hlt = d) := ⟨_, Lib.hid rfl⟩
      have hcb : (bN L)[j]'hsz = d := hd.out
      by_cases h32 : d = 32
      · have e1 : ((d.toNat : Int) != 32) = false := by rw [h32]; rfl
        have hj2 : Hid (j = B) := by rw [Hid, ← hst.out, blK_stop hlt (hd.out.trans h32)]; omega
        clear hst h32 hd
        have hmn : Hid (min ((j : Nat) + 1) L.length = F) := Lib.hid (by have h1 := hj2.out; have h2 := hFF.out; omega)
        have hmi : min (((j : Nat) : Int) + 1) (L.length : Int) = (F : Int) := by have := hmn.out; omega
        have hjl : (j : Nat) + 1 ≤ 1000001 := by omega
        clear hj2
        go_wp2_with fail
        go_loopw [5] (fun iv wr => ∃ j : Nat, F ≤ j ∧ j ≤ L.length ∧ iv = .int .i64 j ∧ Hid (blK (L.drop j) + j = T) ∧ w.alloc (.cells #[.int .i64 0, .int .i64 0, .int .i64 0, .int .i64 0] 41) = wr) (fun i _ => L.length - (intOf i).toNat)
        case atStart => exact ⟨F, Nat.le_refl _, hFl, by first | rfl | (rw [hmi]) | (simp only [hmi]), hTT, rfl⟩
        case round =>
          obtain ⟨j, hlow, hj, rfl, hst, rfl⟩ := hrel
          by_cases hlt : j < L.length
          · have a1 : (j : Int) < (L.length : Int) := by omega
            have hsz : j < (bN L).size := hlt
            obtain ⟨d, hd⟩ : ∃ d, Hid (L[j]'hlt = d) := ⟨_, Lib.hid rfl⟩
            have hcb : (bN L)[j]'hsz = d := hd.out
            by_cases h32 : d = 32
            · have e1 : ((d.toNat : Int) != 32) = false := by rw [h32]; rfl
              have hj2 : Hid (j = T) := by rw [Hid, ← hst.out, blK_stop hlt (hd.out.trans h32)]; omega
              clear hst h32 hd
              obtain rfl := hj2.out
              clear hj2
              go_wp2_with fail
              refine (HI.out _).mono ?_
              rintro e w1 ⟨rfl, hB1⟩
              have kR1 := kR.below' hB1
              have b1 := hBB.trans (hB1.mono hBB.size)
              by_cases hE0 : E = 0
              · subst hE0
                go_wp2_with fail
                go_loopw [8] (fun av wr => ∃ a : Nat, 1 ≤ a ∧ a ≤ 7 ∧ av = .int .i64 a ∧ Hid (∀ p q r : Int, 1 ≤ p → p < a → 0 ≤ q → q ≤ 16 → -1 ≤ r → r < 128 → NoF L N p q r) ∧ Blk wr w.heap.size 41 #[.int .i64 0, .int .i64 0, .int .i64 0, .int .i64 0] ∧ Below w.heap.size w wr) (fun av _ => 7 - (intOf av).toNat)
                case atStart => exact ⟨1, by omega, by omega, rfl, Lib.hid (fun p q r h1 h2 => absurd h1 (by omega)), kR1, b1⟩
                case round =>
                  obtain ⟨a, ha1, ha7, rfl, hma, kA, hBA⟩ := hrel
                  obtain ⟨wa, rfl⟩ : ∃ wa : World, wa = wr := ⟨_, rfl⟩
                  by_cases hla : a ≤ 6
                  · have c1 : (a : Int) ≤ 6 := by omega
                    go_wp2_with fail
                    go_loopw [9] (fun bv wr => ∃ b : Nat, b ≤ 17 ∧ bv = .int .i64 b ∧ Hid (∀ q r : Int, 0 ≤ q → q < b → -1 ≤ r → r < 128 → NoF L N a q r) ∧ Blk wr w.heap.size 41 #[.int .i64 0, .int .i64 0, .int .i64 0, .int .i64 0] ∧ Below w.heap.size w wr) (fun bv _ => 17 - (intOf bv).toNat)
                    case atStart => exact ⟨0, by omega, rfl, Lib.hid (fun q r h1 h2 => absurd h1 (by omega)), kA, hBA⟩
                    case round =>
                      obtain ⟨b, hb17, rfl, hmb, kB, hBB2⟩ := hrel
                      obtain ⟨wb, rfl⟩ : ∃ wb : World, wb = wr := ⟨_, rfl⟩
                      by_cases hlb : b ≤ 16
                      · have c2 : (b : Int) ≤ 16 := by omega
                        go_wp2_with fail
                        go_loopw [10] (fun cv wr => ∃ c : Nat, c ≤ 129 ∧ cv = .int .i64 ((c : Int) - 1) ∧ Hid (∀ r : Int, -1 ≤ r → r < (c : Int) - 1 → NoF L N a b r) ∧ Blk wr w.heap.size 41 #[.int .i64 0, .int .i64 0, .int .i64 0, .int .i64 0] ∧ Below w.heap.size w wr) (fun cv _ => 130 - (intOf cv + 1).toNat)
                        case atStart => exact ⟨0, by omega, rfl, Lib.hid (fun r h1 h2 => absurd h1 (by omega)), kB, hBB2⟩
                        case round =>
                          obtain ⟨c, hc, rfl, hmc, kC, hBC⟩ := hrel
                          obtain ⟨wc, rfl⟩ : ∃ wc : World, wc = wr := ⟨_, rfl⟩
                          obtain ⟨x, hx⟩ : ∃ x : Int, Hid ((c : Int) - 1 = x) := ⟨_, Lib.hid rfl⟩
                          have hx0 : -1 ≤ x := by have := hx.out; omega
                          have hx1 : x ≤ 128 := by have := hx.out; omega
                          have hxw : IntKind.i64.wrap (x + 1) = ((c + 1 : Nat) : Int) - 1 := by rw [IntWalk.i64_in _ (by omega)]; have := hx.out; omega
                          have HXW := Lib.hid hxw
                          rw [hx.out] at hmc ⊢
                          clear hxw
                          by_cases hlc : c ≤ 128
                          · have c3 : x < 128 := by have := hx.out; omega
                            have kX0 := Blk.new wc 41 #[.int .i64 (a : Int), .int .i64 N, .int .i64 (b : Int), .int .i64 x]
                            have kO0 := kC.alloc (.cells #[.int .i64 (a : Int), .int .i64 N, .int .i64 (b : Int), .int .i64 x] 41)
                            have hB0 := hBC.alloc hBC.size (.cells #[.int .i64 (a : Int), .int .i64 N, .int .i64 (b : Int), .int .i64 x] 41)
                            cases hsh : shapedF ⟨(a : Int), N, (b : Int), x⟩
                            · have HS : Hid (∀ w', Calls Tryz.prog 56 #[.agg #[.int .i64 (a : Int), .int .i64 N, .int .i64 (b : Int), .int .i64 x]] w' (Ret (.bool false) w')) := Lib.hid (fun w' => by have := shaped_any25 ⟨(a : Int), N, (b : Int), x⟩ w'; rw [hsh] at this; exact this)
                              have hmc2 : Hid (∀ r : Int, -1 ≤ r → r < ((c + 1 : Nat) : Int) - 1 → NoF L N a b r) := Lib.hid (fun r h1 h2 => by
                                rcases Int.lt_or_le r x with h | h
                                · exact hmc.out r h1 h
                                · obtain rfl : r = x := by have := hx.out; omega
                                  intro hh; rw [hsh] at hh; cases hh)
                              clear hsh hmc
                              go_wp2_with fail
                              refine (HS.out _).mono ?_
                              rintro e w3 ⟨rfl, hB3⟩
                              have kO3 := kO0.below' hB3
                              have b3 := hB0.trans (hB3.mono hB0.size)
                              go_wp2_with fail
                              go_roundw
                              case rel => exact ⟨c + 1, by omega, by rw [show ((c + 1 : Nat) : Int) - 1 = x + 1 by have := hx.out; omega], hmc2, kO3, b3⟩
                              case measure => simp only [intOf]; have := hx.out; omega
                            · have HS : Hid (∀ w', Calls Tryz.prog 56 #[.agg #[.int .i64 (a : Int), .int .i64 N, .int .i64 (b : Int), .int .i64 x]] w' (Ret (.bool true) w')) := Lib.hid (fun w' => by have := shaped_any25 ⟨(a : Int), N, (b : Int), x⟩ w'; rw [hsh] at this; exact this)
                              have hok : FOk ⟨(a : Int), N, (b : Int), x⟩ := ⟨hsh, hN0, hN1, by simp only; omega, by simp only; omega⟩
                              have HOK := Lib.hid hok
                              obtain ⟨Y, hY⟩ : ∃ Y, Hid (textF ⟨(a : Int), N, (b : Int), x⟩ = Y) := ⟨_, Lib.hid rfl⟩
                              have HT : Hid (∀ w', Calls Tryz.prog 57 #[.agg #[.int .i64 (a : Int), .int .i64 N, .int .i64 (b : Int), .int .i64 x]] w' (Ret (.string (bN Y)) w')) := Lib.hid (fun w' => by have := text25_any (a : Int) N (b : Int) x hok w'; rw [hY.out] at this; exact this)
                              have tY : (bN Y).toList = Y := Lib.toList_data _
                              by_cases hyl : Y = L
                              · have v3 : (Y == L) = true := by rw [hyl]; exact beq_self_eq_true _
                                have HYL := Lib.hid hyl
                                clear hyl hmc hsh hok
                                go_wp2_with fail
                                refine (HS.out _).mono ?_
                                rintro e w3 ⟨rfl, hB3⟩
                                have kX3 := kX0.below' hB3
                                have kO3 := kO0.below' hB3
                                have b3 := hB0.trans (hB3.mono hB0.size)
                                have x0 := kX3.cell 0 _ rfl
                                have x1 := kX3.cell 1 _ rfl
                                have x2 := kX3.cell 2 _ rfl
                                have x3 := kX3.cell 3 _ rfl
                                go_wp2_with fail
                                refine (HT.out _).mono ?_
                                rintro e w4 ⟨rfl, hB4⟩
                                have kX4 := kX3.below' hB4
                                have kO4 := kO3.below' hB4
                                have b4 := b3.trans (hB4.mono b3.size)
                                clear x0 x1 x2 x3
                                have x0 := kX4.cell 0 _ rfl
                                have x1 := kX4.cell 1 _ rfl
                                have x2 := kX4.cell 2 _ rfl
                                have x3 := kX4.cell 3 _ rfl
                                have f0 := kO4.frozen 0
                                have f1 := kO4.frozen 1
                                have f2 := kO4.frozen 2
                                have f3 := kO4.frozen 3
                                have q0 := kO4.cell 0 _ rfl
                                have q1 := kO4.cell 1 _ rfl
                                have q2 := kO4.cell 2 _ rfl
                                have q3 := kO4.cell 3 _ rfl
                                have l0 := kO4.lt
                                go_wp2_with fail
                                refine flt_ret2 rfl rfl ((((kO4.set_ 0 _).set_ 1 _).set_ 2 _).set_ 3 _) rfl ?_
                                exact ⟨(⟨(a : Int), N, (b : Int), x⟩, 0), rfl, .inl ⟨_, HOK.out, hY.out.trans HYL.out, rfl⟩, ((((b4.setCell (p := ⟨w.heap.size, 0, none⟩) (Nat.le_refl _) _).setCell (p := ⟨w.heap.size, 1, none⟩) (Nat.le_refl _) _).setCell (p := ⟨w.heap.size, 2, none⟩) (Nat.le_refl _) _).setCell (p := ⟨w.heap.size, 3, none⟩) (Nat.le_refl _) _)⟩
                              · have v3 : (Y == L) = false := beq_eq_false_iff_ne.2 hyl
                                have hmc2 : Hid (∀ r : Int, -1 ≤ r → r < ((c + 1 : Nat) : Int) - 1 → NoF L N a b r) := Lib.hid (fun r h1 h2 => by
                                  rcases Int.lt_or_le r x with h | h
                                  · exact hmc.out r h1 h
                                  · obtain rfl : r = x := by have := hx.out; omega
                                    intro _; rw [hY.out]; exact hyl)
                                clear hyl hmc hsh hok
                                go_wp2_with fail
                                refine (HS.out _).mono ?_
                                rintro e w3 ⟨rfl, hB3⟩
                                have kX3 := kX0.below' hB3
                                have kO3 := kO0.below' hB3
                                have b3 := hB0.trans (hB3.mono hB0.size)
                                have x0 := kX3.cell 0 _ rfl
                                have x1 := kX3.cell 1 _ rfl
                                have x2 := kX3.cell 2 _ rfl
                                have x3 := kX3.cell 3 _ rfl
                                go_wp2_with fail
                                refine (HT.out _).mono ?_
                                rintro e w4 ⟨rfl, hB4⟩
                                have kO4 := kO3.below' hB4
                                have b4 := b3.trans (hB4.mono b3.size)
                                clear x0 x1 x2 x3
                                go_wp2_with fail
                                go_roundw
                                case rel => exact ⟨c + 1, by omega, by rw [show ((c + 1 : Nat) : Int) - 1 = x + 1 by have := hx.out; omega], hmc2, kO4, b4⟩
                                case measure => simp only [intOf]; have := hx.out; omega
                          · have c3 : ¬ x < 128 := by have := hx.out; omega
                            have hmb2 : Hid (∀ q r : Int, 0 ≤ q → q < ((b + 1 : Nat) : Int) → -1 ≤ r → r < 128 → NoF L N a q r) := Lib.hid (fun q r h1 h2 h3 h4 => by
                              rcases Int.lt_or_le q b with h | h
                              · exact hmb.out q r h1 h h3 h4
                              · obtain rfl : q = b := by omega
                                exact hmc.out r h3 (by omega))
                            clear hmc hmb
                            go_wp2_with fail
                            go_roundw
                            case rel => exact ⟨b + 1, by omega, by go_num, hmb2, kC, hBC⟩
                            case measure => simp [intOf]; omega
                      · obtain rfl : b = 17 := by omega
                        have hma2 : Hid (∀ p q r : Int, 1 ≤ p → p < ((a + 1 : Nat) : Int) → 0 ≤ q → q ≤ 16 → -1 ≤ r → r < 128 → NoF L N p q r) := Lib.hid (fun p q r h0 h1 h2 h3 h4 h5 => by
                          rcases Int.lt_or_le p a with h | h
                          · exact hma.out p q r h0 h h2 h3 h4 h5
                          · obtain rfl : p = a := by omega
                            exact hmb.out q r h2 (by omega) h4 h5)
                        clear hma hmb
                        go_wp2_with fail
                        go_roundw
                        case rel => exact ⟨a + 1, by omega, by omega, by go_num, hma2, kB, hBB2⟩
                        case measure => simp [intOf]; omega
                  · obtain rfl : a = 7 := by omega
                    have hno : Hid (∀ f, FOk f → textF f ≠ L) := Lib.hid (fun f hf e => by
                      have e1 : f.st = N := by
                        have h1 := numF_text (f := f)
                        rw [e] at h1
                        have h2 := hNE.out
                        rw [h1, intW_itoa hf.s0 hf.s1 (by have := hf.s0; omega) (by have := hf.s1; omega)] at h2
                        exact congrArg Prod.fst h2
                      have hk := hf.k
                      have hw := withs_bd hf.w
                      have hl0 := hf.l0
                      have hl1 := hf.l1
                      have hsh := hf.sh
                      obtain ⟨fk, fs, fl, fw⟩ := f
                      simp only at e1 hk hw hl0 hl1
                      subst e1
                      exact hma.out fk fl fw hk.1 (by omega) hl0 hl1 hw.1 hw.2 hsh e)
                    clear hma
                    have f0 := kA.frozen 0
                    have f1 := kA.frozen 1
                    have f2 := kA.frozen 2
                    have f3 := kA.frozen 3
                    have q0 := kA.cell 0 _ rfl
                    have q1 := kA.cell 1 _ rfl
                    have q2 := kA.cell 2 _ rfl
                    have q3 := kA.cell 3 _ rfl
                    have l0 := kA.lt
                    go_wp2_with fail
                    refine flt_ret2 rfl rfl ((((kA.set_ 0 _).set_ 1 _).set_ 2 _).set_ 3 _) rfl ?_
                    exact ⟨(⟨0, 0, 0, 0⟩, 6), rfl, .inr ⟨rfl, hno.out⟩, ((((hBA.setCell (p := ⟨w.heap.size, 0, none⟩) (Nat.le_refl _) _).setCell (p := ⟨w.heap.size, 1, none⟩) (Nat.le_refl _) _).setCell (p := ⟨w.heap.size, 2, none⟩) (Nat.le_refl _) _).setCell (p := ⟨w.heap.size, 3, none⟩) (Nat.le_refl _) _)⟩
              · have b0 : (E != 0) = true := by rw [bne_iff_ne]; exact hE0
                have hno : Hid (∀ f, FOk f → textF f ≠ L) := Lib.hid (fun f hf e => by
                  have h1 := numF_text (f := f)
                  rw [e] at h1
                  have h2 := hNE.out
                  rw [h1, intW_itoa hf.s0 hf.s1 (by have := hf.s0; omega) (by have := hf.s1; omega)] at h2
                  exact hE0 (congrArg Prod.snd h2).symm)
                clear hE0
                have f0 := kR1.frozen 0
                have f1 := kR1.frozen 1
                have f2 := kR1.frozen 2
                have f3 := kR1.frozen 3
                have q0 := kR1.cell 0 _ rfl
                have q1 := kR1.cell 1 _ rfl
                have q2 := kR1.cell 2 _ rfl
                have q3 := kR1.cell 3 _ rfl
                have l0 := kR1.lt
                go_wp2_with fail
                refine flt_ret2 rfl rfl ((((kR1.set_ 0 _).set_ 1 _).set_ 2 _).set_ 3 _) rfl ?_
                exact ⟨(⟨0, 0, 0, 0⟩, 6), rfl, .inr ⟨rfl, hno.out⟩, ((((b1.setCell (p := ⟨w.heap.size, 0, none⟩) (Nat.le_refl _) _).setCell (p := ⟨w.heap.size, 1, none⟩) (Nat.le_refl _) _).setCell (p := ⟨w.heap.size, 2, none⟩) (Nat.le_refl _) _).setCell (p := ⟨w.heap.size, 3, none⟩) (Nat.le_refl _) _)⟩
            · have e1 : ((d.toNat : Int) != 32) = true := by
                rw [bne_iff_ne]; exact fun he => h32 (UInt8.toNat.inj (by show d.toNat = 32; omega))
              have hst2 : Hid (blK (L.drop (j + 1)) + (j + 1) = T) := by rw [Hid, blK_step hlt (fun e => h32 (hd.out.symm.trans e)), hst.out]
              clear hst h32 hd
              go_wp2_with fail
              go_roundw
              case rel => exact ⟨j + 1, by omega, by omega, by go_num, hst2, trivial⟩
              case measure => simp [intOf]; omega
          · obtain rfl : j = L.length := by omega
            have a1 : ¬ (L.length : Int) < (L.length : Int) := by omega
            have hj2 : Hid (L.length = T) := by rw [Hid, ← hst.out, blK_end]; omega
            clear hst
            obtain rfl := hj2.out
            clear hj2
            go_wp2_with fail
            refine (HI.out _).mono ?_
            rintro e w1 ⟨rfl, hB1⟩
            have kR1 := kR.below' hB1
            have b1 := hBB.trans (hB1.mono hBB.size)
            by_cases hE0 : E = 0
            · subst hE0
              go_wp2_with fail
              go_loopw [8] (fun av wr => ∃ a : Nat, 1 ≤ a ∧ a ≤ 7 ∧ av = .int .i64 a ∧ Hid (∀ p q r : Int, 1 ≤ p → p < a → 0 ≤ q → q ≤ 16 → -1 ≤ r → r < 128 → NoF L N p q r) ∧ Blk wr w.heap.size 41 #[.int .i64 0, .int .i64 0, .int .i64 0, .int .i64 0] ∧ Below w.heap.size w wr) (fun av _ => 7 - (intOf av).toNat)
              case atStart => exact ⟨1, by omega, by omega, rfl, Lib.hid (fun p q r h1 h2 => absurd h1 (by omega)), kR1, b1⟩
              case round =>
                obtain ⟨a, ha1, ha7, rfl, hma, kA, hBA⟩ := hrel
                obtain ⟨wa, rfl⟩ : ∃ wa : World, wa = wr := ⟨_, rfl⟩
                by_cases hla : a ≤ 6
                · have c1 : (a : Int) ≤ 6 := by omega
                  go_wp2_with fail
                  go_loopw [9] (fun bv wr => ∃ b : Nat, b ≤ 17 ∧ bv = .int .i64 b ∧ Hid (∀ q r : Int, 0 ≤ q → q < b → -1 ≤ r → r < 128 → NoF L N a q r) ∧ Blk wr w.heap.size 41 #[.int .i64 0, .int .i64 0, .int .i64 0, .int .i64 0] ∧ Below w.heap.size w wr) (fun bv _ => 17 - (intOf bv).toNat)
                  case atStart => exact ⟨0, by omega, rfl, Lib.hid (fun q r h1 h2 => absurd h1 (by omega)), kA, hBA⟩
                  case round =>
                    obtain ⟨b, hb17, rfl, hmb, kB, hBB2⟩ := hrel
                    obtain ⟨wb, rfl⟩ : ∃ wb : World, wb = wr := ⟨_, rfl⟩
                    by_cases hlb : b ≤ 16
                    · have c2 : (b : Int) ≤ 16 := by omega
                      go_wp2_with fail
                      go_loopw [10] (fun cv wr => ∃ c : Nat, c ≤ 129 ∧ cv = .int .i64 ((c : Int) - 1) ∧ Hid (∀ r : Int, -1 ≤ r → r < (c : Int) - 1 → NoF L N a b r) ∧ Blk wr w.heap.size 41 #[.int .i64 0, .int .i64 0, .int .i64 0, .int .i64 0] ∧ Below w.heap.size w wr) (fun cv _ => 130 - (intOf cv + 1).toNat)
                      case atStart => exact ⟨0, by omega, rfl, Lib.hid (fun r h1 h2 => absurd h1 (by omega)), kB, hBB2⟩
                      case round =>
                        obtain ⟨c, hc, rfl, hmc, kC, hBC⟩ := hrel
                        obtain ⟨wc, rfl⟩ : ∃ wc : World, wc = wr := ⟨_, rfl⟩
                        obtain ⟨x, hx⟩ : ∃ x : Int, Hid ((c : Int) - 1 = x) := ⟨_, Lib.hid rfl⟩
                        have hx0 : -1 ≤ x := by have := hx.out; omega
                        have hx1 : x ≤ 128 := by have := hx.out; omega
                        have hxw : IntKind.i64.wrap (x + 1) = ((c + 1 : Nat) : Int) - 1 := by rw [IntWalk.i64_in _ (by omega)]; have := hx.out; omega
                        have HXW := Lib.hid hxw
                        rw [hx.out] at hmc ⊢
                        clear hxw
                        by_cases hlc : c ≤ 128
                        · have c3 : x < 128 := by have := hx.out; omega
                          have kX0 := Blk.new wc 41 #[.int .i64 (a : Int), .int .i64 N, .int .i64 (b : Int), .int .i64 x]
                          have kO0 := kC.alloc (.cells #[.int .i64 (a : Int), .int .i64 N, .int .i64 (b : Int), .int .i64 x] 41)
                          have hB0 := hBC.alloc hBC.size (.cells #[.int .i64 (a : Int), .int .i64 N, .int .i64 (b : Int), .int .i64 x] 41)
                          cases hsh : shapedF ⟨(a : Int), N, (b : Int), x⟩
                          · have HS : Hid (∀ w', Calls Tryz.prog 56 #[.agg #[.int .i64 (a : Int), .int .i64 N, .int .i64 (b : Int), .int .i64 x]] w' (Ret (.bool false) w')) := Lib.hid (fun w' => by have := shaped_any25 ⟨(a : Int), N, (b : Int), x⟩ w'; rw [hsh] at this; exact this)
                            have hmc2 : Hid (∀ r : Int, -1 ≤ r → r < ((c + 1 : Nat) : Int) - 1 → NoF L N a b r) := Lib.hid (fun r h1 h2 => by
                              rcases Int.lt_or_le r x with h | h
                              · exact hmc.out r h1 h
                              · obtain rfl : r = x := by have := hx.out; omega
                                intro hh; rw [hsh] at hh; cases hh)
                            clear hsh hmc
                            go_wp2_with fail
                            refine (HS.out _).mono ?_
                            rintro e w3 ⟨rfl, hB3⟩
                            have kO3 := kO0.below' hB3
                            have b3 := hB0.trans (hB3.mono hB0.size)
                            go_wp2_with fail
                            go_roundw
                            case rel => exact ⟨c + 1, by omega, by rw [show ((c + 1 : Nat) : Int) - 1 = x + 1 by have := hx.out; omega], hmc2, kO3, b3⟩
                            case measure => simp only [intOf]; have := hx.out; omega
                          · have HS : Hid (∀ w', Calls Tryz.prog 56 #[.agg #[.int .i64 (a : Int), .int .i64 N, .int .i64 (b : Int), .int .i64 x]] w' (Ret (.bool true) w')) := Lib.hid (fun w' => by have := shaped_any25 ⟨(a : Int), N, (b : Int), x⟩ w'; rw [hsh] at this; exact this)
                            have hok : FOk ⟨(a : Int), N, (b : Int), x⟩ := ⟨hsh, hN0, hN1, by simp only; omega, by simp only; omega⟩
                            have HOK := Lib.hid hok
                            obtain ⟨Y, hY⟩ : ∃ Y, Hid (textF ⟨(a : Int), N, (b : Int), x⟩ = Y) := ⟨_, Lib.hid rfl⟩
                            have HT : Hid (∀ w', Calls Tryz.prog 57 #[.agg #[.int .i64 (a : Int), .int .i64 N, .int .i64 (b : Int), .int .i64 x]] w' (Ret (.string (bN Y)) w')) := Lib.hid (fun w' => by have := text25_any (a : Int) N (b : Int) x hok w'; rw [hY.out] at this; exact this)
                            have tY : (bN Y).toList = Y := Lib.toList_data _
                            by_cases hyl : Y = L
                            · have v3 : (Y == L) = true := by rw [hyl]; exact beq_self_eq_true _
                              have HYL := Lib.hid hyl
                              clear hyl hmc hsh hok
                              go_wp2_with fail
                              refine (HS.out _).mono ?_
                              rintro e w3 ⟨rfl, hB3⟩
                              have kX3 := kX0.below' hB3
                              have kO3 := kO0.below' hB3
                              have b3 := hB0.trans (hB3.mono hB0.size)
                              have x0 := kX3.cell 0 _ rfl
                              have x1 := kX3.cell 1 _ rfl
                              have x2 := kX3.cell 2 _ rfl
                              have x3 := kX3.cell 3 _ rfl
                              go_wp2_with fail
                              refine (HT.out _).mono ?_
                              rintro e w4 ⟨rfl, hB4⟩
                              have kX4 := kX3.below' hB4
                              have kO4 := kO3.below' hB4
                              have b4 := b3.trans (hB4.mono b3.size)
                              clear x0 x1 x2 x3
                              have x0 := kX4.cell 0 _ rfl
                              have x1 := kX4.cell 1 _ rfl
                              have x2 := kX4.cell 2 _ rfl
                              have x3 := kX4.cell 3 _ rfl
                              have f0 := kO4.frozen 0
                              have f1 := kO4.frozen 1
                              have f2 := kO4.frozen 2
                              have f3 := kO4.frozen 3
                              have q0 := kO4.cell 0 _ rfl
                              have q1 := kO4.cell 1 _ rfl
                              have q2 := kO4.cell 2 _ rfl
                              have q3 := kO4.cell 3 _ rfl
                              have l0 := kO4.lt
                              go_wp2_with fail
                              refine flt_ret2 rfl rfl ((((kO4.set_ 0 _).set_ 1 _).set_ 2 _).set_ 3 _) rfl ?_
                              exact ⟨(⟨(a : Int), N, (b : Int), x⟩, 0), rfl, .inl ⟨_, HOK.out, hY.out.trans HYL.out, rfl⟩, ((((b4.setCell (p := ⟨w.heap.size, 0, none⟩) (Nat.le_refl _) _).setCell (p := ⟨w.heap.size, 1, none⟩) (Nat.le_refl _) _).setCell (p := ⟨w.heap.size, 2, none⟩) (Nat.le_refl _) _).setCell (p := ⟨w.heap.size, 3, none⟩) (Nat.le_refl _) _)⟩
                            · have v3 : (Y == L) = false := beq_eq_false_iff_ne.2 hyl
                              have hmc2 : Hid (∀ r : Int, -1 ≤ r → r < ((c + 1 : Nat) : Int) - 1 → NoF L N a b r) := Lib.hid (fun r h1 h2 => by
                                rcases Int.lt_or_le r x with h | h
                                · exact hmc.out r h1 h
                                · obtain rfl : r = x := by have := hx.out; omega
                                  intro _; rw [hY.out]; exact hyl)
                              clear hyl hmc hsh hok
                              go_wp2_with fail
                              refine (HS.out _).mono ?_
                              rintro e w3 ⟨rfl, hB3⟩
                              have kX3 := kX0.below' hB3
                              have kO3 := kO0.below' hB3
                              have b3 := hB0.trans (hB3.mono hB0.size)
                              have x0 := kX3.cell 0 _ rfl
                              have x1 := kX3.cell 1 _ rfl
                              have x2 := kX3.cell 2 _ rfl
                              have x3 := kX3.cell 3 _ rfl
                              go_wp2_with fail
                              refine (HT.out _).mono ?_
                              rintro e w4 ⟨rfl, hB4⟩
                              have kO4 := kO3.below' hB4
                              have b4 := b3.trans (hB4.mono b3.size)
                              clear x0 x1 x2 x3
                              go_wp2_with fail
                              go_roundw
                              case rel => exact ⟨c + 1, by omega, by rw [show ((c + 1 : Nat) : Int) - 1 = x + 1 by have := hx.out; omega], hmc2, kO4, b4⟩
                              case measure => simp only [intOf]; have := hx.out; omega
                        · have c3 : ¬ x < 128 := by have := hx.out; omega
                          have hmb2 : Hid (∀ q r : Int, 0 ≤ q → q < ((b + 1 : Nat) : Int) → -1 ≤ r → r < 128 → NoF L N a q r) := Lib.hid (fun q r h1 h2 h3 h4 => by
                            rcases Int.lt_or_le q b with h | h
                            · exact hmb.out q r h1 h h3 h4
                            · obtain rfl : q = b := by omega
                              exact hmc.out r h3 (by omega))
                          clear hmc hmb
                          go_wp2_with fail
                          go_roundw
                          case rel => exact ⟨b + 1, by omega, by go_num, hmb2, kC, hBC⟩
                          case measure => simp [intOf]; omega
                    · obtain rfl : b = 17 := by omega
                      have hma2 : Hid (∀ p q r : Int, 1 ≤ p → p < ((a + 1 : Nat) : Int) → 0 ≤ q → q ≤ 16 → -1 ≤ r → r < 128 → NoF L N p q r) := Lib.hid (fun p q r h0 h1 h2 h3 h4 h5 => by
                        rcases Int.lt_or_le p a with h | h
                        · exact hma.out p q r h0 h h2 h3 h4 h5
                        · obtain rfl : p = a := by omega
                          exact hmb.out q r h2 (by omega) h4 h5)
                      clear hma hmb
                      go_wp2_with fail
                      go_roundw
                      case rel => exact ⟨a + 1, by omega, by omega, by go_num, hma2, kB, hBB2⟩
                      case measure => simp [intOf]; omega
                · obtain rfl : a = 7 := by omega
                  have hno : Hid (∀ f, FOk f → textF f ≠ L) := Lib.hid (fun f hf e => by
                    have e1 : f.st = N := by
                      have h1 := numF_text (f := f)
                      rw [e] at h1
                      have h2 := hNE.out
                      rw [h1, intW_itoa hf.s0 hf.s1 (by have := hf.s0; omega) (by have := hf.s1; omega)] at h2
                      exact congrArg Prod.fst h2
                    have hk := hf.k
                    have hw := withs_bd hf.w
                    have hl0 := hf.l0
                    have hl1 := hf.l1
                    have hsh := hf.sh
                    obtain ⟨fk, fs, fl, fw⟩ := f
                    simp only at e1 hk hw hl0 hl1
                    subst e1
                    exact hma.out fk fl fw hk.1 (by omega) hl0 hl1 hw.1 hw.2 hsh e)
                  clear hma
                  have f0 := kA.frozen 0
                  have f1 := kA.frozen 1
                  have f2 := kA.frozen 2
                  have f3 := kA.frozen 3
                  have q0 := kA.cell 0 _ rfl
                  have q1 := kA.cell 1 _ rfl
                  have q2 := kA.cell 2 _ rfl
                  have q3 := kA.cell 3 _ rfl
                  have l0 := kA.lt
                  go_wp2_with fail
                  refine flt_ret2 rfl rfl ((((kA.set_ 0 _).set_ 1 _).set_ 2 _).set_ 3 _) rfl ?_
                  exact ⟨(⟨0, 0, 0, 0⟩, 6), rfl, .inr ⟨rfl, hno.out⟩, ((((hBA.setCell (p := ⟨w.heap.size, 0, none⟩) (Nat.le_refl _) _).setCell (p := ⟨w.heap.size, 1, none⟩) (Nat.le_refl _) _).setCell (p := ⟨w.heap.size, 2, none⟩) (Nat.le_refl _) _).setCell (p := ⟨w.heap.size, 3, none⟩) (Nat.le_refl _) _)⟩
            · have b0 : (E != 0) = true := by rw [bne_iff_ne]; exact hE0
              have hno : Hid (∀ f, FOk f → textF f ≠ L) := Lib.hid (fun f hf e => by
                have h1 := numF_text (f := f)
                rw [e] at h1
                have h2 := hNE.out
                rw [h1, intW_itoa hf.s0 hf.s1 (by have := hf.s0; omega) (by have := hf.s1; omega)] at h2
                exact hE0 (congrArg Prod.snd h2).symm)
              clear hE0
              have f0 := kR1.frozen 0
              have f1 := kR1.frozen 1
              have f2 := kR1.frozen 2
              have f3 := kR1.frozen 3
              have q0 := kR1.cell 0 _ rfl
              have q1 := kR1.cell 1 _ rfl
              have q2 := kR1.cell 2 _ rfl
              have q3 := kR1.cell 3 _ rfl
              have l0 := kR1.lt
              go_wp2_with fail
              refine flt_ret2 rfl rfl ((((kR1.set_ 0 _).set_ 1 _).set_ 2 _).set_ 3 _) rfl ?_
              exact ⟨(⟨0, 0, 0, 0⟩, 6), rfl, .inr ⟨rfl, hno.out⟩, ((((b1.setCell (p := ⟨w.heap.size, 0, none⟩) (Nat.le_refl _) _).setCell (p := ⟨w.heap.size, 1, none⟩) (Nat.le_refl _) _).setCell (p := ⟨w.heap.size, 2, none⟩) (Nat.le_refl _) _).setCell (p := ⟨w.heap.size, 3, none⟩) (Nat.le_refl _) _)⟩
      · have e1 : ((d.toNat : Int) != 32) = true := by
          rw [bne_iff_ne]; exact fun he => h32 (UInt8.toNat.inj (by show d.toNat = 32; omega))
        have hst2 : Hid (blK (L.drop (j + 1)) + (j + 1) = B) := by rw [Hid, blK_step hlt (fun e => h32 (hd.out.symm.trans e)), hst.out]
        clear hst h32 hd
        go_wp2_with fail
        go_roundw
        case rel => exact ⟨j + 1, by omega, by omega, by go_num, hst2, trivial⟩
        case measure => simp [intOf]; omega
    · obtain rfl : j = L.length := by omega
      have a1 : ¬ (L.length : Int) < (L.length : Int) := by omega
      have hj2 : Hid (L.length = B) := by rw [Hid, ← hst.out, blK_end]; omega
      clear hst
      have hmn : Hid (min ((L.length : Nat) + 1) L.length = F) := Lib.hid (by have h1 := hj2.out; have h2 := hFF.out; omega)
      have hmi : min (((L.length : Nat) : Int) + 1) (L.length : Int) = (F : Int) := by have := hmn.out; omega
      have hjl : (L.length : Nat) + 1 ≤ 1000001 := by omega
      clear hj2
      go_wp2_with fail
      go_loopw [5] (fun iv wr => ∃ j : Nat, F ≤ j ∧ j ≤ L.length ∧ iv = .int .i64 j ∧ Hid (blK (L.drop j) + j = T) ∧ w.alloc (.cells #[.int .i64 0, .int .i64 0, .int .i64 0, .int .i64 0] 41) = wr) (fun i _ => L.length - (intOf i).toNat)
      case atStart => exact ⟨F, Nat.le_refl _, hFl, by first | rfl | (rw [hmi]) | (simp only [hmi]), hTT, rfl⟩
      case round =>
        obtain ⟨j, hlow, hj, rfl, hst, rfl⟩ := hrel
        by_cases hlt : j < L.length
        · exact absurd hlt (by have h1 := hmn.out; omega)
        · obtain rfl : j = L.length := by omega
          have a1 : ¬ (L.length : Int) < (L.length : Int) := by omega
          have hj2 : Hid (L.length = T) := by rw [Hid, ← hst.out, blK_end]; omega
          clear hst
          obtain rfl := hj2.out
          clear hj2
          go_wp2_with fail
          refine (HI.out _).mono ?_
          rintro e w1 ⟨rfl, hB1⟩
          have kR1 := kR.below' hB1
          have b1 := hBB.trans (hB1.mono hBB.size)
          by_cases hE0 : E = 0
          · subst hE0
            go_wp2_with fail
            go_loopw [8] (fun av wr => ∃ a : Nat, 1 ≤ a ∧ a ≤ 7 ∧ av = .int .i64 a ∧ Hid (∀ p q r : Int, 1 ≤ p → p < a → 0 ≤ q → q ≤ 16 → -1 ≤ r → r < 128 → NoF L N p q r) ∧ Blk wr w.heap.size 41 #[.int .i64 0, .int .i64 0, .int .i64 0, .int .i64 0] ∧ Below w.heap.size w wr) (fun av _ => 7 - (intOf av).toNat)
            case atStart => exact ⟨1, by omega, by omega, rfl, Lib.hid (fun p q r h1 h2 => absurd h1 (by omega)), kR1, b1⟩
            case round =>
              obtain ⟨a, ha1, ha7, rfl, hma, kA, hBA⟩ := hrel
              obtain ⟨wa, rfl⟩ : ∃ wa : World, wa = wr := ⟨_, rfl⟩
              by_cases hla : a ≤ 6
              · have c1 : (a : Int) ≤ 6 := by omega
                go_wp2_with fail
                go_loopw [9] (fun bv wr => ∃ b : Nat, b ≤ 17 ∧ bv = .int .i64 b ∧ Hid (∀ q r : Int, 0 ≤ q → q < b → -1 ≤ r → r < 128 → NoF L N a q r) ∧ Blk wr w.heap.size 41 #[.int .i64 0, .int .i64 0, .int .i64 0, .int .i64 0] ∧ Below w.heap.size w wr) (fun bv _ => 17 - (intOf bv).toNat)
                case atStart => exact ⟨0, by omega, rfl, Lib.hid (fun q r h1 h2 => absurd h1 (by omega)), kA, hBA⟩
                case round =>
                  obtain ⟨b, hb17, rfl, hmb, kB, hBB2⟩ := hrel
                  obtain ⟨wb, rfl⟩ : ∃ wb : World, wb = wr := ⟨_, rfl⟩
                  by_cases hlb : b ≤ 16
                  · have c2 : (b : Int) ≤ 16 := by omega
                    go_wp2_with fail
                    go_loopw [10] (fun cv wr => ∃ c : Nat, c ≤ 129 ∧ cv = .int .i64 ((c : Int) - 1) ∧ Hid (∀ r : Int, -1 ≤ r → r < (c : Int) - 1 → NoF L N a b r) ∧ Blk wr w.heap.size 41 #[.int .i64 0, .int .i64 0, .int .i64 0, .int .i64 0] ∧ Below w.heap.size w wr) (fun cv _ => 130 - (intOf cv + 1).toNat)
                    case atStart => exact ⟨0, by omega, rfl, Lib.hid (fun r h1 h2 => absurd h1 (by omega)), kB, hBB2⟩
                    case round =>
                      obtain ⟨c, hc, rfl, hmc, kC, hBC⟩ := hrel
                      obtain ⟨wc, rfl⟩ : ∃ wc : World, wc = wr := ⟨_, rfl⟩
                      obtain ⟨x, hx⟩ : ∃ x : Int, Hid ((c : Int) - 1 = x) := ⟨_, Lib.hid rfl⟩
                      have hx0 : -1 ≤ x := by have := hx.out; omega
                      have hx1 : x ≤ 128 := by have := hx.out; omega
                      have hxw : IntKind.i64.wrap (x + 1) = ((c + 1 : Nat) : Int) - 1 := by rw [IntWalk.i64_in _ (by omega)]; have := hx.out; omega
                      have HXW := Lib.hid hxw
                      rw [hx.out] at hmc ⊢
                      clear hxw
                      by_cases hlc : c ≤ 128
                      · have c3 : x < 128 := by have := hx.out; omega
                        have kX0 := Blk.new wc 41 #[.int .i64 (a : Int), .int .i64 N, .int .i64 (b : Int), .int .i64 x]
                        have kO0 := kC.alloc (.cells #[.int .i64 (a : Int), .int .i64 N, .int .i64 (b : Int), .int .i64 x] 41)
                        have hB0 := hBC.alloc hBC.size (.cells #[.int .i64 (a : Int), .int .i64 N, .int .i64 (b : Int), .int .i64 x] 41)
                        cases hsh : shapedF ⟨(a : Int), N, (b : Int), x⟩
                        · have HS : Hid (∀ w', Calls Tryz.prog 56 #[.agg #[.int .i64 (a : Int), .int .i64 N, .int .i64 (b : Int), .int .i64 x]] w' (Ret (.bool false) w')) := Lib.hid (fun w' => by have := shaped_any25 ⟨(a : Int), N, (b : Int), x⟩ w'; rw [hsh] at this; exact this)
                          have hmc2 : Hid (∀ r : Int, -1 ≤ r → r < ((c + 1 : Nat) : Int) - 1 → NoF L N a b r) := Lib.hid (fun r h1 h2 => by
                            rcases Int.lt_or_le r x with h | h
                            · exact hmc.out r h1 h
                            · obtain rfl : r = x := by have := hx.out; omega
                              intro hh; rw [hsh] at hh; cases hh)
                          clear hsh hmc
                          go_wp2_with fail
                          refine (HS.out _).mono ?_
                          rintro e w3 ⟨rfl, hB3⟩
                          have kO3 := kO0.below' hB3
                          have b3 := hB0.trans (hB3.mono hB0.size)
                          go_wp2_with fail
                          go_roundw
                          case rel => exact ⟨c + 1, by omega, by rw [show ((c + 1 : Nat) : Int) - 1 = x + 1 by have := hx.out; omega], hmc2, kO3, b3⟩
                          case measure => simp only [intOf]; have := hx.out; omega
                        · have HS : Hid (∀ w', Calls Tryz.prog 56 #[.agg #[.int .i64 (a : Int), .int .i64 N, .int .i64 (b : Int), .int .i64 x]] w' (Ret (.bool true) w')) := Lib.hid (fun w' => by have := shaped_any25 ⟨(a : Int), N, (b : Int), x⟩ w'; rw [hsh] at this; exact this)
                          have hok : FOk ⟨(a : Int), N, (b : Int), x⟩ := ⟨hsh, hN0, hN1, by simp only; omega, by simp only; omega⟩
                          have HOK := Lib.hid hok
                          obtain ⟨Y, hY⟩ : ∃ Y, Hid (textF ⟨(a : Int), N, (b : Int), x⟩ = Y) := ⟨_, Lib.hid rfl⟩
                          have HT : Hid (∀ w', Calls Tryz.prog 57 #[.agg #[.int .i64 (a : Int), .int .i64 N, .int .i64 (b : Int), .int .i64 x]] w' (Ret (.string (bN Y)) w')) := Lib.hid (fun w' => by have := text25_any (a : Int) N (b : Int) x hok w'; rw [hY.out] at this; exact this)
                          have tY : (bN Y).toList = Y := Lib.toList_data _
                          by_cases hyl : Y = L
                          · have v3 : (Y == L) = true := by rw [hyl]; exact beq_self_eq_true _
                            have HYL := Lib.hid hyl
                            clear hyl hmc hsh hok
                            go_wp2_with fail
                            refine (HS.out _).mono ?_
                            rintro e w3 ⟨rfl, hB3⟩
                            have kX3 := kX0.below' hB3
                            have kO3 := kO0.below' hB3
                            have b3 := hB0.trans (hB3.mono hB0.size)
                            have x0 := kX3.cell 0 _ rfl
                            have x1 := kX3.cell 1 _ rfl
                            have x2 := kX3.cell 2 _ rfl
                            have x3 := kX3.cell 3 _ rfl
                            go_wp2_with fail
                            refine (HT.out _).mono ?_
                            rintro e w4 ⟨rfl, hB4⟩
                            have kX4 := kX3.below' hB4
                            have kO4 := kO3.below' hB4
                            have b4 := b3.trans (hB4.mono b3.size)
                            clear x0 x1 x2 x3
                            have x0 := kX4.cell 0 _ rfl
                            have x1 := kX4.cell 1 _ rfl
                            have x2 := kX4.cell 2 _ rfl
                            have x3 := kX4.cell 3 _ rfl
                            have f0 := kO4.frozen 0
                            have f1 := kO4.frozen 1
                            have f2 := kO4.frozen 2
                            have f3 := kO4.frozen 3
                            have q0 := kO4.cell 0 _ rfl
                            have q1 := kO4.cell 1 _ rfl
                            have q2 := kO4.cell 2 _ rfl
                            have q3 := kO4.cell 3 _ rfl
                            have l0 := kO4.lt
                            go_wp2_with fail
                            refine flt_ret2 rfl rfl ((((kO4.set_ 0 _).set_ 1 _).set_ 2 _).set_ 3 _) rfl ?_
                            exact ⟨(⟨(a : Int), N, (b : Int), x⟩, 0), rfl, .inl ⟨_, HOK.out, hY.out.trans HYL.out, rfl⟩, ((((b4.setCell (p := ⟨w.heap.size, 0, none⟩) (Nat.le_refl _) _).setCell (p := ⟨w.heap.size, 1, none⟩) (Nat.le_refl _) _).setCell (p := ⟨w.heap.size, 2, none⟩) (Nat.le_refl _) _).setCell (p := ⟨w.heap.size, 3, none⟩) (Nat.le_refl _) _)⟩
                          · have v3 : (Y == L) = false := beq_eq_false_iff_ne.2 hyl
                            have hmc2 : Hid (∀ r : Int, -1 ≤ r → r < ((c + 1 : Nat) : Int) - 1 → NoF L N a b r) := Lib.hid (fun r h1 h2 => by
                              rcases Int.lt_or_le r x with h | h
                              · exact hmc.out r h1 h
                              · obtain rfl : r = x := by have := hx.out; omega
                                intro _; rw [hY.out]; exact hyl)
                            clear hyl hmc hsh hok
                            go_wp2_with fail
                            refine (HS.out _).mono ?_
                            rintro e w3 ⟨rfl, hB3⟩
                            have kX3 := kX0.below' hB3
                            have kO3 := kO0.below' hB3
                            have b3 := hB0.trans (hB3.mono hB0.size)
                            have x0 := kX3.cell 0 _ rfl
                            have x1 := kX3.cell 1 _ rfl
                            have x2 := kX3.cell 2 _ rfl
                            have x3 := kX3.cell 3 _ rfl
                            go_wp2_with fail
                            refine (HT.out _).mono ?_
                            rintro e w4 ⟨rfl, hB4⟩
                            have kO4 := kO3.below' hB4
                            have b4 := b3.trans (hB4.mono b3.size)
                            clear x0 x1 x2 x3
                            go_wp2_with fail
                            go_roundw
                            case rel => exact ⟨c + 1, by omega, by rw [show ((c + 1 : Nat) : Int) - 1 = x + 1 by have := hx.out; omega], hmc2, kO4, b4⟩
                            case measure => simp only [intOf]; have := hx.out; omega
                      · have c3 : ¬ x < 128 := by have := hx.out; omega
                        have hmb2 : Hid (∀ q r : Int, 0 ≤ q → q < ((b + 1 : Nat) : Int) → -1 ≤ r → r < 128 → NoF L N a q r) := Lib.hid (fun q r h1 h2 h3 h4 => by
                          rcases Int.lt_or_le q b with h | h
                          · exact hmb.out q r h1 h h3 h4
                          · obtain rfl : q = b := by omega
                            exact hmc.out r h3 (by omega))
                        clear hmc hmb
                        go_wp2_with fail
                        go_roundw
                        case rel => exact ⟨b + 1, by omega, by go_num, hmb2, kC, hBC⟩
                        case measure => simp [intOf]; omega
                  · obtain rfl : b = 17 := by omega
                    have hma2 : Hid (∀ p q r : Int, 1 ≤ p → p < ((a + 1 : Nat) : Int) → 0 ≤ q → q ≤ 16 → -1 ≤ r → r < 128 → NoF L N p q r) := Lib.hid (fun p q r h0 h1 h2 h3 h4 h5 => by
                      rcases Int.lt_or_le p a with h | h
                      · exact hma.out p q r h0 h h2 h3 h4 h5
                      · obtain rfl : p = a := by omega
                        exact hmb.out q r h2 (by omega) h4 h5)
                    clear hma hmb
                    go_wp2_with fail
                    go_roundw
                    case rel => exact ⟨a + 1, by omega, by omega, by go_num, hma2, kB, hBB2⟩
                    case measure => simp [intOf]; omega
              · obtain rfl : a = 7 := by omega
                have hno : Hid (∀ f, FOk f → textF f ≠ L) := Lib.hid (fun f hf e => by
                  have e1 : f.st = N := by
                    have h1 := numF_text (f := f)
                    rw [e] at h1
                    have h2 := hNE.out
                    rw [h1, intW_itoa hf.s0 hf.s1 (by have := hf.s0; omega) (by have := hf.s1; omega)] at h2
                    exact congrArg Prod.fst h2
                  have hk := hf.k
                  have hw := withs_bd hf.w
                  have hl0 := hf.l0
                  have hl1 := hf.l1
                  have hsh := hf.sh
                  obtain ⟨fk, fs, fl, fw⟩ := f
                  simp only at e1 hk hw hl0 hl1
                  subst e1
                  exact hma.out fk fl fw hk.1 (by omega) hl0 hl1 hw.1 hw.2 hsh e)
                clear hma
                have f0 := kA.frozen 0
                have f1 := kA.frozen 1
                have f2 := kA.frozen 2
                have f3 := kA.frozen 3
                have q0 := kA.cell 0 _ rfl
                have q1 := kA.cell 1 _ rfl
                have q2 := kA.cell 2 _ rfl
                have q3 := kA.cell 3 _ rfl
                have l0 := kA.lt
                go_wp2_with fail
                refine flt_ret2 rfl rfl ((((kA.set_ 0 _).set_ 1 _).set_ 2 _).set_ 3 _) rfl ?_
                exact ⟨(⟨0, 0, 0, 0⟩, 6), rfl, .inr ⟨rfl, hno.out⟩, ((((hBA.setCell (p := ⟨w.heap.size, 0, none⟩) (Nat.le_refl _) _).setCell (p := ⟨w.heap.size, 1, none⟩) (Nat.le_refl _) _).setCell (p := ⟨w.heap.size, 2, none⟩) (Nat.le_refl _) _).setCell (p := ⟨w.heap.size, 3, none⟩) (Nat.le_refl _) _)⟩
          · have b0 : (E != 0) = true := by rw [bne_iff_ne]; exact hE0
            have hno : Hid (∀ f, FOk f → textF f ≠ L) := Lib.hid (fun f hf e => by
              have h1 := numF_text (f := f)
              rw [e] at h1
              have h2 := hNE.out
              rw [h1, intW_itoa hf.s0 hf.s1 (by have := hf.s0; omega) (by have := hf.s1; omega)] at h2
              exact hE0 (congrArg Prod.snd h2).symm)
            clear hE0
            have f0 := kR1.frozen 0
            have f1 := kR1.frozen 1
            have f2 := kR1.frozen 2
            have f3 := kR1.frozen 3
            have q0 := kR1.cell 0 _ rfl
            have q1 := kR1.cell 1 _ rfl
            have q2 := kR1.cell 2 _ rfl
            have q3 := kR1.cell 3 _ rfl
            have l0 := kR1.lt
            go_wp2_with fail
            refine flt_ret2 rfl rfl ((((kR1.set_ 0 _).set_ 1 _).set_ 2 _).set_ 3 _) rfl ?_
            exact ⟨(⟨0, 0, 0, 0⟩, 6), rfl, .inr ⟨rfl, hno.out⟩, ((((b1.setCell (p := ⟨w.heap.size, 0, none⟩) (Nat.le_refl _) _).setCell (p := ⟨w.heap.size, 1, none⟩) (Nat.le_refl _) _).setCell (p := ⟨w.heap.size, 2, none⟩) (Nat.le_refl _) _).setCell (p := ⟨w.heap.size, 3, none⟩) (Nat.le_refl _) _)⟩
theorem rparse25_any (L : List UInt8) (w : World) (hl : L.length ≤ 1000000) : Calls Tryz.prog 21 #[.string (bN L)] w (Ret (.tuple #[.agg (parseF L).1.enc, .int .i64 (parseF L).2]) w) := by
  refine (rparse25_spec L w hl).mono ?_
  rintro e w' ⟨r, rfl, hs, hB⟩
  rw [pspec hs]
  exact ⟨rfl, hB⟩
end Go.Proofs.YtmfklcnocekdlaaGreatDoor

