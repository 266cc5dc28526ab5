/- torchonref25: letters, letter, shaped, work, fits. -/
import Derived.Test.YtblifdchofihoaaSeen2
import Derived.BigQuiet
set_option linter.unusedSimpArgs false
set_option linter.unusedVariables false
namespace Go.Proofs.Ytblifdchofihoaa
open Go Go.RowKit Tor

set_option maxRecDepth 100000 in
theorem letters_same (w : World) : Calls Try.prog 102 #[] w fun e w' => e = .returned (.string ⟨#[67, 76, 80, 82, 84, 99, 108, 114, 116]⟩) ∧ w' = w := by
  go_enter Try.func102, Try.ntmps102
  go_wp2_with fail
  go_ret
  exact ⟨rfl, rfl⟩
set_option maxRecDepth 100000 in
theorem letters_any (w : World) : Calls Try.prog 102 #[] w (Ret (.string ⟨#[67, 76, 80, 82, 84, 99, 108, 114, 116]⟩) w) := by
  go_enter Try.func102, Try.ntmps102
  go_wp2_with fail
  go_ret
  exact Ret.val rfl (Below.refl _ _)

set_option maxRecDepth 100000 in
set_option maxHeartbeats 2000000 in
theorem letter_any (n : Int) (w : World) : Calls Try.prog 86 #[.int .i64 n] w (Ret (.bool (decide (n ∈ faultLetters))) w) := by
  obtain ⟨wo, rfl⟩ : ∃ wo : World, wo = w := ⟨_, rfl⟩
  go_enter Try.func86, Try.ntmps86
  go_wp2_with fail
  go_loopw [3] (fun i wr => ∃ k : Nat, k ≤ 9 ∧ i = .int .i64 k ∧ Hid (n ∉ faultLetters.take k) ∧ Below wo.heap.size wo wr) (fun i _ => 9 - (intOf i).toNat)
  case atStart => exact ⟨0, by omega, rfl, Lib.hid (by simp), Below.refl _ _⟩
  case round =>
    obtain ⟨k, hk, rfl, hno, hB⟩ := hrel
    rcases (show k = 0 ∨ k = 1 ∨ k = 2 ∨ k = 3 ∨ k = 4 ∨ k = 5 ∨ k = 6 ∨ k = 7 ∨ k = 8 ∨ k = 9 by omega) with rfl | rfl | rfl | rfl | rfl | rfl | rfl | rfl | rfl | rfl
    · by_cases hc : n = 67
      · have hn : Hid (decide (n ∈ faultLetters) = true) := Lib.hid (by rw [hc]; decide)
        rw [hn.out]
        have x1 : (n == 67) = true := by rw [hc]; rfl
        have b1 : wrap64 (((⟨#[67, 76, 80, 82, 84, 99, 108, 114, 116]⟩ : ByteArray)[0]'(by decide)).toNat : Int) = 67 := by decide +kernel
        clear hc
        go_wp2_with (first | (go_at_call 102; refine (letters_same _).mono ?_; rintro e w1 ⟨rfl, rfl⟩) | fail)
        go_ret
        exact Ret.val rfl hB
      · have x1 : (n == 67) = false := by simpa using hc
        have b1 : wrap64 (((⟨#[67, 76, 80, 82, 84, 99, 108, 114, 116]⟩ : ByteArray)[0]'(by decide)).toNat : Int) = 67 := by decide +kernel
        have hno2 : Hid (n ∉ faultLetters.take 1) := Lib.hid (by
          have h := hno.out
          clear b1
          simp [faultLetters] at h ⊢
          omega)
        clear hc
        go_wp2_with (first | (go_at_call 102; refine (letters_same _).mono ?_; rintro e w1 ⟨rfl, rfl⟩) | fail)
        go_roundw
        case rel => exact ⟨1, by decide, by go_num, hno2, hB⟩
        case measure => simp [intOf]
    · by_cases hc : n = 76
      · have hn : Hid (decide (n ∈ faultLetters) = true) := Lib.hid (by rw [hc]; decide)
        rw [hn.out]
        have x1 : (n == 76) = true := by rw [hc]; rfl
        have b1 : wrap64 (((⟨#[67, 76, 80, 82, 84, 99, 108, 114, 116]⟩ : ByteArray)[1]'(by decide)).toNat : Int) = 76 := by decide +kernel
        clear hc
        go_wp2_with (first | (go_at_call 102; refine (letters_same _).mono ?_; rintro e w1 ⟨rfl, rfl⟩) | fail)
        go_ret
        exact Ret.val rfl hB
      · have x1 : (n == 76) = false := by simpa using hc
        have b1 : wrap64 (((⟨#[67, 76, 80, 82, 84, 99, 108, 114, 116]⟩ : ByteArray)[1]'(by decide)).toNat : Int) = 76 := by decide +kernel
        have hno2 : Hid (n ∉ faultLetters.take 2) := Lib.hid (by
          have h := hno.out
          clear b1
          simp [faultLetters] at h ⊢
          omega)
        clear hc
        go_wp2_with (first | (go_at_call 102; refine (letters_same _).mono ?_; rintro e w1 ⟨rfl, rfl⟩) | fail)
        go_roundw
        case rel => exact ⟨2, by decide, by go_num, hno2, hB⟩
        case measure => simp [intOf]
    · by_cases hc : n = 80
      · have hn : Hid (decide (n ∈ faultLetters) = true) := Lib.hid (by rw [hc]; decide)
        rw [hn.out]
        have x1 : (n == 80) = true := by rw [hc]; rfl
        have b1 : wrap64 (((⟨#[67, 76, 80, 82, 84, 99, 108, 114, 116]⟩ : ByteArray)[2]'(by decide)).toNat : Int) = 80 := by decide +kernel
        clear hc
        go_wp2_with (first | (go_at_call 102; refine (letters_same _).mono ?_; rintro e w1 ⟨rfl, rfl⟩) | fail)
        go_ret
        exact Ret.val rfl hB
      · have x1 : (n == 80) = false := by simpa using hc
        have b1 : wrap64 (((⟨#[67, 76, 80, 82, 84, 99, 108, 114, 116]⟩ : ByteArray)[2]'(by decide)).toNat : Int) = 80 := by decide +kernel
        have hno2 : Hid (n ∉ faultLetters.take 3) := Lib.hid (by
          have h := hno.out
          clear b1
          simp [faultLetters] at h ⊢
          omega)
        clear hc
        go_wp2_with (first | (go_at_call 102; refine (letters_same _).mono ?_; rintro e w1 ⟨rfl, rfl⟩) | fail)
        go_roundw
        case rel => exact ⟨3, by decide, by go_num, hno2, hB⟩
        case measure => simp [intOf]
    · by_cases hc : n = 82
      · have hn : Hid (decide (n ∈ faultLetters) = true) := Lib.hid (by rw [hc]; decide)
        rw [hn.out]
        have x1 : (n == 82) = true := by rw [hc]; rfl
        have b1 : wrap64 (((⟨#[67, 76, 80, 82, 84, 99, 108, 114, 116]⟩ : ByteArray)[3]'(by decide)).toNat : Int) = 82 := by decide +kernel
        clear hc
        go_wp2_with (first | (go_at_call 102; refine (letters_same _).mono ?_; rintro e w1 ⟨rfl, rfl⟩) | fail)
        go_ret
        exact Ret.val rfl hB
      · have x1 : (n == 82) = false := by simpa using hc
        have b1 : wrap64 (((⟨#[67, 76, 80, 82, 84, 99, 108, 114, 116]⟩ : ByteArray)[3]'(by decide)).toNat : Int) = 82 := by decide +kernel
        have hno2 : Hid (n ∉ faultLetters.take 4) := Lib.hid (by
          have h := hno.out
          clear b1
          simp [faultLetters] at h ⊢
          omega)
        clear hc
        go_wp2_with (first | (go_at_call 102; refine (letters_same _).mono ?_; rintro e w1 ⟨rfl, rfl⟩) | fail)
        go_roundw
        case rel => exact ⟨4, by decide, by go_num, hno2, hB⟩
        case measure => simp [intOf]
    · by_cases hc : n = 84
      · have hn : Hid (decide (n ∈ faultLetters) = true) := Lib.hid (by rw [hc]; decide)
        rw [hn.out]
        have x1 : (n == 84) = true := by rw [hc]; rfl
        have b1 : wrap64 (((⟨#[67, 76, 80, 82, 84, 99, 108, 114, 116]⟩ : ByteArray)[4]'(by decide)).toNat : Int) = 84 := by decide +kernel
        clear hc
        go_wp2_with (first | (go_at_call 102; refine (letters_same _).mono ?_; rintro e w1 ⟨rfl, rfl⟩) | fail)
        go_ret
        exact Ret.val rfl hB
      · have x1 : (n == 84) = false := by simpa using hc
        have b1 : wrap64 (((⟨#[67, 76, 80, 82, 84, 99, 108, 114, 116]⟩ : ByteArray)[4]'(by decide)).toNat : Int) = 84 := by decide +kernel
        have hno2 : Hid (n ∉ faultLetters.take 5) := Lib.hid (by
          have h := hno.out
          clear b1
          simp [faultLetters] at h ⊢
          omega)
        clear hc
        go_wp2_with (first | (go_at_call 102; refine (letters_same _).mono ?_; rintro e w1 ⟨rfl, rfl⟩) | fail)
        go_roundw
        case rel => exact ⟨5, by decide, by go_num, hno2, hB⟩
        case measure => simp [intOf]
    · by_cases hc : n = 99
      · have hn : Hid (decide (n ∈ faultLetters) = true) := Lib.hid (by rw [hc]; decide)
        rw [hn.out]
        have x1 : (n == 99) = true := by rw [hc]; rfl
        have b1 : wrap64 (((⟨#[67, 76, 80, 82, 84, 99, 108, 114, 116]⟩ : ByteArray)[5]'(by decide)).toNat : Int) = 99 := by decide +kernel
        clear hc
        go_wp2_with (first | (go_at_call 102; refine (letters_same _).mono ?_; rintro e w1 ⟨rfl, rfl⟩) | fail)
        go_ret
        exact Ret.val rfl hB
      · have x1 : (n == 99) = false := by simpa using hc
        have b1 : wrap64 (((⟨#[67, 76, 80, 82, 84, 99, 108, 114, 116]⟩ : ByteArray)[5]'(by decide)).toNat : Int) = 99 := by decide +kernel
        have hno2 : Hid (n ∉ faultLetters.take 6) := Lib.hid (by
          have h := hno.out
          clear b1
          simp [faultLetters] at h ⊢
          omega)
        clear hc
        go_wp2_with (first | (go_at_call 102; refine (letters_same _).mono ?_; rintro e w1 ⟨rfl, rfl⟩) | fail)
        go_roundw
        case rel => exact ⟨6, by decide, by go_num, hno2, hB⟩
        case measure => simp [intOf]
    · by_cases hc : n = 108
      · have hn : Hid (decide (n ∈ faultLetters) = true) := Lib.hid (by rw [hc]; decide)
        rw [hn.out]
        have x1 : (n == 108) = true := by rw [hc]; rfl
        have b1 : wrap64 (((⟨#[67, 76, 80, 82, 84, 99, 108, 114, 116]⟩ : ByteArray)[6]'(by decide)).toNat : Int) = 108 := by decide +kernel
        clear hc
        go_wp2_with (first | (go_at_call 102; refine (letters_same _).mono ?_; rintro e w1 ⟨rfl, rfl⟩) | fail)
        go_ret
        exact Ret.val rfl hB
      · have x1 : (n == 108) = false := by simpa using hc
        have b1 : wrap64 (((⟨#[67, 76, 80, 82, 84, 99, 108, 114, 116]⟩ : ByteArray)[6]'(by decide)).toNat : Int) = 108 := by decide +kernel
        have hno2 : Hid (n ∉ faultLetters.take 7) := Lib.hid (by
          have h := hno.out
          clear b1
          simp [faultLetters] at h ⊢
          omega)
        clear hc
        go_wp2_with (first | (go_at_call 102; refine (letters_same _).mono ?_; rintro e w1 ⟨rfl, rfl⟩) | fail)
        go_roundw
        case rel => exact ⟨7, by decide, by go_num, hno2, hB⟩
        case measure => simp [intOf]
    · by_cases hc : n = 114
      · have hn : Hid (decide (n ∈ faultLetters) = true) := Lib.hid (by rw [hc]; decide)
        rw [hn.out]
        have x1 : (n == 114) = true := by rw [hc]; rfl
        have b1 : wrap64 (((⟨#[67, 76, 80, 82, 84, 99, 108, 114, 116]⟩ : ByteArray)[7]'(by decide)).toNat : Int) = 114 := by decide +kernel
        clear hc
        go_wp2_with (first | (go_at_call 102; refine (letters_same _).mono ?_; rintro e w1 ⟨rfl, rfl⟩) | fail)
        go_ret
        exact Ret.val rfl hB
      · have x1 : (n == 114) = false := by simpa using hc
        have b1 : wrap64 (((⟨#[67, 76, 80, 82, 84, 99, 108, 114, 116]⟩ : ByteArray)[7]'(by decide)).toNat : Int) = 114 := by decide +kernel
        have hno2 : Hid (n ∉ faultLetters.take 8) := Lib.hid (by
          have h := hno.out
          clear b1
          simp [faultLetters] at h ⊢
          omega)
        clear hc
        go_wp2_with (first | (go_at_call 102; refine (letters_same _).mono ?_; rintro e w1 ⟨rfl, rfl⟩) | fail)
        go_roundw
        case rel => exact ⟨8, by decide, by go_num, hno2, hB⟩
        case measure => simp [intOf]
    · by_cases hc : n = 116
      · have hn : Hid (decide (n ∈ faultLetters) = true) := Lib.hid (by rw [hc]; decide)
        rw [hn.out]
        have x1 : (n == 116) = true := by rw [hc]; rfl
        have b1 : wrap64 (((⟨#[67, 76, 80, 82, 84, 99, 108, 114, 116]⟩ : ByteArray)[8]'(by decide)).toNat : Int) = 116 := by decide +kernel
        clear hc
        go_wp2_with (first | (go_at_call 102; refine (letters_same _).mono ?_; rintro e w1 ⟨rfl, rfl⟩) | fail)
        go_ret
        exact Ret.val rfl hB
      · have x1 : (n == 116) = false := by simpa using hc
        have b1 : wrap64 (((⟨#[67, 76, 80, 82, 84, 99, 108, 114, 116]⟩ : ByteArray)[8]'(by decide)).toNat : Int) = 116 := by decide +kernel
        have hno2 : Hid (n ∉ faultLetters.take 9) := Lib.hid (by
          have h := hno.out
          clear b1
          simp [faultLetters] at h ⊢
          omega)
        clear hc
        go_wp2_with (first | (go_at_call 102; refine (letters_same _).mono ?_; rintro e w1 ⟨rfl, rfl⟩) | fail)
        go_roundw
        case rel => exact ⟨9, by decide, by go_num, hno2, hB⟩
        case measure => simp [intOf]
    · have hn : Hid (decide (n ∈ faultLetters) = false) := Lib.hid (decide_eq_false hno.out)
      rw [hn.out]
      go_wp2_with (first | (go_at_call 102; refine (letters_same _).mono ?_; rintro e w1 ⟨rfl, rfl⟩) | fail)
      go_ret
      exact Ret.val (by rw [hn.out]; rfl) hB

set_option maxRecDepth 100000 in
set_option maxHeartbeats 4000000 in
theorem shaped_any25 (f : Flt) (w : World) : Calls Try.prog 47 #[.agg #[.int .i64 f.k, .int .i64 f.st, .int .i64 f.lt, .int .i64 f.wi]] w (Ret (.bool (shapedF f)) w) := by
  obtain ⟨k, st, lt, wi⟩ := f
  simp only
  have hBB : Below w.heap.size w (w.alloc (.cells #[.int .i64 k, .int .i64 st, .int .i64 lt, .int .i64 wi] 24)) := by (repeat' first | exact Below.refl _ _ | apply Below.drew | (refine Below.setCells ?_ _ _ ?_) | (refine Below.setCell ?_ ?_ _) | (refine Below.alloc ?_ ?_ _) | (simp; done) | (simp; omega))
  by_cases hin : 1 ≤ k ∧ k ≤ 6
  · rcases (show k = 1 ∨ k = 2 ∨ k = 3 ∨ k = 4 ∨ k = 5 ∨ k = 6 by omega) with rfl | rfl | rfl | rfl | rfl | rfl
    · go_enter Try.func47, Try.ntmps47
      go_wp2_with fail
      go_ret
      exact Ret.val (by simp [shapedF]; rfl) hBB
    · go_enter Try.func47, Try.ntmps47
      go_wp2_with (first | (go_at_call 86; refine (letter_any wi _).mono ?_; rintro e w1 ⟨rfl, hB1⟩) | fail)
      go_ret
      exact Ret.val (by simp [shapedF]) (hBB.trans (hB1.mono hBB.size))
    · go_enter Try.func47, Try.ntmps47
      go_wp2_with fail
      go_ret
      exact Ret.val (by simp [shapedF]; rfl) hBB
    · rcases (show (lt = 0 ∧ wi = 0) ∨ (lt = 0 ∧ ¬ wi = 0) ∨ (¬ lt = 0 ∧ wi = 0) ∨ (¬ lt = 0 ∧ ¬ wi = 0) by omega) with ⟨h1, h2⟩ | ⟨h1, h2⟩ | ⟨h1, h2⟩ | ⟨h1, h2⟩
      · have x1 : (lt == 0) = true := by simpa using h1
        have x2 : (wi == 0) = true := by simpa using h2
        have hs : Hid (shapedF ⟨4, st, lt, wi⟩ = true) := by rw [Hid]; unfold shapedF; simp [h1, h2]
        rw [hs.out]
        clear h1 h2
        go_enter Try.func47, Try.ntmps47
        go_wp2_with fail
        go_ret
        exact Ret.val rfl hBB
      · have x1 : (lt == 0) = true := by simpa using h1
        have x2 : (wi == 0) = false := by simpa using h2
        have hs : Hid (shapedF ⟨4, st, lt, wi⟩ = false) := by rw [Hid]; unfold shapedF; simp [h1, h2]
        rw [hs.out]
        clear h1 h2
        go_enter Try.func47, Try.ntmps47
        go_wp2_with fail
        go_ret
        exact Ret.val rfl hBB
      · have x1 : (lt == 0) = false := by simpa using h1
        have x2 : (wi == 0) = true := by simpa using h2
        have hs : Hid (shapedF ⟨4, st, lt, wi⟩ = false) := by rw [Hid]; unfold shapedF; simp [h1, h2]
        rw [hs.out]
        clear h1 h2
        go_enter Try.func47, Try.ntmps47
        go_wp2_with fail
        go_ret
        exact Ret.val rfl hBB
      · have x1 : (lt == 0) = false := by simpa using h1
        have x2 : (wi == 0) = false := by simpa using h2
        have hs : Hid (shapedF ⟨4, st, lt, wi⟩ = false) := by rw [Hid]; unfold shapedF; simp [h1, h2]
        rw [hs.out]
        clear h1 h2
        go_enter Try.func47, Try.ntmps47
        go_wp2_with fail
        go_ret
        exact Ret.val rfl hBB
    · rcases (show (lt = 0 ∧ wi = 1) ∨ (lt = 0 ∧ wi = -1) ∨ (lt = 0 ∧ ¬ wi = 1 ∧ ¬ wi = -1) ∨ ¬ lt = 0 by omega) with ⟨h1, h2⟩ | ⟨h1, h2⟩ | ⟨h1, h2, h3⟩ | h1
      · skip
        have x1 : (lt == 0) = true := by simpa using h1
        have x2 : (wi == 1) = true := by simpa using h2
        have hs : Hid (shapedF ⟨5, st, lt, wi⟩ = true) := by rw [Hid]; unfold shapedF; simp [h1, h2]
        rw [hs.out]
        clear h1 h2
        go_enter Try.func47, Try.ntmps47
        go_wp2_with fail
        go_ret
        exact Ret.val rfl hBB
      · skip
        have x1 : (lt == 0) = true := by simpa using h1
        have x2 : (wi == 1) = false := by simp; omega
        have x3 : (wi == -1) = true := by simpa using h2
        have hs : Hid (shapedF ⟨5, st, lt, wi⟩ = true) := by rw [Hid]; unfold shapedF; simp [h1, h2]
        rw [hs.out]
        clear h1 h2
        go_enter Try.func47, Try.ntmps47
        go_wp2_with fail
        go_ret
        exact Ret.val rfl hBB
      · skip
        have x1 : (lt == 0) = true := by simpa using h1
        have x2 : (wi == 1) = false := by simpa using h2
        have x3 : (wi == -1) = false := by simpa using h3
        have hs : Hid (shapedF ⟨5, st, lt, wi⟩ = false) := by rw [Hid]; unfold shapedF; simp [h1, h2, h3]
        rw [hs.out]
        clear h1 h2 h3
        go_enter Try.func47, Try.ntmps47
        go_wp2_with fail
        go_ret
        exact Ret.val rfl hBB
      · skip
        have x1 : (lt == 0) = false := by simpa using h1
        have hs : Hid (shapedF ⟨5, st, lt, wi⟩ = false) := by rw [Hid]; unfold shapedF; simp [h1]
        rw [hs.out]
        clear h1
        go_enter Try.func47, Try.ntmps47
        go_wp2_with fail
        go_ret
        exact Ret.val rfl hBB
    · rcases (show (lt = 0 ∧ wi = 0) ∨ (lt = 0 ∧ ¬ wi = 0) ∨ (¬ lt = 0 ∧ wi = 0) ∨ (¬ lt = 0 ∧ ¬ wi = 0) by omega) with ⟨h1, h2⟩ | ⟨h1, h2⟩ | ⟨h1, h2⟩ | ⟨h1, h2⟩
      · have x1 : (lt == 0) = true := by simpa using h1
        have x2 : (wi == 0) = true := by simpa using h2
        have hs : Hid (shapedF ⟨6, st, lt, wi⟩ = true) := by rw [Hid]; unfold shapedF; simp [h1, h2]
        rw [hs.out]
        clear h1 h2
        go_enter Try.func47, Try.ntmps47
        go_wp2_with fail
        go_ret
        exact Ret.val rfl hBB
      · have x1 : (lt == 0) = true := by simpa using h1
        have x2 : (wi == 0) = false := by simpa using h2
        have hs : Hid (shapedF ⟨6, st, lt, wi⟩ = false) := by rw [Hid]; unfold shapedF; simp [h1, h2]
        rw [hs.out]
        clear h1 h2
        go_enter Try.func47, Try.ntmps47
        go_wp2_with fail
        go_ret
        exact Ret.val rfl hBB
      · have x1 : (lt == 0) = false := by simpa using h1
        have x2 : (wi == 0) = true := by simpa using h2
        have hs : Hid (shapedF ⟨6, st, lt, wi⟩ = false) := by rw [Hid]; unfold shapedF; simp [h1, h2]
        rw [hs.out]
        clear h1 h2
        go_enter Try.func47, Try.ntmps47
        go_wp2_with fail
        go_ret
        exact Ret.val rfl hBB
      · have x1 : (lt == 0) = false := by simpa using h1
        have x2 : (wi == 0) = false := by simpa using h2
        have hs : Hid (shapedF ⟨6, st, lt, wi⟩ = false) := by rw [Hid]; unfold shapedF; simp [h1, h2]
        rw [hs.out]
        clear h1 h2
        go_enter Try.func47, Try.ntmps47
        go_wp2_with fail
        go_ret
        exact Ret.val rfl hBB
  · have hs := Lib.hid (shapedF_out (f := ⟨k, st, lt, wi⟩) hin)
    rw [hs.out]
    have x1 : (k == 1) = false := by simp; omega
    have x2 : (k == 2) = false := by simp; omega
    have x3 : (k == 3) = false := by simp; omega
    have x4 : (k == 4) = false := by simp; omega
    have x5 : (k == 5) = false := by simp; omega
    have x6 : (k == 6) = false := by simp; omega
    clear hin
    go_enter Try.func47, Try.ntmps47
    go_wp2_with fail
    go_ret
    exact Ret.val rfl hBB

set_option maxRecDepth 100000 in
set_option maxHeartbeats 2000000 in
theorem work_any25 (A : Option Addr) (l : List Tri) (c : Nat) (i : Int) (w : World) (H : Nat) (hr : RdT w H A l) (hl : l.length ≤ 100000) :
    Calls Try.prog 87 #[.slice A l.length c, .int .i64 i] w (Ret (.bool (workF l i)) w) := by
  by_cases c1 : i < 0
  · have hv : Hid (workF l i = false) := by rw [Hid]; unfold workF; simp; omega
    rw [hv.out]
    have d1 : ¬ 0 ≤ i := by omega
    go_enter Try.func87, Try.ntmps87
    go_wp2_with fail
    go_ret
    exact Ret.val rfl (Below.refl _ _)
  by_cases c2 : (l.length : Int) ≤ i
  · have hv : Hid (workF l i = false) := by rw [Hid]; unfold workF; simp; omega
    rw [hv.out]
    have d1 : 0 ≤ i := by omega
    have d2 : ¬ i < (l.length : Int) := by omega
    go_enter Try.func87, Try.ntmps87
    go_wp2_with fail
    go_ret
    exact Ret.val rfl (Below.refl _ _)
  obtain ⟨n, rfl⟩ : ∃ n : Nat, i = n := ⟨i.toNat, by omega⟩
  have hn : n < l.length := by omega
  obtain ⟨b, o, rfl, hb0, g0, g1, g2⟩ := hr.tri hn
  have hwk : Hid (workF l (n : Int) = decide (l[n].a ≠ 1)) := Lib.hid (workF_iff hn)
  rw [hwk.out]
  have d2 : (n : Int) < (l.length : Int) := by omega
  obtain ⟨B, hB⟩ : ∃ B, Hid (decide (l[n].a ≠ 1) = B) := ⟨_, Lib.hid rfl⟩
  have b8 : (l[n].a != 1) = B := by rw [← hB.out]; by_cases h : l[n].a = 1 <;> simp [h]
  rw [hB.out]
  clear c1 c2
  go_enter Try.func87, Try.ntmps87
  go_wp2_with fail
  go_ret
  exact Ret.val (by simp [b8]) (Below.refl _ _)
end Go.Proofs.Ytblifdchofihoaa
