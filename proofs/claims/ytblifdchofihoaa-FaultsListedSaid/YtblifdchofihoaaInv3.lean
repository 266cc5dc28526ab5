/- torchonref03.Inverse of one letter. -/
import Derived.Test.YtblifdchofihoaaInv1
import Derived.Test.YtblifdchofihoaaTurnP
set_option linter.unusedSimpArgs false
set_option linter.unusedVariables false
namespace Go.Proofs.Ytblifdchofihoaa
open Go Go.RowKit Tor

set_option maxRecDepth 100000 in
set_option maxHeartbeats 2000000 in
theorem changed1_any (c : UInt8) (w : World) (hc : isLetter c = true) :
    Calls Try.prog 105 #[.string ⟨#[c]⟩, .string ⟨#[99, 116, 108, 114, 80, 67, 84, 76, 82]⟩] w (Ret (.tuple #[.string ⟨#[undo c]⟩, .int .i64 0]) w) := by
  have hE : wordE ⟨#[c]⟩ = 0 := by
    unfold wordE
    rw [if_neg (by show ¬ 16 < 1; omega), if_pos (by show ([c] : List UInt8).all isLetter = true; simpa using hc)]
  have HE := Lib.hid hE
  clear hE
  obtain ⟨q, hq9, hq, hqu⟩ := idxU c hc
  have HX : Hid ((⟨#[]⟩ : ByteArray) ++ (⟨#[99, 116, 108, 114, 80, 67, 84, 76, 82]⟩ : ByteArray).extract q (q + 1) = ⟨#[undo c]⟩) := by
    rw [Hid, extract1 _ _ (by show q < 9; exact hq9), hqu]; rfl
  have HQ := Lib.hid hq
  have q0 : (0 : Int) ≤ (q : Int) := by omega
  have q1 : (q : Int) < 9 := by omega
  clear hq hqu
  go_enter Try.func105, Try.ntmps105
  go_wp2_with (first
    | (go_at_call 40; refine (wordRef_any ⟨#[c]⟩ _ (by show 1 ≤ _; decide)).mono ?_; rintro e w1 ⟨rfl, hB1⟩; rw [HE.out])
    | fail)
  go_loopw [7, 8] (fun u i wr => ∃ k : Nat, k ≤ 1 ∧ i = .int .i64 k ∧ u = .string (if k = 0 then ⟨#[]⟩ else ⟨#[undo c]⟩) ∧ Below w.heap.size w wr) (fun _ i _ => 1 - (intOf i).toNat)
  case atStart => exact ⟨0, by omega, rfl, rfl, hB1⟩
  case round =>
    obtain ⟨k, hk, rfl, rfl, hB⟩ := hrel
    rcases (show k = 0 ∨ k = 1 by omega) with rfl | rfl
    · rw [if_pos rfl]
      go_wp2_with (first
        | (go_at_call 43; refine (letterRef c _).mono ?_; rintro e w2 ⟨rfl, hB2⟩; rw [HQ.out])
        | fail)
      exact ⟨⟨1, by omega, rfl, congrArg Value.string HX.out, hB.trans (hB2.mono hB.size)⟩, by simp [intOf]⟩
    · rw [if_neg (by omega)]
      go_wp2_with fail
      go_ret2
      exact Ret.val rfl hB

set_option maxRecDepth 100000 in
set_option maxHeartbeats 2000000 in
theorem inv3_any (c : UInt8) (w : World) (hc : isLetter c = true) :
    Calls Try.prog 94 #[.string ⟨#[c]⟩] w (Ret (.tuple #[.string ⟨#[undo c]⟩, .int .i64 0]) w) := by
  have HX : Hid ((⟨#[undo c]⟩ : ByteArray).extract 0 1 ++ (⟨#[]⟩ : ByteArray) = ⟨#[undo c]⟩) := by
    rw [Hid, extract1 _ 0 (by show 0 < 1; omega)]; rfl
  go_enter Try.func94, Try.ntmps94
  go_wp2_with (first
    | (go_at_call 105; refine (changed1_any c _ hc).mono ?_; rintro e w1 ⟨rfl, hB1⟩)
    | fail)
  go_loopw [6, 7] (fun u i wr => ∃ k : Nat, k ≤ 1 ∧ i = .int .i64 k ∧ u = .string (if k = 0 then ⟨#[]⟩ else ⟨#[undo c]⟩) ∧ Below w.heap.size w wr) (fun _ i _ => 1 - (intOf i).toNat)
  case atStart => exact ⟨0, by omega, rfl, rfl, hB1⟩
  case round =>
    obtain ⟨k, hk, rfl, rfl, hB⟩ := hrel
    rcases (show k = 0 ∨ k = 1 by omega) with rfl | rfl
    · rw [if_pos rfl]
      go_wp2_with fail
      exact ⟨⟨1, by omega, rfl, congrArg Value.string HX.out, hB⟩, by simp [intOf]⟩
    · rw [if_neg (by omega)]
      go_wp2_with fail
      go_ret2
      exact Ret.val rfl hB
end Go.Proofs.Ytblifdchofihoaa
