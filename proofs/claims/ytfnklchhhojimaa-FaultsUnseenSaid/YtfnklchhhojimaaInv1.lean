/- stitches.Inverse of one letter. -/
import Derived.Test.YtfnklchhhojimaaStitch1
import Derived.Test.YtfnklchhhojimaaRed
import Derived.Laws.IdiomStrings
set_option linter.unusedSimpArgs false
set_option linter.unusedVariables false
namespace Go.Proofs.Ytfnklchhhojimaa
open Go Go.RowKit Tor

theorem conv_back (g cap : Nat) (c : UInt8) (n : Int) (hn : (c.toNat : Int) = n) (w : World) (h : w.cell? ⟨g, 0, none⟩ = some (.int .u8 n)) :
    (convert 104 9 (.slice (some ⟨g, 0, none⟩) 1 cap)).run Try.prog w = .ok (.string ⟨#[c]⟩) w := by
  subst hn
  have := run_convert_bytes_back (P := Try.prog) w 104 9 5 ⟨g, 0, none⟩ cap [c] Try.underlying104 Try.underlying5 Try.underlying9 (fun j hj => by
    match j, hj with
    | 0, _ => simpa [Addr.add] using h)
  simpa using this

theorem conv_fwd (c : UInt8) (w : World) : ∃ cap W, (convert 9 104 (.string ⟨#[c]⟩)).run Try.prog w = .ok (.slice (some ⟨w.heap.size, 0, none⟩) 1 cap) W ∧ W.cell? ⟨w.heap.size, 0, none⟩ = some (.int .u8 c.toNat) ∧ W.frozen? ⟨w.heap.size, 0, none⟩ = false ∧ Below w.heap.size w W ∧ w.heap.size < W.heap.size := by
  have h := run_bytes_of_string (P := Try.prog) w 9 104 5 ⟨#[c]⟩ Try.underlying9 Try.underlying104 Try.underlying5
  have hr : (bytesRow ⟨#[c]⟩ (grownCap w (ByteArray.size ⟨#[c]⟩) 0 5))[0]? = some (.int .u8 c.toNat) := bytesRow_at ⟨#[c]⟩ _ 0 (by show 0 < 1; omega)
  refine ⟨_, _, h, ?_, ?_, ?_, ?_⟩
  · exact (World.cell?_alloc_mark _ _ _ _ _).trans hr
  · refine (World.frozen?_alloc_mark _ _ _ _ _ _).trans ?_
    have h9 := (Array.getElem?_eq_some_iff.1 hr).1
    have h8 : decide ((bytesRow ⟨#[c]⟩ (grownCap w (ByteArray.size ⟨#[c]⟩) 0 5)).size ≤ 0) = false := decide_eq_false (by omega)
    rw [h8]; rfl
  · exact (Below.refl _ _).drew.alloc (Nat.le_refl _) _
  · show w.heap.size < (w.heap.push _).size
    simp

theorem idxU (c : UInt8) (hc : isLetter c = true) : ∃ n : Nat, n < 9 ∧ Lib.indexByte lettersL c = n ∧ ∀ (h : n < ByteArray.size ⟨#[99, 116, 108, 114, 80, 67, 84, 76, 82]⟩), (⟨#[99, 116, 108, 114, 80, 67, 84, 76, 82]⟩ : ByteArray)[n] = undo c := by
  rcases letters_cases hc with rfl | rfl | rfl | rfl | rfl | rfl | rfl | rfl | rfl
  · exact ⟨0, by decide, by decide, by decide⟩
  · exact ⟨1, by decide, by decide, by decide⟩
  · exact ⟨2, by decide, by decide, by decide⟩
  · exact ⟨3, by decide, by decide, by decide⟩
  · exact ⟨4, by decide, by decide, by decide⟩
  · exact ⟨5, by decide, by decide, by decide⟩
  · exact ⟨6, by decide, by decide, by decide⟩
  · exact ⟨7, by decide, by decide, by decide⟩
  · exact ⟨8, by decide, by decide, by decide⟩


set_option maxRecDepth 100000 in
set_option maxHeartbeats 4000000 in
theorem exch1_any (c : UInt8) (w : World) (hc : isLetter c = true) :
    Calls Try.prog 65 #[.string ⟨#[c]⟩, .string ⟨#[99, 116, 108, 114, 80, 67, 84, 76, 82]⟩] w (Ret (.tuple #[.string ⟨#[undo c]⟩, .int .i64 0]) w) := by
  have hE : wordE ⟨#[c]⟩ = 0 := by
    unfold wordE
    rw [if_neg (by show ¬ 16 < 1; omega), if_pos (by show ([c] : List UInt8).all isLetter = true; simpa using hc)]
  have HE := Lib.hid hE
  clear hE
  go_enter Try.func65, Try.ntmps65
  go_wp2_with (first
    | (go_at_call 59; refine (word_any ⟨#[c]⟩ w (by show 1 ≤ _; decide)).mono ?_; rintro e w1 ⟨rfl, hB1⟩; rw [HE.out]
       obtain ⟨cap, W, hcv, hc0, hf0, hBW, hzW⟩ := conv_fwd c w1)
    | fail)
  have hB0 : Below w.heap.size w W := hB1.trans (hBW.mono hB1.size)
  have hz1 := hB1.size
  go_loopw [19] (fun i wr => ∃ k : Nat, k ≤ 1 ∧ i = .int .i64 k ∧ wr.cell? ⟨w1.heap.size, 0, none⟩ = some (.int .u8 (if k = 0 then c else undo c).toNat) ∧ wr.frozen? ⟨w1.heap.size, 0, none⟩ = false ∧ Below w.heap.size w wr ∧ w1.heap.size < wr.heap.size) (fun i _ => 1 - (intOf i).toNat)
  case atStart => exact ⟨0, by omega, rfl, hc0, hf0, hB0, hzW⟩
  case round =>
    obtain ⟨k, hk, rfl, hcr, hfr, hB, hzr⟩ := hrel
    rcases (show k = 0 ∨ k = 1 by omega) with rfl | rfl
    · rw [if_pos rfl] at hcr
      obtain ⟨n, hn9, hni, hnu⟩ := idxU c hc
      have HI := Lib.hid hni
      have hn0 : (n : Int) < 9 := by omega
      clear hni
      go_wp2_with (first
        | (go_at_call 71; refine (letterIdx c _).mono ?_; rintro e w3 ⟨rfl, hB3⟩; rw [HI.out]
           have hc3 := (hB3.cell (p := ⟨w1.heap.size, 0, none⟩) hzr).trans hcr
           have hf3 := (hB3.frozen (p := ⟨w1.heap.size, 0, none⟩) hzr).trans hfr
           have hz3 := hB3.size
           have hzz : w1.heap.size < w3.heap.size := by omega)
        | fail)
      go_roundw
      case rel =>
        refine ⟨1, Nat.le_refl _, rfl, ?_, ?_, ?_, ?_⟩
        · rw [if_neg (by decide), World.cell?_setCell_same _ _ _ hc3]
        · rw [World.frozen?_setCell]; exact hf3
        · exact (hB.trans (hB3.mono hB.size)).setCell (p := ⟨w1.heap.size, 0, none⟩) hz1 _
        · simpa [World.setCell] using hzz
      case measure => simp [intOf]
    · rw [if_neg (by decide)] at hcr
      have hcb := fun cap => conv_back w1.heap.size cap (undo c) _ rfl wr hcr
      go_wp2_with fail
      go_ret2
      exact ⟨rfl, hB⟩


set_option maxRecDepth 100000 in
theorem rev1_any (g cap : Nat) (w : World) :
    Calls Try.prog 66 #[.slice (some ⟨g, 0, none⟩) 1 cap] w fun e w' => e = .returned (.tuple #[]) ∧ w' = w := by
  go_enter Try.func66, Try.ntmps66
  go_wp2_with fail
  go_loopw [2, 3] (fun i j wr => i = .int .i64 0 ∧ j = .int .i64 0 ∧ wr = w) (fun _ _ _ => 0)
  case atStart => exact ⟨rfl, rfl, rfl⟩
  case round =>
    obtain ⟨rfl, rfl, rfl⟩ := hrel
    go_wp2_with fail
    go_end0
    exact ⟨rfl, rfl⟩


set_option maxRecDepth 100000 in
set_option maxHeartbeats 4000000 in
theorem inv1_any (c : UInt8) (w : World) (hc : isLetter c = true) :
    Calls Try.prog 37 #[.string ⟨#[c]⟩] w (Ret (.tuple #[.string ⟨#[undo c]⟩, .int .i64 0]) w) := by
  go_enter Try.func37, Try.ntmps37
  go_wp2_with (first
    | (go_at_call 65; refine (exch1_any c w hc).mono ?_; rintro e w1 ⟨rfl, hB1⟩
       obtain ⟨cap, W, hcv, hc0, hf0, hBW, hzW⟩ := conv_fwd (undo c) w1)
    | (go_at_call 66; refine (rev1_any _ cap W).mono ?_; rintro e w3 ⟨rfl, rfl⟩
       have hcb := fun cap => conv_back w1.heap.size cap (undo c) _ rfl w3 hc0)
    | fail)
  go_ret2
  exact ⟨rfl, hB1.trans (hBW.mono hB1.size)⟩
end Go.Proofs.Ytfnklchhhojimaa
