/- diagram.Draw. -/
import Derived.Test.YtoccplfnjammjaaGreatDoorLooksA
import Derived.Test.YtoccplfnjammjaaGreatDoorDClone
import Derived.Test.YtoccplfnjammjaaGreatDoorDDig
set_option linter.unusedSimpArgs false
set_option linter.unusedVariables false
namespace Go.Proofs.YtoccplfnjammjaaGreatDoor
open Go Go.RowKit Tor

theorem linesD_len (p : Nat) (l : List Tri) : (linesD p l).length = 1 + (looksL (sheetD p l)).length + (rowsS p l).length := by
  unfold linesD letsL
  simp only [List.length_cons, List.length_append, List.length_map, List.length_range]
  omega
theorem linesD_head (p : Nat) (l : List Tri) : (linesD p l)[0]? = some (headL p (rowsS p l).length) := rfl
theorem linesD_let (p : Nat) (l : List Tri) (k : Nat) (hk : k < (looksL (sheetD p l)).length) : (linesD p l)[k + 1]? = some (letL k (looksL (sheetD p l))[k]) := by
  unfold linesD letsL
  rw [List.getElem?_cons_succ, List.getElem?_append_left (by simpa using hk), List.getElem?_map, List.getElem?_range hk]
  simp only [Option.map_some, Option.some.injEq, Nat.zero_add]
  congr 1
  rw [List.getD_eq_getElem?_getD, List.getElem?_eq_getElem hk]; rfl
theorem linesD_row (p : Nat) (l : List Tri) (j : Nat) (hj : j < (rowsS p l).length) : (linesD p l)[(looksL (sheetD p l)).length + j + 1]? = some (drawR p l (looksL (sheetD p l)) (rowsS p l)[j]) := by
  unfold linesD letsL
  rw [List.getElem?_cons_succ, List.getElem?_append_right (by simp), List.length_map, List.length_range, Nat.add_sub_cancel_left, List.getElem?_map, List.getElem?_eq_getElem hj]; rfl
theorem itoa_len (n : Nat) (h : n < 100000) : (Lib.itoa (n : Int)).length ≤ 20 := by
  unfold Lib.itoa
  rw [if_neg (by omega)]
  have : ∀ k m, m < 10 ^ k → (Lib.decDigits m).length ≤ k + 1 := by
    intro k
    induction k with
    | zero => intro m hm; rw [Lib.decDigits_one (by omega)]; simp
    | succ k ih =>
      intro m hm
      by_cases h10 : m < 10
      · rw [Lib.decDigits_one h10]; simp
      · rw [Lib.decDigits, dif_neg h10, List.length_append]
        have := ih (m / 10) (by rw [Nat.pow_succ] at hm; omega)
        simp; omega
  have := this 5 (n : Int).toNat (by simp; omega)
  omega
theorem looks16 {p : Nat} {l : List Tri} (ok : OkD p l) {x : List UInt8} (h : x ∈ looksL (sheetD p l)) : x.length ≤ 16 := by
  rcases (looksF_mem (sheetD p l) [] x).1 h with h | ⟨y, hy, rfl⟩
  · cases h
  · exact lookB_len (ok.words y (pick_mem (fun r hr' => row_in hr') hy))
theorem drawR_len (p : Nat) (l : List Tri) (L : List (List UInt8)) (r : List Nat) : (drawR p l L r).length = 2 * p - 1 := by unfold drawR; simp
theorem linesD_60 {p : Nat} {l : List Tri} (ok : OkD p l) : ∀ s ∈ linesD p l, s.length ≤ 60 := by
  intro s hs
  have h24 := ok.p24
  have hl := ok.len
  have hr := rowsS_len p l
  unfold linesD at hs
  rcases List.mem_cons.1 hs with rfl | hs
  · unfold headL
    have h1 := itoa_len p (by omega)
    have h2 := itoa_len (rowsS p l).length (by omega)
    simp only [List.length_append, List.length_cons, List.length_nil]
    omega
  · rcases List.mem_append.1 hs with hs | hs
    · unfold letsL at hs
      obtain ⟨k, hk, rfl⟩ := List.mem_map.1 hs
      have hk' := List.mem_range.1 hk
      unfold letL
      have h3 : ((looksL (sheetD p l)).getD k []).length ≤ 16 := by
        rw [List.getD_eq_getElem?_getD, List.getElem?_eq_getElem hk']
        exact looks16 ok (List.getElem_mem hk')
      simp only [List.length_append, List.length_cons, List.length_nil]
      omega
    · obtain ⟨r, _, rfl⟩ := List.mem_map.1 hs
      rw [drawR_len]; omega
theorem joinL_len : ∀ (X : List (List UInt8)), (∀ s ∈ X, s.length ≤ 60) → (joinL X).length ≤ 61 * X.length
  | [], _ => by simp [joinL]
  | s :: r, h => by
    have h1 := joinL_len r (fun x hx => h x (by simp [hx]))
    have h2 := h s (by simp)
    have e : joinL (s :: r) = s ++ [10] ++ joinL r := by unfold joinL; simp
    rw [e]
    simp only [List.length_append, List.length_cons, List.length_nil]
    omega
/-- the text so far -/
def partD (p : Nat) (l : List Tri) (k : Nat) : List UInt8 := joinL ((linesD p l).take k)
theorem partD_len {p : Nat} {l : List Tri} (ok : OkD p l) (h52 : (looksL (sheetD p l)).length ≤ 52) (k : Nat) : (partD p l k).length ≤ 30000 := by
  have h1 := joinL_len ((linesD p l).take k) (fun s hs => linesD_60 ok s (List.mem_of_mem_take hs))
  have h2 := linesD_len p l
  have h3 := rowsS_len p l
  have h4 := ok.len
  have h5 : ((linesD p l).take k).length ≤ (linesD p l).length := by rw [List.length_take]; omega
  unfold partD
  omega
theorem partD_next (p : Nat) (l : List Tri) (k : Nat) (s : List UInt8) (h : (linesD p l)[k]? = some s) : partD p l (k + 1) = partD p l k ++ (s ++ [10]) := by
  obtain ⟨hk, e⟩ := List.getElem?_eq_some_iff.1 h
  unfold partD
  rw [take_snoc _ k hk, joinL_snoc, e]
theorem partD_all (p : Nat) (l : List Tri) : partD p l (1 + (looksL (sheetD p l)).length + (rowsS p l).length) = textD p l := by
  unfold partD textD
  rw [← linesD_len, List.take_length]
theorem blanks1 (a : List UInt8) : blanksL [a] = a := by unfold blanksL; simp [Lib.join]
theorem blanks3 (a b c : List UInt8) : blanksL [a, b, c] = a ++ 32 :: (b ++ 32 :: c) := by unfold blanksL; simp [Lib.join]
/-- what Draw returns of a sheet -/
def drawE (p : Nat) (l : List Tri) : List UInt8 × Int := if 52 < (looksL (sheetD p l)).length then ([], 5) else (textD p l, 0)
theorem letter_cut (n : Nat) (hn : n < 52) (W : World) : (Instr.slice 9 (.string (⟨#[65, 66, 67, 68, 69, 70, 71, 72, 73, 74, 75, 76, 77, 78, 79, 80, 81, 82, 83, 84, 85, 86, 87, 88, 89, 90, 97, 98, 99, 100, 101, 102, 103, 104, 105, 106, 107, 108, 109, 110, 111, 112, 113, 114, 115, 116, 117, 118, 119, 120, 121, 122]⟩ : ByteArray)) (some (.int .i64 (n : Int))) (some (.int .i64 ((n : Int) + 1))) none).run Tryz.prog W = .ok (.string (bN [letN n])) W := by
  have h2 : n < lettersL.length := by rw [letters_len]; exact hn
  have h3 : lettersL[n] = letN n := by
    have := letters_get n hn
    rw [List.getElem?_eq_getElem h2] at this
    simpa using this
  have := rangeSl lettersL n (n + 1) (by omega) (by omega) (by rw [letters_len]; omega) [letN n] (by
    rw [take_snoc lettersL n h2, List.drop_append_of_le_length (by rw [List.length_take]; omega), h3, List.drop_of_length_le (by rw [List.length_take]; omega)]; rfl) W
  rw [show ((n : Int) + 1) = ((n + 1 : Nat) : Int) by omega, ← letters_bN]
  exact this
theorem isB_new (w : World) : IsB w.heap.size w.heap.size (Lib.byteCells []) (w.alloc (.cells #[.pointer none, .slice none 0 0] 87)) :=
  .inl ⟨Nat.le_refl _, .slice none 0 0, heap_alloc_new _ _, World.ownsRow_nil _ _ _ _, by simp [Value.ownBlock]⟩
theorem draw_bad (p : Int) (A : Option Addr) (l : List Tri) (c : Nat) (w : World) (H : Nat) (hr : RdT w H A l) (hH : H ≤ w.heap.size)
    (hw : ∀ (k : Nat) (hk : k < l.length), l[k].s.size ≤ 9223372036854775807) (hl : l.length ≤ 1000000) (he : sheetE p l ≠ 0) :
    Calls Tryz.prog 14 #[.agg #[.int .i64 p, .slice A l.length c]] w (Ret (.tuple #[.string (bN []), .int .i64 (sheetE p l)]) w) := by
  have hB0 : Below w.heap.size w (w.alloc (.cells #[.int .i64 p, .slice A l.length c] 25)) := (Below.refl _ _).alloc (Nat.le_refl _) _
  have HSH := Lib.hid (drows_bad p A l c (w.alloc (.cells #[.int .i64 p, .slice A l.length c] 25)) H (hr.below' hB0 hH) (Nat.le_trans hH hB0.size) hw hl he)
  generalize sheetE p l = E at *
  have hE := bad_ne he
  go_enter Tryz.func14, Tryz.ntmps14
  go_wp2_with (first | (go_at_call 18; refine HSH.out.mono ?_; rintro e w1 ⟨rfl, hB1⟩) | fail)
  go_ret2
  exact ⟨rfl, hB0.trans (hB1.mono hB0.size)⟩
end Go.Proofs.YtoccplfnjammjaaGreatDoor
