/- diagram.Draw: the lines that are written. -/
import Derived.Test.YtoccplfnjammjaaGreatDoorBuilder
import Derived.Test.YtoccplfnjammjaaGreatDoorTxt
import Derived.Test.YtoccplfnjammjaaGreatDoorShelf
import Derived.Laws.IdiomStrings
import Derived.Laws.CopyOwn
set_option linter.unusedSimpArgs false
set_option linter.unusedVariables false
namespace Go.Proofs.YtoccplfnjammjaaGreatDoor
open Go Go.RowKit Tor

set_option maxRecDepth 100000 in
set_option maxHeartbeats 1000000 in
theorem writeStringZ_any (B b : Nat) (bs : List Value) (s : ByteArray) (w : World) (h : IsB B b bs w) (hlen : bs.length + s.size ≤ 140737488355328) (hBw : B ≤ w.heap.size) :
    Calls Tryz.prog 47 #[.pointer (some ⟨b, 0, none⟩), .string s] w fun e w' => e = .returned (.tuple #[.int .i64 s.size, .nilIface]) ∧ (IsB B b (bs ++ Lib.strCells s) w' ∧ Below B w w' ∧ ∀ g t cs z, w.heap[g]? = some (.cells cs t z) → (t ≠ 5 ∨ z ≠ (0, 0)) → g ≠ b → w'.heap[g]? = some (.cells cs t z)) := by
  obtain ⟨i0, hi, hz0, hz1, hz2⟩ := info_parts infoByte
  go_enter Tryz.func47, Tryz.ntmps47
  go_wp2_with (go_at_call 79; refine (copyCheck_any B b bs _ h).mono ?_)
  rintro e w1 ⟨rfl, h1, hb1, hk1⟩
  obtain ⟨hB, v, hbk, hown, hne⟩ := h1
  have c0 : w1.cell? ⟨b, 0, none⟩ = some (.pointer (some ⟨b, 0, none⟩)) := by rw [Lib.cell_of_heap hbk]; rfl
  have c1 : w1.cell? ⟨b, 1, none⟩ = some v := by rw [Lib.cell_of_heap hbk]; rfl
  go_wp2_with (at_builtin; refine Lib.wpList_append_own_string _ rfl _ _ 85 9 rfl B 5 i0 Tryz.underlying85 Tryz.underlying9 hi hz0 hz1 hz2 _ _ _ rfl hown s rfl ?c3 ?c4 ?c5 ?_)
  case c3 => unfold maxLen; omega
  case c4 => omega
  case c5 => have := hb1.size; omega
  intro v' w2 hown' hgrow _
  have hlt : b < w1.heap.size := by
    rcases Nat.lt_or_ge b w1.heap.size with h' | h'
    · exact h'
    · simp [Array.getElem?_eq_none h'] at hbk
  have hb2 : w2.heap[b]? = some (.cells #[.pointer (some ⟨b, 0, none⟩), v] 87 (0, 0)) := by
    rw [hgrow.block b hlt (fun e => hne e.symm)]
    exact hbk
  have d0 : w2.cell? ⟨b, 0, none⟩ = some (.pointer (some ⟨b, 0, none⟩)) := by rw [Lib.cell_of_heap hb2]; rfl
  have d1 : w2.cell? ⟨b, 1, none⟩ = some v := by rw [Lib.cell_of_heap hb2]; rfl
  have f1 : w2.frozen? ⟨b, 1, none⟩ = false := Lib.frozen_of_heap hb2 1
  obtain ⟨ao, n', cap, rfl⟩ : ∃ ao n' cap, v' = .slice ao n' cap := by
    rcases hown'.2 with ⟨hv, _⟩ | ⟨g, cap, cur, hv, _⟩
    · exact ⟨_, _, _, hv⟩
    · exact ⟨_, _, _, hv⟩
  go_wp2
  go_ret2
  refine ⟨rfl, ?_, ?_, ?_⟩
  · right
    exact Lib.BuilderAt.put (T := 87) (e := 5) hB hb2 (bs' := bs ++ Lib.strCells s) (by simpa [Lib.strCells_length] using hown') (by decide)
  · exact (hb1.grown hgrow (by have := hb1.size; omega) (fun k hk => (hown.lt k hk).1)).setCell (p := ⟨b, 1, none⟩) hB _
  · intro g t cs z hg ht hgb
    rw [Below.heap_setCell _ ⟨b, 1, none⟩ _ g hgb]
    have hg1 := (hk1 g hgb).trans hg
    have gl : g < w1.heap.size := (Array.getElem?_eq_some_iff.1 hg1).1
    refine (hgrow.block g gl (fun e => ?_)).trans hg1
    obtain ⟨_, h2⟩ := hown
    rcases h2 with ⟨rfl, _⟩ | ⟨g', cap, cur, rfl, _, hh, _⟩
    · cases e
    · simp only [Value.ownBlock, Option.some.injEq] at e
      subst e
      rw [hh] at hg1
      simp only [Option.some.injEq, Obj.cells.injEq] at hg1
      rcases ht with ht | ht
      · exact ht hg1.2.1.symm
      · exact ht hg1.2.2.symm

theorem strCells_bN (L : List UInt8) : Lib.strCells (bN L) = Lib.byteCells L := by unfold Lib.strCells Lib.byteCells bN; simp
theorem byteCells_app (a b : List UInt8) : Lib.byteCells (a ++ b) = Lib.byteCells a ++ Lib.byteCells b := by unfold Lib.byteCells; simp
/-- texts with blanks between them -/
def blanksL (xs : List (List UInt8)) : List UInt8 := Lib.join xs [32]
/-- a line is written -/
theorem line_any (B bb : Nat) (T : List UInt8) (g o c : Nat) (xs : List (List UInt8)) (w : World) (h : IsB B bb (Lib.byteCells T) w) (hBw : B ≤ w.heap.size)
    (hx : ∀ j x, xs[j]? = some x → w.cell? ⟨g, o + j, none⟩ = some (.string (bN x))) (hg : g < w.heap.size) (hc : xs.length ≤ c) (hxl : xs.length ≤ 1000) (hl : (blanksL xs).length ≤ 1000000) (hT : T.length ≤ 100000000) :
    Calls Tryz.prog 46 #[.slice (some ⟨g, o, none⟩) xs.length c, .pointer (some ⟨bb, 0, none⟩)] w fun e w' => e = .returned (.tuple #[]) ∧ IsB B bb (Lib.byteCells (T ++ (blanksL xs ++ [10]))) w' ∧ Below B w w' ∧ ∀ g t cs z, w.heap[g]? = some (.cells cs t z) → (t ≠ 5 ∨ z ≠ (0, 0)) → g ≠ bb → w'.heap[g]? = some (.cells cs t z) := by
  have hm : (xs.map bN).map (·.data.toList) = xs := by rw [List.map_map]; exact (List.map_congr_left (fun x _ => rfl)).trans (List.map_id xs)
  have HJ := Lib.hid (Tryz.strings_Join g o c (xs.map bN) ⟨#[32]⟩ w (fun j x hj => by
      rw [List.getElem?_map] at hj
      cases hq : xs[j]? with
      | none => rw [hq] at hj; cases hj
      | some y => rw [hq] at hj; simp only [Option.map_some, Option.some.injEq] at hj; subst hj; exact hx j y hq) hg (by simp; omega) (by simpa using hc) (by rw [hm]; exact Nat.le_trans hl (by decide)))
  rw [hm, List.length_map] at HJ
  have e0 : (⟨(Lib.join xs (⟨#[32]⟩ : ByteArray).data.toList).toArray⟩ : ByteArray) = bN (blanksL xs) := rfl
  rw [e0] at HJ
  generalize blanksL xs = S at *
  have hS : (bN S).size = S.length := rfl
  have hh : ¬ 9223372036854775807 < (bN S).size + 1 := by omega
  have HIB := Lib.hid h
  clear h hx hm e0
  go_enter Tryz.func46, Tryz.ntmps46
  go_wp2_with (first
    | (go_at_call 48; refine HJ.out.mono ?_; rintro e w1 ⟨rfl, hB1⟩)
    | fail)
  have e1 : bN S ++ (⟨#[10]⟩ : ByteArray) = bN (S ++ [10]) := by
    apply ByteArray.ext
    rw [ByteArray.data_append]
    apply Array.toList_inj.1
    simp [bN]
  rw [e1]
  refine (writeStringZ_any B bb (Lib.byteCells T) (bN (S ++ [10])) w1 (HIB.out.below hB1) (by rw [Lib.byteCells_length, bN_size, List.length_append]; simp; omega) (Nat.le_trans hBw hB1.size)).mono ?_
  rintro e w2 ⟨rfl, h2, hB2, hk2⟩
  go_wp2_with fail
  go_end0
  rw [strCells_bN, ← byteCells_app] at h2
  exact ⟨rfl, h2, (hB1.mono hBw).trans hB2, fun q t cs z hq ht hb => hk2 q t cs z ((hB1.block q (Array.getElem?_eq_some_iff.1 hq).1).trans hq) ht hb⟩
end Go.Proofs.YtoccplfnjammjaaGreatDoor
