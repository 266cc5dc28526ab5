/- strings.Builder: WriteByte, WriteString: what they keep. -/
import Derived.Test.YtohcmfobnkaaiaaGreatDoorBuilder
import Derived.Test.YtohcmfobnkaaiaaGreatDoorOldA
import Derived.RangeFuncOwn
set_option linter.unusedSimpArgs false
set_option linter.unusedVariables false
namespace Go.Proofs.YtohcmfobnkaaiaaGreatDoor
open Go Go.RowKit Tor

theorem isB_cells {B b : Nat} {bs : List Value} {w : World} (h : IsB B b bs w) : ∃ o : Obj, w.heap[b]? = some o ∧ o.isCells = true := by
  rcases h with h | h
  · exact cells_of_cell (a := ⟨b, 0, none⟩) h.cell0
  · exact cells_of_cell (a := ⟨b, 0, none⟩) h.cell0
theorem ownsRow_cells {w : World} {B n : Nat} {e : TypeId} {sz : Nat} {v : Value} {xs : List Value} (h : w.ownsRow B e sz v n xs) : ∀ (j : Nat) (o : Obj), v.ownBlock = some j → w.heap[j]? = some o → o.isCells = true := by
  intro j o hj ho
  obtain ⟨_, h2⟩ := h
  rcases h2 with ⟨rfl, _⟩ | ⟨g, cap, cur, rfl, _, hh, _⟩
  · simp [Value.ownBlock] at hj
  · simp only [Value.ownBlock, Option.some.injEq] at hj
    subst hj
    rw [hh] at ho; cases ho; rfl

set_option maxRecDepth 100000 in
set_option maxHeartbeats 1000000 in
theorem writeByte_any (B b : Nat) (bs : List Value) (x : Nat) (w : World) (h : IsB B b bs w) (hlen : bs.length ≤ 1000000) (hBw : B ≤ w.heap.size) :
    Calls Tryz.prog 16 #[.pointer (some ⟨b, 0, none⟩), .int .u8 x] w fun e w' => e = .returned .nilIface ∧ (IsB B b (bs ++ [.int .u8 x]) w' ∧ Below B w w' ∧ ∀ g t cs, w.heap[g]? = some (.cells cs t (0, 0)) → t ≠ 5 → g ≠ b → w'.heap[g]? = some (.cells cs t (0, 0))) ∧ KeepsOthers w w' := by
  obtain ⟨i0, hi, hz0, hz1, hz2⟩ := info_parts infoByte
  go_enter Tryz.func16, Tryz.ntmps16
  go_wp2_with (go_at_call 34; refine (copyCheck_any B b bs _ h).mono ?_)
  rintro e w1 ⟨rfl, h1, hb1, hk1⟩
  have hko1 : KeepsOthers w w1 := ⟨hb1.size, fun k o hk ho => by
    by_cases e : k = b
    · subst e
      obtain ⟨o', ho', hc'⟩ := isB_cells h
      rw [hk] at ho'; cases ho'; rw [hc'] at ho; cases ho
    · exact (hk1 k e).trans hk⟩
  obtain ⟨hB, v, hbk, hown, hne⟩ := h1
  have c0 : w1.cell? ⟨b, 0, none⟩ = some (.pointer (some ⟨b, 0, none⟩)) := by rw [Lib.cell_of_heap hbk]; rfl
  have c1 : w1.cell? ⟨b, 1, none⟩ = some v := by rw [Lib.cell_of_heap hbk]; rfl
  have hs1 := hb1.size
  have hown0 : (w1.alloc (.cells #[.int .u8 x] 5)).ownsRow B 5 1 v bs.length bs := hown.kept (row := none) (World.grownBy_alloc w1 _ none) (Classical.em _)
  obtain ⟨ao0, n0, cap0, rfl⟩ : ∃ ao n' cap, v = .slice ao n' cap := by
    rcases hown.2 with ⟨hv, _⟩ | ⟨g, cap, cur, hv, _⟩
    · exact ⟨_, _, _, hv⟩
    · exact ⟨_, _, _, hv⟩
  go_wp2_with (at_builtin; refine wpList_append_own _ rfl (.tmp 11) (.tmp 13) 47 rfl B 5 i0 _ 1 1 Tryz.underlying47 hi hz0 hz1 hz2 rfl (by omega) (.slice ao0 n0 cap0) bs.length bs rfl hown0 ⟨w1.heap.size, 0, none⟩ 1 1 [.int .u8 x] rfl rfl ?c2 ?c3 ?c4 ?c5 ?c6 ?_)
  case c2 =>
    intro j u hu
    have e : (⟨w1.heap.size, 0, none⟩ : Addr).add j = ⟨w1.heap.size, j, none⟩ := by
      unfold Addr.add
      split
      · rename_i h; subst h; rfl
      · simp
    rw [e]
    exact (Blk.new w1 5 #[.int .u8 x]).cell j u (by simpa using hu)
  case c3 => intro u hu; simp at hu; subst hu; rfl
  case c4 => unfold maxLen; omega
  case c5 => omega
  case c6 => simp; omega
  intro v' w2 hown' hgrow2 _
  have hgrow : w1.grownBy w2 (Value.slice ao0 n0 cap0).ownBlock := ⟨hgrow2.os, hgrow2.tape, hgrow2.output, by have := hgrow2.size; simp at this; omega, fun k hk hne2 => (hgrow2.block k (by simp; omega) hne2).trans (Below.heap_alloc w1 _ k hk)⟩
  have hlt : b < w1.heap.size := by
    rcases Nat.lt_or_ge b w1.heap.size with h' | h'
    · exact h'
    · simp [Array.getElem?_eq_none h'] at hbk
  have hb2 : w2.heap[b]? = some (.cells #[.pointer (some ⟨b, 0, none⟩), .slice ao0 n0 cap0] 49 (0, 0)) := by
    rw [hgrow.block b hlt (fun e => hne e.symm)]
    exact hbk
  have d0 : w2.cell? ⟨b, 0, none⟩ = some (.pointer (some ⟨b, 0, none⟩)) := by rw [Lib.cell_of_heap hb2]; rfl
  have d1 : w2.cell? ⟨b, 1, none⟩ = some (.slice ao0 n0 cap0) := by rw [Lib.cell_of_heap hb2]; rfl
  have f1 : w2.frozen? ⟨b, 1, none⟩ = false := Lib.frozen_of_heap hb2 1
  obtain ⟨ao, n', cap, rfl⟩ : ∃ ao n' cap, v' = .slice ao n' cap := by
    rcases hown'.2 with ⟨hv, _⟩ | ⟨g, cap, cur, hv, _⟩
    · exact ⟨_, _, _, hv⟩
    · exact ⟨_, _, _, hv⟩
  go_wp2
  go_ret
  have hko2 : KeepsOthers w1 w2 := KeepsOthers.of_grownBy hgrow (ownsRow_cells hown)
  refine ⟨rfl, ⟨?_, ?_, ?_⟩, (hko1.trans hko2).trans (KeepsOthers.setCell _ _ _)⟩
  · right
    exact Lib.BuilderAt.put (T := 49) (e := 5) hB hb2 (bs' := bs ++ [.int .u8 x]) (by simpa using hown') (by decide)
  · exact (hb1.grown hgrow (by have := hb1.size; omega) (fun k hk => (hown.lt k hk).1)).setCell (p := ⟨b, 1, none⟩) hB _
  · intro g t cs hg ht hgb
    rw [Below.heap_setCell _ ⟨b, 1, none⟩ _ g hgb]
    have hg1 := (hk1 g hgb).trans hg
    have gl : g < w1.heap.size := by
      rcases Nat.lt_or_ge g w1.heap.size with h' | h'
      · exact h'
      · simp [Array.getElem?_eq_none h'] at hg1
    exact (hgrow.block g gl (fun e => Lib.ownBlock_ne hown hg1 ht e.symm)).trans hg1
set_option maxRecDepth 100000 in
set_option maxHeartbeats 1000000 in
theorem writeString_ko (B b : Nat) (bs : List Value) (s : ByteArray) (w : World) (h : IsB B b bs w) (hlen : bs.length + s.size ≤ 140737488355328) (hBw : B ≤ w.heap.size) :
    Calls Tryz.prog 17 #[.pointer (some ⟨b, 0, none⟩), .string s] w fun e w' => e = .returned (.tuple #[.int .i64 s.size, .nilIface]) ∧ (IsB B b (bs ++ Lib.strCells s) w' ∧ Below B w w' ∧ ∀ g t cs, w.heap[g]? = some (.cells cs t (0, 0)) → t ≠ 5 → g ≠ b → w'.heap[g]? = some (.cells cs t (0, 0))) ∧ KeepsOthers w w' := by
  obtain ⟨i0, hi, hz0, hz1, hz2⟩ := info_parts infoByte
  go_enter Tryz.func17, Tryz.ntmps17
  go_wp2_with (go_at_call 34; refine (copyCheck_any B b bs _ h).mono ?_)
  rintro e w1 ⟨rfl, h1, hb1, hk1⟩
  have hko1 : KeepsOthers w w1 := ⟨hb1.size, fun k o hk ho => by
    by_cases e : k = b
    · subst e
      obtain ⟨o', ho', hc'⟩ := isB_cells h
      rw [hk] at ho'; cases ho'; rw [hc'] at ho; cases ho
    · exact (hk1 k e).trans hk⟩
  obtain ⟨hB, v, hbk, hown, hne⟩ := h1
  have c0 : w1.cell? ⟨b, 0, none⟩ = some (.pointer (some ⟨b, 0, none⟩)) := by rw [Lib.cell_of_heap hbk]; rfl
  have c1 : w1.cell? ⟨b, 1, none⟩ = some v := by rw [Lib.cell_of_heap hbk]; rfl
  go_wp2_with (at_builtin; refine Lib.wpList_append_own_string _ rfl _ _ 47 9 rfl B 5 i0 Tryz.underlying47 Tryz.underlying9 hi hz0 hz1 hz2 _ _ _ rfl hown s rfl ?c3 ?c4 ?c5 ?_)
  case c3 => unfold maxLen; omega
  case c4 => omega
  case c5 => have := hb1.size; omega
  intro v' w2 hown' hgrow _
  have hlt : b < w1.heap.size := by
    rcases Nat.lt_or_ge b w1.heap.size with h' | h'
    · exact h'
    · simp [Array.getElem?_eq_none h'] at hbk
  have hb2 : w2.heap[b]? = some (.cells #[.pointer (some ⟨b, 0, none⟩), v] 49 (0, 0)) := by
    rw [hgrow.block b hlt (fun e => hne e.symm)]
    exact hbk
  have d0 : w2.cell? ⟨b, 0, none⟩ = some (.pointer (some ⟨b, 0, none⟩)) := by rw [Lib.cell_of_heap hb2]; rfl
  have d1 : w2.cell? ⟨b, 1, none⟩ = some v := by rw [Lib.cell_of_heap hb2]; rfl
  have f1 : w2.frozen? ⟨b, 1, none⟩ = false := Lib.frozen_of_heap hb2 1
  obtain ⟨ao, n', cap, rfl⟩ : ∃ ao n' cap, v' = .slice ao n' cap := by
    rcases hown'.2 with ⟨hv, _⟩ | ⟨g, cap, cur, hv, _⟩
    · exact ⟨_, _, _, hv⟩
    · exact ⟨_, _, _, hv⟩
  go_wp2
  go_ret2
  have hko2 : KeepsOthers w1 w2 := KeepsOthers.of_grownBy hgrow (ownsRow_cells hown)
  refine ⟨rfl, ⟨?_, ?_, ?_⟩, (hko1.trans hko2).trans (KeepsOthers.setCell _ _ _)⟩
  · right
    exact Lib.BuilderAt.put (T := 49) (e := 5) hB hb2 (bs' := bs ++ Lib.strCells s) (by simpa [Lib.strCells_length] using hown') (by decide)
  · exact (hb1.grown hgrow (by have := hb1.size; omega) (fun k hk => (hown.lt k hk).1)).setCell (p := ⟨b, 1, none⟩) hB _
  · intro g t cs hg ht hgb
    rw [Below.heap_setCell _ ⟨b, 1, none⟩ _ g hgb]
    have hg1 := (hk1 g hgb).trans hg
    have gl : g < w1.heap.size := by
      rcases Nat.lt_or_ge g w1.heap.size with h' | h'
      · exact h'
      · simp [Array.getElem?_eq_none h'] at hg1
    exact (hgrow.block g gl (fun e => Lib.ownBlock_ne hown hg1 ht e.symm)).trans hg1
end Go.Proofs.YtohcmfobnkaaiaaGreatDoor
