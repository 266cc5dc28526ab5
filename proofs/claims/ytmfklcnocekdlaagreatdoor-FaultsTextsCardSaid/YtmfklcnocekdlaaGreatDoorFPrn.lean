/- faults: Print. -/
import Derived.Test.YtmfklcnocekdlaaGreatDoorFWr
import Derived.Test.YtmfklcnocekdlaaGreatDoorPut
set_option linter.unusedSimpArgs false
set_option linter.unusedVariables false
namespace Go.Proofs.YtmfklcnocekdlaaGreatDoor
open Go Go.RowKit Tor

set_option maxRecDepth 100000 in
set_option maxHeartbeats 8000000 in
theorem fprn_0 (k st lt wi : Int) (hin : Hid (¬ (1 ≤ k ∧ k ≤ 6))) (hs : Hid (shapedF ⟨k, st, lt, wi⟩ = false))  (w : World) (hDt : DtAt w) :
    Calls Tryz.prog 18 #[.agg #[.int .i64 k, .int .i64 st, .int .i64 lt, .int .i64 wi]] w (Ret (.tuple #[.string (bN (printF ⟨k, st, lt, wi⟩).1), .int .i64 (printF ⟨k, st, lt, wi⟩).2]) w) := by
  have HP : Hid (printF ⟨k, st, lt, wi⟩ = ([], 2)) := by rw [Hid]; unfold printF; rw [if_pos hs.out]
  rw [HP.out]
  have hBB : Below w.heap.size w (w.alloc (.cells #[.int .i64 k, .int .i64 st, .int .i64 lt, .int .i64 wi] 41)) := (Below.refl _ _).alloc (Nat.le_refl _) _
  have kF := Blk.new w 41 #[.int .i64 k, .int .i64 st, .int .i64 lt, .int .i64 wi]
  go_enter Tryz.func18, Tryz.ntmps18
  go_wp2_with fail
  have fl := kF.lt
  generalize w.alloc (.cells #[.int .i64 k, .int .i64 st, .int .i64 lt, .int .i64 wi] 41) = W at *
  have p0 := kF.cell 0 (.int .i64 k) rfl
  have p1 := kF.cell 1 (.int .i64 st) rfl
  have p2 := kF.cell 2 (.int .i64 lt) rfl
  have p3 := kF.cell 3 (.int .i64 wi) rfl
  refine wp_region_J (fun w' => w'.cell? ⟨w.heap.size, 0, none⟩ = some (.int .i64 k) ∧ w'.cell? ⟨w.heap.size, 1, none⟩ = some (.int .i64 st) ∧ w'.cell? ⟨w.heap.size, 2, none⟩ = some (.int .i64 lt) ∧ w'.cell? ⟨w.heap.size, 3, none⟩ = some (.int .i64 wi)) (fun _ => True) (fun _ => false) (by kernel_rfl) ?_
  have hS1 : W.drew.cell? ⟨w.heap.size, 0, none⟩ = some (.int .i64 k) ∧ W.drew.cell? ⟨w.heap.size, 1, none⟩ = some (.int .i64 st) ∧ W.drew.cell? ⟨w.heap.size, 2, none⟩ = some (.int .i64 lt) ∧ W.drew.cell? ⟨w.heap.size, 3, none⟩ = some (.int .i64 wi) := ⟨p0, p1, p2, p3⟩
  refine wpAnyJ_take1 1 rfl (by kernel_rfl) (by kernel_rfl) rfl (by kernel_rfl) (fun _ _ _ h => h) (by rfl) hS1 (fun w' hSw => (by obtain ⟨z1, z2, z3, z4⟩ := hSw; go_simp; try (with_reducible rfl))) ?_
  try simp only [Act.put, List.getElem_toArray, List.getElem_cons_succ, List.getElem_cons_zero, List.setIfInBounds_toArray, List.set_cons_zero, List.set_cons_succ]
  refine wpAnyJ_ready [0, 6] (by kernel_rfl) (by simp) (NextJ.cons rfl (fun K hK => ?_) (NextJ.cons rfl (fun K hK => ?_) NextJ.nil))
  · skip
    go_simp
    refine (kinds_any W.drew).mono ?_
    rintro e w5 ⟨g, KA, rfl, hKA, hB5⟩
    have hB5' : Below W.heap.size W w5 := ⟨hB5.os, hB5.tape, hB5.output, Nat.le_trans (by simp) hB5.size, fun k hk => (hB5.block k (Nat.lt_of_lt_of_le hk (by simp))).trans (by first | rfl | exact Below.heap_alloc W.drew _ k hk)⟩
    have kF5 := kF.drew.below' hB5
    have hS1 := And.intro (kF5.cell 0 (.int .i64 k) rfl) (And.intro (kF5.cell 1 (.int .i64 st) rfl) (And.intro (kF5.cell 2 (.int .i64 lt) rfl) (kF5.cell 3 (.int .i64 wi) rfl)))
    go_simp
    refine hK.out _ _ hS1 (fun h => absurd h (by decide)) ?_
    clear hK K
    try simp only [Act.put, List.getElem_toArray, List.getElem_cons_succ, List.getElem_cons_zero, List.setIfInBounds_toArray, List.set_cons_zero, List.set_cons_succ]
    refine wpAnyJ_ready [2, 6] (by kernel_rfl) (by simp) (NextJ.cons rfl (fun K hK => ?_) (NextJ.cons rfl (fun K hK => ?_) NextJ.nil))
    · skip
      go_simp
      refine (find_any g KA ⟨k, st, lt, wi⟩ w5 w5.heap.size hKA (Nat.le_refl _)).mono ?_
      rintro e w7 ⟨rfl, hB7⟩
      have kF7 := kF5.below' hB7
      have hS2 := And.intro (kF7.cell 0 (.int .i64 k) rfl) (And.intro (kF7.cell 1 (.int .i64 st) rfl) (And.intro (kF7.cell 2 (.int .i64 lt) rfl) (kF7.cell 3 (.int .i64 wi) rfl)))
      have hkc : (kcell KA k).toArray = #[.int .i64 0, .string ⟨#[]⟩, .bool false, .slice none 0 0, .nilFunc, .nilFunc] := by unfold kcell; rw [if_neg hin.out]
      rw [show (⟨k, st, lt, wi⟩ : Flt).k = k from rfl, hkc, hs.out]
      clear hkc
      go_simp
      refine hK.out _ _ hS2 (fun h => absurd h (by decide)) ?_
      clear hK K
      try simp only [Act.put, List.getElem_toArray, List.getElem_cons_succ, List.getElem_cons_zero, List.setIfInBounds_toArray, List.set_cons_zero, List.set_cons_succ]
      refine wpAnyJ_take1 3 rfl (by kernel_rfl) (by kernel_rfl) rfl (by kernel_rfl) (fun _ _ _ h => h) (by rfl) hS2 (fun w' hSw => (by obtain ⟨z1, z2, z3, z4⟩ := hSw; go_simp; try (with_reducible rfl))) ?_
      try simp only [Act.put, List.getElem_toArray, List.getElem_cons_succ, List.getElem_cons_zero, List.setIfInBounds_toArray, List.set_cons_zero, List.set_cons_succ]
      refine wpAnyJ_take1 4 rfl (by kernel_rfl) (by kernel_rfl) rfl (by kernel_rfl) (fun _ _ _ h => h) (by rfl) hS2 (fun w' hSw => (by obtain ⟨z1, z2, z3, z4⟩ := hSw; go_simp; try (with_reducible rfl))) ?_
      try simp only [Act.put, List.getElem_toArray, List.getElem_cons_succ, List.getElem_cons_zero, List.setIfInBounds_toArray, List.set_cons_zero, List.set_cons_succ]
      refine wpAnyJ_take1 5 rfl (by kernel_rfl) (by kernel_rfl) rfl (by kernel_rfl) (fun _ _ _ h => h) (by rfl) hS2 (fun w' hSw => (by obtain ⟨z1, z2, z3, z4⟩ := hSw; go_simp; try (with_reducible rfl))) ?_
      try simp only [Act.put, List.getElem_toArray, List.getElem_cons_succ, List.getElem_cons_zero, List.setIfInBounds_toArray, List.set_cons_zero, List.set_cons_succ]
      refine wpAnyJ_ready [6] (by kernel_rfl) (by simp) (NextJ.cons rfl (fun K hK => ?_) NextJ.nil)
      go_simp
      have kF6 := kF7.alloc (.cells #[.int .i64 0, .string ⟨#[]⟩, .bool false, .slice none 0 0, .nilFunc, .nilFunc] 106)
      have kB6 := Blk.new w7 106 #[.int .i64 0, .string ⟨#[]⟩, .bool false, .slice none 0 0, .nilFunc, .nilFunc]
      have hS3 := And.intro (kF6.cell 0 (.int .i64 k) rfl) (And.intro (kF6.cell 1 (.int .i64 st) rfl) (And.intro (kF6.cell 2 (.int .i64 lt) rfl) (kF6.cell 3 (.int .i64 wi) rfl)))
      refine hK.out _ _ hS3 (fun h => absurd h (by decide)) ?_
      clear hK K
      try simp only [Act.put, List.getElem_toArray, List.getElem_cons_succ, List.getElem_cons_zero, List.setIfInBounds_toArray, List.set_cons_zero, List.set_cons_succ]
      have hBt : Below W.heap.size W (w7.alloc (.cells #[.int .i64 0, .string ⟨#[]⟩, .bool false, .slice none 0 0, .nilFunc, .nilFunc] 106)) := Below.alloc (hB5'.trans (hB7.mono hB5'.size)) (Nat.le_trans hB5'.size hB7.size) _
      have kz0 : Blk (w7.alloc (.cells #[.int .i64 0, .string ⟨#[]⟩, .bool false, .slice none 0 0, .nilFunc, .nilFunc] 106)) w7.heap.size 106 #[.int .i64 0, .string ⟨#[]⟩, .bool false, .slice none 0 0, .nilFunc, .nilFunc] := kB6
      have y0 := kz0.cell 0 (.int .i64 0) rfl
      have x0 := kz0.frozen 0
      have kz1 := kz0.set_ 0 (.int .i64 0)
      have y1 := kz1.cell 1 (.string ⟨#[]⟩) rfl
      have x1 := kz1.frozen 1
      have kz2 := kz1.set_ 1 (.string ⟨#[]⟩)
      have y2 := kz2.cell 2 (.bool false) rfl
      have x2 := kz2.frozen 2
      have kz3 := kz2.set_ 2 (.bool false)
      have y3 := kz3.cell 3 (.slice none 0 0) rfl
      have x3 := kz3.frozen 3
      have kz4 := kz3.set_ 3 (.slice none 0 0)
      have y4 := kz4.cell 4 (.nilFunc) rfl
      have x4 := kz4.frozen 4
      have kz5 := kz4.set_ 4 (.nilFunc)
      have y5 := kz5.cell 5 (.nilFunc) rfl
      have x5 := kz5.frozen 5
      have kz6 := kz5.set_ 5 (.nilFunc)
      have bxl := kz0.lt
      refine wpAnyJ_ready [7] (by kernel_rfl) (by simp) (NextJ.cons rfl (fun K hK => ?_) NextJ.nil)
      go_simp
      have kE := Blk.new w7 106 #[.int .i64 0, .string ⟨#[]⟩, .bool false, .slice none 0 0, .nilFunc, .nilFunc]
      have fE := kF7.alloc (.cells #[.int .i64 0, .string ⟨#[]⟩, .bool false, .slice none 0 0, .nilFunc, .nilFunc] 106)
      have hBE : Below W.heap.size W (w7.alloc (.cells #[.int .i64 0, .string ⟨#[]⟩, .bool false, .slice none 0 0, .nilFunc, .nilFunc] 106)) := Below.alloc (hB5'.trans (hB7.mono hB5'.size)) (Nat.le_trans hB5'.size hB7.size) _
      have hS9 := And.intro (fE.cell 0 (.int .i64 k) rfl) (And.intro (fE.cell 1 (.int .i64 st) rfl) (And.intro (fE.cell 2 (.int .i64 lt) rfl) (fE.cell 3 (.int .i64 wi) rfl)))
      refine hK.out _ _ hS9 (fun h => absurd h (by decide)) ?_
      clear hK K
      try simp only [Act.put, List.getElem_toArray, List.getElem_cons_succ, List.getElem_cons_zero, List.setIfInBounds_toArray, List.set_cons_zero, List.set_cons_succ]
      refine wpAnyJ_take1 8 rfl (by kernel_rfl) (by kernel_rfl) rfl (by kernel_rfl) (fun _ _ _ h => h) (by rfl) hS9 (fun w' hSw => (by obtain ⟨z1, z2, z3, z4⟩ := hSw; go_simp; try (with_reducible rfl))) ?_
      try simp only [Act.put, List.getElem_toArray, List.getElem_cons_succ, List.getElem_cons_zero, List.setIfInBounds_toArray, List.set_cons_zero, List.set_cons_succ]
      refine wpAnyJ_done (by kernel_rfl) ?_ _
      obtain ⟨q0, q1, q2, q3⟩ := hS9
      clear hS1 y0 x0 y1 x1 y2 x2 y3 x3 y4 x4 y5 x5
      have hsE := kE.lt
      have hQ := hBB.trans (hBE.mono hBB.size)
      clear hBt kz0 kz1 kz2 kz3 kz4 kz5 kz6
      generalize (w7.alloc (.cells #[.int .i64 0, .string ⟨#[]⟩, .bool false, .slice none 0 0, .nilFunc, .nilFunc] 106)) = W9 at *
      go_wp2_with fail
      go_ret2
      exact ⟨rfl, hQ⟩
    · skip
      go_simp
      have kF6 := kF5.alloc (.cells #[.int .i64 0, .string ⟨#[]⟩, .bool false, .slice none 0 0, .nilFunc, .nilFunc] 106)
      have kB6 := Blk.new w5 106 #[.int .i64 0, .string ⟨#[]⟩, .bool false, .slice none 0 0, .nilFunc, .nilFunc]
      have hS4 := And.intro (kF6.cell 0 (.int .i64 k) rfl) (And.intro (kF6.cell 1 (.int .i64 st) rfl) (And.intro (kF6.cell 2 (.int .i64 lt) rfl) (kF6.cell 3 (.int .i64 wi) rfl)))
      refine hK.out _ _ hS4 (fun h => absurd h (by decide)) ?_
      clear hK K
      try simp only [Act.put, List.getElem_toArray, List.getElem_cons_succ, List.getElem_cons_zero, List.setIfInBounds_toArray, List.set_cons_zero, List.set_cons_succ]
      refine wpAnyJ_ready [2] (by kernel_rfl) (by simp) (NextJ.cons rfl (fun K hK => ?_) NextJ.nil)
      have hKA6 := hKA.below (Below.alloc (Below.refl _ w5) (Nat.le_refl _) (.cells #[.int .i64 0, .string ⟨#[]⟩, .bool false, .slice none 0 0, .nilFunc, .nilFunc] 106)) (Nat.le_refl _)
      have hKA6 : KindsAt (w5.alloc (.cells #[.int .i64 0, .string ⟨#[]⟩, .bool false, .slice none 0 0, .nilFunc, .nilFunc] 106)) (w5.alloc (.cells #[.int .i64 0, .string ⟨#[]⟩, .bool false, .slice none 0 0, .nilFunc, .nilFunc] 106)).heap.size g KA := ⟨Nat.lt_of_lt_of_le hKA6.lt (by simp), hKA6.blk, hKA6.wa.more (by simp), hKA6.wb.more (by simp), hKA6.wp.more (by simp)⟩
      go_simp
      refine (find_any g KA ⟨k, st, lt, wi⟩ (w5.alloc (.cells #[.int .i64 0, .string ⟨#[]⟩, .bool false, .slice none 0 0, .nilFunc, .nilFunc] 106)) (w5.alloc (.cells #[.int .i64 0, .string ⟨#[]⟩, .bool false, .slice none 0 0, .nilFunc, .nilFunc] 106)).heap.size hKA6 (Nat.le_refl _)).mono ?_
      rintro e w7 ⟨rfl, hB7⟩
      have kF7 := kF6.below' hB7
      have kB7 := kB6.below' hB7
      have hS5 := And.intro (kF7.cell 0 (.int .i64 k) rfl) (And.intro (kF7.cell 1 (.int .i64 st) rfl) (And.intro (kF7.cell 2 (.int .i64 lt) rfl) (kF7.cell 3 (.int .i64 wi) rfl)))
      have hkc : (kcell KA k).toArray = #[.int .i64 0, .string ⟨#[]⟩, .bool false, .slice none 0 0, .nilFunc, .nilFunc] := by unfold kcell; rw [if_neg hin.out]
      rw [show (⟨k, st, lt, wi⟩ : Flt).k = k from rfl, hkc, hs.out]
      clear hkc
      go_simp
      refine hK.out _ _ hS5 (fun h => absurd h (by decide)) ?_
      clear hK K
      try simp only [Act.put, List.getElem_toArray, List.getElem_cons_succ, List.getElem_cons_zero, List.setIfInBounds_toArray, List.set_cons_zero, List.set_cons_succ]
      refine wpAnyJ_take1 3 rfl (by kernel_rfl) (by kernel_rfl) rfl (by kernel_rfl) (fun _ _ _ h => h) (by rfl) hS5 (fun w' hSw => (by obtain ⟨z1, z2, z3, z4⟩ := hSw; go_simp; try (with_reducible rfl))) ?_
      try simp only [Act.put, List.getElem_toArray, List.getElem_cons_succ, List.getElem_cons_zero, List.setIfInBounds_toArray, List.set_cons_zero, List.set_cons_succ]
      refine wpAnyJ_take1 4 rfl (by kernel_rfl) (by kernel_rfl) rfl (by kernel_rfl) (fun _ _ _ h => h) (by rfl) hS5 (fun w' hSw => (by obtain ⟨z1, z2, z3, z4⟩ := hSw; go_simp; try (with_reducible rfl))) ?_
      try simp only [Act.put, List.getElem_toArray, List.getElem_cons_succ, List.getElem_cons_zero, List.setIfInBounds_toArray, List.set_cons_zero, List.set_cons_succ]
      refine wpAnyJ_take1 5 rfl (by kernel_rfl) (by kernel_rfl) rfl (by kernel_rfl) (fun _ _ _ h => h) (by rfl) hS5 (fun w' hSw => (by obtain ⟨z1, z2, z3, z4⟩ := hSw; go_simp; try (with_reducible rfl))) ?_
      try simp only [Act.put, List.getElem_toArray, List.getElem_cons_succ, List.getElem_cons_zero, List.setIfInBounds_toArray, List.set_cons_zero, List.set_cons_succ]
      have hBt : Below W.heap.size W w7 := (Below.alloc hB5' hB5'.size _).trans (hB7.mono (Nat.le_trans hB5'.size (by simp)))
      have kz0 : Blk w7 w5.heap.size 106 #[.int .i64 0, .string ⟨#[]⟩, .bool false, .slice none 0 0, .nilFunc, .nilFunc] := kB7
      have y0 := kz0.cell 0 (.int .i64 0) rfl
      have x0 := kz0.frozen 0
      have kz1 := kz0.set_ 0 (.int .i64 0)
      have y1 := kz1.cell 1 (.string ⟨#[]⟩) rfl
      have x1 := kz1.frozen 1
      have kz2 := kz1.set_ 1 (.string ⟨#[]⟩)
      have y2 := kz2.cell 2 (.bool false) rfl
      have x2 := kz2.frozen 2
      have kz3 := kz2.set_ 2 (.bool false)
      have y3 := kz3.cell 3 (.slice none 0 0) rfl
      have x3 := kz3.frozen 3
      have kz4 := kz3.set_ 3 (.slice none 0 0)
      have y4 := kz4.cell 4 (.nilFunc) rfl
      have x4 := kz4.frozen 4
      have kz5 := kz4.set_ 4 (.nilFunc)
      have y5 := kz5.cell 5 (.nilFunc) rfl
      have x5 := kz5.frozen 5
      have kz6 := kz5.set_ 5 (.nilFunc)
      have bxl := kz0.lt
      refine wpAnyJ_ready [7] (by kernel_rfl) (by simp) (NextJ.cons rfl (fun K hK => ?_) NextJ.nil)
      go_simp
      have hge : W.heap.size ≤ w5.heap.size := by first | exact Nat.le_refl _ | exact hB5'.size
      have hne : w.heap.size ≠ w5.heap.size := by omega
      have kE := kz6
      have fE := (Blk.far (Blk.far (Blk.far (Blk.far (Blk.far (Blk.far kF7 (p := ⟨w5.heap.size, 0, none⟩) hne (.int .i64 0)) (p := ⟨w5.heap.size, 1, none⟩) hne (.string ⟨#[]⟩)) (p := ⟨w5.heap.size, 2, none⟩) hne (.bool false)) (p := ⟨w5.heap.size, 3, none⟩) hne (.slice none 0 0)) (p := ⟨w5.heap.size, 4, none⟩) hne (.nilFunc)) (p := ⟨w5.heap.size, 5, none⟩) hne (.nilFunc))
      have hBE := (Below.setCell (Below.setCell (Below.setCell (Below.setCell (Below.setCell (Below.setCell hBt (p := ⟨w5.heap.size, 0, none⟩) hge (.int .i64 0)) (p := ⟨w5.heap.size, 1, none⟩) hge (.string ⟨#[]⟩)) (p := ⟨w5.heap.size, 2, none⟩) hge (.bool false)) (p := ⟨w5.heap.size, 3, none⟩) hge (.slice none 0 0)) (p := ⟨w5.heap.size, 4, none⟩) hge (.nilFunc)) (p := ⟨w5.heap.size, 5, none⟩) hge (.nilFunc))
      have hS9 := And.intro (fE.cell 0 (.int .i64 k) rfl) (And.intro (fE.cell 1 (.int .i64 st) rfl) (And.intro (fE.cell 2 (.int .i64 lt) rfl) (fE.cell 3 (.int .i64 wi) rfl)))
      refine hK.out _ _ hS9 (fun h => absurd h (by decide)) ?_
      clear hK K
      try simp only [Act.put, List.getElem_toArray, List.getElem_cons_succ, List.getElem_cons_zero, List.setIfInBounds_toArray, List.set_cons_zero, List.set_cons_succ]
      refine wpAnyJ_take1 8 rfl (by kernel_rfl) (by kernel_rfl) rfl (by kernel_rfl) (fun _ _ _ h => h) (by rfl) hS9 (fun w' hSw => (by obtain ⟨z1, z2, z3, z4⟩ := hSw; go_simp; try (with_reducible rfl))) ?_
      try simp only [Act.put, List.getElem_toArray, List.getElem_cons_succ, List.getElem_cons_zero, List.setIfInBounds_toArray, List.set_cons_zero, List.set_cons_succ]
      refine wpAnyJ_done (by kernel_rfl) ?_ _
      obtain ⟨q0, q1, q2, q3⟩ := hS9
      clear hS1 y0 x0 y1 x1 y2 x2 y3 x3 y4 x4 y5 x5
      have hsE := kE.lt
      have hQ := hBB.trans (hBE.mono hBB.size)
      clear hBt kz0 kz1 kz2 kz3 kz4 kz5 kz6
      generalize ((((((w7.setCell ⟨w5.heap.size, 0, none⟩ (.int .i64 0)).setCell ⟨w5.heap.size, 1, none⟩ (.string ⟨#[]⟩)).setCell ⟨w5.heap.size, 2, none⟩ (.bool false)).setCell ⟨w5.heap.size, 3, none⟩ (.slice none 0 0)).setCell ⟨w5.heap.size, 4, none⟩ (.nilFunc)).setCell ⟨w5.heap.size, 5, none⟩ (.nilFunc)) = W9 at *
      go_wp2_with fail
      go_ret2
      exact ⟨rfl, hQ⟩
  · skip
    go_simp
    have kF6 := kF.drew.alloc (.cells #[.int .i64 0, .string ⟨#[]⟩, .bool false, .slice none 0 0, .nilFunc, .nilFunc] 106)
    have kB6 := Blk.new W.drew 106 #[.int .i64 0, .string ⟨#[]⟩, .bool false, .slice none 0 0, .nilFunc, .nilFunc]
    have hS6 := And.intro (kF6.cell 0 (.int .i64 k) rfl) (And.intro (kF6.cell 1 (.int .i64 st) rfl) (And.intro (kF6.cell 2 (.int .i64 lt) rfl) (kF6.cell 3 (.int .i64 wi) rfl)))
    refine hK.out _ _ hS6 (fun h => absurd h (by decide)) ?_
    clear hK K
    try simp only [Act.put, List.getElem_toArray, List.getElem_cons_succ, List.getElem_cons_zero, List.setIfInBounds_toArray, List.set_cons_zero, List.set_cons_succ]
    refine wpAnyJ_ready [0] (by kernel_rfl) (by simp) (NextJ.cons rfl (fun K hK => ?_) NextJ.nil)
    go_simp
    refine (kinds_any (W.drew.alloc (.cells #[.int .i64 0, .string ⟨#[]⟩, .bool false, .slice none 0 0, .nilFunc, .nilFunc] 106))).mono ?_
    rintro e w5 ⟨g, KA, rfl, hKA, hB5⟩
    have hB5' : Below W.heap.size W w5 := ⟨hB5.os, hB5.tape, hB5.output, Nat.le_trans (by simp) hB5.size, fun k hk => (hB5.block k (Nat.lt_of_lt_of_le hk (by simp))).trans (by first | rfl | exact Below.heap_alloc W.drew _ k hk)⟩
    have kF5 := kF6.below' hB5
    have kB5 := kB6.below' hB5
    have hS7 := And.intro (kF5.cell 0 (.int .i64 k) rfl) (And.intro (kF5.cell 1 (.int .i64 st) rfl) (And.intro (kF5.cell 2 (.int .i64 lt) rfl) (kF5.cell 3 (.int .i64 wi) rfl)))
    go_simp
    refine hK.out _ _ hS7 (fun h => absurd h (by decide)) ?_
    clear hK K
    try simp only [Act.put, List.getElem_toArray, List.getElem_cons_succ, List.getElem_cons_zero, List.setIfInBounds_toArray, List.set_cons_zero, List.set_cons_succ]
    refine wpAnyJ_ready [2] (by kernel_rfl) (by simp) (NextJ.cons rfl (fun K hK => ?_) NextJ.nil)
    go_simp
    refine (find_any g KA ⟨k, st, lt, wi⟩ w5 w5.heap.size hKA (Nat.le_refl _)).mono ?_
    rintro e w7 ⟨rfl, hB7⟩
    have kF7 := kF5.below' hB7
    have kB7 := kB5.below' hB7
    have hS8 := And.intro (kF7.cell 0 (.int .i64 k) rfl) (And.intro (kF7.cell 1 (.int .i64 st) rfl) (And.intro (kF7.cell 2 (.int .i64 lt) rfl) (kF7.cell 3 (.int .i64 wi) rfl)))
    have hkc : (kcell KA k).toArray = #[.int .i64 0, .string ⟨#[]⟩, .bool false, .slice none 0 0, .nilFunc, .nilFunc] := by unfold kcell; rw [if_neg hin.out]
    rw [show (⟨k, st, lt, wi⟩ : Flt).k = k from rfl, hkc, hs.out]
    clear hkc
    go_simp
    refine hK.out _ _ hS8 (fun h => absurd h (by decide)) ?_
    clear hK K
    try simp only [Act.put, List.getElem_toArray, List.getElem_cons_succ, List.getElem_cons_zero, List.setIfInBounds_toArray, List.set_cons_zero, List.set_cons_succ]
    refine wpAnyJ_take1 3 rfl (by kernel_rfl) (by kernel_rfl) rfl (by kernel_rfl) (fun _ _ _ h => h) (by rfl) hS8 (fun w' hSw => (by obtain ⟨z1, z2, z3, z4⟩ := hSw; go_simp; try (with_reducible rfl))) ?_
    try simp only [Act.put, List.getElem_toArray, List.getElem_cons_succ, List.getElem_cons_zero, List.setIfInBounds_toArray, List.set_cons_zero, List.set_cons_succ]
    refine wpAnyJ_take1 4 rfl (by kernel_rfl) (by kernel_rfl) rfl (by kernel_rfl) (fun _ _ _ h => h) (by rfl) hS8 (fun w' hSw => (by obtain ⟨z1, z2, z3, z4⟩ := hSw; go_simp; try (with_reducible rfl))) ?_
    try simp only [Act.put, List.getElem_toArray, List.getElem_cons_succ, List.getElem_cons_zero, List.setIfInBounds_toArray, List.set_cons_zero, List.set_cons_succ]
    refine wpAnyJ_take1 5 rfl (by kernel_rfl) (by kernel_rfl) rfl (by kernel_rfl) (fun _ _ _ h => h) (by rfl) hS8 (fun w' hSw => (by obtain ⟨z1, z2, z3, z4⟩ := hSw; go_simp; try (with_reducible rfl))) ?_
    try simp only [Act.put, List.getElem_toArray, List.getElem_cons_succ, List.getElem_cons_zero, List.setIfInBounds_toArray, List.set_cons_zero, List.set_cons_succ]
    have hBt : Below W.heap.size W w7 := hB5'.trans (hB7.mono hB5'.size)
    have kz0 : Blk w7 W.heap.size 106 #[.int .i64 0, .string ⟨#[]⟩, .bool false, .slice none 0 0, .nilFunc, .nilFunc] := kB7
    have y0 := kz0.cell 0 (.int .i64 0) rfl
    have x0 := kz0.frozen 0
    have kz1 := kz0.set_ 0 (.int .i64 0)
    have y1 := kz1.cell 1 (.string ⟨#[]⟩) rfl
    have x1 := kz1.frozen 1
    have kz2 := kz1.set_ 1 (.string ⟨#[]⟩)
    have y2 := kz2.cell 2 (.bool false) rfl
    have x2 := kz2.frozen 2
    have kz3 := kz2.set_ 2 (.bool false)
    have y3 := kz3.cell 3 (.slice none 0 0) rfl
    have x3 := kz3.frozen 3
    have kz4 := kz3.set_ 3 (.slice none 0 0)
    have y4 := kz4.cell 4 (.nilFunc) rfl
    have x4 := kz4.frozen 4
    have kz5 := kz4.set_ 4 (.nilFunc)
    have y5 := kz5.cell 5 (.nilFunc) rfl
    have x5 := kz5.frozen 5
    have kz6 := kz5.set_ 5 (.nilFunc)
    have bxl := kz0.lt
    refine wpAnyJ_ready [7] (by kernel_rfl) (by simp) (NextJ.cons rfl (fun K hK => ?_) NextJ.nil)
    go_simp
    have hge : W.heap.size ≤ W.heap.size := by first | exact Nat.le_refl _ | exact hB5'.size
    have hne : w.heap.size ≠ W.heap.size := by omega
    have kE := kz6
    have fE := (Blk.far (Blk.far (Blk.far (Blk.far (Blk.far (Blk.far kF7 (p := ⟨W.heap.size, 0, none⟩) hne (.int .i64 0)) (p := ⟨W.heap.size, 1, none⟩) hne (.string ⟨#[]⟩)) (p := ⟨W.heap.size, 2, none⟩) hne (.bool false)) (p := ⟨W.heap.size, 3, none⟩) hne (.slice none 0 0)) (p := ⟨W.heap.size, 4, none⟩) hne (.nilFunc)) (p := ⟨W.heap.size, 5, none⟩) hne (.nilFunc))
    have hBE := (Below.setCell (Below.setCell (Below.setCell (Below.setCell (Below.setCell (Below.setCell hBt (p := ⟨W.heap.size, 0, none⟩) hge (.int .i64 0)) (p := ⟨W.heap.size, 1, none⟩) hge (.string ⟨#[]⟩)) (p := ⟨W.heap.size, 2, none⟩) hge (.bool false)) (p := ⟨W.heap.size, 3, none⟩) hge (.slice none 0 0)) (p := ⟨W.heap.size, 4, none⟩) hge (.nilFunc)) (p := ⟨W.heap.size, 5, none⟩) hge (.nilFunc))
    have hS9 := And.intro (fE.cell 0 (.int .i64 k) rfl) (And.intro (fE.cell 1 (.int .i64 st) rfl) (And.intro (fE.cell 2 (.int .i64 lt) rfl) (fE.cell 3 (.int .i64 wi) rfl)))
    refine hK.out _ _ hS9 (fun h => absurd h (by decide)) ?_
    clear hK K
    try simp only [Act.put, List.getElem_toArray, List.getElem_cons_succ, List.getElem_cons_zero, List.setIfInBounds_toArray, List.set_cons_zero, List.set_cons_succ]
    refine wpAnyJ_take1 8 rfl (by kernel_rfl) (by kernel_rfl) rfl (by kernel_rfl) (fun _ _ _ h => h) (by rfl) hS9 (fun w' hSw => (by obtain ⟨z1, z2, z3, z4⟩ := hSw; go_simp; try (with_reducible rfl))) ?_
    try simp only [Act.put, List.getElem_toArray, List.getElem_cons_succ, List.getElem_cons_zero, List.setIfInBounds_toArray, List.set_cons_zero, List.set_cons_succ]
    refine wpAnyJ_done (by kernel_rfl) ?_ _
    obtain ⟨q0, q1, q2, q3⟩ := hS9
    clear hS1 y0 x0 y1 x1 y2 x2 y3 x3 y4 x4 y5 x5
    have hsE := kE.lt
    have hQ := hBB.trans (hBE.mono hBB.size)
    clear hBt kz0 kz1 kz2 kz3 kz4 kz5 kz6
    generalize ((((((w7.setCell ⟨W.heap.size, 0, none⟩ (.int .i64 0)).setCell ⟨W.heap.size, 1, none⟩ (.string ⟨#[]⟩)).setCell ⟨W.heap.size, 2, none⟩ (.bool false)).setCell ⟨W.heap.size, 3, none⟩ (.slice none 0 0)).setCell ⟨W.heap.size, 4, none⟩ (.nilFunc)).setCell ⟨W.heap.size, 5, none⟩ (.nilFunc)) = W9 at *
    go_wp2_with fail
    go_ret2
    exact ⟨rfl, hQ⟩
set_option maxRecDepth 100000 in
set_option maxHeartbeats 8000000 in
theorem fprn_1 (k st lt wi : Int) (hin : Hid ((1 ≤ k ∧ k ≤ 6))) (hs : Hid (shapedF ⟨k, st, lt, wi⟩ = false))  (w : World) (hDt : DtAt w) :
    Calls Tryz.prog 18 #[.agg #[.int .i64 k, .int .i64 st, .int .i64 lt, .int .i64 wi]] w (Ret (.tuple #[.string (bN (printF ⟨k, st, lt, wi⟩).1), .int .i64 (printF ⟨k, st, lt, wi⟩).2]) w) := by
  have HP : Hid (printF ⟨k, st, lt, wi⟩ = ([], 2)) := by rw [Hid]; unfold printF; rw [if_pos hs.out]
  rw [HP.out]
  obtain ⟨nm, hnm⟩ : ∃ x, Hid (kname k = x) := ⟨_, Lib.hid rfl⟩
  obtain ⟨kl, hkl⟩ : ∃ x, Hid (klet k = x) := ⟨_, Lib.hid rfl⟩
  obtain ⟨i1, hi1⟩ : ∃ x, Hid (klf k = x) := ⟨_, Lib.hid rfl⟩
  obtain ⟨i2, hi2⟩ : ∃ x, Hid (kpf k = x) := ⟨_, Lib.hid rfl⟩
  obtain ⟨n9, hn9⟩ : ∃ x, Hid ((withsL k).length = x) := ⟨_, Lib.hid rfl⟩
  have hBB : Below w.heap.size w (w.alloc (.cells #[.int .i64 k, .int .i64 st, .int .i64 lt, .int .i64 wi] 41)) := (Below.refl _ _).alloc (Nat.le_refl _) _
  have kF := Blk.new w 41 #[.int .i64 k, .int .i64 st, .int .i64 lt, .int .i64 wi]
  go_enter Tryz.func18, Tryz.ntmps18
  go_wp2_with fail
  have fl := kF.lt
  generalize w.alloc (.cells #[.int .i64 k, .int .i64 st, .int .i64 lt, .int .i64 wi] 41) = W at *
  have p0 := kF.cell 0 (.int .i64 k) rfl
  have p1 := kF.cell 1 (.int .i64 st) rfl
  have p2 := kF.cell 2 (.int .i64 lt) rfl
  have p3 := kF.cell 3 (.int .i64 wi) rfl
  refine wp_region_J (fun w' => w'.cell? ⟨w.heap.size, 0, none⟩ = some (.int .i64 k) ∧ w'.cell? ⟨w.heap.size, 1, none⟩ = some (.int .i64 st) ∧ w'.cell? ⟨w.heap.size, 2, none⟩ = some (.int .i64 lt) ∧ w'.cell? ⟨w.heap.size, 3, none⟩ = some (.int .i64 wi)) (fun _ => True) (fun _ => false) (by kernel_rfl) ?_
  have hS1 : W.drew.cell? ⟨w.heap.size, 0, none⟩ = some (.int .i64 k) ∧ W.drew.cell? ⟨w.heap.size, 1, none⟩ = some (.int .i64 st) ∧ W.drew.cell? ⟨w.heap.size, 2, none⟩ = some (.int .i64 lt) ∧ W.drew.cell? ⟨w.heap.size, 3, none⟩ = some (.int .i64 wi) := ⟨p0, p1, p2, p3⟩
  refine wpAnyJ_take1 1 rfl (by kernel_rfl) (by kernel_rfl) rfl (by kernel_rfl) (fun _ _ _ h => h) (by rfl) hS1 (fun w' hSw => (by obtain ⟨z1, z2, z3, z4⟩ := hSw; go_simp; try (with_reducible rfl))) ?_
  try simp only [Act.put, List.getElem_toArray, List.getElem_cons_succ, List.getElem_cons_zero, List.setIfInBounds_toArray, List.set_cons_zero, List.set_cons_succ]
  refine wpAnyJ_ready [0, 6] (by kernel_rfl) (by simp) (NextJ.cons rfl (fun K hK => ?_) (NextJ.cons rfl (fun K hK => ?_) NextJ.nil))
  · skip
    go_simp
    refine (kinds_any W.drew).mono ?_
    rintro e w5 ⟨g, KA, rfl, hKA, hB5⟩
    have hB5' : Below W.heap.size W w5 := ⟨hB5.os, hB5.tape, hB5.output, Nat.le_trans (by simp) hB5.size, fun k hk => (hB5.block k (Nat.lt_of_lt_of_le hk (by simp))).trans (by first | rfl | exact Below.heap_alloc W.drew _ k hk)⟩
    have kF5 := kF.drew.below' hB5
    have hS1 := And.intro (kF5.cell 0 (.int .i64 k) rfl) (And.intro (kF5.cell 1 (.int .i64 st) rfl) (And.intro (kF5.cell 2 (.int .i64 lt) rfl) (kF5.cell 3 (.int .i64 wi) rfl)))
    go_simp
    refine hK.out _ _ hS1 (fun h => absurd h (by decide)) ?_
    clear hK K
    try simp only [Act.put, List.getElem_toArray, List.getElem_cons_succ, List.getElem_cons_zero, List.setIfInBounds_toArray, List.set_cons_zero, List.set_cons_succ]
    refine wpAnyJ_ready [2, 6] (by kernel_rfl) (by simp) (NextJ.cons rfl (fun K hK => ?_) (NextJ.cons rfl (fun K hK => ?_) NextJ.nil))
    · skip
      go_simp
      refine (find_any g KA ⟨k, st, lt, wi⟩ w5 w5.heap.size hKA (Nat.le_refl _)).mono ?_
      rintro e w7 ⟨rfl, hB7⟩
      have kF7 := kF5.below' hB7
      have hS2 := And.intro (kF7.cell 0 (.int .i64 k) rfl) (And.intro (kF7.cell 1 (.int .i64 st) rfl) (And.intro (kF7.cell 2 (.int .i64 lt) rfl) (kF7.cell 3 (.int .i64 wi) rfl)))
      obtain ⟨A9, c9, hv9, _, _⟩ := hKA.withs (k := k)
      rw [hn9.out] at hv9
      have hkc : (kcell KA k).toArray = #[.int .i64 k, .string nm, .bool kl, .slice A9 n9 c9, .func (.func i1) #[] #[], .func (.func i2) #[] #[]] := by unfold kcell; rw [if_pos hin.out]; unfold kcells; rw [hv9, hnm.out, hkl.out, hi1.out, hi2.out]
      rw [show (⟨k, st, lt, wi⟩ : Flt).k = k from rfl, hkc, hs.out]
      clear hkc hv9
      go_simp
      refine hK.out _ _ hS2 (fun h => absurd h (by decide)) ?_
      clear hK K
      try simp only [Act.put, List.getElem_toArray, List.getElem_cons_succ, List.getElem_cons_zero, List.setIfInBounds_toArray, List.set_cons_zero, List.set_cons_succ]
      refine wpAnyJ_take1 3 rfl (by kernel_rfl) (by kernel_rfl) rfl (by kernel_rfl) (fun _ _ _ h => h) (by rfl) hS2 (fun w' hSw => (by obtain ⟨z1, z2, z3, z4⟩ := hSw; go_simp; try (with_reducible rfl))) ?_
      try simp only [Act.put, List.getElem_toArray, List.getElem_cons_succ, List.getElem_cons_zero, List.setIfInBounds_toArray, List.set_cons_zero, List.set_cons_succ]
      refine wpAnyJ_take1 4 rfl (by kernel_rfl) (by kernel_rfl) rfl (by kernel_rfl) (fun _ _ _ h => h) (by rfl) hS2 (fun w' hSw => (by obtain ⟨z1, z2, z3, z4⟩ := hSw; go_simp; try (with_reducible rfl))) ?_
      try simp only [Act.put, List.getElem_toArray, List.getElem_cons_succ, List.getElem_cons_zero, List.setIfInBounds_toArray, List.set_cons_zero, List.set_cons_succ]
      refine wpAnyJ_take1 5 rfl (by kernel_rfl) (by kernel_rfl) rfl (by kernel_rfl) (fun _ _ _ h => h) (by rfl) hS2 (fun w' hSw => (by obtain ⟨z1, z2, z3, z4⟩ := hSw; go_simp; try (with_reducible rfl))) ?_
      try simp only [Act.put, List.getElem_toArray, List.getElem_cons_succ, List.getElem_cons_zero, List.setIfInBounds_toArray, List.set_cons_zero, List.set_cons_succ]
      refine wpAnyJ_ready [6] (by kernel_rfl) (by simp) (NextJ.cons rfl (fun K hK => ?_) NextJ.nil)
      go_simp
      have kF6 := kF7.alloc (.cells #[.int .i64 0, .string ⟨#[]⟩, .bool false, .slice none 0 0, .nilFunc, .nilFunc] 106)
      have kB6 := Blk.new w7 106 #[.int .i64 0, .string ⟨#[]⟩, .bool false, .slice none 0 0, .nilFunc, .nilFunc]
      have hS3 := And.intro (kF6.cell 0 (.int .i64 k) rfl) (And.intro (kF6.cell 1 (.int .i64 st) rfl) (And.intro (kF6.cell 2 (.int .i64 lt) rfl) (kF6.cell 3 (.int .i64 wi) rfl)))
      refine hK.out _ _ hS3 (fun h => absurd h (by decide)) ?_
      clear hK K
      try simp only [Act.put, List.getElem_toArray, List.getElem_cons_succ, List.getElem_cons_zero, List.setIfInBounds_toArray, List.set_cons_zero, List.set_cons_succ]
      have hBt : Below W.heap.size W (w7.alloc (.cells #[.int .i64 0, .string ⟨#[]⟩, .bool false, .slice none 0 0, .nilFunc, .nilFunc] 106)) := Below.alloc (hB5'.trans (hB7.mono hB5'.size)) (Nat.le_trans hB5'.size hB7.size) _
      have kz0 : Blk (w7.alloc (.cells #[.int .i64 0, .string ⟨#[]⟩, .bool false, .slice none 0 0, .nilFunc, .nilFunc] 106)) w7.heap.size 106 #[.int .i64 0, .string ⟨#[]⟩, .bool false, .slice none 0 0, .nilFunc, .nilFunc] := kB6
      have y0 := kz0.cell 0 (.int .i64 0) rfl
      have x0 := kz0.frozen 0
      have kz1 := kz0.set_ 0 (.int .i64 k)
      have y1 := kz1.cell 1 (.string ⟨#[]⟩) rfl
      have x1 := kz1.frozen 1
      have kz2 := kz1.set_ 1 (.string nm)
      have y2 := kz2.cell 2 (.bool false) rfl
      have x2 := kz2.frozen 2
      have kz3 := kz2.set_ 2 (.bool kl)
      have y3 := kz3.cell 3 (.slice none 0 0) rfl
      have x3 := kz3.frozen 3
      have kz4 := kz3.set_ 3 (.slice A9 n9 c9)
      have y4 := kz4.cell 4 (.nilFunc) rfl
      have x4 := kz4.frozen 4
      have kz5 := kz4.set_ 4 (.func (.func i1) #[] #[])
      have y5 := kz5.cell 5 (.nilFunc) rfl
      have x5 := kz5.frozen 5
      have kz6 := kz5.set_ 5 (.func (.func i2) #[] #[])
      have bxl := kz0.lt
      refine wpAnyJ_ready [7] (by kernel_rfl) (by simp) (NextJ.cons rfl (fun K hK => ?_) NextJ.nil)
      go_simp
      have kE := Blk.new w7 106 #[.int .i64 k, .string nm, .bool kl, .slice A9 n9 c9, .func (.func i1) #[] #[], .func (.func i2) #[] #[]]
      have fE := kF7.alloc (.cells #[.int .i64 k, .string nm, .bool kl, .slice A9 n9 c9, .func (.func i1) #[] #[], .func (.func i2) #[] #[]] 106)
      have hBE : Below W.heap.size W (w7.alloc (.cells #[.int .i64 k, .string nm, .bool kl, .slice A9 n9 c9, .func (.func i1) #[] #[], .func (.func i2) #[] #[]] 106)) := Below.alloc (hB5'.trans (hB7.mono hB5'.size)) (Nat.le_trans hB5'.size hB7.size) _
      have hS9 := And.intro (fE.cell 0 (.int .i64 k) rfl) (And.intro (fE.cell 1 (.int .i64 st) rfl) (And.intro (fE.cell 2 (.int .i64 lt) rfl) (fE.cell 3 (.int .i64 wi) rfl)))
      refine hK.out _ _ hS9 (fun h => absurd h (by decide)) ?_
      clear hK K
      try simp only [Act.put, List.getElem_toArray, List.getElem_cons_succ, List.getElem_cons_zero, List.setIfInBounds_toArray, List.set_cons_zero, List.set_cons_succ]
      refine wpAnyJ_take1 8 rfl (by kernel_rfl) (by kernel_rfl) rfl (by kernel_rfl) (fun _ _ _ h => h) (by rfl) hS9 (fun w' hSw => (by obtain ⟨z1, z2, z3, z4⟩ := hSw; go_simp; try (with_reducible rfl))) ?_
      try simp only [Act.put, List.getElem_toArray, List.getElem_cons_succ, List.getElem_cons_zero, List.setIfInBounds_toArray, List.set_cons_zero, List.set_cons_succ]
      refine wpAnyJ_done (by kernel_rfl) ?_ _
      obtain ⟨q0, q1, q2, q3⟩ := hS9
      clear hS1 y0 x0 y1 x1 y2 x2 y3 x3 y4 x4 y5 x5
      have hsE := kE.lt
      have hQ := hBB.trans (hBE.mono hBB.size)
      clear hBt kz0 kz1 kz2 kz3 kz4 kz5 kz6
      generalize (w7.alloc (.cells #[.int .i64 k, .string nm, .bool kl, .slice A9 n9 c9, .func (.func i1) #[] #[], .func (.func i2) #[] #[]] 106)) = W9 at *
      go_wp2_with fail
      go_ret2
      exact ⟨rfl, hQ⟩
    · skip
      go_simp
      have kF6 := kF5.alloc (.cells #[.int .i64 0, .string ⟨#[]⟩, .bool false, .slice none 0 0, .nilFunc, .nilFunc] 106)
      have kB6 := Blk.new w5 106 #[.int .i64 0, .string ⟨#[]⟩, .bool false, .slice none 0 0, .nilFunc, .nilFunc]
      have hS4 := And.intro (kF6.cell 0 (.int .i64 k) rfl) (And.intro (kF6.cell 1 (.int .i64 st) rfl) (And.intro (kF6.cell 2 (.int .i64 lt) rfl) (kF6.cell 3 (.int .i64 wi) rfl)))
      refine hK.out _ _ hS4 (fun h => absurd h (by decide)) ?_
      clear hK K
      try simp only [Act.put, List.getElem_toArray, List.getElem_cons_succ, List.getElem_cons_zero, List.setIfInBounds_toArray, List.set_cons_zero, List.set_cons_succ]
      refine wpAnyJ_ready [2] (by kernel_rfl) (by simp) (NextJ.cons rfl (fun K hK => ?_) NextJ.nil)
      have hKA6 := hKA.below (Below.alloc (Below.refl _ w5) (Nat.le_refl _) (.cells #[.int .i64 0, .string ⟨#[]⟩, .bool false, .slice none 0 0, .nilFunc, .nilFunc] 106)) (Nat.le_refl _)
      have hKA6 : KindsAt (w5.alloc (.cells #[.int .i64 0, .string ⟨#[]⟩, .bool false, .slice none 0 0, .nilFunc, .nilFunc] 106)) (w5.alloc (.cells #[.int .i64 0, .string ⟨#[]⟩, .bool false, .slice none 0 0, .nilFunc, .nilFunc] 106)).heap.size g KA := ⟨Nat.lt_of_lt_of_le hKA6.lt (by simp), hKA6.blk, hKA6.wa.more (by simp), hKA6.wb.more (by simp), hKA6.wp.more (by simp)⟩
      go_simp
      refine (find_any g KA ⟨k, st, lt, wi⟩ (w5.alloc (.cells #[.int .i64 0, .string ⟨#[]⟩, .bool false, .slice none 0 0, .nilFunc, .nilFunc] 106)) (w5.alloc (.cells #[.int .i64 0, .string ⟨#[]⟩, .bool false, .slice none 0 0, .nilFunc, .nilFunc] 106)).heap.size hKA6 (Nat.le_refl _)).mono ?_
      rintro e w7 ⟨rfl, hB7⟩
      have kF7 := kF6.below' hB7
      have kB7 := kB6.below' hB7
      have hS5 := And.intro (kF7.cell 0 (.int .i64 k) rfl) (And.intro (kF7.cell 1 (.int .i64 st) rfl) (And.intro (kF7.cell 2 (.int .i64 lt) rfl) (kF7.cell 3 (.int .i64 wi) rfl)))
      obtain ⟨A9, c9, hv9, _, _⟩ := hKA6.withs (k := k)
      rw [hn9.out] at hv9
      have hkc : (kcell KA k).toArray = #[.int .i64 k, .string nm, .bool kl, .slice A9 n9 c9, .func (.func i1) #[] #[], .func (.func i2) #[] #[]] := by unfold kcell; rw [if_pos hin.out]; unfold kcells; rw [hv9, hnm.out, hkl.out, hi1.out, hi2.out]
      rw [show (⟨k, st, lt, wi⟩ : Flt).k = k from rfl, hkc, hs.out]
      clear hkc hv9
      go_simp
      refine hK.out _ _ hS5 (fun h => absurd h (by decide)) ?_
      clear hK K
      try simp only [Act.put, List.getElem_toArray, List.getElem_cons_succ, List.getElem_cons_zero, List.setIfInBounds_toArray, List.set_cons_zero, List.set_cons_succ]
      refine wpAnyJ_take1 3 rfl (by kernel_rfl) (by kernel_rfl) rfl (by kernel_rfl) (fun _ _ _ h => h) (by rfl) hS5 (fun w' hSw => (by obtain ⟨z1, z2, z3, z4⟩ := hSw; go_simp; try (with_reducible rfl))) ?_
      try simp only [Act.put, List.getElem_toArray, List.getElem_cons_succ, List.getElem_cons_zero, List.setIfInBounds_toArray, List.set_cons_zero, List.set_cons_succ]
      refine wpAnyJ_take1 4 rfl (by kernel_rfl) (by kernel_rfl) rfl (by kernel_rfl) (fun _ _ _ h => h) (by rfl) hS5 (fun w' hSw => (by obtain ⟨z1, z2, z3, z4⟩ := hSw; go_simp; try (with_reducible rfl))) ?_
      try simp only [Act.put, List.getElem_toArray, List.getElem_cons_succ, List.getElem_cons_zero, List.setIfInBounds_toArray, List.set_cons_zero, List.set_cons_succ]
      refine wpAnyJ_take1 5 rfl (by kernel_rfl) (by kernel_rfl) rfl (by kernel_rfl) (fun _ _ _ h => h) (by rfl) hS5 (fun w' hSw => (by obtain ⟨z1, z2, z3, z4⟩ := hSw; go_simp; try (with_reducible rfl))) ?_
      try simp only [Act.put, List.getElem_toArray, List.getElem_cons_succ, List.getElem_cons_zero, List.setIfInBounds_toArray, List.set_cons_zero, List.set_cons_succ]
      have hBt : Below W.heap.size W w7 := (Below.alloc hB5' hB5'.size _).trans (hB7.mono (Nat.le_trans hB5'.size (by simp)))
      have kz0 : Blk w7 w5.heap.size 106 #[.int .i64 0, .string ⟨#[]⟩, .bool false, .slice none 0 0, .nilFunc, .nilFunc] := kB7
      have y0 := kz0.cell 0 (.int .i64 0) rfl
      have x0 := kz0.frozen 0
      have kz1 := kz0.set_ 0 (.int .i64 k)
      have y1 := kz1.cell 1 (.string ⟨#[]⟩) rfl
      have x1 := kz1.frozen 1
      have kz2 := kz1.set_ 1 (.string nm)
      have y2 := kz2.cell 2 (.bool false) rfl
      have x2 := kz2.frozen 2
      have kz3 := kz2.set_ 2 (.bool kl)
      have y3 := kz3.cell 3 (.slice none 0 0) rfl
      have x3 := kz3.frozen 3
      have kz4 := kz3.set_ 3 (.slice A9 n9 c9)
      have y4 := kz4.cell 4 (.nilFunc) rfl
      have x4 := kz4.frozen 4
      have kz5 := kz4.set_ 4 (.func (.func i1) #[] #[])
      have y5 := kz5.cell 5 (.nilFunc) rfl
      have x5 := kz5.frozen 5
      have kz6 := kz5.set_ 5 (.func (.func i2) #[] #[])
      have bxl := kz0.lt
      refine wpAnyJ_ready [7] (by kernel_rfl) (by simp) (NextJ.cons rfl (fun K hK => ?_) NextJ.nil)
      go_simp
      have hge : W.heap.size ≤ w5.heap.size := by first | exact Nat.le_refl _ | exact hB5'.size
      have hne : w.heap.size ≠ w5.heap.size := by omega
      have kE := kz6
      have fE := (Blk.far (Blk.far (Blk.far (Blk.far (Blk.far (Blk.far kF7 (p := ⟨w5.heap.size, 0, none⟩) hne (.int .i64 k)) (p := ⟨w5.heap.size, 1, none⟩) hne (.string nm)) (p := ⟨w5.heap.size, 2, none⟩) hne (.bool kl)) (p := ⟨w5.heap.size, 3, none⟩) hne (.slice A9 n9 c9)) (p := ⟨w5.heap.size, 4, none⟩) hne (.func (.func i1) #[] #[])) (p := ⟨w5.heap.size, 5, none⟩) hne (.func (.func i2) #[] #[]))
      have hBE := (Below.setCell (Below.setCell (Below.setCell (Below.setCell (Below.setCell (Below.setCell hBt (p := ⟨w5.heap.size, 0, none⟩) hge (.int .i64 k)) (p := ⟨w5.heap.size, 1, none⟩) hge (.string nm)) (p := ⟨w5.heap.size, 2, none⟩) hge (.bool kl)) (p := ⟨w5.heap.size, 3, none⟩) hge (.slice A9 n9 c9)) (p := ⟨w5.heap.size, 4, none⟩) hge (.func (.func i1) #[] #[])) (p := ⟨w5.heap.size, 5, none⟩) hge (.func (.func i2) #[] #[]))
      have hS9 := And.intro (fE.cell 0 (.int .i64 k) rfl) (And.intro (fE.cell 1 (.int .i64 st) rfl) (And.intro (fE.cell 2 (.int .i64 lt) rfl) (fE.cell 3 (.int .i64 wi) rfl)))
      refine hK.out _ _ hS9 (fun h => absurd h (by decide)) ?_
      clear hK K
      try simp only [Act.put, List.getElem_toArray, List.getElem_cons_succ, List.getElem_cons_zero, List.setIfInBounds_toArray, List.set_cons_zero, List.set_cons_succ]
      refine wpAnyJ_take1 8 rfl (by kernel_rfl) (by kernel_rfl) rfl (by kernel_rfl) (fun _ _ _ h => h) (by rfl) hS9 (fun w' hSw => (by obtain ⟨z1, z2, z3, z4⟩ := hSw; go_simp; try (with_reducible rfl))) ?_
      try simp only [Act.put, List.getElem_toArray, List.getElem_cons_succ, List.getElem_cons_zero, List.setIfInBounds_toArray, List.set_cons_zero, List.set_cons_succ]
      refine wpAnyJ_done (by kernel_rfl) ?_ _
      obtain ⟨q0, q1, q2, q3⟩ := hS9
      clear hS1 y0 x0 y1 x1 y2 x2 y3 x3 y4 x4 y5 x5
      have hsE := kE.lt
      have hQ := hBB.trans (hBE.mono hBB.size)
      clear hBt kz0 kz1 kz2 kz3 kz4 kz5 kz6
      generalize ((((((w7.setCell ⟨w5.heap.size, 0, none⟩ (.int .i64 k)).setCell ⟨w5.heap.size, 1, none⟩ (.string nm)).setCell ⟨w5.heap.size, 2, none⟩ (.bool kl)).setCell ⟨w5.heap.size, 3, none⟩ (.slice A9 n9 c9)).setCell ⟨w5.heap.size, 4, none⟩ (.func (.func i1) #[] #[])).setCell ⟨w5.heap.size, 5, none⟩ (.func (.func i2) #[] #[])) = W9 at *
      go_wp2_with fail
      go_ret2
      exact ⟨rfl, hQ⟩
  · skip
    go_simp
    have kF6 := kF.drew.alloc (.cells #[.int .i64 0, .string ⟨#[]⟩, .bool false, .slice none 0 0, .nilFunc, .nilFunc] 106)
    have kB6 := Blk.new W.drew 106 #[.int .i64 0, .string ⟨#[]⟩, .bool false, .slice none 0 0, .nilFunc, .nilFunc]
    have hS6 := And.intro (kF6.cell 0 (.int .i64 k) rfl) (And.intro (kF6.cell 1 (.int .i64 st) rfl) (And.intro (kF6.cell 2 (.int .i64 lt) rfl) (kF6.cell 3 (.int .i64 wi) rfl)))
    refine hK.out _ _ hS6 (fun h => absurd h (by decide)) ?_
    clear hK K
    try simp only [Act.put, List.getElem_toArray, List.getElem_cons_succ, List.getElem_cons_zero, List.setIfInBounds_toArray, List.set_cons_zero, List.set_cons_succ]
    refine wpAnyJ_ready [0] (by kernel_rfl) (by simp) (NextJ.cons rfl (fun K hK => ?_) NextJ.nil)
    go_simp
    refine (kinds_any (W.drew.alloc (.cells #[.int .i64 0, .string ⟨#[]⟩, .bool false, .slice none 0 0, .nilFunc, .nilFunc] 106))).mono ?_
    rintro e w5 ⟨g, KA, rfl, hKA, hB5⟩
    have hB5' : Below W.heap.size W w5 := ⟨hB5.os, hB5.tape, hB5.output, Nat.le_trans (by simp) hB5.size, fun k hk => (hB5.block k (Nat.lt_of_lt_of_le hk (by simp))).trans (by first | rfl | exact Below.heap_alloc W.drew _ k hk)⟩
    have kF5 := kF6.below' hB5
    have kB5 := kB6.below' hB5
    have hS7 := And.intro (kF5.cell 0 (.int .i64 k) rfl) (And.intro (kF5.cell 1 (.int .i64 st) rfl) (And.intro (kF5.cell 2 (.int .i64 lt) rfl) (kF5.cell 3 (.int .i64 wi) rfl)))
    go_simp
    refine hK.out _ _ hS7 (fun h => absurd h (by decide)) ?_
    clear hK K
    try simp only [Act.put, List.getElem_toArray, List.getElem_cons_succ, List.getElem_cons_zero, List.setIfInBounds_toArray, List.set_cons_zero, List.set_cons_succ]
    refine wpAnyJ_ready [2] (by kernel_rfl) (by simp) (NextJ.cons rfl (fun K hK => ?_) NextJ.nil)
    go_simp
    refine (find_any g KA ⟨k, st, lt, wi⟩ w5 w5.heap.size hKA (Nat.le_refl _)).mono ?_
    rintro e w7 ⟨rfl, hB7⟩
    have kF7 := kF5.below' hB7
    have kB7 := kB5.below' hB7
    have hS8 := And.intro (kF7.cell 0 (.int .i64 k) rfl) (And.intro (kF7.cell 1 (.int .i64 st) rfl) (And.intro (kF7.cell 2 (.int .i64 lt) rfl) (kF7.cell 3 (.int .i64 wi) rfl)))
    obtain ⟨A9, c9, hv9, _, _⟩ := hKA.withs (k := k)
    rw [hn9.out] at hv9
    have hkc : (kcell KA k).toArray = #[.int .i64 k, .string nm, .bool kl, .slice A9 n9 c9, .func (.func i1) #[] #[], .func (.func i2) #[] #[]] := by unfold kcell; rw [if_pos hin.out]; unfold kcells; rw [hv9, hnm.out, hkl.out, hi1.out, hi2.out]
    rw [show (⟨k, st, lt, wi⟩ : Flt).k = k from rfl, hkc, hs.out]
    clear hkc hv9
    go_simp
    refine hK.out _ _ hS8 (fun h => absurd h (by decide)) ?_
    clear hK K
    try simp only [Act.put, List.getElem_toArray, List.getElem_cons_succ, List.getElem_cons_zero, List.setIfInBounds_toArray, List.set_cons_zero, List.set_cons_succ]
    refine wpAnyJ_take1 3 rfl (by kernel_rfl) (by kernel_rfl) rfl (by kernel_rfl) (fun _ _ _ h => h) (by rfl) hS8 (fun w' hSw => (by obtain ⟨z1, z2, z3, z4⟩ := hSw; go_simp; try (with_reducible rfl))) ?_
    try simp only [Act.put, List.getElem_toArray, List.getElem_cons_succ, List.getElem_cons_zero, List.setIfInBounds_toArray, List.set_cons_zero, List.set_cons_succ]
    refine wpAnyJ_take1 4 rfl (by kernel_rfl) (by kernel_rfl) rfl (by kernel_rfl) (fun _ _ _ h => h) (by rfl) hS8 (fun w' hSw => (by obtain ⟨z1, z2, z3, z4⟩ := hSw; go_simp; try (with_reducible rfl))) ?_
    try simp only [Act.put, List.getElem_toArray, List.getElem_cons_succ, List.getElem_cons_zero, List.setIfInBounds_toArray, List.set_cons_zero, List.set_cons_succ]
    refine wpAnyJ_take1 5 rfl (by kernel_rfl) (by kernel_rfl) rfl (by kernel_rfl) (fun _ _ _ h => h) (by rfl) hS8 (fun w' hSw => (by obtain ⟨z1, z2, z3, z4⟩ := hSw; go_simp; try (with_reducible rfl))) ?_
    try simp only [Act.put, List.getElem_toArray, List.getElem_cons_succ, List.getElem_cons_zero, List.setIfInBounds_toArray, List.set_cons_zero, List.set_cons_succ]
    have hBt : Below W.heap.size W w7 := hB5'.trans (hB7.mono hB5'.size)
    have kz0 : Blk w7 W.heap.size 106 #[.int .i64 0, .string ⟨#[]⟩, .bool false, .slice none 0 0, .nilFunc, .nilFunc] := kB7
    have y0 := kz0.cell 0 (.int .i64 0) rfl
    have x0 := kz0.frozen 0
    have kz1 := kz0.set_ 0 (.int .i64 k)
    have y1 := kz1.cell 1 (.string ⟨#[]⟩) rfl
    have x1 := kz1.frozen 1
    have kz2 := kz1.set_ 1 (.string nm)
    have y2 := kz2.cell 2 (.bool false) rfl
    have x2 := kz2.frozen 2
    have kz3 := kz2.set_ 2 (.bool kl)
    have y3 := kz3.cell 3 (.slice none 0 0) rfl
    have x3 := kz3.frozen 3
    have kz4 := kz3.set_ 3 (.slice A9 n9 c9)
    have y4 := kz4.cell 4 (.nilFunc) rfl
    have x4 := kz4.frozen 4
    have kz5 := kz4.set_ 4 (.func (.func i1) #[] #[])
    have y5 := kz5.cell 5 (.nilFunc) rfl
    have x5 := kz5.frozen 5
    have kz6 := kz5.set_ 5 (.func (.func i2) #[] #[])
    have bxl := kz0.lt
    refine wpAnyJ_ready [7] (by kernel_rfl) (by simp) (NextJ.cons rfl (fun K hK => ?_) NextJ.nil)
    go_simp
    have hge : W.heap.size ≤ W.heap.size := by first | exact Nat.le_refl _ | exact hB5'.size
    have hne : w.heap.size ≠ W.heap.size := by omega
    have kE := kz6
    have fE := (Blk.far (Blk.far (Blk.far (Blk.far (Blk.far (Blk.far kF7 (p := ⟨W.heap.size, 0, none⟩) hne (.int .i64 k)) (p := ⟨W.heap.size, 1, none⟩) hne (.string nm)) (p := ⟨W.heap.size, 2, none⟩) hne (.bool kl)) (p := ⟨W.heap.size, 3, none⟩) hne (.slice A9 n9 c9)) (p := ⟨W.heap.size, 4, none⟩) hne (.func (.func i1) #[] #[])) (p := ⟨W.heap.size, 5, none⟩) hne (.func (.func i2) #[] #[]))
    have hBE := (Below.setCell (Below.setCell (Below.setCell (Below.setCell (Below.setCell (Below.setCell hBt (p := ⟨W.heap.size, 0, none⟩) hge (.int .i64 k)) (p := ⟨W.heap.size, 1, none⟩) hge (.string nm)) (p := ⟨W.heap.size, 2, none⟩) hge (.bool kl)) (p := ⟨W.heap.size, 3, none⟩) hge (.slice A9 n9 c9)) (p := ⟨W.heap.size, 4, none⟩) hge (.func (.func i1) #[] #[])) (p := ⟨W.heap.size, 5, none⟩) hge (.func (.func i2) #[] #[]))
    have hS9 := And.intro (fE.cell 0 (.int .i64 k) rfl) (And.intro (fE.cell 1 (.int .i64 st) rfl) (And.intro (fE.cell 2 (.int .i64 lt) rfl) (fE.cell 3 (.int .i64 wi) rfl)))
    refine hK.out _ _ hS9 (fun h => absurd h (by decide)) ?_
    clear hK K
    try simp only [Act.put, List.getElem_toArray, List.getElem_cons_succ, List.getElem_cons_zero, List.setIfInBounds_toArray, List.set_cons_zero, List.set_cons_succ]
    refine wpAnyJ_take1 8 rfl (by kernel_rfl) (by kernel_rfl) rfl (by kernel_rfl) (fun _ _ _ h => h) (by rfl) hS9 (fun w' hSw => (by obtain ⟨z1, z2, z3, z4⟩ := hSw; go_simp; try (with_reducible rfl))) ?_
    try simp only [Act.put, List.getElem_toArray, List.getElem_cons_succ, List.getElem_cons_zero, List.setIfInBounds_toArray, List.set_cons_zero, List.set_cons_succ]
    refine wpAnyJ_done (by kernel_rfl) ?_ _
    obtain ⟨q0, q1, q2, q3⟩ := hS9
    clear hS1 y0 x0 y1 x1 y2 x2 y3 x3 y4 x4 y5 x5
    have hsE := kE.lt
    have hQ := hBB.trans (hBE.mono hBB.size)
    clear hBt kz0 kz1 kz2 kz3 kz4 kz5 kz6
    generalize ((((((w7.setCell ⟨W.heap.size, 0, none⟩ (.int .i64 k)).setCell ⟨W.heap.size, 1, none⟩ (.string nm)).setCell ⟨W.heap.size, 2, none⟩ (.bool kl)).setCell ⟨W.heap.size, 3, none⟩ (.slice A9 n9 c9)).setCell ⟨W.heap.size, 4, none⟩ (.func (.func i1) #[] #[])).setCell ⟨W.heap.size, 5, none⟩ (.func (.func i2) #[] #[])) = W9 at *
    go_wp2_with fail
    go_ret2
    exact ⟨rfl, hQ⟩
set_option maxRecDepth 100000 in
set_option maxHeartbeats 8000000 in
theorem fprn_2 (k st lt wi : Int) (hin : Hid ((1 ≤ k ∧ k ≤ 6))) (hs : Hid (shapedF ⟨k, st, lt, wi⟩ = true)) (a1 : st < 0) (w : World) (hDt : DtAt w) :
    Calls Tryz.prog 18 #[.agg #[.int .i64 k, .int .i64 st, .int .i64 lt, .int .i64 wi]] w (Ret (.tuple #[.string (bN (printF ⟨k, st, lt, wi⟩).1), .int .i64 (printF ⟨k, st, lt, wi⟩).2]) w) := by
  have HP : Hid (printF ⟨k, st, lt, wi⟩ = ([], 7)) := by
    rw [Hid]; unfold printF
    rw [if_neg (by rw [hs.out]; decide), if_pos]
    exact .inl a1
  rw [HP.out]
  obtain ⟨nm, hnm⟩ : ∃ x, Hid (kname k = x) := ⟨_, Lib.hid rfl⟩
  obtain ⟨kl, hkl⟩ : ∃ x, Hid (klet k = x) := ⟨_, Lib.hid rfl⟩
  obtain ⟨i1, hi1⟩ : ∃ x, Hid (klf k = x) := ⟨_, Lib.hid rfl⟩
  obtain ⟨i2, hi2⟩ : ∃ x, Hid (kpf k = x) := ⟨_, Lib.hid rfl⟩
  obtain ⟨n9, hn9⟩ : ∃ x, Hid ((withsL k).length = x) := ⟨_, Lib.hid rfl⟩
  have hBB : Below w.heap.size w (w.alloc (.cells #[.int .i64 k, .int .i64 st, .int .i64 lt, .int .i64 wi] 41)) := (Below.refl _ _).alloc (Nat.le_refl _) _
  have kF := Blk.new w 41 #[.int .i64 k, .int .i64 st, .int .i64 lt, .int .i64 wi]
  go_enter Tryz.func18, Tryz.ntmps18
  go_wp2_with fail
  have fl := kF.lt
  generalize w.alloc (.cells #[.int .i64 k, .int .i64 st, .int .i64 lt, .int .i64 wi] 41) = W at *
  have p0 := kF.cell 0 (.int .i64 k) rfl
  have p1 := kF.cell 1 (.int .i64 st) rfl
  have p2 := kF.cell 2 (.int .i64 lt) rfl
  have p3 := kF.cell 3 (.int .i64 wi) rfl
  refine wp_region_J (fun w' => w'.cell? ⟨w.heap.size, 0, none⟩ = some (.int .i64 k) ∧ w'.cell? ⟨w.heap.size, 1, none⟩ = some (.int .i64 st) ∧ w'.cell? ⟨w.heap.size, 2, none⟩ = some (.int .i64 lt) ∧ w'.cell? ⟨w.heap.size, 3, none⟩ = some (.int .i64 wi)) (fun _ => True) (fun _ => false) (by kernel_rfl) ?_
  have hS1 : W.drew.cell? ⟨w.heap.size, 0, none⟩ = some (.int .i64 k) ∧ W.drew.cell? ⟨w.heap.size, 1, none⟩ = some (.int .i64 st) ∧ W.drew.cell? ⟨w.heap.size, 2, none⟩ = some (.int .i64 lt) ∧ W.drew.cell? ⟨w.heap.size, 3, none⟩ = some (.int .i64 wi) := ⟨p0, p1, p2, p3⟩
  refine wpAnyJ_take1 1 rfl (by kernel_rfl) (by kernel_rfl) rfl (by kernel_rfl) (fun _ _ _ h => h) (by rfl) hS1 (fun w' hSw => (by obtain ⟨z1, z2, z3, z4⟩ := hSw; go_simp; try (with_reducible rfl))) ?_
  try simp only [Act.put, List.getElem_toArray, List.getElem_cons_succ, List.getElem_cons_zero, List.setIfInBounds_toArray, List.set_cons_zero, List.set_cons_succ]
  refine wpAnyJ_ready [0, 6] (by kernel_rfl) (by simp) (NextJ.cons rfl (fun K hK => ?_) (NextJ.cons rfl (fun K hK => ?_) NextJ.nil))
  · skip
    go_simp
    refine (kinds_any W.drew).mono ?_
    rintro e w5 ⟨g, KA, rfl, hKA, hB5⟩
    have hB5' : Below W.heap.size W w5 := ⟨hB5.os, hB5.tape, hB5.output, Nat.le_trans (by simp) hB5.size, fun k hk => (hB5.block k (Nat.lt_of_lt_of_le hk (by simp))).trans (by first | rfl | exact Below.heap_alloc W.drew _ k hk)⟩
    have kF5 := kF.drew.below' hB5
    have hS1 := And.intro (kF5.cell 0 (.int .i64 k) rfl) (And.intro (kF5.cell 1 (.int .i64 st) rfl) (And.intro (kF5.cell 2 (.int .i64 lt) rfl) (kF5.cell 3 (.int .i64 wi) rfl)))
    go_simp
    refine hK.out _ _ hS1 (fun h => absurd h (by decide)) ?_
    clear hK K
    try simp only [Act.put, List.getElem_toArray, List.getElem_cons_succ, List.getElem_cons_zero, List.setIfInBounds_toArray, List.set_cons_zero, List.set_cons_succ]
    refine wpAnyJ_ready [2, 6] (by kernel_rfl) (by simp) (NextJ.cons rfl (fun K hK => ?_) (NextJ.cons rfl (fun K hK => ?_) NextJ.nil))
    · skip
      go_simp
      refine (find_any g KA ⟨k, st, lt, wi⟩ w5 w5.heap.size hKA (Nat.le_refl _)).mono ?_
      rintro e w7 ⟨rfl, hB7⟩
      have kF7 := kF5.below' hB7
      have hS2 := And.intro (kF7.cell 0 (.int .i64 k) rfl) (And.intro (kF7.cell 1 (.int .i64 st) rfl) (And.intro (kF7.cell 2 (.int .i64 lt) rfl) (kF7.cell 3 (.int .i64 wi) rfl)))
      obtain ⟨A9, c9, hv9, _, _⟩ := hKA.withs (k := k)
      rw [hn9.out] at hv9
      have hkc : (kcell KA k).toArray = #[.int .i64 k, .string nm, .bool kl, .slice A9 n9 c9, .func (.func i1) #[] #[], .func (.func i2) #[] #[]] := by unfold kcell; rw [if_pos hin.out]; unfold kcells; rw [hv9, hnm.out, hkl.out, hi1.out, hi2.out]
      rw [show (⟨k, st, lt, wi⟩ : Flt).k = k from rfl, hkc, hs.out]
      clear hkc hv9
      go_simp
      refine hK.out _ _ hS2 (fun h => absurd h (by decide)) ?_
      clear hK K
      try simp only [Act.put, List.getElem_toArray, List.getElem_cons_succ, List.getElem_cons_zero, List.setIfInBounds_toArray, List.set_cons_zero, List.set_cons_succ]
      refine wpAnyJ_take1 3 rfl (by kernel_rfl) (by kernel_rfl) rfl (by kernel_rfl) (fun _ _ _ h => h) (by rfl) hS2 (fun w' hSw => (by obtain ⟨z1, z2, z3, z4⟩ := hSw; go_simp; try (with_reducible rfl))) ?_
      try simp only [Act.put, List.getElem_toArray, List.getElem_cons_succ, List.getElem_cons_zero, List.setIfInBounds_toArray, List.set_cons_zero, List.set_cons_succ]
      refine wpAnyJ_take1 4 rfl (by kernel_rfl) (by kernel_rfl) rfl (by kernel_rfl) (fun _ _ _ h => h) (by rfl) hS2 (fun w' hSw => (by obtain ⟨z1, z2, z3, z4⟩ := hSw; go_simp; try (with_reducible rfl))) ?_
      try simp only [Act.put, List.getElem_toArray, List.getElem_cons_succ, List.getElem_cons_zero, List.setIfInBounds_toArray, List.set_cons_zero, List.set_cons_succ]
      refine wpAnyJ_take1 5 rfl (by kernel_rfl) (by kernel_rfl) rfl (by kernel_rfl) (fun _ _ _ h => h) (by rfl) hS2 (fun w' hSw => (by obtain ⟨z1, z2, z3, z4⟩ := hSw; go_simp; try (with_reducible rfl))) ?_
      try simp only [Act.put, List.getElem_toArray, List.getElem_cons_succ, List.getElem_cons_zero, List.setIfInBounds_toArray, List.set_cons_zero, List.set_cons_succ]
      refine wpAnyJ_ready [6] (by kernel_rfl) (by simp) (NextJ.cons rfl (fun K hK => ?_) NextJ.nil)
      go_simp
      have kF6 := kF7.alloc (.cells #[.int .i64 0, .string ⟨#[]⟩, .bool false, .slice none 0 0, .nilFunc, .nilFunc] 106)
      have kB6 := Blk.new w7 106 #[.int .i64 0, .string ⟨#[]⟩, .bool false, .slice none 0 0, .nilFunc, .nilFunc]
      have hS3 := And.intro (kF6.cell 0 (.int .i64 k) rfl) (And.intro (kF6.cell 1 (.int .i64 st) rfl) (And.intro (kF6.cell 2 (.int .i64 lt) rfl) (kF6.cell 3 (.int .i64 wi) rfl)))
      refine hK.out _ _ hS3 (fun h => absurd h (by decide)) ?_
      clear hK K
      try simp only [Act.put, List.getElem_toArray, List.getElem_cons_succ, List.getElem_cons_zero, List.setIfInBounds_toArray, List.set_cons_zero, List.set_cons_succ]
      have hBt : Below W.heap.size W (w7.alloc (.cells #[.int .i64 0, .string ⟨#[]⟩, .bool false, .slice none 0 0, .nilFunc, .nilFunc] 106)) := Below.alloc (hB5'.trans (hB7.mono hB5'.size)) (Nat.le_trans hB5'.size hB7.size) _
      have kz0 : Blk (w7.alloc (.cells #[.int .i64 0, .string ⟨#[]⟩, .bool false, .slice none 0 0, .nilFunc, .nilFunc] 106)) w7.heap.size 106 #[.int .i64 0, .string ⟨#[]⟩, .bool false, .slice none 0 0, .nilFunc, .nilFunc] := kB6
      have y0 := kz0.cell 0 (.int .i64 0) rfl
      have x0 := kz0.frozen 0
      have kz1 := kz0.set_ 0 (.int .i64 k)
      have y1 := kz1.cell 1 (.string ⟨#[]⟩) rfl
      have x1 := kz1.frozen 1
      have kz2 := kz1.set_ 1 (.string nm)
      have y2 := kz2.cell 2 (.bool false) rfl
      have x2 := kz2.frozen 2
      have kz3 := kz2.set_ 2 (.bool kl)
      have y3 := kz3.cell 3 (.slice none 0 0) rfl
      have x3 := kz3.frozen 3
      have kz4 := kz3.set_ 3 (.slice A9 n9 c9)
      have y4 := kz4.cell 4 (.nilFunc) rfl
      have x4 := kz4.frozen 4
      have kz5 := kz4.set_ 4 (.func (.func i1) #[] #[])
      have y5 := kz5.cell 5 (.nilFunc) rfl
      have x5 := kz5.frozen 5
      have kz6 := kz5.set_ 5 (.func (.func i2) #[] #[])
      have bxl := kz0.lt
      refine wpAnyJ_ready [7] (by kernel_rfl) (by simp) (NextJ.cons rfl (fun K hK => ?_) NextJ.nil)
      go_simp
      have kE := Blk.new w7 106 #[.int .i64 k, .string nm, .bool kl, .slice A9 n9 c9, .func (.func i1) #[] #[], .func (.func i2) #[] #[]]
      have fE := kF7.alloc (.cells #[.int .i64 k, .string nm, .bool kl, .slice A9 n9 c9, .func (.func i1) #[] #[], .func (.func i2) #[] #[]] 106)
      have hBE : Below W.heap.size W (w7.alloc (.cells #[.int .i64 k, .string nm, .bool kl, .slice A9 n9 c9, .func (.func i1) #[] #[], .func (.func i2) #[] #[]] 106)) := Below.alloc (hB5'.trans (hB7.mono hB5'.size)) (Nat.le_trans hB5'.size hB7.size) _
      have hS9 := And.intro (fE.cell 0 (.int .i64 k) rfl) (And.intro (fE.cell 1 (.int .i64 st) rfl) (And.intro (fE.cell 2 (.int .i64 lt) rfl) (fE.cell 3 (.int .i64 wi) rfl)))
      refine hK.out _ _ hS9 (fun h => absurd h (by decide)) ?_
      clear hK K
      try simp only [Act.put, List.getElem_toArray, List.getElem_cons_succ, List.getElem_cons_zero, List.setIfInBounds_toArray, List.set_cons_zero, List.set_cons_succ]
      refine wpAnyJ_take1 8 rfl (by kernel_rfl) (by kernel_rfl) rfl (by kernel_rfl) (fun _ _ _ h => h) (by rfl) hS9 (fun w' hSw => (by obtain ⟨z1, z2, z3, z4⟩ := hSw; go_simp; try (with_reducible rfl))) ?_
      try simp only [Act.put, List.getElem_toArray, List.getElem_cons_succ, List.getElem_cons_zero, List.setIfInBounds_toArray, List.set_cons_zero, List.set_cons_succ]
      refine wpAnyJ_done (by kernel_rfl) ?_ _
      obtain ⟨q0, q1, q2, q3⟩ := hS9
      clear hS1 y0 x0 y1 x1 y2 x2 y3 x3 y4 x4 y5 x5
      have hsE := kE.lt
      have hQ := hBB.trans (hBE.mono hBB.size)
      clear hBt kz0 kz1 kz2 kz3 kz4 kz5 kz6
      generalize (w7.alloc (.cells #[.int .i64 k, .string nm, .bool kl, .slice A9 n9 c9, .func (.func i1) #[] #[], .func (.func i2) #[] #[]] 106)) = W9 at *
      go_wp2_with fail
      go_ret2
      exact ⟨rfl, hQ⟩
    · skip
      go_simp
      have kF6 := kF5.alloc (.cells #[.int .i64 0, .string ⟨#[]⟩, .bool false, .slice none 0 0, .nilFunc, .nilFunc] 106)
      have kB6 := Blk.new w5 106 #[.int .i64 0, .string ⟨#[]⟩, .bool false, .slice none 0 0, .nilFunc, .nilFunc]
      have hS4 := And.intro (kF6.cell 0 (.int .i64 k) rfl) (And.intro (kF6.cell 1 (.int .i64 st) rfl) (And.intro (kF6.cell 2 (.int .i64 lt) rfl) (kF6.cell 3 (.int .i64 wi) rfl)))
      refine hK.out _ _ hS4 (fun h => absurd h (by decide)) ?_
      clear hK K
      try simp only [Act.put, List.getElem_toArray, List.getElem_cons_succ, List.getElem_cons_zero, List.setIfInBounds_toArray, List.set_cons_zero, List.set_cons_succ]
      refine wpAnyJ_ready [2] (by kernel_rfl) (by simp) (NextJ.cons rfl (fun K hK => ?_) NextJ.nil)
      have hKA6 := hKA.below (Below.alloc (Below.refl _ w5) (Nat.le_refl _) (.cells #[.int .i64 0, .string ⟨#[]⟩, .bool false, .slice none 0 0, .nilFunc, .nilFunc] 106)) (Nat.le_refl _)
      have hKA6 : KindsAt (w5.alloc (.cells #[.int .i64 0, .string ⟨#[]⟩, .bool false, .slice none 0 0, .nilFunc, .nilFunc] 106)) (w5.alloc (.cells #[.int .i64 0, .string ⟨#[]⟩, .bool false, .slice none 0 0, .nilFunc, .nilFunc] 106)).heap.size g KA := ⟨Nat.lt_of_lt_of_le hKA6.lt (by simp), hKA6.blk, hKA6.wa.more (by simp), hKA6.wb.more (by simp), hKA6.wp.more (by simp)⟩
      go_simp
      refine (find_any g KA ⟨k, st, lt, wi⟩ (w5.alloc (.cells #[.int .i64 0, .string ⟨#[]⟩, .bool false, .slice none 0 0, .nilFunc, .nilFunc] 106)) (w5.alloc (.cells #[.int .i64 0, .string ⟨#[]⟩, .bool false, .slice none 0 0, .nilFunc, .nilFunc] 106)).heap.size hKA6 (Nat.le_refl _)).mono ?_
      rintro e w7 ⟨rfl, hB7⟩
      have kF7 := kF6.below' hB7
      have kB7 := kB6.below' hB7
      have hS5 := And.intro (kF7.cell 0 (.int .i64 k) rfl) (And.intro (kF7.cell 1 (.int .i64 st) rfl) (And.intro (kF7.cell 2 (.int .i64 lt) rfl) (kF7.cell 3 (.int .i64 wi) rfl)))
      obtain ⟨A9, c9, hv9, _, _⟩ := hKA6.withs (k := k)
      rw [hn9.out] at hv9
      have hkc : (kcell KA k).toArray = #[.int .i64 k, .string nm, .bool kl, .slice A9 n9 c9, .func (.func i1) #[] #[], .func (.func i2) #[] #[]] := by unfold kcell; rw [if_pos hin.out]; unfold kcells; rw [hv9, hnm.out, hkl.out, hi1.out, hi2.out]
      rw [show (⟨k, st, lt, wi⟩ : Flt).k = k from rfl, hkc, hs.out]
      clear hkc hv9
      go_simp
      refine hK.out _ _ hS5 (fun h => absurd h (by decide)) ?_
      clear hK K
      try simp only [Act.put, List.getElem_toArray, List.getElem_cons_succ, List.getElem_cons_zero, List.setIfInBounds_toArray, List.set_cons_zero, List.set_cons_succ]
      refine wpAnyJ_take1 3 rfl (by kernel_rfl) (by kernel_rfl) rfl (by kernel_rfl) (fun _ _ _ h => h) (by rfl) hS5 (fun w' hSw => (by obtain ⟨z1, z2, z3, z4⟩ := hSw; go_simp; try (with_reducible rfl))) ?_
      try simp only [Act.put, List.getElem_toArray, List.getElem_cons_succ, List.getElem_cons_zero, List.setIfInBounds_toArray, List.set_cons_zero, List.set_cons_succ]
      refine wpAnyJ_take1 4 rfl (by kernel_rfl) (by kernel_rfl) rfl (by kernel_rfl) (fun _ _ _ h => h) (by rfl) hS5 (fun w' hSw => (by obtain ⟨z1, z2, z3, z4⟩ := hSw; go_simp; try (with_reducible rfl))) ?_
      try simp only [Act.put, List.getElem_toArray, List.getElem_cons_succ, List.getElem_cons_zero, List.setIfInBounds_toArray, List.set_cons_zero, List.set_cons_succ]
      refine wpAnyJ_take1 5 rfl (by kernel_rfl) (by kernel_rfl) rfl (by kernel_rfl) (fun _ _ _ h => h) (by rfl) hS5 (fun w' hSw => (by obtain ⟨z1, z2, z3, z4⟩ := hSw; go_simp; try (with_reducible rfl))) ?_
      try simp only [Act.put, List.getElem_toArray, List.getElem_cons_succ, List.getElem_cons_zero, List.setIfInBounds_toArray, List.set_cons_zero, List.set_cons_succ]
      have hBt : Below W.heap.size W w7 := (Below.alloc hB5' hB5'.size _).trans (hB7.mono (Nat.le_trans hB5'.size (by simp)))
      have kz0 : Blk w7 w5.heap.size 106 #[.int .i64 0, .string ⟨#[]⟩, .bool false, .slice none 0 0, .nilFunc, .nilFunc] := kB7
      have y0 := kz0.cell 0 (.int .i64 0) rfl
      have x0 := kz0.frozen 0
      have kz1 := kz0.set_ 0 (.int .i64 k)
      have y1 := kz1.cell 1 (.string ⟨#[]⟩) rfl
      have x1 := kz1.frozen 1
      have kz2 := kz1.set_ 1 (.string nm)
      have y2 := kz2.cell 2 (.bool false) rfl
      have x2 := kz2.frozen 2
      have kz3 := kz2.set_ 2 (.bool kl)
      have y3 := kz3.cell 3 (.slice none 0 0) rfl
      have x3 := kz3.frozen 3
      have kz4 := kz3.set_ 3 (.slice A9 n9 c9)
      have y4 := kz4.cell 4 (.nilFunc) rfl
      have x4 := kz4.frozen 4
      have kz5 := kz4.set_ 4 (.func (.func i1) #[] #[])
      have y5 := kz5.cell 5 (.nilFunc) rfl
      have x5 := kz5.frozen 5
      have kz6 := kz5.set_ 5 (.func (.func i2) #[] #[])
      have bxl := kz0.lt
      refine wpAnyJ_ready [7] (by kernel_rfl) (by simp) (NextJ.cons rfl (fun K hK => ?_) NextJ.nil)
      go_simp
      have hge : W.heap.size ≤ w5.heap.size := by first | exact Nat.le_refl _ | exact hB5'.size
      have hne : w.heap.size ≠ w5.heap.size := by omega
      have kE := kz6
      have fE := (Blk.far (Blk.far (Blk.far (Blk.far (Blk.far (Blk.far kF7 (p := ⟨w5.heap.size, 0, none⟩) hne (.int .i64 k)) (p := ⟨w5.heap.size, 1, none⟩) hne (.string nm)) (p := ⟨w5.heap.size, 2, none⟩) hne (.bool kl)) (p := ⟨w5.heap.size, 3, none⟩) hne (.slice A9 n9 c9)) (p := ⟨w5.heap.size, 4, none⟩) hne (.func (.func i1) #[] #[])) (p := ⟨w5.heap.size, 5, none⟩) hne (.func (.func i2) #[] #[]))
      have hBE := (Below.setCell (Below.setCell (Below.setCell (Below.setCell (Below.setCell (Below.setCell hBt (p := ⟨w5.heap.size, 0, none⟩) hge (.int .i64 k)) (p := ⟨w5.heap.size, 1, none⟩) hge (.string nm)) (p := ⟨w5.heap.size, 2, none⟩) hge (.bool kl)) (p := ⟨w5.heap.size, 3, none⟩) hge (.slice A9 n9 c9)) (p := ⟨w5.heap.size, 4, none⟩) hge (.func (.func i1) #[] #[])) (p := ⟨w5.heap.size, 5, none⟩) hge (.func (.func i2) #[] #[]))
      have hS9 := And.intro (fE.cell 0 (.int .i64 k) rfl) (And.intro (fE.cell 1 (.int .i64 st) rfl) (And.intro (fE.cell 2 (.int .i64 lt) rfl) (fE.cell 3 (.int .i64 wi) rfl)))
      refine hK.out _ _ hS9 (fun h => absurd h (by decide)) ?_
      clear hK K
      try simp only [Act.put, List.getElem_toArray, List.getElem_cons_succ, List.getElem_cons_zero, List.setIfInBounds_toArray, List.set_cons_zero, List.set_cons_succ]
      refine wpAnyJ_take1 8 rfl (by kernel_rfl) (by kernel_rfl) rfl (by kernel_rfl) (fun _ _ _ h => h) (by rfl) hS9 (fun w' hSw => (by obtain ⟨z1, z2, z3, z4⟩ := hSw; go_simp; try (with_reducible rfl))) ?_
      try simp only [Act.put, List.getElem_toArray, List.getElem_cons_succ, List.getElem_cons_zero, List.setIfInBounds_toArray, List.set_cons_zero, List.set_cons_succ]
      refine wpAnyJ_done (by kernel_rfl) ?_ _
      obtain ⟨q0, q1, q2, q3⟩ := hS9
      clear hS1 y0 x0 y1 x1 y2 x2 y3 x3 y4 x4 y5 x5
      have hsE := kE.lt
      have hQ := hBB.trans (hBE.mono hBB.size)
      clear hBt kz0 kz1 kz2 kz3 kz4 kz5 kz6
      generalize ((((((w7.setCell ⟨w5.heap.size, 0, none⟩ (.int .i64 k)).setCell ⟨w5.heap.size, 1, none⟩ (.string nm)).setCell ⟨w5.heap.size, 2, none⟩ (.bool kl)).setCell ⟨w5.heap.size, 3, none⟩ (.slice A9 n9 c9)).setCell ⟨w5.heap.size, 4, none⟩ (.func (.func i1) #[] #[])).setCell ⟨w5.heap.size, 5, none⟩ (.func (.func i2) #[] #[])) = W9 at *
      go_wp2_with fail
      go_ret2
      exact ⟨rfl, hQ⟩
  · skip
    go_simp
    have kF6 := kF.drew.alloc (.cells #[.int .i64 0, .string ⟨#[]⟩, .bool false, .slice none 0 0, .nilFunc, .nilFunc] 106)
    have kB6 := Blk.new W.drew 106 #[.int .i64 0, .string ⟨#[]⟩, .bool false, .slice none 0 0, .nilFunc, .nilFunc]
    have hS6 := And.intro (kF6.cell 0 (.int .i64 k) rfl) (And.intro (kF6.cell 1 (.int .i64 st) rfl) (And.intro (kF6.cell 2 (.int .i64 lt) rfl) (kF6.cell 3 (.int .i64 wi) rfl)))
    refine hK.out _ _ hS6 (fun h => absurd h (by decide)) ?_
    clear hK K
    try simp only [Act.put, List.getElem_toArray, List.getElem_cons_succ, List.getElem_cons_zero, List.setIfInBounds_toArray, List.set_cons_zero, List.set_cons_succ]
    refine wpAnyJ_ready [0] (by kernel_rfl) (by simp) (NextJ.cons rfl (fun K hK => ?_) NextJ.nil)
    go_simp
    refine (kinds_any (W.drew.alloc (.cells #[.int .i64 0, .string ⟨#[]⟩, .bool false, .slice none 0 0, .nilFunc, .nilFunc] 106))).mono ?_
    rintro e w5 ⟨g, KA, rfl, hKA, hB5⟩
    have hB5' : Below W.heap.size W w5 := ⟨hB5.os, hB5.tape, hB5.output, Nat.le_trans (by simp) hB5.size, fun k hk => (hB5.block k (Nat.lt_of_lt_of_le hk (by simp))).trans (by first | rfl | exact Below.heap_alloc W.drew _ k hk)⟩
    have kF5 := kF6.below' hB5
    have kB5 := kB6.below' hB5
    have hS7 := And.intro (kF5.cell 0 (.int .i64 k) rfl) (And.intro (kF5.cell 1 (.int .i64 st) rfl) (And.intro (kF5.cell 2 (.int .i64 lt) rfl) (kF5.cell 3 (.int .i64 wi) rfl)))
    go_simp
    refine hK.out _ _ hS7 (fun h => absurd h (by decide)) ?_
    clear hK K
    try simp only [Act.put, List.getElem_toArray, List.getElem_cons_succ, List.getElem_cons_zero, List.setIfInBounds_toArray, List.set_cons_zero, List.set_cons_succ]
    refine wpAnyJ_ready [2] (by kernel_rfl) (by simp) (NextJ.cons rfl (fun K hK => ?_) NextJ.nil)
    go_simp
    refine (find_any g KA ⟨k, st, lt, wi⟩ w5 w5.heap.size hKA (Nat.le_refl _)).mono ?_
    rintro e w7 ⟨rfl, hB7⟩
    have kF7 := kF5.below' hB7
    have kB7 := kB5.below' hB7
    have hS8 := And.intro (kF7.cell 0 (.int .i64 k) rfl) (And.intro (kF7.cell 1 (.int .i64 st) rfl) (And.intro (kF7.cell 2 (.int .i64 lt) rfl) (kF7.cell 3 (.int .i64 wi) rfl)))
    obtain ⟨A9, c9, hv9, _, _⟩ := hKA.withs (k := k)
    rw [hn9.out] at hv9
    have hkc : (kcell KA k).toArray = #[.int .i64 k, .string nm, .bool kl, .slice A9 n9 c9, .func (.func i1) #[] #[], .func (.func i2) #[] #[]] := by unfold kcell; rw [if_pos hin.out]; unfold kcells; rw [hv9, hnm.out, hkl.out, hi1.out, hi2.out]
    rw [show (⟨k, st, lt, wi⟩ : Flt).k = k from rfl, hkc, hs.out]
    clear hkc hv9
    go_simp
    refine hK.out _ _ hS8 (fun h => absurd h (by decide)) ?_
    clear hK K
    try simp only [Act.put, List.getElem_toArray, List.getElem_cons_succ, List.getElem_cons_zero, List.setIfInBounds_toArray, List.set_cons_zero, List.set_cons_succ]
    refine wpAnyJ_take1 3 rfl (by kernel_rfl) (by kernel_rfl) rfl (by kernel_rfl) (fun _ _ _ h => h) (by rfl) hS8 (fun w' hSw => (by obtain ⟨z1, z2, z3, z4⟩ := hSw; go_simp; try (with_reducible rfl))) ?_
    try simp only [Act.put, List.getElem_toArray, List.getElem_cons_succ, List.getElem_cons_zero, List.setIfInBounds_toArray, List.set_cons_zero, List.set_cons_succ]
    refine wpAnyJ_take1 4 rfl (by kernel_rfl) (by kernel_rfl) rfl (by kernel_rfl) (fun _ _ _ h => h) (by rfl) hS8 (fun w' hSw => (by obtain ⟨z1, z2, z3, z4⟩ := hSw; go_simp; try (with_reducible rfl))) ?_
    try simp only [Act.put, List.getElem_toArray, List.getElem_cons_succ, List.getElem_cons_zero, List.setIfInBounds_toArray, List.set_cons_zero, List.set_cons_succ]
    refine wpAnyJ_take1 5 rfl (by kernel_rfl) (by kernel_rfl) rfl (by kernel_rfl) (fun _ _ _ h => h) (by rfl) hS8 (fun w' hSw => (by obtain ⟨z1, z2, z3, z4⟩ := hSw; go_simp; try (with_reducible rfl))) ?_
    try simp only [Act.put, List.getElem_toArray, List.getElem_cons_succ, List.getElem_cons_zero, List.setIfInBounds_toArray, List.set_cons_zero, List.set_cons_succ]
    have hBt : Below W.heap.size W w7 := hB5'.trans (hB7.mono hB5'.size)
    have kz0 : Blk w7 W.heap.size 106 #[.int .i64 0, .string ⟨#[]⟩, .bool false, .slice none 0 0, .nilFunc, .nilFunc] := kB7
    have y0 := kz0.cell 0 (.int .i64 0) rfl
    have x0 := kz0.frozen 0
    have kz1 := kz0.set_ 0 (.int .i64 k)
    have y1 := kz1.cell 1 (.string ⟨#[]⟩) rfl
    have x1 := kz1.frozen 1
    have kz2 := kz1.set_ 1 (.string nm)
    have y2 := kz2.cell 2 (.bool false) rfl
    have x2 := kz2.frozen 2
    have kz3 := kz2.set_ 2 (.bool kl)
    have y3 := kz3.cell 3 (.slice none 0 0) rfl
    have x3 := kz3.frozen 3
    have kz4 := kz3.set_ 3 (.slice A9 n9 c9)
    have y4 := kz4.cell 4 (.nilFunc) rfl
    have x4 := kz4.frozen 4
    have kz5 := kz4.set_ 4 (.func (.func i1) #[] #[])
    have y5 := kz5.cell 5 (.nilFunc) rfl
    have x5 := kz5.frozen 5
    have kz6 := kz5.set_ 5 (.func (.func i2) #[] #[])
    have bxl := kz0.lt
    refine wpAnyJ_ready [7] (by kernel_rfl) (by simp) (NextJ.cons rfl (fun K hK => ?_) NextJ.nil)
    go_simp
    have hge : W.heap.size ≤ W.heap.size := by first | exact Nat.le_refl _ | exact hB5'.size
    have hne : w.heap.size ≠ W.heap.size := by omega
    have kE := kz6
    have fE := (Blk.far (Blk.far (Blk.far (Blk.far (Blk.far (Blk.far kF7 (p := ⟨W.heap.size, 0, none⟩) hne (.int .i64 k)) (p := ⟨W.heap.size, 1, none⟩) hne (.string nm)) (p := ⟨W.heap.size, 2, none⟩) hne (.bool kl)) (p := ⟨W.heap.size, 3, none⟩) hne (.slice A9 n9 c9)) (p := ⟨W.heap.size, 4, none⟩) hne (.func (.func i1) #[] #[])) (p := ⟨W.heap.size, 5, none⟩) hne (.func (.func i2) #[] #[]))
    have hBE := (Below.setCell (Below.setCell (Below.setCell (Below.setCell (Below.setCell (Below.setCell hBt (p := ⟨W.heap.size, 0, none⟩) hge (.int .i64 k)) (p := ⟨W.heap.size, 1, none⟩) hge (.string nm)) (p := ⟨W.heap.size, 2, none⟩) hge (.bool kl)) (p := ⟨W.heap.size, 3, none⟩) hge (.slice A9 n9 c9)) (p := ⟨W.heap.size, 4, none⟩) hge (.func (.func i1) #[] #[])) (p := ⟨W.heap.size, 5, none⟩) hge (.func (.func i2) #[] #[]))
    have hS9 := And.intro (fE.cell 0 (.int .i64 k) rfl) (And.intro (fE.cell 1 (.int .i64 st) rfl) (And.intro (fE.cell 2 (.int .i64 lt) rfl) (fE.cell 3 (.int .i64 wi) rfl)))
    refine hK.out _ _ hS9 (fun h => absurd h (by decide)) ?_
    clear hK K
    try simp only [Act.put, List.getElem_toArray, List.getElem_cons_succ, List.getElem_cons_zero, List.setIfInBounds_toArray, List.set_cons_zero, List.set_cons_succ]
    refine wpAnyJ_take1 8 rfl (by kernel_rfl) (by kernel_rfl) rfl (by kernel_rfl) (fun _ _ _ h => h) (by rfl) hS9 (fun w' hSw => (by obtain ⟨z1, z2, z3, z4⟩ := hSw; go_simp; try (with_reducible rfl))) ?_
    try simp only [Act.put, List.getElem_toArray, List.getElem_cons_succ, List.getElem_cons_zero, List.setIfInBounds_toArray, List.set_cons_zero, List.set_cons_succ]
    refine wpAnyJ_done (by kernel_rfl) ?_ _
    obtain ⟨q0, q1, q2, q3⟩ := hS9
    clear hS1 y0 x0 y1 x1 y2 x2 y3 x3 y4 x4 y5 x5
    have hsE := kE.lt
    have hQ := hBB.trans (hBE.mono hBB.size)
    clear hBt kz0 kz1 kz2 kz3 kz4 kz5 kz6
    generalize ((((((w7.setCell ⟨W.heap.size, 0, none⟩ (.int .i64 k)).setCell ⟨W.heap.size, 1, none⟩ (.string nm)).setCell ⟨W.heap.size, 2, none⟩ (.bool kl)).setCell ⟨W.heap.size, 3, none⟩ (.slice A9 n9 c9)).setCell ⟨W.heap.size, 4, none⟩ (.func (.func i1) #[] #[])).setCell ⟨W.heap.size, 5, none⟩ (.func (.func i2) #[] #[])) = W9 at *
    go_wp2_with fail
    go_ret2
    exact ⟨rfl, hQ⟩
set_option maxRecDepth 100000 in
set_option maxHeartbeats 8000000 in
theorem fprn_3 (k st lt wi : Int) (hin : Hid ((1 ≤ k ∧ k ≤ 6))) (hs : Hid (shapedF ⟨k, st, lt, wi⟩ = true)) (a1 : ¬ st < 0) (a2 : 999 < st) (w : World) (hDt : DtAt w) :
    Calls Tryz.prog 18 #[.agg #[.int .i64 k, .int .i64 st, .int .i64 lt, .int .i64 wi]] w (Ret (.tuple #[.string (bN (printF ⟨k, st, lt, wi⟩).1), .int .i64 (printF ⟨k, st, lt, wi⟩).2]) w) := by
  have HP : Hid (printF ⟨k, st, lt, wi⟩ = ([], 7)) := by
    rw [Hid]; unfold printF
    rw [if_neg (by rw [hs.out]; decide), if_pos]
    exact .inr (.inl a2)
  rw [HP.out]
  obtain ⟨nm, hnm⟩ : ∃ x, Hid (kname k = x) := ⟨_, Lib.hid rfl⟩
  obtain ⟨kl, hkl⟩ : ∃ x, Hid (klet k = x) := ⟨_, Lib.hid rfl⟩
  obtain ⟨i1, hi1⟩ : ∃ x, Hid (klf k = x) := ⟨_, Lib.hid rfl⟩
  obtain ⟨i2, hi2⟩ : ∃ x, Hid (kpf k = x) := ⟨_, Lib.hid rfl⟩
  obtain ⟨n9, hn9⟩ : ∃ x, Hid ((withsL k).length = x) := ⟨_, Lib.hid rfl⟩
  have hBB : Below w.heap.size w (w.alloc (.cells #[.int .i64 k, .int .i64 st, .int .i64 lt, .int .i64 wi] 41)) := (Below.refl _ _).alloc (Nat.le_refl _) _
  have kF := Blk.new w 41 #[.int .i64 k, .int .i64 st, .int .i64 lt, .int .i64 wi]
  go_enter Tryz.func18, Tryz.ntmps18
  go_wp2_with fail
  have fl := kF.lt
  generalize w.alloc (.cells #[.int .i64 k, .int .i64 st, .int .i64 lt, .int .i64 wi] 41) = W at *
  have p0 := kF.cell 0 (.int .i64 k) rfl
  have p1 := kF.cell 1 (.int .i64 st) rfl
  have p2 := kF.cell 2 (.int .i64 lt) rfl
  have p3 := kF.cell 3 (.int .i64 wi) rfl
  refine wp_region_J (fun w' => w'.cell? ⟨w.heap.size, 0, none⟩ = some (.int .i64 k) ∧ w'.cell? ⟨w.heap.size, 1, none⟩ = some (.int .i64 st) ∧ w'.cell? ⟨w.heap.size, 2, none⟩ = some (.int .i64 lt) ∧ w'.cell? ⟨w.heap.size, 3, none⟩ = some (.int .i64 wi)) (fun _ => True) (fun _ => false) (by kernel_rfl) ?_
  have hS1 : W.drew.cell? ⟨w.heap.size, 0, none⟩ = some (.int .i64 k) ∧ W.drew.cell? ⟨w.heap.size, 1, none⟩ = some (.int .i64 st) ∧ W.drew.cell? ⟨w.heap.size, 2, none⟩ = some (.int .i64 lt) ∧ W.drew.cell? ⟨w.heap.size, 3, none⟩ = some (.int .i64 wi) := ⟨p0, p1, p2, p3⟩
  refine wpAnyJ_take1 1 rfl (by kernel_rfl) (by kernel_rfl) rfl (by kernel_rfl) (fun _ _ _ h => h) (by rfl) hS1 (fun w' hSw => (by obtain ⟨z1, z2, z3, z4⟩ := hSw; go_simp; try (with_reducible rfl))) ?_
  try simp only [Act.put, List.getElem_toArray, List.getElem_cons_succ, List.getElem_cons_zero, List.setIfInBounds_toArray, List.set_cons_zero, List.set_cons_succ]
  refine wpAnyJ_ready [0, 6] (by kernel_rfl) (by simp) (NextJ.cons rfl (fun K hK => ?_) (NextJ.cons rfl (fun K hK => ?_) NextJ.nil))
  · skip
    go_simp
    refine (kinds_any W.drew).mono ?_
    rintro e w5 ⟨g, KA, rfl, hKA, hB5⟩
    have hB5' : Below W.heap.size W w5 := ⟨hB5.os, hB5.tape, hB5.output, Nat.le_trans (by simp) hB5.size, fun k hk => (hB5.block k (Nat.lt_of_lt_of_le hk (by simp))).trans (by first | rfl | exact Below.heap_alloc W.drew _ k hk)⟩
    have kF5 := kF.drew.below' hB5
    have hS1 := And.intro (kF5.cell 0 (.int .i64 k) rfl) (And.intro (kF5.cell 1 (.int .i64 st) rfl) (And.intro (kF5.cell 2 (.int .i64 lt) rfl) (kF5.cell 3 (.int .i64 wi) rfl)))
    go_simp
    refine hK.out _ _ hS1 (fun h => absurd h (by decide)) ?_
    clear hK K
    try simp only [Act.put, List.getElem_toArray, List.getElem_cons_succ, List.getElem_cons_zero, List.setIfInBounds_toArray, List.set_cons_zero, List.set_cons_succ]
    refine wpAnyJ_ready [2, 6] (by kernel_rfl) (by simp) (NextJ.cons rfl (fun K hK => ?_) (NextJ.cons rfl (fun K hK => ?_) NextJ.nil))
    · skip
      go_simp
      refine (find_any g KA ⟨k, st, lt, wi⟩ w5 w5.heap.size hKA (Nat.le_refl _)).mono ?_
      rintro e w7 ⟨rfl, hB7⟩
      have kF7 := kF5.below' hB7
      have hS2 := And.intro (kF7.cell 0 (.int .i64 k) rfl) (And.intro (kF7.cell 1 (.int .i64 st) rfl) (And.intro (kF7.cell 2 (.int .i64 lt) rfl) (kF7.cell 3 (.int .i64 wi) rfl)))
      obtain ⟨A9, c9, hv9, _, _⟩ := hKA.withs (k := k)
      rw [hn9.out] at hv9
      have hkc : (kcell KA k).toArray = #[.int .i64 k, .string nm, .bool kl, .slice A9 n9 c9, .func (.func i1) #[] #[], .func (.func i2) #[] #[]] := by unfold kcell; rw [if_pos hin.out]; unfold kcells; rw [hv9, hnm.out, hkl.out, hi1.out, hi2.out]
      rw [show (⟨k, st, lt, wi⟩ : Flt).k = k from rfl, hkc, hs.out]
      clear hkc hv9
      go_simp
      refine hK.out _ _ hS2 (fun h => absurd h (by decide)) ?_
      clear hK K
      try simp only [Act.put, List.getElem_toArray, List.getElem_cons_succ, List.getElem_cons_zero, List.setIfInBounds_toArray, List.set_cons_zero, List.set_cons_succ]
      refine wpAnyJ_take1 3 rfl (by kernel_rfl) (by kernel_rfl) rfl (by kernel_rfl) (fun _ _ _ h => h) (by rfl) hS2 (fun w' hSw => (by obtain ⟨z1, z2, z3, z4⟩ := hSw; go_simp; try (with_reducible rfl))) ?_
      try simp only [Act.put, List.getElem_toArray, List.getElem_cons_succ, List.getElem_cons_zero, List.setIfInBounds_toArray, List.set_cons_zero, List.set_cons_succ]
      refine wpAnyJ_take1 4 rfl (by kernel_rfl) (by kernel_rfl) rfl (by kernel_rfl) (fun _ _ _ h => h) (by rfl) hS2 (fun w' hSw => (by obtain ⟨z1, z2, z3, z4⟩ := hSw; go_simp; try (with_reducible rfl))) ?_
      try simp only [Act.put, List.getElem_toArray, List.getElem_cons_succ, List.getElem_cons_zero, List.setIfInBounds_toArray, List.set_cons_zero, List.set_cons_succ]
      refine wpAnyJ_take1 5 rfl (by kernel_rfl) (by kernel_rfl) rfl (by kernel_rfl) (fun _ _ _ h => h) (by rfl) hS2 (fun w' hSw => (by obtain ⟨z1, z2, z3, z4⟩ := hSw; go_simp; try (with_reducible rfl))) ?_
      try simp only [Act.put, List.getElem_toArray, List.getElem_cons_succ, List.getElem_cons_zero, List.setIfInBounds_toArray, List.set_cons_zero, List.set_cons_succ]
      refine wpAnyJ_ready [6] (by kernel_rfl) (by simp) (NextJ.cons rfl (fun K hK => ?_) NextJ.nil)
      go_simp
      have kF6 := kF7.alloc (.cells #[.int .i64 0, .string ⟨#[]⟩, .bool false, .slice none 0 0, .nilFunc, .nilFunc] 106)
      have kB6 := Blk.new w7 106 #[.int .i64 0, .string ⟨#[]⟩, .bool false, .slice none 0 0, .nilFunc, .nilFunc]
      have hS3 := And.intro (kF6.cell 0 (.int .i64 k) rfl) (And.intro (kF6.cell 1 (.int .i64 st) rfl) (And.intro (kF6.cell 2 (.int .i64 lt) rfl) (kF6.cell 3 (.int .i64 wi) rfl)))
      refine hK.out _ _ hS3 (fun h => absurd h (by decide)) ?_
      clear hK K
      try simp only [Act.put, List.getElem_toArray, List.getElem_cons_succ, List.getElem_cons_zero, List.setIfInBounds_toArray, List.set_cons_zero, List.set_cons_succ]
      have hBt : Below W.heap.size W (w7.alloc (.cells #[.int .i64 0, .string ⟨#[]⟩, .bool false, .slice none 0 0, .nilFunc, .nilFunc] 106)) := Below.alloc (hB5'.trans (hB7.mono hB5'.size)) (Nat.le_trans hB5'.size hB7.size) _
      have kz0 : Blk (w7.alloc (.cells #[.int .i64 0, .string ⟨#[]⟩, .bool false, .slice none 0 0, .nilFunc, .nilFunc] 106)) w7.heap.size 106 #[.int .i64 0, .string ⟨#[]⟩, .bool false, .slice none 0 0, .nilFunc, .nilFunc] := kB6
      have y0 := kz0.cell 0 (.int .i64 0) rfl
      have x0 := kz0.frozen 0
      have kz1 := kz0.set_ 0 (.int .i64 k)
      have y1 := kz1.cell 1 (.string ⟨#[]⟩) rfl
      have x1 := kz1.frozen 1
      have kz2 := kz1.set_ 1 (.string nm)
      have y2 := kz2.cell 2 (.bool false) rfl
      have x2 := kz2.frozen 2
      have kz3 := kz2.set_ 2 (.bool kl)
      have y3 := kz3.cell 3 (.slice none 0 0) rfl
      have x3 := kz3.frozen 3
      have kz4 := kz3.set_ 3 (.slice A9 n9 c9)
      have y4 := kz4.cell 4 (.nilFunc) rfl
      have x4 := kz4.frozen 4
      have kz5 := kz4.set_ 4 (.func (.func i1) #[] #[])
      have y5 := kz5.cell 5 (.nilFunc) rfl
      have x5 := kz5.frozen 5
      have kz6 := kz5.set_ 5 (.func (.func i2) #[] #[])
      have bxl := kz0.lt
      refine wpAnyJ_ready [7] (by kernel_rfl) (by simp) (NextJ.cons rfl (fun K hK => ?_) NextJ.nil)
      go_simp
      have kE := Blk.new w7 106 #[.int .i64 k, .string nm, .bool kl, .slice A9 n9 c9, .func (.func i1) #[] #[], .func (.func i2) #[] #[]]
      have fE := kF7.alloc (.cells #[.int .i64 k, .string nm, .bool kl, .slice A9 n9 c9, .func (.func i1) #[] #[], .func (.func i2) #[] #[]] 106)
      have hBE : Below W.heap.size W (w7.alloc (.cells #[.int .i64 k, .string nm, .bool kl, .slice A9 n9 c9, .func (.func i1) #[] #[], .func (.func i2) #[] #[]] 106)) := Below.alloc (hB5'.trans (hB7.mono hB5'.size)) (Nat.le_trans hB5'.size hB7.size) _
      have hS9 := And.intro (fE.cell 0 (.int .i64 k) rfl) (And.intro (fE.cell 1 (.int .i64 st) rfl) (And.intro (fE.cell 2 (.int .i64 lt) rfl) (fE.cell 3 (.int .i64 wi) rfl)))
      refine hK.out _ _ hS9 (fun h => absurd h (by decide)) ?_
      clear hK K
      try simp only [Act.put, List.getElem_toArray, List.getElem_cons_succ, List.getElem_cons_zero, List.setIfInBounds_toArray, List.set_cons_zero, List.set_cons_succ]
      refine wpAnyJ_take1 8 rfl (by kernel_rfl) (by kernel_rfl) rfl (by kernel_rfl) (fun _ _ _ h => h) (by rfl) hS9 (fun w' hSw => (by obtain ⟨z1, z2, z3, z4⟩ := hSw; go_simp; try (with_reducible rfl))) ?_
      try simp only [Act.put, List.getElem_toArray, List.getElem_cons_succ, List.getElem_cons_zero, List.setIfInBounds_toArray, List.set_cons_zero, List.set_cons_succ]
      refine wpAnyJ_done (by kernel_rfl) ?_ _
      obtain ⟨q0, q1, q2, q3⟩ := hS9
      clear hS1 y0 x0 y1 x1 y2 x2 y3 x3 y4 x4 y5 x5
      have hsE := kE.lt
      have hQ := hBB.trans (hBE.mono hBB.size)
      clear hBt kz0 kz1 kz2 kz3 kz4 kz5 kz6
      generalize (w7.alloc (.cells #[.int .i64 k, .string nm, .bool kl, .slice A9 n9 c9, .func (.func i1) #[] #[], .func (.func i2) #[] #[]] 106)) = W9 at *
      go_wp2_with fail
      go_ret2
      exact ⟨rfl, hQ⟩
    · skip
      go_simp
      have kF6 := kF5.alloc (.cells #[.int .i64 0, .string ⟨#[]⟩, .bool false, .slice none 0 0, .nilFunc, .nilFunc] 106)
      have kB6 := Blk.new w5 106 #[.int .i64 0, .string ⟨#[]⟩, .bool false, .slice none 0 0, .nilFunc, .nilFunc]
      have hS4 := And.intro (kF6.cell 0 (.int .i64 k) rfl) (And.intro (kF6.cell 1 (.int .i64 st) rfl) (And.intro (kF6.cell 2 (.int .i64 lt) rfl) (kF6.cell 3 (.int .i64 wi) rfl)))
      refine hK.out _ _ hS4 (fun h => absurd h (by decide)) ?_
      clear hK K
      try simp only [Act.put, List.getElem_toArray, List.getElem_cons_succ, List.getElem_cons_zero, List.setIfInBounds_toArray, List.set_cons_zero, List.set_cons_succ]
      refine wpAnyJ_ready [2] (by kernel_rfl) (by simp) (NextJ.cons rfl (fun K hK => ?_) NextJ.nil)
      have hKA6 := hKA.below (Below.alloc (Below.refl _ w5) (Nat.le_refl _) (.cells #[.int .i64 0, .string ⟨#[]⟩, .bool false, .slice none 0 0, .nilFunc, .nilFunc] 106)) (Nat.le_refl _)
      have hKA6 : KindsAt (w5.alloc (.cells #[.int .i64 0, .string ⟨#[]⟩, .bool false, .slice none 0 0, .nilFunc, .nilFunc] 106)) (w5.alloc (.cells #[.int .i64 0, .string ⟨#[]⟩, .bool false, .slice none 0 0, .nilFunc, .nilFunc] 106)).heap.size g KA := ⟨Nat.lt_of_lt_of_le hKA6.lt (by simp), hKA6.blk, hKA6.wa.more (by simp), hKA6.wb.more (by simp), hKA6.wp.more (by simp)⟩
      go_simp
      refine (find_any g KA ⟨k, st, lt, wi⟩ (w5.alloc (.cells #[.int .i64 0, .string ⟨#[]⟩, .bool false, .slice none 0 0, .nilFunc, .nilFunc] 106)) (w5.alloc (.cells #[.int .i64 0, .string ⟨#[]⟩, .bool false, .slice none 0 0, .nilFunc, .nilFunc] 106)).heap.size hKA6 (Nat.le_refl _)).mono ?_
      rintro e w7 ⟨rfl, hB7⟩
      have kF7 := kF6.below' hB7
      have kB7 := kB6.below' hB7
      have hS5 := And.intro (kF7.cell 0 (.int .i64 k) rfl) (And.intro (kF7.cell 1 (.int .i64 st) rfl) (And.intro (kF7.cell 2 (.int .i64 lt) rfl) (kF7.cell 3 (.int .i64 wi) rfl)))
      obtain ⟨A9, c9, hv9, _, _⟩ := hKA6.withs (k := k)
      rw [hn9.out] at hv9
      have hkc : (kcell KA k).toArray = #[.int .i64 k, .string nm, .bool kl, .slice A9 n9 c9, .func (.func i1) #[] #[], .func (.func i2) #[] #[]] := by unfold kcell; rw [if_pos hin.out]; unfold kcells; rw [hv9, hnm.out, hkl.out, hi1.out, hi2.out]
      rw [show (⟨k, st, lt, wi⟩ : Flt).k = k from rfl, hkc, hs.out]
      clear hkc hv9
      go_simp
      refine hK.out _ _ hS5 (fun h => absurd h (by decide)) ?_
      clear hK K
      try simp only [Act.put, List.getElem_toArray, List.getElem_cons_succ, List.getElem_cons_zero, List.setIfInBounds_toArray, List.set_cons_zero, List.set_cons_succ]
      refine wpAnyJ_take1 3 rfl (by kernel_rfl) (by kernel_rfl) rfl (by kernel_rfl) (fun _ _ _ h => h) (by rfl) hS5 (fun w' hSw => (by obtain ⟨z1, z2, z3, z4⟩ := hSw; go_simp; try (with_reducible rfl))) ?_
      try simp only [Act.put, List.getElem_toArray, List.getElem_cons_succ, List.getElem_cons_zero, List.setIfInBounds_toArray, List.set_cons_zero, List.set_cons_succ]
      refine wpAnyJ_take1 4 rfl (by kernel_rfl) (by kernel_rfl) rfl (by kernel_rfl) (fun _ _ _ h => h) (by rfl) hS5 (fun w' hSw => (by obtain ⟨z1, z2, z3, z4⟩ := hSw; go_simp; try (with_reducible rfl))) ?_
      try simp only [Act.put, List.getElem_toArray, List.getElem_cons_succ, List.getElem_cons_zero, List.setIfInBounds_toArray, List.set_cons_zero, List.set_cons_succ]
      refine wpAnyJ_take1 5 rfl (by kernel_rfl) (by kernel_rfl) rfl (by kernel_rfl) (fun _ _ _ h => h) (by rfl) hS5 (fun w' hSw => (by obtain ⟨z1, z2, z3, z4⟩ := hSw; go_simp; try (with_reducible rfl))) ?_
      try simp only [Act.put, List.getElem_toArray, List.getElem_cons_succ, List.getElem_cons_zero, List.setIfInBounds_toArray, List.set_cons_zero, List.set_cons_succ]
      have hBt : Below W.heap.size W w7 := (Below.alloc hB5' hB5'.size _).trans (hB7.mono (Nat.le_trans hB5'.size (by simp)))
      have kz0 : Blk w7 w5.heap.size 106 #[.int .i64 0, .string ⟨#[]⟩, .bool false, .slice none 0 0, .nilFunc, .nilFunc] := kB7
      have y0 := kz0.cell 0 (.int .i64 0) rfl
      have x0 := kz0.frozen 0
      have kz1 := kz0.set_ 0 (.int .i64 k)
      have y1 := kz1.cell 1 (.string ⟨#[]⟩) rfl
      have x1 := kz1.frozen 1
      have kz2 := kz1.set_ 1 (.string nm)
      have y2 := kz2.cell 2 (.bool false) rfl
      have x2 := kz2.frozen 2
      have kz3 := kz2.set_ 2 (.bool kl)
      have y3 := kz3.cell 3 (.slice none 0 0) rfl
      have x3 := kz3.frozen 3
      have kz4 := kz3.set_ 3 (.slice A9 n9 c9)
      have y4 := kz4.cell 4 (.nilFunc) rfl
      have x4 := kz4.frozen 4
      have kz5 := kz4.set_ 4 (.func (.func i1) #[] #[])
      have y5 := kz5.cell 5 (.nilFunc) rfl
      have x5 := kz5.frozen 5
      have kz6 := kz5.set_ 5 (.func (.func i2) #[] #[])
      have bxl := kz0.lt
      refine wpAnyJ_ready [7] (by kernel_rfl) (by simp) (NextJ.cons rfl (fun K hK => ?_) NextJ.nil)
      go_simp
      have hge : W.heap.size ≤ w5.heap.size := by first | exact Nat.le_refl _ | exact hB5'.size
      have hne : w.heap.size ≠ w5.heap.size := by omega
      have kE := kz6
      have fE := (Blk.far (Blk.far (Blk.far (Blk.far (Blk.far (Blk.far kF7 (p := ⟨w5.heap.size, 0, none⟩) hne (.int .i64 k)) (p := ⟨w5.heap.size, 1, none⟩) hne (.string nm)) (p := ⟨w5.heap.size, 2, none⟩) hne (.bool kl)) (p := ⟨w5.heap.size, 3, none⟩) hne (.slice A9 n9 c9)) (p := ⟨w5.heap.size, 4, none⟩) hne (.func (.func i1) #[] #[])) (p := ⟨w5.heap.size, 5, none⟩) hne (.func (.func i2) #[] #[]))
      have hBE := (Below.setCell (Below.setCell (Below.setCell (Below.setCell (Below.setCell (Below.setCell hBt (p := ⟨w5.heap.size, 0, none⟩) hge (.int .i64 k)) (p := ⟨w5.heap.size, 1, none⟩) hge (.string nm)) (p := ⟨w5.heap.size, 2, none⟩) hge (.bool kl)) (p := ⟨w5.heap.size, 3, none⟩) hge (.slice A9 n9 c9)) (p := ⟨w5.heap.size, 4, none⟩) hge (.func (.func i1) #[] #[])) (p := ⟨w5.heap.size, 5, none⟩) hge (.func (.func i2) #[] #[]))
      have hS9 := And.intro (fE.cell 0 (.int .i64 k) rfl) (And.intro (fE.cell 1 (.int .i64 st) rfl) (And.intro (fE.cell 2 (.int .i64 lt) rfl) (fE.cell 3 (.int .i64 wi) rfl)))
      refine hK.out _ _ hS9 (fun h => absurd h (by decide)) ?_
      clear hK K
      try simp only [Act.put, List.getElem_toArray, List.getElem_cons_succ, List.getElem_cons_zero, List.setIfInBounds_toArray, List.set_cons_zero, List.set_cons_succ]
      refine wpAnyJ_take1 8 rfl (by kernel_rfl) (by kernel_rfl) rfl (by kernel_rfl) (fun _ _ _ h => h) (by rfl) hS9 (fun w' hSw => (by obtain ⟨z1, z2, z3, z4⟩ := hSw; go_simp; try (with_reducible rfl))) ?_
      try simp only [Act.put, List.getElem_toArray, List.getElem_cons_succ, List.getElem_cons_zero, List.setIfInBounds_toArray, List.set_cons_zero, List.set_cons_succ]
      refine wpAnyJ_done (by kernel_rfl) ?_ _
      obtain ⟨q0, q1, q2, q3⟩ := hS9
      clear hS1 y0 x0 y1 x1 y2 x2 y3 x3 y4 x4 y5 x5
      have hsE := kE.lt
      have hQ := hBB.trans (hBE.mono hBB.size)
      clear hBt kz0 kz1 kz2 kz3 kz4 kz5 kz6
      generalize ((((((w7.setCell ⟨w5.heap.size, 0, none⟩ (.int .i64 k)).setCell ⟨w5.heap.size, 1, none⟩ (.string nm)).setCell ⟨w5.heap.size, 2, none⟩ (.bool kl)).setCell ⟨w5.heap.size, 3, none⟩ (.slice A9 n9 c9)).setCell ⟨w5.heap.size, 4, none⟩ (.func (.func i1) #[] #[])).setCell ⟨w5.heap.size, 5, none⟩ (.func (.func i2) #[] #[])) = W9 at *
      go_wp2_with fail
      go_ret2
      exact ⟨rfl, hQ⟩
  · skip
    go_simp
    have kF6 := kF.drew.alloc (.cells #[.int .i64 0, .string ⟨#[]⟩, .bool false, .slice none 0 0, .nilFunc, .nilFunc] 106)
    have kB6 := Blk.new W.drew 106 #[.int .i64 0, .string ⟨#[]⟩, .bool false, .slice none 0 0, .nilFunc, .nilFunc]
    have hS6 := And.intro (kF6.cell 0 (.int .i64 k) rfl) (And.intro (kF6.cell 1 (.int .i64 st) rfl) (And.intro (kF6.cell 2 (.int .i64 lt) rfl) (kF6.cell 3 (.int .i64 wi) rfl)))
    refine hK.out _ _ hS6 (fun h => absurd h (by decide)) ?_
    clear hK K
    try simp only [Act.put, List.getElem_toArray, List.getElem_cons_succ, List.getElem_cons_zero, List.setIfInBounds_toArray, List.set_cons_zero, List.set_cons_succ]
    refine wpAnyJ_ready [0] (by kernel_rfl) (by simp) (NextJ.cons rfl (fun K hK => ?_) NextJ.nil)
    go_simp
    refine (kinds_any (W.drew.alloc (.cells #[.int .i64 0, .string ⟨#[]⟩, .bool false, .slice none 0 0, .nilFunc, .nilFunc] 106))).mono ?_
    rintro e w5 ⟨g, KA, rfl, hKA, hB5⟩
    have hB5' : Below W.heap.size W w5 := ⟨hB5.os, hB5.tape, hB5.output, Nat.le_trans (by simp) hB5.size, fun k hk => (hB5.block k (Nat.lt_of_lt_of_le hk (by simp))).trans (by first | rfl | exact Below.heap_alloc W.drew _ k hk)⟩
    have kF5 := kF6.below' hB5
    have kB5 := kB6.below' hB5
    have hS7 := And.intro (kF5.cell 0 (.int .i64 k) rfl) (And.intro (kF5.cell 1 (.int .i64 st) rfl) (And.intro (kF5.cell 2 (.int .i64 lt) rfl) (kF5.cell 3 (.int .i64 wi) rfl)))
    go_simp
    refine hK.out _ _ hS7 (fun h => absurd h (by decide)) ?_
    clear hK K
    try simp only [Act.put, List.getElem_toArray, List.getElem_cons_succ, List.getElem_cons_zero, List.setIfInBounds_toArray, List.set_cons_zero, List.set_cons_succ]
    refine wpAnyJ_ready [2] (by kernel_rfl) (by simp) (NextJ.cons rfl (fun K hK => ?_) NextJ.nil)
    go_simp
    refine (find_any g KA ⟨k, st, lt, wi⟩ w5 w5.heap.size hKA (Nat.le_refl _)).mono ?_
    rintro e w7 ⟨rfl, hB7⟩
    have kF7 := kF5.below' hB7
    have kB7 := kB5.below' hB7
    have hS8 := And.intro (kF7.cell 0 (.int .i64 k) rfl) (And.intro (kF7.cell 1 (.int .i64 st) rfl) (And.intro (kF7.cell 2 (.int .i64 lt) rfl) (kF7.cell 3 (.int .i64 wi) rfl)))
    obtain ⟨A9, c9, hv9, _, _⟩ := hKA.withs (k := k)
    rw [hn9.out] at hv9
    have hkc : (kcell KA k).toArray = #[.int .i64 k, .string nm, .bool kl, .slice A9 n9 c9, .func (.func i1) #[] #[], .func (.func i2) #[] #[]] := by unfold kcell; rw [if_pos hin.out]; unfold kcells; rw [hv9, hnm.out, hkl.out, hi1.out, hi2.out]
    rw [show (⟨k, st, lt, wi⟩ : Flt).k = k from rfl, hkc, hs.out]
    clear hkc hv9
    go_simp
    refine hK.out _ _ hS8 (fun h => absurd h (by decide)) ?_
    clear hK K
    try simp only [Act.put, List.getElem_toArray, List.getElem_cons_succ, List.getElem_cons_zero, List.setIfInBounds_toArray, List.set_cons_zero, List.set_cons_succ]
    refine wpAnyJ_take1 3 rfl (by kernel_rfl) (by kernel_rfl) rfl (by kernel_rfl) (fun _ _ _ h => h) (by rfl) hS8 (fun w' hSw => (by obtain ⟨z1, z2, z3, z4⟩ := hSw; go_simp; try (with_reducible rfl))) ?_
    try simp only [Act.put, List.getElem_toArray, List.getElem_cons_succ, List.getElem_cons_zero, List.setIfInBounds_toArray, List.set_cons_zero, List.set_cons_succ]
    refine wpAnyJ_take1 4 rfl (by kernel_rfl) (by kernel_rfl) rfl (by kernel_rfl) (fun _ _ _ h => h) (by rfl) hS8 (fun w' hSw => (by obtain ⟨z1, z2, z3, z4⟩ := hSw; go_simp; try (with_reducible rfl))) ?_
    try simp only [Act.put, List.getElem_toArray, List.getElem_cons_succ, List.getElem_cons_zero, List.setIfInBounds_toArray, List.set_cons_zero, List.set_cons_succ]
    refine wpAnyJ_take1 5 rfl (by kernel_rfl) (by kernel_rfl) rfl (by kernel_rfl) (fun _ _ _ h => h) (by rfl) hS8 (fun w' hSw => (by obtain ⟨z1, z2, z3, z4⟩ := hSw; go_simp; try (with_reducible rfl))) ?_
    try simp only [Act.put, List.getElem_toArray, List.getElem_cons_succ, List.getElem_cons_zero, List.setIfInBounds_toArray, List.set_cons_zero, List.set_cons_succ]
    have hBt : Below W.heap.size W w7 := hB5'.trans (hB7.mono hB5'.size)
    have kz0 : Blk w7 W.heap.size 106 #[.int .i64 0, .string ⟨#[]⟩, .bool false, .slice none 0 0, .nilFunc, .nilFunc] := kB7
    have y0 := kz0.cell 0 (.int .i64 0) rfl
    have x0 := kz0.frozen 0
    have kz1 := kz0.set_ 0 (.int .i64 k)
    have y1 := kz1.cell 1 (.string ⟨#[]⟩) rfl
    have x1 := kz1.frozen 1
    have kz2 := kz1.set_ 1 (.string nm)
    have y2 := kz2.cell 2 (.bool false) rfl
    have x2 := kz2.frozen 2
    have kz3 := kz2.set_ 2 (.bool kl)
    have y3 := kz3.cell 3 (.slice none 0 0) rfl
    have x3 := kz3.frozen 3
    have kz4 := kz3.set_ 3 (.slice A9 n9 c9)
    have y4 := kz4.cell 4 (.nilFunc) rfl
    have x4 := kz4.frozen 4
    have kz5 := kz4.set_ 4 (.func (.func i1) #[] #[])
    have y5 := kz5.cell 5 (.nilFunc) rfl
    have x5 := kz5.frozen 5
    have kz6 := kz5.set_ 5 (.func (.func i2) #[] #[])
    have bxl := kz0.lt
    refine wpAnyJ_ready [7] (by kernel_rfl) (by simp) (NextJ.cons rfl (fun K hK => ?_) NextJ.nil)
    go_simp
    have hge : W.heap.size ≤ W.heap.size := by first | exact Nat.le_refl _ | exact hB5'.size
    have hne : w.heap.size ≠ W.heap.size := by omega
    have kE := kz6
    have fE := (Blk.far (Blk.far (Blk.far (Blk.far (Blk.far (Blk.far kF7 (p := ⟨W.heap.size, 0, none⟩) hne (.int .i64 k)) (p := ⟨W.heap.size, 1, none⟩) hne (.string nm)) (p := ⟨W.heap.size, 2, none⟩) hne (.bool kl)) (p := ⟨W.heap.size, 3, none⟩) hne (.slice A9 n9 c9)) (p := ⟨W.heap.size, 4, none⟩) hne (.func (.func i1) #[] #[])) (p := ⟨W.heap.size, 5, none⟩) hne (.func (.func i2) #[] #[]))
    have hBE := (Below.setCell (Below.setCell (Below.setCell (Below.setCell (Below.setCell (Below.setCell hBt (p := ⟨W.heap.size, 0, none⟩) hge (.int .i64 k)) (p := ⟨W.heap.size, 1, none⟩) hge (.string nm)) (p := ⟨W.heap.size, 2, none⟩) hge (.bool kl)) (p := ⟨W.heap.size, 3, none⟩) hge (.slice A9 n9 c9)) (p := ⟨W.heap.size, 4, none⟩) hge (.func (.func i1) #[] #[])) (p := ⟨W.heap.size, 5, none⟩) hge (.func (.func i2) #[] #[]))
    have hS9 := And.intro (fE.cell 0 (.int .i64 k) rfl) (And.intro (fE.cell 1 (.int .i64 st) rfl) (And.intro (fE.cell 2 (.int .i64 lt) rfl) (fE.cell 3 (.int .i64 wi) rfl)))
    refine hK.out _ _ hS9 (fun h => absurd h (by decide)) ?_
    clear hK K
    try simp only [Act.put, List.getElem_toArray, List.getElem_cons_succ, List.getElem_cons_zero, List.setIfInBounds_toArray, List.set_cons_zero, List.set_cons_succ]
    refine wpAnyJ_take1 8 rfl (by kernel_rfl) (by kernel_rfl) rfl (by kernel_rfl) (fun _ _ _ h => h) (by rfl) hS9 (fun w' hSw => (by obtain ⟨z1, z2, z3, z4⟩ := hSw; go_simp; try (with_reducible rfl))) ?_
    try simp only [Act.put, List.getElem_toArray, List.getElem_cons_succ, List.getElem_cons_zero, List.setIfInBounds_toArray, List.set_cons_zero, List.set_cons_succ]
    refine wpAnyJ_done (by kernel_rfl) ?_ _
    obtain ⟨q0, q1, q2, q3⟩ := hS9
    clear hS1 y0 x0 y1 x1 y2 x2 y3 x3 y4 x4 y5 x5
    have hsE := kE.lt
    have hQ := hBB.trans (hBE.mono hBB.size)
    clear hBt kz0 kz1 kz2 kz3 kz4 kz5 kz6
    generalize ((((((w7.setCell ⟨W.heap.size, 0, none⟩ (.int .i64 k)).setCell ⟨W.heap.size, 1, none⟩ (.string nm)).setCell ⟨W.heap.size, 2, none⟩ (.bool kl)).setCell ⟨W.heap.size, 3, none⟩ (.slice A9 n9 c9)).setCell ⟨W.heap.size, 4, none⟩ (.func (.func i1) #[] #[])).setCell ⟨W.heap.size, 5, none⟩ (.func (.func i2) #[] #[])) = W9 at *
    go_wp2_with fail
    go_ret2
    exact ⟨rfl, hQ⟩
set_option maxRecDepth 100000 in
set_option maxHeartbeats 8000000 in
theorem fprn_4 (k st lt wi : Int) (hin : Hid ((1 ≤ k ∧ k ≤ 6))) (hs : Hid (shapedF ⟨k, st, lt, wi⟩ = true)) (a1 : ¬ st < 0) (a2 : ¬ 999 < st) (a3 : lt < 0) (w : World) (hDt : DtAt w) :
    Calls Tryz.prog 18 #[.agg #[.int .i64 k, .int .i64 st, .int .i64 lt, .int .i64 wi]] w (Ret (.tuple #[.string (bN (printF ⟨k, st, lt, wi⟩).1), .int .i64 (printF ⟨k, st, lt, wi⟩).2]) w) := by
  have HP : Hid (printF ⟨k, st, lt, wi⟩ = ([], 7)) := by
    rw [Hid]; unfold printF
    rw [if_neg (by rw [hs.out]; decide), if_pos]
    exact .inr (.inr (.inl a3))
  rw [HP.out]
  obtain ⟨nm, hnm⟩ : ∃ x, Hid (kname k = x) := ⟨_, Lib.hid rfl⟩
  obtain ⟨kl, hkl⟩ : ∃ x, Hid (klet k = x) := ⟨_, Lib.hid rfl⟩
  obtain ⟨i1, hi1⟩ : ∃ x, Hid (klf k = x) := ⟨_, Lib.hid rfl⟩
  obtain ⟨i2, hi2⟩ : ∃ x, Hid (kpf k = x) := ⟨_, Lib.hid rfl⟩
  obtain ⟨n9, hn9⟩ : ∃ x, Hid ((withsL k).length = x) := ⟨_, Lib.hid rfl⟩
  have hBB : Below w.heap.size w (w.alloc (.cells #[.int .i64 k, .int .i64 st, .int .i64 lt, .int .i64 wi] 41)) := (Below.refl _ _).alloc (Nat.le_refl _) _
  have kF := Blk.new w 41 #[.int .i64 k, .int .i64 st, .int .i64 lt, .int .i64 wi]
  go_enter Tryz.func18, Tryz.ntmps18
  go_wp2_with fail
  have fl := kF.lt
  generalize w.alloc (.cells #[.int .i64 k, .int .i64 st, .int .i64 lt, .int .i64 wi] 41) = W at *
  have p0 := kF.cell 0 (.int .i64 k) rfl
  have p1 := kF.cell 1 (.int .i64 st) rfl
  have p2 := kF.cell 2 (.int .i64 lt) rfl
  have p3 := kF.cell 3 (.int .i64 wi) rfl
  refine wp_region_J (fun w' => w'.cell? ⟨w.heap.size, 0, none⟩ = some (.int .i64 k) ∧ w'.cell? ⟨w.heap.size, 1, none⟩ = some (.int .i64 st) ∧ w'.cell? ⟨w.heap.size, 2, none⟩ = some (.int .i64 lt) ∧ w'.cell? ⟨w.heap.size, 3, none⟩ = some (.int .i64 wi)) (fun _ => True) (fun _ => false) (by kernel_rfl) ?_
  have hS1 : W.drew.cell? ⟨w.heap.size, 0, none⟩ = some (.int .i64 k) ∧ W.drew.cell? ⟨w.heap.size, 1, none⟩ = some (.int .i64 st) ∧ W.drew.cell? ⟨w.heap.size, 2, none⟩ = some (.int .i64 lt) ∧ W.drew.cell? ⟨w.heap.size, 3, none⟩ = some (.int .i64 wi) := ⟨p0, p1, p2, p3⟩
  refine wpAnyJ_take1 1 rfl (by kernel_rfl) (by kernel_rfl) rfl (by kernel_rfl) (fun _ _ _ h => h) (by rfl) hS1 (fun w' hSw => (by obtain ⟨z1, z2, z3, z4⟩ := hSw; go_simp; try (with_reducible rfl))) ?_
  try simp only [Act.put, List.getElem_toArray, List.getElem_cons_succ, List.getElem_cons_zero, List.setIfInBounds_toArray, List.set_cons_zero, List.set_cons_succ]
  refine wpAnyJ_ready [0, 6] (by kernel_rfl) (by simp) (NextJ.cons rfl (fun K hK => ?_) (NextJ.cons rfl (fun K hK => ?_) NextJ.nil))
  · skip
    go_simp
    refine (kinds_any W.drew).mono ?_
    rintro e w5 ⟨g, KA, rfl, hKA, hB5⟩
    have hB5' : Below W.heap.size W w5 := ⟨hB5.os, hB5.tape, hB5.output, Nat.le_trans (by simp) hB5.size, fun k hk => (hB5.block k (Nat.lt_of_lt_of_le hk (by simp))).trans (by first | rfl | exact Below.heap_alloc W.drew _ k hk)⟩
    have kF5 := kF.drew.below' hB5
    have hS1 := And.intro (kF5.cell 0 (.int .i64 k) rfl) (And.intro (kF5.cell 1 (.int .i64 st) rfl) (And.intro (kF5.cell 2 (.int .i64 lt) rfl) (kF5.cell 3 (.int .i64 wi) rfl)))
    go_simp
    refine hK.out _ _ hS1 (fun h => absurd h (by decide)) ?_
    clear hK K
    try simp only [Act.put, List.getElem_toArray, List.getElem_cons_succ, List.getElem_cons_zero, List.setIfInBounds_toArray, List.set_cons_zero, List.set_cons_succ]
    refine wpAnyJ_ready [2, 6] (by kernel_rfl) (by simp) (NextJ.cons rfl (fun K hK => ?_) (NextJ.cons rfl (fun K hK => ?_) NextJ.nil))
    · skip
      go_simp
      refine (find_any g KA ⟨k, st, lt, wi⟩ w5 w5.heap.size hKA (Nat.le_refl _)).mono ?_
      rintro e w7 ⟨rfl, hB7⟩
      have kF7 := kF5.below' hB7
      have hS2 := And.intro (kF7.cell 0 (.int .i64 k) rfl) (And.intro (kF7.cell 1 (.int .i64 st) rfl) (And.intro (kF7.cell 2 (.int .i64 lt) rfl) (kF7.cell 3 (.int .i64 wi) rfl)))
      obtain ⟨A9, c9, hv9, _, _⟩ := hKA.withs (k := k)
      rw [hn9.out] at hv9
      have hkc : (kcell KA k).toArray = #[.int .i64 k, .string nm, .bool kl, .slice A9 n9 c9, .func (.func i1) #[] #[], .func (.func i2) #[] #[]] := by unfold kcell; rw [if_pos hin.out]; unfold kcells; rw [hv9, hnm.out, hkl.out, hi1.out, hi2.out]
      rw [show (⟨k, st, lt, wi⟩ : Flt).k = k from rfl, hkc, hs.out]
      clear hkc hv9
      go_simp
      refine hK.out _ _ hS2 (fun h => absurd h (by decide)) ?_
      clear hK K
      try simp only [Act.put, List.getElem_toArray, List.getElem_cons_succ, List.getElem_cons_zero, List.setIfInBounds_toArray, List.set_cons_zero, List.set_cons_succ]
      refine wpAnyJ_take1 3 rfl (by kernel_rfl) (by kernel_rfl) rfl (by kernel_rfl) (fun _ _ _ h => h) (by rfl) hS2 (fun w' hSw => (by obtain ⟨z1, z2, z3, z4⟩ := hSw; go_simp; try (with_reducible rfl))) ?_
      try simp only [Act.put, List.getElem_toArray, List.getElem_cons_succ, List.getElem_cons_zero, List.setIfInBounds_toArray, List.set_cons_zero, List.set_cons_succ]
      refine wpAnyJ_take1 4 rfl (by kernel_rfl) (by kernel_rfl) rfl (by kernel_rfl) (fun _ _ _ h => h) (by rfl) hS2 (fun w' hSw => (by obtain ⟨z1, z2, z3, z4⟩ := hSw; go_simp; try (with_reducible rfl))) ?_
      try simp only [Act.put, List.getElem_toArray, List.getElem_cons_succ, List.getElem_cons_zero, List.setIfInBounds_toArray, List.set_cons_zero, List.set_cons_succ]
      refine wpAnyJ_take1 5 rfl (by kernel_rfl) (by kernel_rfl) rfl (by kernel_rfl) (fun _ _ _ h => h) (by rfl) hS2 (fun w' hSw => (by obtain ⟨z1, z2, z3, z4⟩ := hSw; go_simp; try (with_reducible rfl))) ?_
      try simp only [Act.put, List.getElem_toArray, List.getElem_cons_succ, List.getElem_cons_zero, List.setIfInBounds_toArray, List.set_cons_zero, List.set_cons_succ]
      refine wpAnyJ_ready [6] (by kernel_rfl) (by simp) (NextJ.cons rfl (fun K hK => ?_) NextJ.nil)
      go_simp
      have kF6 := kF7.alloc (.cells #[.int .i64 0, .string ⟨#[]⟩, .bool false, .slice none 0 0, .nilFunc, .nilFunc] 106)
      have kB6 := Blk.new w7 106 #[.int .i64 0, .string ⟨#[]⟩, .bool false, .slice none 0 0, .nilFunc, .nilFunc]
      have hS3 := And.intro (kF6.cell 0 (.int .i64 k) rfl) (And.intro (kF6.cell 1 (.int .i64 st) rfl) (And.intro (kF6.cell 2 (.int .i64 lt) rfl) (kF6.cell 3 (.int .i64 wi) rfl)))
      refine hK.out _ _ hS3 (fun h => absurd h (by decide)) ?_
      clear hK K
      try simp only [Act.put, List.getElem_toArray, List.getElem_cons_succ, List.getElem_cons_zero, List.setIfInBounds_toArray, List.set_cons_zero, List.set_cons_succ]
      have hBt : Below W.heap.size W (w7.alloc (.cells #[.int .i64 0, .string ⟨#[]⟩, .bool false, .slice none 0 0, .nilFunc, .nilFunc] 106)) := Below.alloc (hB5'.trans (hB7.mono hB5'.size)) (Nat.le_trans hB5'.size hB7.size) _
      have kz0 : Blk (w7.alloc (.cells #[.int .i64 0, .string ⟨#[]⟩, .bool false, .slice none 0 0, .nilFunc, .nilFunc] 106)) w7.heap.size 106 #[.int .i64 0, .string ⟨#[]⟩, .bool false, .slice none 0 0, .nilFunc, .nilFunc] := kB6
      have y0 := kz0.cell 0 (.int .i64 0) rfl
      have x0 := kz0.frozen 0
      have kz1 := kz0.set_ 0 (.int .i64 k)
      have y1 := kz1.cell 1 (.string ⟨#[]⟩) rfl
      have x1 := kz1.frozen 1
      have kz2 := kz1.set_ 1 (.string nm)
      have y2 := kz2.cell 2 (.bool false) rfl
      have x2 := kz2.frozen 2
      have kz3 := kz2.set_ 2 (.bool kl)
      have y3 := kz3.cell 3 (.slice none 0 0) rfl
      have x3 := kz3.frozen 3
      have kz4 := kz3.set_ 3 (.slice A9 n9 c9)
      have y4 := kz4.cell 4 (.nilFunc) rfl
      have x4 := kz4.frozen 4
      have kz5 := kz4.set_ 4 (.func (.func i1) #[] #[])
      have y5 := kz5.cell 5 (.nilFunc) rfl
      have x5 := kz5.frozen 5
      have kz6 := kz5.set_ 5 (.func (.func i2) #[] #[])
      have bxl := kz0.lt
      refine wpAnyJ_ready [7] (by kernel_rfl) (by simp) (NextJ.cons rfl (fun K hK => ?_) NextJ.nil)
      go_simp
      have kE := Blk.new w7 106 #[.int .i64 k, .string nm, .bool kl, .slice A9 n9 c9, .func (.func i1) #[] #[], .func (.func i2) #[] #[]]
      have fE := kF7.alloc (.cells #[.int .i64 k, .string nm, .bool kl, .slice A9 n9 c9, .func (.func i1) #[] #[], .func (.func i2) #[] #[]] 106)
      have hBE : Below W.heap.size W (w7.alloc (.cells #[.int .i64 k, .string nm, .bool kl, .slice A9 n9 c9, .func (.func i1) #[] #[], .func (.func i2) #[] #[]] 106)) := Below.alloc (hB5'.trans (hB7.mono hB5'.size)) (Nat.le_trans hB5'.size hB7.size) _
      have hS9 := And.intro (fE.cell 0 (.int .i64 k) rfl) (And.intro (fE.cell 1 (.int .i64 st) rfl) (And.intro (fE.cell 2 (.int .i64 lt) rfl) (fE.cell 3 (.int .i64 wi) rfl)))
      refine hK.out _ _ hS9 (fun h => absurd h (by decide)) ?_
      clear hK K
      try simp only [Act.put, List.getElem_toArray, List.getElem_cons_succ, List.getElem_cons_zero, List.setIfInBounds_toArray, List.set_cons_zero, List.set_cons_succ]
      refine wpAnyJ_take1 8 rfl (by kernel_rfl) (by kernel_rfl) rfl (by kernel_rfl) (fun _ _ _ h => h) (by rfl) hS9 (fun w' hSw => (by obtain ⟨z1, z2, z3, z4⟩ := hSw; go_simp; try (with_reducible rfl))) ?_
      try simp only [Act.put, List.getElem_toArray, List.getElem_cons_succ, List.getElem_cons_zero, List.setIfInBounds_toArray, List.set_cons_zero, List.set_cons_succ]
      refine wpAnyJ_done (by kernel_rfl) ?_ _
      obtain ⟨q0, q1, q2, q3⟩ := hS9
      clear hS1 y0 x0 y1 x1 y2 x2 y3 x3 y4 x4 y5 x5
      have hsE := kE.lt
      have hQ := hBB.trans (hBE.mono hBB.size)
      clear hBt kz0 kz1 kz2 kz3 kz4 kz5 kz6
      generalize (w7.alloc (.cells #[.int .i64 k, .string nm, .bool kl, .slice A9 n9 c9, .func (.func i1) #[] #[], .func (.func i2) #[] #[]] 106)) = W9 at *
      go_wp2_with fail
      go_ret2
      exact ⟨rfl, hQ⟩
    · skip
      go_simp
      have kF6 := kF5.alloc (.cells #[.int .i64 0, .string ⟨#[]⟩, .bool false, .slice none 0 0, .nilFunc, .nilFunc] 106)
      have kB6 := Blk.new w5 106 #[.int .i64 0, .string ⟨#[]⟩, .bool false, .slice none 0 0, .nilFunc, .nilFunc]
      have hS4 := And.intro (kF6.cell 0 (.int .i64 k) rfl) (And.intro (kF6.cell 1 (.int .i64 st) rfl) (And.intro (kF6.cell 2 (.int .i64 lt) rfl) (kF6.cell 3 (.int .i64 wi) rfl)))
      refine hK.out _ _ hS4 (fun h => absurd h (by decide)) ?_
      clear hK K
      try simp only [Act.put, List.getElem_toArray, List.getElem_cons_succ, List.getElem_cons_zero, List.setIfInBounds_toArray, List.set_cons_zero, List.set_cons_succ]
      refine wpAnyJ_ready [2] (by kernel_rfl) (by simp) (NextJ.cons rfl (fun K hK => ?_) NextJ.nil)
      have hKA6 := hKA.below (Below.alloc (Below.refl _ w5) (Nat.le_refl _) (.cells #[.int .i64 0, .string ⟨#[]⟩, .bool false, .slice none 0 0, .nilFunc, .nilFunc] 106)) (Nat.le_refl _)
      have hKA6 : KindsAt (w5.alloc (.cells #[.int .i64 0, .string ⟨#[]⟩, .bool false, .slice none 0 0, .nilFunc, .nilFunc] 106)) (w5.alloc (.cells #[.int .i64 0, .string ⟨#[]⟩, .bool false, .slice none 0 0, .nilFunc, .nilFunc] 106)).heap.size g KA := ⟨Nat.lt_of_lt_of_le hKA6.lt (by simp), hKA6.blk, hKA6.wa.more (by simp), hKA6.wb.more (by simp), hKA6.wp.more (by simp)⟩
      go_simp
      refine (find_any g KA ⟨k, st, lt, wi⟩ (w5.alloc (.cells #[.int .i64 0, .string ⟨#[]⟩, .bool false, .slice none 0 0, .nilFunc, .nilFunc] 106)) (w5.alloc (.cells #[.int .i64 0, .string ⟨#[]⟩, .bool false, .slice none 0 0, .nilFunc, .nilFunc] 106)).heap.size hKA6 (Nat.le_refl _)).mono ?_
      rintro e w7 ⟨rfl, hB7⟩
      have kF7 := kF6.below' hB7
      have kB7 := kB6.below' hB7
      have hS5 := And.intro (kF7.cell 0 (.int .i64 k) rfl) (And.intro (kF7.cell 1 (.int .i64 st) rfl) (And.intro (kF7.cell 2 (.int .i64 lt) rfl) (kF7.cell 3 (.int .i64 wi) rfl)))
      obtain ⟨A9, c9, hv9, _, _⟩ := hKA6.withs (k := k)
      rw [hn9.out] at hv9
      have hkc : (kcell KA k).toArray = #[.int .i64 k, .string nm, .bool kl, .slice A9 n9 c9, .func (.func i1) #[] #[], .func (.func i2) #[] #[]] := by unfold kcell; rw [if_pos hin.out]; unfold kcells; rw [hv9, hnm.out, hkl.out, hi1.out, hi2.out]
      rw [show (⟨k, st, lt, wi⟩ : Flt).k = k from rfl, hkc, hs.out]
      clear hkc hv9
      go_simp
      refine hK.out _ _ hS5 (fun h => absurd h (by decide)) ?_
      clear hK K
      try simp only [Act.put, List.getElem_toArray, List.getElem_cons_succ, List.getElem_cons_zero, List.setIfInBounds_toArray, List.set_cons_zero, List.set_cons_succ]
      refine wpAnyJ_take1 3 rfl (by kernel_rfl) (by kernel_rfl) rfl (by kernel_rfl) (fun _ _ _ h => h) (by rfl) hS5 (fun w' hSw => (by obtain ⟨z1, z2, z3, z4⟩ := hSw; go_simp; try (with_reducible rfl))) ?_
      try simp only [Act.put, List.getElem_toArray, List.getElem_cons_succ, List.getElem_cons_zero, List.setIfInBounds_toArray, List.set_cons_zero, List.set_cons_succ]
      refine wpAnyJ_take1 4 rfl (by kernel_rfl) (by kernel_rfl) rfl (by kernel_rfl) (fun _ _ _ h => h) (by rfl) hS5 (fun w' hSw => (by obtain ⟨z1, z2, z3, z4⟩ := hSw; go_simp; try (with_reducible rfl))) ?_
      try simp only [Act.put, List.getElem_toArray, List.getElem_cons_succ, List.getElem_cons_zero, List.setIfInBounds_toArray, List.set_cons_zero, List.set_cons_succ]
      refine wpAnyJ_take1 5 rfl (by kernel_rfl) (by kernel_rfl) rfl (by kernel_rfl) (fun _ _ _ h => h) (by rfl) hS5 (fun w' hSw => (by obtain ⟨z1, z2, z3, z4⟩ := hSw; go_simp; try (with_reducible rfl))) ?_
      try simp only [Act.put, List.getElem_toArray, List.getElem_cons_succ, List.getElem_cons_zero, List.setIfInBounds_toArray, List.set_cons_zero, List.set_cons_succ]
      have hBt : Below W.heap.size W w7 := (Below.alloc hB5' hB5'.size _).trans (hB7.mono (Nat.le_trans hB5'.size (by simp)))
      have kz0 : Blk w7 w5.heap.size 106 #[.int .i64 0, .string ⟨#[]⟩, .bool false, .slice none 0 0, .nilFunc, .nilFunc] := kB7
      have y0 := kz0.cell 0 (.int .i64 0) rfl
      have x0 := kz0.frozen 0
      have kz1 := kz0.set_ 0 (.int .i64 k)
      have y1 := kz1.cell 1 (.string ⟨#[]⟩) rfl
      have x1 := kz1.frozen 1
      have kz2 := kz1.set_ 1 (.string nm)
      have y2 := kz2.cell 2 (.bool false) rfl
      have x2 := kz2.frozen 2
      have kz3 := kz2.set_ 2 (.bool kl)
      have y3 := kz3.cell 3 (.slice none 0 0) rfl
      have x3 := kz3.frozen 3
      have kz4 := kz3.set_ 3 (.slice A9 n9 c9)
      have y4 := kz4.cell 4 (.nilFunc) rfl
      have x4 := kz4.frozen 4
      have kz5 := kz4.set_ 4 (.func (.func i1) #[] #[])
      have y5 := kz5.cell 5 (.nilFunc) rfl
      have x5 := kz5.frozen 5
      have kz6 := kz5.set_ 5 (.func (.func i2) #[] #[])
      have bxl := kz0.lt
      refine wpAnyJ_ready [7] (by kernel_rfl) (by simp) (NextJ.cons rfl (fun K hK => ?_) NextJ.nil)
      go_simp
      have hge : W.heap.size ≤ w5.heap.size := by first | exact Nat.le_refl _ | exact hB5'.size
      have hne : w.heap.size ≠ w5.heap.size := by omega
      have kE := kz6
      have fE := (Blk.far (Blk.far (Blk.far (Blk.far (Blk.far (Blk.far kF7 (p := ⟨w5.heap.size, 0, none⟩) hne (.int .i64 k)) (p := ⟨w5.heap.size, 1, none⟩) hne (.string nm)) (p := ⟨w5.heap.size, 2, none⟩) hne (.bool kl)) (p := ⟨w5.heap.size, 3, none⟩) hne (.slice A9 n9 c9)) (p := ⟨w5.heap.size, 4, none⟩) hne (.func (.func i1) #[] #[])) (p := ⟨w5.heap.size, 5, none⟩) hne (.func (.func i2) #[] #[]))
      have hBE := (Below.setCell (Below.setCell (Below.setCell (Below.setCell (Below.setCell (Below.setCell hBt (p := ⟨w5.heap.size, 0, none⟩) hge (.int .i64 k)) (p := ⟨w5.heap.size, 1, none⟩) hge (.string nm)) (p := ⟨w5.heap.size, 2, none⟩) hge (.bool kl)) (p := ⟨w5.heap.size, 3, none⟩) hge (.slice A9 n9 c9)) (p := ⟨w5.heap.size, 4, none⟩) hge (.func (.func i1) #[] #[])) (p := ⟨w5.heap.size, 5, none⟩) hge (.func (.func i2) #[] #[]))
      have hS9 := And.intro (fE.cell 0 (.int .i64 k) rfl) (And.intro (fE.cell 1 (.int .i64 st) rfl) (And.intro (fE.cell 2 (.int .i64 lt) rfl) (fE.cell 3 (.int .i64 wi) rfl)))
      refine hK.out _ _ hS9 (fun h => absurd h (by decide)) ?_
      clear hK K
      try simp only [Act.put, List.getElem_toArray, List.getElem_cons_succ, List.getElem_cons_zero, List.setIfInBounds_toArray, List.set_cons_zero, List.set_cons_succ]
      refine wpAnyJ_take1 8 rfl (by kernel_rfl) (by kernel_rfl) rfl (by kernel_rfl) (fun _ _ _ h => h) (by rfl) hS9 (fun w' hSw => (by obtain ⟨z1, z2, z3, z4⟩ := hSw; go_simp; try (with_reducible rfl))) ?_
      try simp only [Act.put, List.getElem_toArray, List.getElem_cons_succ, List.getElem_cons_zero, List.setIfInBounds_toArray, List.set_cons_zero, List.set_cons_succ]
      refine wpAnyJ_done (by kernel_rfl) ?_ _
      obtain ⟨q0, q1, q2, q3⟩ := hS9
      clear hS1 y0 x0 y1 x1 y2 x2 y3 x3 y4 x4 y5 x5
      have hsE := kE.lt
      have hQ := hBB.trans (hBE.mono hBB.size)
      clear hBt kz0 kz1 kz2 kz3 kz4 kz5 kz6
      generalize ((((((w7.setCell ⟨w5.heap.size, 0, none⟩ (.int .i64 k)).setCell ⟨w5.heap.size, 1, none⟩ (.string nm)).setCell ⟨w5.heap.size, 2, none⟩ (.bool kl)).setCell ⟨w5.heap.size, 3, none⟩ (.slice A9 n9 c9)).setCell ⟨w5.heap.size, 4, none⟩ (.func (.func i1) #[] #[])).setCell ⟨w5.heap.size, 5, none⟩ (.func (.func i2) #[] #[])) = W9 at *
      go_wp2_with fail
      go_ret2
      exact ⟨rfl, hQ⟩
  · skip
    go_simp
    have kF6 := kF.drew.alloc (.cells #[.int .i64 0, .string ⟨#[]⟩, .bool false, .slice none 0 0, .nilFunc, .nilFunc] 106)
    have kB6 := Blk.new W.drew 106 #[.int .i64 0, .string ⟨#[]⟩, .bool false, .slice none 0 0, .nilFunc, .nilFunc]
    have hS6 := And.intro (kF6.cell 0 (.int .i64 k) rfl) (And.intro (kF6.cell 1 (.int .i64 st) rfl) (And.intro (kF6.cell 2 (.int .i64 lt) rfl) (kF6.cell 3 (.int .i64 wi) rfl)))
    refine hK.out _ _ hS6 (fun h => absurd h (by decide)) ?_
    clear hK K
    try simp only [Act.put, List.getElem_toArray, List.getElem_cons_succ, List.getElem_cons_zero, List.setIfInBounds_toArray, List.set_cons_zero, List.set_cons_succ]
    refine wpAnyJ_ready [0] (by kernel_rfl) (by simp) (NextJ.cons rfl (fun K hK => ?_) NextJ.nil)
    go_simp
    refine (kinds_any (W.drew.alloc (.cells #[.int .i64 0, .string ⟨#[]⟩, .bool false, .slice none 0 0, .nilFunc, .nilFunc] 106))).mono ?_
    rintro e w5 ⟨g, KA, rfl, hKA, hB5⟩
    have hB5' : Below W.heap.size W w5 := ⟨hB5.os, hB5.tape, hB5.output, Nat.le_trans (by simp) hB5.size, fun k hk => (hB5.block k (Nat.lt_of_lt_of_le hk (by simp))).trans (by first | rfl | exact Below.heap_alloc W.drew _ k hk)⟩
    have kF5 := kF6.below' hB5
    have kB5 := kB6.below' hB5
    have hS7 := And.intro (kF5.cell 0 (.int .i64 k) rfl) (And.intro (kF5.cell 1 (.int .i64 st) rfl) (And.intro (kF5.cell 2 (.int .i64 lt) rfl) (kF5.cell 3 (.int .i64 wi) rfl)))
    go_simp
    refine hK.out _ _ hS7 (fun h => absurd h (by decide)) ?_
    clear hK K
    try simp only [Act.put, List.getElem_toArray, List.getElem_cons_succ, List.getElem_cons_zero, List.setIfInBounds_toArray, List.set_cons_zero, List.set_cons_succ]
    refine wpAnyJ_ready [2] (by kernel_rfl) (by simp) (NextJ.cons rfl (fun K hK => ?_) NextJ.nil)
    go_simp
    refine (find_any g KA ⟨k, st, lt, wi⟩ w5 w5.heap.size hKA (Nat.le_refl _)).mono ?_
    rintro e w7 ⟨rfl, hB7⟩
    have kF7 := kF5.below' hB7
    have kB7 := kB5.below' hB7
    have hS8 := And.intro (kF7.cell 0 (.int .i64 k) rfl) (And.intro (kF7.cell 1 (.int .i64 st) rfl) (And.intro (kF7.cell 2 (.int .i64 lt) rfl) (kF7.cell 3 (.int .i64 wi) rfl)))
    obtain ⟨A9, c9, hv9, _, _⟩ := hKA.withs (k := k)
    rw [hn9.out] at hv9
    have hkc : (kcell KA k).toArray = #[.int .i64 k, .string nm, .bool kl, .slice A9 n9 c9, .func (.func i1) #[] #[], .func (.func i2) #[] #[]] := by unfold kcell; rw [if_pos hin.out]; unfold kcells; rw [hv9, hnm.out, hkl.out, hi1.out, hi2.out]
    rw [show (⟨k, st, lt, wi⟩ : Flt).k = k from rfl, hkc, hs.out]
    clear hkc hv9
    go_simp
    refine hK.out _ _ hS8 (fun h => absurd h (by decide)) ?_
    clear hK K
    try simp only [Act.put, List.getElem_toArray, List.getElem_cons_succ, List.getElem_cons_zero, List.setIfInBounds_toArray, List.set_cons_zero, List.set_cons_succ]
    refine wpAnyJ_take1 3 rfl (by kernel_rfl) (by kernel_rfl) rfl (by kernel_rfl) (fun _ _ _ h => h) (by rfl) hS8 (fun w' hSw => (by obtain ⟨z1, z2, z3, z4⟩ := hSw; go_simp; try (with_reducible rfl))) ?_
    try simp only [Act.put, List.getElem_toArray, List.getElem_cons_succ, List.getElem_cons_zero, List.setIfInBounds_toArray, List.set_cons_zero, List.set_cons_succ]
    refine wpAnyJ_take1 4 rfl (by kernel_rfl) (by kernel_rfl) rfl (by kernel_rfl) (fun _ _ _ h => h) (by rfl) hS8 (fun w' hSw => (by obtain ⟨z1, z2, z3, z4⟩ := hSw; go_simp; try (with_reducible rfl))) ?_
    try simp only [Act.put, List.getElem_toArray, List.getElem_cons_succ, List.getElem_cons_zero, List.setIfInBounds_toArray, List.set_cons_zero, List.set_cons_succ]
    refine wpAnyJ_take1 5 rfl (by kernel_rfl) (by kernel_rfl) rfl (by kernel_rfl) (fun _ _ _ h => h) (by rfl) hS8 (fun w' hSw => (by obtain ⟨z1, z2, z3, z4⟩ := hSw; go_simp; try (with_reducible rfl))) ?_
    try simp only [Act.put, List.getElem_toArray, List.getElem_cons_succ, List.getElem_cons_zero, List.setIfInBounds_toArray, List.set_cons_zero, List.set_cons_succ]
    have hBt : Below W.heap.size W w7 := hB5'.trans (hB7.mono hB5'.size)
    have kz0 : Blk w7 W.heap.size 106 #[.int .i64 0, .string ⟨#[]⟩, .bool false, .slice none 0 0, .nilFunc, .nilFunc] := kB7
    have y0 := kz0.cell 0 (.int .i64 0) rfl
    have x0 := kz0.frozen 0
    have kz1 := kz0.set_ 0 (.int .i64 k)
    have y1 := kz1.cell 1 (.string ⟨#[]⟩) rfl
    have x1 := kz1.frozen 1
    have kz2 := kz1.set_ 1 (.string nm)
    have y2 := kz2.cell 2 (.bool false) rfl
    have x2 := kz2.frozen 2
    have kz3 := kz2.set_ 2 (.bool kl)
    have y3 := kz3.cell 3 (.slice none 0 0) rfl
    have x3 := kz3.frozen 3
    have kz4 := kz3.set_ 3 (.slice A9 n9 c9)
    have y4 := kz4.cell 4 (.nilFunc) rfl
    have x4 := kz4.frozen 4
    have kz5 := kz4.set_ 4 (.func (.func i1) #[] #[])
    have y5 := kz5.cell 5 (.nilFunc) rfl
    have x5 := kz5.frozen 5
    have kz6 := kz5.set_ 5 (.func (.func i2) #[] #[])
    have bxl := kz0.lt
    refine wpAnyJ_ready [7] (by kernel_rfl) (by simp) (NextJ.cons rfl (fun K hK => ?_) NextJ.nil)
    go_simp
    have hge : W.heap.size ≤ W.heap.size := by first | exact Nat.le_refl _ | exact hB5'.size
    have hne : w.heap.size ≠ W.heap.size := by omega
    have kE := kz6
    have fE := (Blk.far (Blk.far (Blk.far (Blk.far (Blk.far (Blk.far kF7 (p := ⟨W.heap.size, 0, none⟩) hne (.int .i64 k)) (p := ⟨W.heap.size, 1, none⟩) hne (.string nm)) (p := ⟨W.heap.size, 2, none⟩) hne (.bool kl)) (p := ⟨W.heap.size, 3, none⟩) hne (.slice A9 n9 c9)) (p := ⟨W.heap.size, 4, none⟩) hne (.func (.func i1) #[] #[])) (p := ⟨W.heap.size, 5, none⟩) hne (.func (.func i2) #[] #[]))
    have hBE := (Below.setCell (Below.setCell (Below.setCell (Below.setCell (Below.setCell (Below.setCell hBt (p := ⟨W.heap.size, 0, none⟩) hge (.int .i64 k)) (p := ⟨W.heap.size, 1, none⟩) hge (.string nm)) (p := ⟨W.heap.size, 2, none⟩) hge (.bool kl)) (p := ⟨W.heap.size, 3, none⟩) hge (.slice A9 n9 c9)) (p := ⟨W.heap.size, 4, none⟩) hge (.func (.func i1) #[] #[])) (p := ⟨W.heap.size, 5, none⟩) hge (.func (.func i2) #[] #[]))
    have hS9 := And.intro (fE.cell 0 (.int .i64 k) rfl) (And.intro (fE.cell 1 (.int .i64 st) rfl) (And.intro (fE.cell 2 (.int .i64 lt) rfl) (fE.cell 3 (.int .i64 wi) rfl)))
    refine hK.out _ _ hS9 (fun h => absurd h (by decide)) ?_
    clear hK K
    try simp only [Act.put, List.getElem_toArray, List.getElem_cons_succ, List.getElem_cons_zero, List.setIfInBounds_toArray, List.set_cons_zero, List.set_cons_succ]
    refine wpAnyJ_take1 8 rfl (by kernel_rfl) (by kernel_rfl) rfl (by kernel_rfl) (fun _ _ _ h => h) (by rfl) hS9 (fun w' hSw => (by obtain ⟨z1, z2, z3, z4⟩ := hSw; go_simp; try (with_reducible rfl))) ?_
    try simp only [Act.put, List.getElem_toArray, List.getElem_cons_succ, List.getElem_cons_zero, List.setIfInBounds_toArray, List.set_cons_zero, List.set_cons_succ]
    refine wpAnyJ_done (by kernel_rfl) ?_ _
    obtain ⟨q0, q1, q2, q3⟩ := hS9
    clear hS1 y0 x0 y1 x1 y2 x2 y3 x3 y4 x4 y5 x5
    have hsE := kE.lt
    have hQ := hBB.trans (hBE.mono hBB.size)
    clear hBt kz0 kz1 kz2 kz3 kz4 kz5 kz6
    generalize ((((((w7.setCell ⟨W.heap.size, 0, none⟩ (.int .i64 k)).setCell ⟨W.heap.size, 1, none⟩ (.string nm)).setCell ⟨W.heap.size, 2, none⟩ (.bool kl)).setCell ⟨W.heap.size, 3, none⟩ (.slice A9 n9 c9)).setCell ⟨W.heap.size, 4, none⟩ (.func (.func i1) #[] #[])).setCell ⟨W.heap.size, 5, none⟩ (.func (.func i2) #[] #[])) = W9 at *
    go_wp2_with fail
    go_ret2
    exact ⟨rfl, hQ⟩
set_option maxRecDepth 100000 in
set_option maxHeartbeats 8000000 in
theorem fprn_5 (k st lt wi : Int) (hin : Hid ((1 ≤ k ∧ k ≤ 6))) (hs : Hid (shapedF ⟨k, st, lt, wi⟩ = true)) (a1 : ¬ st < 0) (a2 : ¬ 999 < st) (a3 : ¬ lt < 0) (a4 : 16 < lt) (w : World) (hDt : DtAt w) :
    Calls Tryz.prog 18 #[.agg #[.int .i64 k, .int .i64 st, .int .i64 lt, .int .i64 wi]] w (Ret (.tuple #[.string (bN (printF ⟨k, st, lt, wi⟩).1), .int .i64 (printF ⟨k, st, lt, wi⟩).2]) w) := by
  have HP : Hid (printF ⟨k, st, lt, wi⟩ = ([], 7)) := by
    rw [Hid]; unfold printF
    rw [if_neg (by rw [hs.out]; decide), if_pos]
    exact .inr (.inr (.inr a4))
  rw [HP.out]
  obtain ⟨nm, hnm⟩ : ∃ x, Hid (kname k = x) := ⟨_, Lib.hid rfl⟩
  obtain ⟨kl, hkl⟩ : ∃ x, Hid (klet k = x) := ⟨_, Lib.hid rfl⟩
  obtain ⟨i1, hi1⟩ : ∃ x, Hid (klf k = x) := ⟨_, Lib.hid rfl⟩
  obtain ⟨i2, hi2⟩ : ∃ x, Hid (kpf k = x) := ⟨_, Lib.hid rfl⟩
  obtain ⟨n9, hn9⟩ : ∃ x, Hid ((withsL k).length = x) := ⟨_, Lib.hid rfl⟩
  have hBB : Below w.heap.size w (w.alloc (.cells #[.int .i64 k, .int .i64 st, .int .i64 lt, .int .i64 wi] 41)) := (Below.refl _ _).alloc (Nat.le_refl _) _
  have kF := Blk.new w 41 #[.int .i64 k, .int .i64 st, .int .i64 lt, .int .i64 wi]
  go_enter Tryz.func18, Tryz.ntmps18
  go_wp2_with fail
  have fl := kF.lt
  generalize w.alloc (.cells #[.int .i64 k, .int .i64 st, .int .i64 lt, .int .i64 wi] 41) = W at *
  have p0 := kF.cell 0 (.int .i64 k) rfl
  have p1 := kF.cell 1 (.int .i64 st) rfl
  have p2 := kF.cell 2 (.int .i64 lt) rfl
  have p3 := kF.cell 3 (.int .i64 wi) rfl
  refine wp_region_J (fun w' => w'.cell? ⟨w.heap.size, 0, none⟩ = some (.int .i64 k) ∧ w'.cell? ⟨w.heap.size, 1, none⟩ = some (.int .i64 st) ∧ w'.cell? ⟨w.heap.size, 2, none⟩ = some (.int .i64 lt) ∧ w'.cell? ⟨w.heap.size, 3, none⟩ = some (.int .i64 wi)) (fun _ => True) (fun _ => false) (by kernel_rfl) ?_
  have hS1 : W.drew.cell? ⟨w.heap.size, 0, none⟩ = some (.int .i64 k) ∧ W.drew.cell? ⟨w.heap.size, 1, none⟩ = some (.int .i64 st) ∧ W.drew.cell? ⟨w.heap.size, 2, none⟩ = some (.int .i64 lt) ∧ W.drew.cell? ⟨w.heap.size, 3, none⟩ = some (.int .i64 wi) := ⟨p0, p1, p2, p3⟩
  refine wpAnyJ_take1 1 rfl (by kernel_rfl) (by kernel_rfl) rfl (by kernel_rfl) (fun _ _ _ h => h) (by rfl) hS1 (fun w' hSw => (by obtain ⟨z1, z2, z3, z4⟩ := hSw; go_simp; try (with_reducible rfl))) ?_
  try simp only [Act.put, List.getElem_toArray, List.getElem_cons_succ, List.getElem_cons_zero, List.setIfInBounds_toArray, List.set_cons_zero, List.set_cons_succ]
  refine wpAnyJ_ready [0, 6] (by kernel_rfl) (by simp) (NextJ.cons rfl (fun K hK => ?_) (NextJ.cons rfl (fun K hK => ?_) NextJ.nil))
  · skip
    go_simp
    refine (kinds_any W.drew).mono ?_
    rintro e w5 ⟨g, KA, rfl, hKA, hB5⟩
    have hB5' : Below W.heap.size W w5 := ⟨hB5.os, hB5.tape, hB5.output, Nat.le_trans (by simp) hB5.size, fun k hk => (hB5.block k (Nat.lt_of_lt_of_le hk (by simp))).trans (by first | rfl | exact Below.heap_alloc W.drew _ k hk)⟩
    have kF5 := kF.drew.below' hB5
    have hS1 := And.intro (kF5.cell 0 (.int .i64 k) rfl) (And.intro (kF5.cell 1 (.int .i64 st) rfl) (And.intro (kF5.cell 2 (.int .i64 lt) rfl) (kF5.cell 3 (.int .i64 wi) rfl)))
    go_simp
    refine hK.out _ _ hS1 (fun h => absurd h (by decide)) ?_
    clear hK K
    try simp only [Act.put, List.getElem_toArray, List.getElem_cons_succ, List.getElem_cons_zero, List.setIfInBounds_toArray, List.set_cons_zero, List.set_cons_succ]
    refine wpAnyJ_ready [2, 6] (by kernel_rfl) (by simp) (NextJ.cons rfl (fun K hK => ?_) (NextJ.cons rfl (fun K hK => ?_) NextJ.nil))
    · skip
      go_simp
      refine (find_any g KA ⟨k, st, lt, wi⟩ w5 w5.heap.size hKA (Nat.le_refl _)).mono ?_
      rintro e w7 ⟨rfl, hB7⟩
      have kF7 := kF5.below' hB7
      have hS2 := And.intro (kF7.cell 0 (.int .i64 k) rfl) (And.intro (kF7.cell 1 (.int .i64 st) rfl) (And.intro (kF7.cell 2 (.int .i64 lt) rfl) (kF7.cell 3 (.int .i64 wi) rfl)))
      obtain ⟨A9, c9, hv9, _, _⟩ := hKA.withs (k := k)
      rw [hn9.out] at hv9
      have hkc : (kcell KA k).toArray = #[.int .i64 k, .string nm, .bool kl, .slice A9 n9 c9, .func (.func i1) #[] #[], .func (.func i2) #[] #[]] := by unfold kcell; rw [if_pos hin.out]; unfold kcells; rw [hv9, hnm.out, hkl.out, hi1.out, hi2.out]
      rw [show (⟨k, st, lt, wi⟩ : Flt).k = k from rfl, hkc, hs.out]
      clear hkc hv9
      go_simp
      refine hK.out _ _ hS2 (fun h => absurd h (by decide)) ?_
      clear hK K
      try simp only [Act.put, List.getElem_toArray, List.getElem_cons_succ, List.getElem_cons_zero, List.setIfInBounds_toArray, List.set_cons_zero, List.set_cons_succ]
      refine wpAnyJ_take1 3 rfl (by kernel_rfl) (by kernel_rfl) rfl (by kernel_rfl) (fun _ _ _ h => h) (by rfl) hS2 (fun w' hSw => (by obtain ⟨z1, z2, z3, z4⟩ := hSw; go_simp; try (with_reducible rfl))) ?_
      try simp only [Act.put, List.getElem_toArray, List.getElem_cons_succ, List.getElem_cons_zero, List.setIfInBounds_toArray, List.set_cons_zero, List.set_cons_succ]
      refine wpAnyJ_take1 4 rfl (by kernel_rfl) (by kernel_rfl) rfl (by kernel_rfl) (fun _ _ _ h => h) (by rfl) hS2 (fun w' hSw => (by obtain ⟨z1, z2, z3, z4⟩ := hSw; go_simp; try (with_reducible rfl))) ?_
      try simp only [Act.put, List.getElem_toArray, List.getElem_cons_succ, List.getElem_cons_zero, List.setIfInBounds_toArray, List.set_cons_zero, List.set_cons_succ]
      refine wpAnyJ_take1 5 rfl (by kernel_rfl) (by kernel_rfl) rfl (by kernel_rfl) (fun _ _ _ h => h) (by rfl) hS2 (fun w' hSw => (by obtain ⟨z1, z2, z3, z4⟩ := hSw; go_simp; try (with_reducible rfl))) ?_
      try simp only [Act.put, List.getElem_toArray, List.getElem_cons_succ, List.getElem_cons_zero, List.setIfInBounds_toArray, List.set_cons_zero, List.set_cons_succ]
      refine wpAnyJ_ready [6] (by kernel_rfl) (by simp) (NextJ.cons rfl (fun K hK => ?_) NextJ.nil)
      go_simp
      have kF6 := kF7.alloc (.cells #[.int .i64 0, .string ⟨#[]⟩, .bool false, .slice none 0 0, .nilFunc, .nilFunc] 106)
      have kB6 := Blk.new w7 106 #[.int .i64 0, .string ⟨#[]⟩, .bool false, .slice none 0 0, .nilFunc, .nilFunc]
      have hS3 := And.intro (kF6.cell 0 (.int .i64 k) rfl) (And.intro (kF6.cell 1 (.int .i64 st) rfl) (And.intro (kF6.cell 2 (.int .i64 lt) rfl) (kF6.cell 3 (.int .i64 wi) rfl)))
      refine hK.out _ _ hS3 (fun h => absurd h (by decide)) ?_
      clear hK K
      try simp only [Act.put, List.getElem_toArray, List.getElem_cons_succ, List.getElem_cons_zero, List.setIfInBounds_toArray, List.set_cons_zero, List.set_cons_succ]
      have hBt : Below W.heap.size W (w7.alloc (.cells #[.int .i64 0, .string ⟨#[]⟩, .bool false, .slice none 0 0, .nilFunc, .nilFunc] 106)) := Below.alloc (hB5'.trans (hB7.mono hB5'.size)) (Nat.le_trans hB5'.size hB7.size) _
      have kz0 : Blk (w7.alloc (.cells #[.int .i64 0, .string ⟨#[]⟩, .bool false, .slice none 0 0, .nilFunc, .nilFunc] 106)) w7.heap.size 106 #[.int .i64 0, .string ⟨#[]⟩, .bool false, .slice none 0 0, .nilFunc, .nilFunc] := kB6
      have y0 := kz0.cell 0 (.int .i64 0) rfl
      have x0 := kz0.frozen 0
      have kz1 := kz0.set_ 0 (.int .i64 k)
      have y1 := kz1.cell 1 (.string ⟨#[]⟩) rfl
      have x1 := kz1.frozen 1
      have kz2 := kz1.set_ 1 (.string nm)
      have y2 := kz2.cell 2 (.bool false) rfl
      have x2 := kz2.frozen 2
      have kz3 := kz2.set_ 2 (.bool kl)
      have y3 := kz3.cell 3 (.slice none 0 0) rfl
      have x3 := kz3.frozen 3
      have kz4 := kz3.set_ 3 (.slice A9 n9 c9)
      have y4 := kz4.cell 4 (.nilFunc) rfl
      have x4 := kz4.frozen 4
      have kz5 := kz4.set_ 4 (.func (.func i1) #[] #[])
      have y5 := kz5.cell 5 (.nilFunc) rfl
      have x5 := kz5.frozen 5
      have kz6 := kz5.set_ 5 (.func (.func i2) #[] #[])
      have bxl := kz0.lt
      refine wpAnyJ_ready [7] (by kernel_rfl) (by simp) (NextJ.cons rfl (fun K hK => ?_) NextJ.nil)
      go_simp
      have kE := Blk.new w7 106 #[.int .i64 k, .string nm, .bool kl, .slice A9 n9 c9, .func (.func i1) #[] #[], .func (.func i2) #[] #[]]
      have fE := kF7.alloc (.cells #[.int .i64 k, .string nm, .bool kl, .slice A9 n9 c9, .func (.func i1) #[] #[], .func (.func i2) #[] #[]] 106)
      have hBE : Below W.heap.size W (w7.alloc (.cells #[.int .i64 k, .string nm, .bool kl, .slice A9 n9 c9, .func (.func i1) #[] #[], .func (.func i2) #[] #[]] 106)) := Below.alloc (hB5'.trans (hB7.mono hB5'.size)) (Nat.le_trans hB5'.size hB7.size) _
      have hS9 := And.intro (fE.cell 0 (.int .i64 k) rfl) (And.intro (fE.cell 1 (.int .i64 st) rfl) (And.intro (fE.cell 2 (.int .i64 lt) rfl) (fE.cell 3 (.int .i64 wi) rfl)))
      refine hK.out _ _ hS9 (fun h => absurd h (by decide)) ?_
      clear hK K
      try simp only [Act.put, List.getElem_toArray, List.getElem_cons_succ, List.getElem_cons_zero, List.setIfInBounds_toArray, List.set_cons_zero, List.set_cons_succ]
      refine wpAnyJ_take1 8 rfl (by kernel_rfl) (by kernel_rfl) rfl (by kernel_rfl) (fun _ _ _ h => h) (by rfl) hS9 (fun w' hSw => (by obtain ⟨z1, z2, z3, z4⟩ := hSw; go_simp; try (with_reducible rfl))) ?_
      try simp only [Act.put, List.getElem_toArray, List.getElem_cons_succ, List.getElem_cons_zero, List.setIfInBounds_toArray, List.set_cons_zero, List.set_cons_succ]
      refine wpAnyJ_done (by kernel_rfl) ?_ _
      obtain ⟨q0, q1, q2, q3⟩ := hS9
      clear hS1 y0 x0 y1 x1 y2 x2 y3 x3 y4 x4 y5 x5
      have hsE := kE.lt
      have hQ := hBB.trans (hBE.mono hBB.size)
      clear hBt kz0 kz1 kz2 kz3 kz4 kz5 kz6
      generalize (w7.alloc (.cells #[.int .i64 k, .string nm, .bool kl, .slice A9 n9 c9, .func (.func i1) #[] #[], .func (.func i2) #[] #[]] 106)) = W9 at *
      go_wp2_with fail
      go_ret2
      exact ⟨rfl, hQ⟩
    · skip
      go_simp
      have kF6 := kF5.alloc (.cells #[.int .i64 0, .string ⟨#[]⟩, .bool false, .slice none 0 0, .nilFunc, .nilFunc] 106)
      have kB6 := Blk.new w5 106 #[.int .i64 0, .string ⟨#[]⟩, .bool false, .slice none 0 0, .nilFunc, .nilFunc]
      have hS4 := And.intro (kF6.cell 0 (.int .i64 k) rfl) (And.intro (kF6.cell 1 (.int .i64 st) rfl) (And.intro (kF6.cell 2 (.int .i64 lt) rfl) (kF6.cell 3 (.int .i64 wi) rfl)))
      refine hK.out _ _ hS4 (fun h => absurd h (by decide)) ?_
      clear hK K
      try simp only [Act.put, List.getElem_toArray, List.getElem_cons_succ, List.getElem_cons_zero, List.setIfInBounds_toArray, List.set_cons_zero, List.set_cons_succ]
      refine wpAnyJ_ready [2] (by kernel_rfl) (by simp) (NextJ.cons rfl (fun K hK => ?_) NextJ.nil)
      have hKA6 := hKA.below (Below.alloc (Below.refl _ w5) (Nat.le_refl _) (.cells #[.int .i64 0, .string ⟨#[]⟩, .bool false, .slice none 0 0, .nilFunc, .nilFunc] 106)) (Nat.le_refl _)
      have hKA6 : KindsAt (w5.alloc (.cells #[.int .i64 0, .string ⟨#[]⟩, .bool false, .slice none 0 0, .nilFunc, .nilFunc] 106)) (w5.alloc (.cells #[.int .i64 0, .string ⟨#[]⟩, .bool false, .slice none 0 0, .nilFunc, .nilFunc] 106)).heap.size g KA := ⟨Nat.lt_of_lt_of_le hKA6.lt (by simp), hKA6.blk, hKA6.wa.more (by simp), hKA6.wb.more (by simp), hKA6.wp.more (by simp)⟩
      go_simp
      refine (find_any g KA ⟨k, st, lt, wi⟩ (w5.alloc (.cells #[.int .i64 0, .string ⟨#[]⟩, .bool false, .slice none 0 0, .nilFunc, .nilFunc] 106)) (w5.alloc (.cells #[.int .i64 0, .string ⟨#[]⟩, .bool false, .slice none 0 0, .nilFunc, .nilFunc] 106)).heap.size hKA6 (Nat.le_refl _)).mono ?_
      rintro e w7 ⟨rfl, hB7⟩
      have kF7 := kF6.below' hB7
      have kB7 := kB6.below' hB7
      have hS5 := And.intro (kF7.cell 0 (.int .i64 k) rfl) (And.intro (kF7.cell 1 (.int .i64 st) rfl) (And.intro (kF7.cell 2 (.int .i64 lt) rfl) (kF7.cell 3 (.int .i64 wi) rfl)))
      obtain ⟨A9, c9, hv9, _, _⟩ := hKA6.withs (k := k)
      rw [hn9.out] at hv9
      have hkc : (kcell KA k).toArray = #[.int .i64 k, .string nm, .bool kl, .slice A9 n9 c9, .func (.func i1) #[] #[], .func (.func i2) #[] #[]] := by unfold kcell; rw [if_pos hin.out]; unfold kcells; rw [hv9, hnm.out, hkl.out, hi1.out, hi2.out]
      rw [show (⟨k, st, lt, wi⟩ : Flt).k = k from rfl, hkc, hs.out]
      clear hkc hv9
      go_simp
      refine hK.out _ _ hS5 (fun h => absurd h (by decide)) ?_
      clear hK K
      try simp only [Act.put, List.getElem_toArray, List.getElem_cons_succ, List.getElem_cons_zero, List.setIfInBounds_toArray, List.set_cons_zero, List.set_cons_succ]
      refine wpAnyJ_take1 3 rfl (by kernel_rfl) (by kernel_rfl) rfl (by kernel_rfl) (fun _ _ _ h => h) (by rfl) hS5 (fun w' hSw => (by obtain ⟨z1, z2, z3, z4⟩ := hSw; go_simp; try (with_reducible rfl))) ?_
      try simp only [Act.put, List.getElem_toArray, List.getElem_cons_succ, List.getElem_cons_zero, List.setIfInBounds_toArray, List.set_cons_zero, List.set_cons_succ]
      refine wpAnyJ_take1 4 rfl (by kernel_rfl) (by kernel_rfl) rfl (by kernel_rfl) (fun _ _ _ h => h) (by rfl) hS5 (fun w' hSw => (by obtain ⟨z1, z2, z3, z4⟩ := hSw; go_simp; try (with_reducible rfl))) ?_
      try simp only [Act.put, List.getElem_toArray, List.getElem_cons_succ, List.getElem_cons_zero, List.setIfInBounds_toArray, List.set_cons_zero, List.set_cons_succ]
      refine wpAnyJ_take1 5 rfl (by kernel_rfl) (by kernel_rfl) rfl (by kernel_rfl) (fun _ _ _ h => h) (by rfl) hS5 (fun w' hSw => (by obtain ⟨z1, z2, z3, z4⟩ := hSw; go_simp; try (with_reducible rfl))) ?_
      try simp only [Act.put, List.getElem_toArray, List.getElem_cons_succ, List.getElem_cons_zero, List.setIfInBounds_toArray, List.set_cons_zero, List.set_cons_succ]
      have hBt : Below W.heap.size W w7 := (Below.alloc hB5' hB5'.size _).trans (hB7.mono (Nat.le_trans hB5'.size (by simp)))
      have kz0 : Blk w7 w5.heap.size 106 #[.int .i64 0, .string ⟨#[]⟩, .bool false, .slice none 0 0, .nilFunc, .nilFunc] := kB7
      have y0 := kz0.cell 0 (.int .i64 0) rfl
      have x0 := kz0.frozen 0
      have kz1 := kz0.set_ 0 (.int .i64 k)
      have y1 := kz1.cell 1 (.string ⟨#[]⟩) rfl
      have x1 := kz1.frozen 1
      have kz2 := kz1.set_ 1 (.string nm)
      have y2 := kz2.cell 2 (.bool false) rfl
      have x2 := kz2.frozen 2
      have kz3 := kz2.set_ 2 (.bool kl)
      have y3 := kz3.cell 3 (.slice none 0 0) rfl
      have x3 := kz3.frozen 3
      have kz4 := kz3.set_ 3 (.slice A9 n9 c9)
      have y4 := kz4.cell 4 (.nilFunc) rfl
      have x4 := kz4.frozen 4
      have kz5 := kz4.set_ 4 (.func (.func i1) #[] #[])
      have y5 := kz5.cell 5 (.nilFunc) rfl
      have x5 := kz5.frozen 5
      have kz6 := kz5.set_ 5 (.func (.func i2) #[] #[])
      have bxl := kz0.lt
      refine wpAnyJ_ready [7] (by kernel_rfl) (by simp) (NextJ.cons rfl (fun K hK => ?_) NextJ.nil)
      go_simp
      have hge : W.heap.size ≤ w5.heap.size := by first | exact Nat.le_refl _ | exact hB5'.size
      have hne : w.heap.size ≠ w5.heap.size := by omega
      have kE := kz6
      have fE := (Blk.far (Blk.far (Blk.far (Blk.far (Blk.far (Blk.far kF7 (p := ⟨w5.heap.size, 0, none⟩) hne (.int .i64 k)) (p := ⟨w5.heap.size, 1, none⟩) hne (.string nm)) (p := ⟨w5.heap.size, 2, none⟩) hne (.bool kl)) (p := ⟨w5.heap.size, 3, none⟩) hne (.slice A9 n9 c9)) (p := ⟨w5.heap.size, 4, none⟩) hne (.func (.func i1) #[] #[])) (p := ⟨w5.heap.size, 5, none⟩) hne (.func (.func i2) #[] #[]))
      have hBE := (Below.setCell (Below.setCell (Below.setCell (Below.setCell (Below.setCell (Below.setCell hBt (p := ⟨w5.heap.size, 0, none⟩) hge (.int .i64 k)) (p := ⟨w5.heap.size, 1, none⟩) hge (.string nm)) (p := ⟨w5.heap.size, 2, none⟩) hge (.bool kl)) (p := ⟨w5.heap.size, 3, none⟩) hge (.slice A9 n9 c9)) (p := ⟨w5.heap.size, 4, none⟩) hge (.func (.func i1) #[] #[])) (p := ⟨w5.heap.size, 5, none⟩) hge (.func (.func i2) #[] #[]))
      have hS9 := And.intro (fE.cell 0 (.int .i64 k) rfl) (And.intro (fE.cell 1 (.int .i64 st) rfl) (And.intro (fE.cell 2 (.int .i64 lt) rfl) (fE.cell 3 (.int .i64 wi) rfl)))
      refine hK.out _ _ hS9 (fun h => absurd h (by decide)) ?_
      clear hK K
      try simp only [Act.put, List.getElem_toArray, List.getElem_cons_succ, List.getElem_cons_zero, List.setIfInBounds_toArray, List.set_cons_zero, List.set_cons_succ]
      refine wpAnyJ_take1 8 rfl (by kernel_rfl) (by kernel_rfl) rfl (by kernel_rfl) (fun _ _ _ h => h) (by rfl) hS9 (fun w' hSw => (by obtain ⟨z1, z2, z3, z4⟩ := hSw; go_simp; try (with_reducible rfl))) ?_
      try simp only [Act.put, List.getElem_toArray, List.getElem_cons_succ, List.getElem_cons_zero, List.setIfInBounds_toArray, List.set_cons_zero, List.set_cons_succ]
      refine wpAnyJ_done (by kernel_rfl) ?_ _
      obtain ⟨q0, q1, q2, q3⟩ := hS9
      clear hS1 y0 x0 y1 x1 y2 x2 y3 x3 y4 x4 y5 x5
      have hsE := kE.lt
      have hQ := hBB.trans (hBE.mono hBB.size)
      clear hBt kz0 kz1 kz2 kz3 kz4 kz5 kz6
      generalize ((((((w7.setCell ⟨w5.heap.size, 0, none⟩ (.int .i64 k)).setCell ⟨w5.heap.size, 1, none⟩ (.string nm)).setCell ⟨w5.heap.size, 2, none⟩ (.bool kl)).setCell ⟨w5.heap.size, 3, none⟩ (.slice A9 n9 c9)).setCell ⟨w5.heap.size, 4, none⟩ (.func (.func i1) #[] #[])).setCell ⟨w5.heap.size, 5, none⟩ (.func (.func i2) #[] #[])) = W9 at *
      go_wp2_with fail
      go_ret2
      exact ⟨rfl, hQ⟩
  · skip
    go_simp
    have kF6 := kF.drew.alloc (.cells #[.int .i64 0, .string ⟨#[]⟩, .bool false, .slice none 0 0, .nilFunc, .nilFunc] 106)
    have kB6 := Blk.new W.drew 106 #[.int .i64 0, .string ⟨#[]⟩, .bool false, .slice none 0 0, .nilFunc, .nilFunc]
    have hS6 := And.intro (kF6.cell 0 (.int .i64 k) rfl) (And.intro (kF6.cell 1 (.int .i64 st) rfl) (And.intro (kF6.cell 2 (.int .i64 lt) rfl) (kF6.cell 3 (.int .i64 wi) rfl)))
    refine hK.out _ _ hS6 (fun h => absurd h (by decide)) ?_
    clear hK K
    try simp only [Act.put, List.getElem_toArray, List.getElem_cons_succ, List.getElem_cons_zero, List.setIfInBounds_toArray, List.set_cons_zero, List.set_cons_succ]
    refine wpAnyJ_ready [0] (by kernel_rfl) (by simp) (NextJ.cons rfl (fun K hK => ?_) NextJ.nil)
    go_simp
    refine (kinds_any (W.drew.alloc (.cells #[.int .i64 0, .string ⟨#[]⟩, .bool false, .slice none 0 0, .nilFunc, .nilFunc] 106))).mono ?_
    rintro e w5 ⟨g, KA, rfl, hKA, hB5⟩
    have hB5' : Below W.heap.size W w5 := ⟨hB5.os, hB5.tape, hB5.output, Nat.le_trans (by simp) hB5.size, fun k hk => (hB5.block k (Nat.lt_of_lt_of_le hk (by simp))).trans (by first | rfl | exact Below.heap_alloc W.drew _ k hk)⟩
    have kF5 := kF6.below' hB5
    have kB5 := kB6.below' hB5
    have hS7 := And.intro (kF5.cell 0 (.int .i64 k) rfl) (And.intro (kF5.cell 1 (.int .i64 st) rfl) (And.intro (kF5.cell 2 (.int .i64 lt) rfl) (kF5.cell 3 (.int .i64 wi) rfl)))
    go_simp
    refine hK.out _ _ hS7 (fun h => absurd h (by decide)) ?_
    clear hK K
    try simp only [Act.put, List.getElem_toArray, List.getElem_cons_succ, List.getElem_cons_zero, List.setIfInBounds_toArray, List.set_cons_zero, List.set_cons_succ]
    refine wpAnyJ_ready [2] (by kernel_rfl) (by simp) (NextJ.cons rfl (fun K hK => ?_) NextJ.nil)
    go_simp
    refine (find_any g KA ⟨k, st, lt, wi⟩ w5 w5.heap.size hKA (Nat.le_refl _)).mono ?_
    rintro e w7 ⟨rfl, hB7⟩
    have kF7 := kF5.below' hB7
    have kB7 := kB5.below' hB7
    have hS8 := And.intro (kF7.cell 0 (.int .i64 k) rfl) (And.intro (kF7.cell 1 (.int .i64 st) rfl) (And.intro (kF7.cell 2 (.int .i64 lt) rfl) (kF7.cell 3 (.int .i64 wi) rfl)))
    obtain ⟨A9, c9, hv9, _, _⟩ := hKA.withs (k := k)
    rw [hn9.out] at hv9
    have hkc : (kcell KA k).toArray = #[.int .i64 k, .string nm, .bool kl, .slice A9 n9 c9, .func (.func i1) #[] #[], .func (.func i2) #[] #[]] := by unfold kcell; rw [if_pos hin.out]; unfold kcells; rw [hv9, hnm.out, hkl.out, hi1.out, hi2.out]
    rw [show (⟨k, st, lt, wi⟩ : Flt).k = k from rfl, hkc, hs.out]
    clear hkc hv9
    go_simp
    refine hK.out _ _ hS8 (fun h => absurd h (by decide)) ?_
    clear hK K
    try simp only [Act.put, List.getElem_toArray, List.getElem_cons_succ, List.getElem_cons_zero, List.setIfInBounds_toArray, List.set_cons_zero, List.set_cons_succ]
    refine wpAnyJ_take1 3 rfl (by kernel_rfl) (by kernel_rfl) rfl (by kernel_rfl) (fun _ _ _ h => h) (by rfl) hS8 (fun w' hSw => (by obtain ⟨z1, z2, z3, z4⟩ := hSw; go_simp; try (with_reducible rfl))) ?_
    try simp only [Act.put, List.getElem_toArray, List.getElem_cons_succ, List.getElem_cons_zero, List.setIfInBounds_toArray, List.set_cons_zero, List.set_cons_succ]
    refine wpAnyJ_take1 4 rfl (by kernel_rfl) (by kernel_rfl) rfl (by kernel_rfl) (fun _ _ _ h => h) (by rfl) hS8 (fun w' hSw => (by obtain ⟨z1, z2, z3, z4⟩ := hSw; go_simp; try (with_reducible rfl))) ?_
    try simp only [Act.put, List.getElem_toArray, List.getElem_cons_succ, List.getElem_cons_zero, List.setIfInBounds_toArray, List.set_cons_zero, List.set_cons_succ]
    refine wpAnyJ_take1 5 rfl (by kernel_rfl) (by kernel_rfl) rfl (by kernel_rfl) (fun _ _ _ h => h) (by rfl) hS8 (fun w' hSw => (by obtain ⟨z1, z2, z3, z4⟩ := hSw; go_simp; try (with_reducible rfl))) ?_
    try simp only [Act.put, List.getElem_toArray, List.getElem_cons_succ, List.getElem_cons_zero, List.setIfInBounds_toArray, List.set_cons_zero, List.set_cons_succ]
    have hBt : Below W.heap.size W w7 := hB5'.trans (hB7.mono hB5'.size)
    have kz0 : Blk w7 W.heap.size 106 #[.int .i64 0, .string ⟨#[]⟩, .bool false, .slice none 0 0, .nilFunc, .nilFunc] := kB7
    have y0 := kz0.cell 0 (.int .i64 0) rfl
    have x0 := kz0.frozen 0
    have kz1 := kz0.set_ 0 (.int .i64 k)
    have y1 := kz1.cell 1 (.string ⟨#[]⟩) rfl
    have x1 := kz1.frozen 1
    have kz2 := kz1.set_ 1 (.string nm)
    have y2 := kz2.cell 2 (.bool false) rfl
    have x2 := kz2.frozen 2
    have kz3 := kz2.set_ 2 (.bool kl)
    have y3 := kz3.cell 3 (.slice none 0 0) rfl
    have x3 := kz3.frozen 3
    have kz4 := kz3.set_ 3 (.slice A9 n9 c9)
    have y4 := kz4.cell 4 (.nilFunc) rfl
    have x4 := kz4.frozen 4
    have kz5 := kz4.set_ 4 (.func (.func i1) #[] #[])
    have y5 := kz5.cell 5 (.nilFunc) rfl
    have x5 := kz5.frozen 5
    have kz6 := kz5.set_ 5 (.func (.func i2) #[] #[])
    have bxl := kz0.lt
    refine wpAnyJ_ready [7] (by kernel_rfl) (by simp) (NextJ.cons rfl (fun K hK => ?_) NextJ.nil)
    go_simp
    have hge : W.heap.size ≤ W.heap.size := by first | exact Nat.le_refl _ | exact hB5'.size
    have hne : w.heap.size ≠ W.heap.size := by omega
    have kE := kz6
    have fE := (Blk.far (Blk.far (Blk.far (Blk.far (Blk.far (Blk.far kF7 (p := ⟨W.heap.size, 0, none⟩) hne (.int .i64 k)) (p := ⟨W.heap.size, 1, none⟩) hne (.string nm)) (p := ⟨W.heap.size, 2, none⟩) hne (.bool kl)) (p := ⟨W.heap.size, 3, none⟩) hne (.slice A9 n9 c9)) (p := ⟨W.heap.size, 4, none⟩) hne (.func (.func i1) #[] #[])) (p := ⟨W.heap.size, 5, none⟩) hne (.func (.func i2) #[] #[]))
    have hBE := (Below.setCell (Below.setCell (Below.setCell (Below.setCell (Below.setCell (Below.setCell hBt (p := ⟨W.heap.size, 0, none⟩) hge (.int .i64 k)) (p := ⟨W.heap.size, 1, none⟩) hge (.string nm)) (p := ⟨W.heap.size, 2, none⟩) hge (.bool kl)) (p := ⟨W.heap.size, 3, none⟩) hge (.slice A9 n9 c9)) (p := ⟨W.heap.size, 4, none⟩) hge (.func (.func i1) #[] #[])) (p := ⟨W.heap.size, 5, none⟩) hge (.func (.func i2) #[] #[]))
    have hS9 := And.intro (fE.cell 0 (.int .i64 k) rfl) (And.intro (fE.cell 1 (.int .i64 st) rfl) (And.intro (fE.cell 2 (.int .i64 lt) rfl) (fE.cell 3 (.int .i64 wi) rfl)))
    refine hK.out _ _ hS9 (fun h => absurd h (by decide)) ?_
    clear hK K
    try simp only [Act.put, List.getElem_toArray, List.getElem_cons_succ, List.getElem_cons_zero, List.setIfInBounds_toArray, List.set_cons_zero, List.set_cons_succ]
    refine wpAnyJ_take1 8 rfl (by kernel_rfl) (by kernel_rfl) rfl (by kernel_rfl) (fun _ _ _ h => h) (by rfl) hS9 (fun w' hSw => (by obtain ⟨z1, z2, z3, z4⟩ := hSw; go_simp; try (with_reducible rfl))) ?_
    try simp only [Act.put, List.getElem_toArray, List.getElem_cons_succ, List.getElem_cons_zero, List.setIfInBounds_toArray, List.set_cons_zero, List.set_cons_succ]
    refine wpAnyJ_done (by kernel_rfl) ?_ _
    obtain ⟨q0, q1, q2, q3⟩ := hS9
    clear hS1 y0 x0 y1 x1 y2 x2 y3 x3 y4 x4 y5 x5
    have hsE := kE.lt
    have hQ := hBB.trans (hBE.mono hBB.size)
    clear hBt kz0 kz1 kz2 kz3 kz4 kz5 kz6
    generalize ((((((w7.setCell ⟨W.heap.size, 0, none⟩ (.int .i64 k)).setCell ⟨W.heap.size, 1, none⟩ (.string nm)).setCell ⟨W.heap.size, 2, none⟩ (.bool kl)).setCell ⟨W.heap.size, 3, none⟩ (.slice A9 n9 c9)).setCell ⟨W.heap.size, 4, none⟩ (.func (.func i1) #[] #[])).setCell ⟨W.heap.size, 5, none⟩ (.func (.func i2) #[] #[])) = W9 at *
    go_wp2_with fail
    go_ret2
    exact ⟨rfl, hQ⟩
set_option maxRecDepth 100000 in
set_option maxHeartbeats 8000000 in
theorem fprn_6 (k st lt wi : Int) (hin : Hid ((1 ≤ k ∧ k ≤ 6))) (hs : Hid (shapedF ⟨k, st, lt, wi⟩ = true)) (a1 : ¬ st < 0) (a2 : ¬ 999 < st) (a3 : ¬ lt < 0) (a4 : ¬ 16 < lt) (w : World) (hDt : DtAt w) :
    Calls Tryz.prog 18 #[.agg #[.int .i64 k, .int .i64 st, .int .i64 lt, .int .i64 wi]] w (Ret (.tuple #[.string (bN (printF ⟨k, st, lt, wi⟩).1), .int .i64 (printF ⟨k, st, lt, wi⟩).2]) w) := by
  have hok : Hid (FOk ⟨k, st, lt, wi⟩) := Lib.hid ⟨hs.out, by simp only; omega, by simp only; omega, by simp only; omega, by simp only; omega⟩
  have HP : Hid (printF ⟨k, st, lt, wi⟩ = (textF ⟨k, st, lt, wi⟩, 0)) := by
    rw [Hid]; unfold printF
    rw [if_neg (by rw [hs.out]; decide), if_neg (by simp only; omega)]
  rw [HP.out]
  obtain ⟨Y, hY⟩ : ∃ Y, Hid (bN (textF ⟨k, st, lt, wi⟩) = Y) := ⟨_, Lib.hid rfl⟩
  dsimp only
  rw [hY.out]
  obtain ⟨nm, hnm⟩ : ∃ x, Hid (kname k = x) := ⟨_, Lib.hid rfl⟩
  obtain ⟨kl, hkl⟩ : ∃ x, Hid (klet k = x) := ⟨_, Lib.hid rfl⟩
  obtain ⟨i1, hi1⟩ : ∃ x, Hid (klf k = x) := ⟨_, Lib.hid rfl⟩
  obtain ⟨i2, hi2⟩ : ∃ x, Hid (kpf k = x) := ⟨_, Lib.hid rfl⟩
  obtain ⟨n9, hn9⟩ : ∃ x, Hid ((withsL k).length = x) := ⟨_, Lib.hid rfl⟩
  have hBB : Below w.heap.size w (w.alloc (.cells #[.int .i64 k, .int .i64 st, .int .i64 lt, .int .i64 wi] 41)) := (Below.refl _ _).alloc (Nat.le_refl _) _
  have kF := Blk.new w 41 #[.int .i64 k, .int .i64 st, .int .i64 lt, .int .i64 wi]
  go_enter Tryz.func18, Tryz.ntmps18
  go_wp2_with fail
  have fl := kF.lt
  generalize w.alloc (.cells #[.int .i64 k, .int .i64 st, .int .i64 lt, .int .i64 wi] 41) = W at *
  have p0 := kF.cell 0 (.int .i64 k) rfl
  have p1 := kF.cell 1 (.int .i64 st) rfl
  have p2 := kF.cell 2 (.int .i64 lt) rfl
  have p3 := kF.cell 3 (.int .i64 wi) rfl
  refine wp_region_J (fun w' => w'.cell? ⟨w.heap.size, 0, none⟩ = some (.int .i64 k) ∧ w'.cell? ⟨w.heap.size, 1, none⟩ = some (.int .i64 st) ∧ w'.cell? ⟨w.heap.size, 2, none⟩ = some (.int .i64 lt) ∧ w'.cell? ⟨w.heap.size, 3, none⟩ = some (.int .i64 wi)) (fun _ => True) (fun _ => false) (by kernel_rfl) ?_
  have hS1 : W.drew.cell? ⟨w.heap.size, 0, none⟩ = some (.int .i64 k) ∧ W.drew.cell? ⟨w.heap.size, 1, none⟩ = some (.int .i64 st) ∧ W.drew.cell? ⟨w.heap.size, 2, none⟩ = some (.int .i64 lt) ∧ W.drew.cell? ⟨w.heap.size, 3, none⟩ = some (.int .i64 wi) := ⟨p0, p1, p2, p3⟩
  refine wpAnyJ_take1 1 rfl (by kernel_rfl) (by kernel_rfl) rfl (by kernel_rfl) (fun _ _ _ h => h) (by rfl) hS1 (fun w' hSw => (by obtain ⟨z1, z2, z3, z4⟩ := hSw; go_simp; try (with_reducible rfl))) ?_
  try simp only [Act.put, List.getElem_toArray, List.getElem_cons_succ, List.getElem_cons_zero, List.setIfInBounds_toArray, List.set_cons_zero, List.set_cons_succ]
  refine wpAnyJ_ready [0, 6] (by kernel_rfl) (by simp) (NextJ.cons rfl (fun K hK => ?_) (NextJ.cons rfl (fun K hK => ?_) NextJ.nil))
  · skip
    go_simp
    refine (kinds_any W.drew).mono ?_
    rintro e w5 ⟨g, KA, rfl, hKA, hB5⟩
    have hB5' : Below W.heap.size W w5 := ⟨hB5.os, hB5.tape, hB5.output, Nat.le_trans (by simp) hB5.size, fun k hk => (hB5.block k (Nat.lt_of_lt_of_le hk (by simp))).trans (by first | rfl | exact Below.heap_alloc W.drew _ k hk)⟩
    have kF5 := kF.drew.below' hB5
    have hS1 := And.intro (kF5.cell 0 (.int .i64 k) rfl) (And.intro (kF5.cell 1 (.int .i64 st) rfl) (And.intro (kF5.cell 2 (.int .i64 lt) rfl) (kF5.cell 3 (.int .i64 wi) rfl)))
    go_simp
    refine hK.out _ _ hS1 (fun h => absurd h (by decide)) ?_
    clear hK K
    try simp only [Act.put, List.getElem_toArray, List.getElem_cons_succ, List.getElem_cons_zero, List.setIfInBounds_toArray, List.set_cons_zero, List.set_cons_succ]
    refine wpAnyJ_ready [2, 6] (by kernel_rfl) (by simp) (NextJ.cons rfl (fun K hK => ?_) (NextJ.cons rfl (fun K hK => ?_) NextJ.nil))
    · skip
      go_simp
      refine (find_any g KA ⟨k, st, lt, wi⟩ w5 w5.heap.size hKA (Nat.le_refl _)).mono ?_
      rintro e w7 ⟨rfl, hB7⟩
      have kF7 := kF5.below' hB7
      have hS2 := And.intro (kF7.cell 0 (.int .i64 k) rfl) (And.intro (kF7.cell 1 (.int .i64 st) rfl) (And.intro (kF7.cell 2 (.int .i64 lt) rfl) (kF7.cell 3 (.int .i64 wi) rfl)))
      obtain ⟨A9, c9, hv9, _, _⟩ := hKA.withs (k := k)
      rw [hn9.out] at hv9
      have hkc : (kcell KA k).toArray = #[.int .i64 k, .string nm, .bool kl, .slice A9 n9 c9, .func (.func i1) #[] #[], .func (.func i2) #[] #[]] := by unfold kcell; rw [if_pos hin.out]; unfold kcells; rw [hv9, hnm.out, hkl.out, hi1.out, hi2.out]
      rw [show (⟨k, st, lt, wi⟩ : Flt).k = k from rfl, hkc, hs.out]
      clear hkc hv9
      go_simp
      refine hK.out _ _ hS2 (fun h => absurd h (by decide)) ?_
      clear hK K
      try simp only [Act.put, List.getElem_toArray, List.getElem_cons_succ, List.getElem_cons_zero, List.setIfInBounds_toArray, List.set_cons_zero, List.set_cons_succ]
      refine wpAnyJ_take1 3 rfl (by kernel_rfl) (by kernel_rfl) rfl (by kernel_rfl) (fun _ _ _ h => h) (by rfl) hS2 (fun w' hSw => (by obtain ⟨z1, z2, z3, z4⟩ := hSw; go_simp; try (with_reducible rfl))) ?_
      try simp only [Act.put, List.getElem_toArray, List.getElem_cons_succ, List.getElem_cons_zero, List.setIfInBounds_toArray, List.set_cons_zero, List.set_cons_succ]
      refine wpAnyJ_take1 4 rfl (by kernel_rfl) (by kernel_rfl) rfl (by kernel_rfl) (fun _ _ _ h => h) (by rfl) hS2 (fun w' hSw => (by obtain ⟨z1, z2, z3, z4⟩ := hSw; go_simp; try (with_reducible rfl))) ?_
      try simp only [Act.put, List.getElem_toArray, List.getElem_cons_succ, List.getElem_cons_zero, List.setIfInBounds_toArray, List.set_cons_zero, List.set_cons_succ]
      refine wpAnyJ_take1 5 rfl (by kernel_rfl) (by kernel_rfl) rfl (by kernel_rfl) (fun _ _ _ h => h) (by rfl) hS2 (fun w' hSw => (by obtain ⟨z1, z2, z3, z4⟩ := hSw; go_simp; try (with_reducible rfl))) ?_
      try simp only [Act.put, List.getElem_toArray, List.getElem_cons_succ, List.getElem_cons_zero, List.setIfInBounds_toArray, List.set_cons_zero, List.set_cons_succ]
      refine wpAnyJ_ready [6] (by kernel_rfl) (by simp) (NextJ.cons rfl (fun K hK => ?_) NextJ.nil)
      go_simp
      have kF6 := kF7.alloc (.cells #[.int .i64 0, .string ⟨#[]⟩, .bool false, .slice none 0 0, .nilFunc, .nilFunc] 106)
      have kB6 := Blk.new w7 106 #[.int .i64 0, .string ⟨#[]⟩, .bool false, .slice none 0 0, .nilFunc, .nilFunc]
      have hS3 := And.intro (kF6.cell 0 (.int .i64 k) rfl) (And.intro (kF6.cell 1 (.int .i64 st) rfl) (And.intro (kF6.cell 2 (.int .i64 lt) rfl) (kF6.cell 3 (.int .i64 wi) rfl)))
      refine hK.out _ _ hS3 (fun h => absurd h (by decide)) ?_
      clear hK K
      try simp only [Act.put, List.getElem_toArray, List.getElem_cons_succ, List.getElem_cons_zero, List.setIfInBounds_toArray, List.set_cons_zero, List.set_cons_succ]
      have hBt : Below W.heap.size W (w7.alloc (.cells #[.int .i64 0, .string ⟨#[]⟩, .bool false, .slice none 0 0, .nilFunc, .nilFunc] 106)) := Below.alloc (hB5'.trans (hB7.mono hB5'.size)) (Nat.le_trans hB5'.size hB7.size) _
      have kz0 : Blk (w7.alloc (.cells #[.int .i64 0, .string ⟨#[]⟩, .bool false, .slice none 0 0, .nilFunc, .nilFunc] 106)) w7.heap.size 106 #[.int .i64 0, .string ⟨#[]⟩, .bool false, .slice none 0 0, .nilFunc, .nilFunc] := kB6
      have y0 := kz0.cell 0 (.int .i64 0) rfl
      have x0 := kz0.frozen 0
      have kz1 := kz0.set_ 0 (.int .i64 k)
      have y1 := kz1.cell 1 (.string ⟨#[]⟩) rfl
      have x1 := kz1.frozen 1
      have kz2 := kz1.set_ 1 (.string nm)
      have y2 := kz2.cell 2 (.bool false) rfl
      have x2 := kz2.frozen 2
      have kz3 := kz2.set_ 2 (.bool kl)
      have y3 := kz3.cell 3 (.slice none 0 0) rfl
      have x3 := kz3.frozen 3
      have kz4 := kz3.set_ 3 (.slice A9 n9 c9)
      have y4 := kz4.cell 4 (.nilFunc) rfl
      have x4 := kz4.frozen 4
      have kz5 := kz4.set_ 4 (.func (.func i1) #[] #[])
      have y5 := kz5.cell 5 (.nilFunc) rfl
      have x5 := kz5.frozen 5
      have kz6 := kz5.set_ 5 (.func (.func i2) #[] #[])
      have bxl := kz0.lt
      refine wpAnyJ_ready [7] (by kernel_rfl) (by simp) (NextJ.cons rfl (fun K hK => ?_) NextJ.nil)
      go_simp
      have kE := Blk.new w7 106 #[.int .i64 k, .string nm, .bool kl, .slice A9 n9 c9, .func (.func i1) #[] #[], .func (.func i2) #[] #[]]
      have fE := kF7.alloc (.cells #[.int .i64 k, .string nm, .bool kl, .slice A9 n9 c9, .func (.func i1) #[] #[], .func (.func i2) #[] #[]] 106)
      have hBE : Below W.heap.size W (w7.alloc (.cells #[.int .i64 k, .string nm, .bool kl, .slice A9 n9 c9, .func (.func i1) #[] #[], .func (.func i2) #[] #[]] 106)) := Below.alloc (hB5'.trans (hB7.mono hB5'.size)) (Nat.le_trans hB5'.size hB7.size) _
      have hS9 := And.intro (fE.cell 0 (.int .i64 k) rfl) (And.intro (fE.cell 1 (.int .i64 st) rfl) (And.intro (fE.cell 2 (.int .i64 lt) rfl) (fE.cell 3 (.int .i64 wi) rfl)))
      refine hK.out _ _ hS9 (fun h => absurd h (by decide)) ?_
      clear hK K
      try simp only [Act.put, List.getElem_toArray, List.getElem_cons_succ, List.getElem_cons_zero, List.setIfInBounds_toArray, List.set_cons_zero, List.set_cons_succ]
      refine wpAnyJ_take1 8 rfl (by kernel_rfl) (by kernel_rfl) rfl (by kernel_rfl) (fun _ _ _ h => h) (by rfl) hS9 (fun w' hSw => (by obtain ⟨z1, z2, z3, z4⟩ := hSw; go_simp; try (with_reducible rfl))) ?_
      try simp only [Act.put, List.getElem_toArray, List.getElem_cons_succ, List.getElem_cons_zero, List.setIfInBounds_toArray, List.set_cons_zero, List.set_cons_succ]
      refine wpAnyJ_done (by kernel_rfl) ?_ _
      obtain ⟨q0, q1, q2, q3⟩ := hS9
      clear hS1 y0 x0 y1 x1 y2 x2 y3 x3 y4 x4 y5 x5
      have hsE := kE.lt
      have hQ := hBB.trans (hBE.mono hBB.size)
      clear hBt kz0 kz1 kz2 kz3 kz4 kz5 kz6
      generalize (w7.alloc (.cells #[.int .i64 k, .string nm, .bool kl, .slice A9 n9 c9, .func (.func i1) #[] #[], .func (.func i2) #[] #[]] 106)) = W9 at *
      go_wp2_with fail
      refine (fwrite_any w7.heap.size 0 k st lt wi hok.out _ (hDt.below hQ) (kE.cell 0 _ rfl) (by rw [hnm.out]; exact kE.cell 1 _ rfl) (by rw [hkl.out]; exact kE.cell 2 _ rfl)).mono ?_
      rintro e wf ⟨rfl, hBf⟩
      rw [hY.out]
      go_wp2_with fail
      go_ret2
      exact ⟨rfl, hQ.trans (hBf.mono hQ.size)⟩
    · skip
      go_simp
      have kF6 := kF5.alloc (.cells #[.int .i64 0, .string ⟨#[]⟩, .bool false, .slice none 0 0, .nilFunc, .nilFunc] 106)
      have kB6 := Blk.new w5 106 #[.int .i64 0, .string ⟨#[]⟩, .bool false, .slice none 0 0, .nilFunc, .nilFunc]
      have hS4 := And.intro (kF6.cell 0 (.int .i64 k) rfl) (And.intro (kF6.cell 1 (.int .i64 st) rfl) (And.intro (kF6.cell 2 (.int .i64 lt) rfl) (kF6.cell 3 (.int .i64 wi) rfl)))
      refine hK.out _ _ hS4 (fun h => absurd h (by decide)) ?_
      clear hK K
      try simp only [Act.put, List.getElem_toArray, List.getElem_cons_succ, List.getElem_cons_zero, List.setIfInBounds_toArray, List.set_cons_zero, List.set_cons_succ]
      refine wpAnyJ_ready [2] (by kernel_rfl) (by simp) (NextJ.cons rfl (fun K hK => ?_) NextJ.nil)
      have hKA6 := hKA.below (Below.alloc (Below.refl _ w5) (Nat.le_refl _) (.cells #[.int .i64 0, .string ⟨#[]⟩, .bool false, .slice none 0 0, .nilFunc, .nilFunc] 106)) (Nat.le_refl _)
      have hKA6 : KindsAt (w5.alloc (.cells #[.int .i64 0, .string ⟨#[]⟩, .bool false, .slice none 0 0, .nilFunc, .nilFunc] 106)) (w5.alloc (.cells #[.int .i64 0, .string ⟨#[]⟩, .bool false, .slice none 0 0, .nilFunc, .nilFunc] 106)).heap.size g KA := ⟨Nat.lt_of_lt_of_le hKA6.lt (by simp), hKA6.blk, hKA6.wa.more (by simp), hKA6.wb.more (by simp), hKA6.wp.more (by simp)⟩
      go_simp
      refine (find_any g KA ⟨k, st, lt, wi⟩ (w5.alloc (.cells #[.int .i64 0, .string ⟨#[]⟩, .bool false, .slice none 0 0, .nilFunc, .nilFunc] 106)) (w5.alloc (.cells #[.int .i64 0, .string ⟨#[]⟩, .bool false, .slice none 0 0, .nilFunc, .nilFunc] 106)).heap.size hKA6 (Nat.le_refl _)).mono ?_
      rintro e w7 ⟨rfl, hB7⟩
      have kF7 := kF6.below' hB7
      have kB7 := kB6.below' hB7
      have hS5 := And.intro (kF7.cell 0 (.int .i64 k) rfl) (And.intro (kF7.cell 1 (.int .i64 st) rfl) (And.intro (kF7.cell 2 (.int .i64 lt) rfl) (kF7.cell 3 (.int .i64 wi) rfl)))
      obtain ⟨A9, c9, hv9, _, _⟩ := hKA6.withs (k := k)
      rw [hn9.out] at hv9
      have hkc : (kcell KA k).toArray = #[.int .i64 k, .string nm, .bool kl, .slice A9 n9 c9, .func (.func i1) #[] #[], .func (.func i2) #[] #[]] := by unfold kcell; rw [if_pos hin.out]; unfold kcells; rw [hv9, hnm.out, hkl.out, hi1.out, hi2.out]
      rw [show (⟨k, st, lt, wi⟩ : Flt).k = k from rfl, hkc, hs.out]
      clear hkc hv9
      go_simp
      refine hK.out _ _ hS5 (fun h => absurd h (by decide)) ?_
      clear hK K
      try simp only [Act.put, List.getElem_toArray, List.getElem_cons_succ, List.getElem_cons_zero, List.setIfInBounds_toArray, List.set_cons_zero, List.set_cons_succ]
      refine wpAnyJ_take1 3 rfl (by kernel_rfl) (by kernel_rfl) rfl (by kernel_rfl) (fun _ _ _ h => h) (by rfl) hS5 (fun w' hSw => (by obtain ⟨z1, z2, z3, z4⟩ := hSw; go_simp; try (with_reducible rfl))) ?_
      try simp only [Act.put, List.getElem_toArray, List.getElem_cons_succ, List.getElem_cons_zero, List.setIfInBounds_toArray, List.set_cons_zero, List.set_cons_succ]
      refine wpAnyJ_take1 4 rfl (by kernel_rfl) (by kernel_rfl) rfl (by kernel_rfl) (fun _ _ _ h => h) (by rfl) hS5 (fun w' hSw => (by obtain ⟨z1, z2, z3, z4⟩ := hSw; go_simp; try (with_reducible rfl))) ?_
      try simp only [Act.put, List.getElem_toArray, List.getElem_cons_succ, List.getElem_cons_zero, List.setIfInBounds_toArray, List.set_cons_zero, List.set_cons_succ]
      refine wpAnyJ_take1 5 rfl (by kernel_rfl) (by kernel_rfl) rfl (by kernel_rfl) (fun _ _ _ h => h) (by rfl) hS5 (fun w' hSw => (by obtain ⟨z1, z2, z3, z4⟩ := hSw; go_simp; try (with_reducible rfl))) ?_
      try simp only [Act.put, List.getElem_toArray, List.getElem_cons_succ, List.getElem_cons_zero, List.setIfInBounds_toArray, List.set_cons_zero, List.set_cons_succ]
      have hBt : Below W.heap.size W w7 := (Below.alloc hB5' hB5'.size _).trans (hB7.mono (Nat.le_trans hB5'.size (by simp)))
      have kz0 : Blk w7 w5.heap.size 106 #[.int .i64 0, .string ⟨#[]⟩, .bool false, .slice none 0 0, .nilFunc, .nilFunc] := kB7
      have y0 := kz0.cell 0 (.int .i64 0) rfl
      have x0 := kz0.frozen 0
      have kz1 := kz0.set_ 0 (.int .i64 k)
      have y1 := kz1.cell 1 (.string ⟨#[]⟩) rfl
      have x1 := kz1.frozen 1
      have kz2 := kz1.set_ 1 (.string nm)
      have y2 := kz2.cell 2 (.bool false) rfl
      have x2 := kz2.frozen 2
      have kz3 := kz2.set_ 2 (.bool kl)
      have y3 := kz3.cell 3 (.slice none 0 0) rfl
      have x3 := kz3.frozen 3
      have kz4 := kz3.set_ 3 (.slice A9 n9 c9)
      have y4 := kz4.cell 4 (.nilFunc) rfl
      have x4 := kz4.frozen 4
      have kz5 := kz4.set_ 4 (.func (.func i1) #[] #[])
      have y5 := kz5.cell 5 (.nilFunc) rfl
      have x5 := kz5.frozen 5
      have kz6 := kz5.set_ 5 (.func (.func i2) #[] #[])
      have bxl := kz0.lt
      refine wpAnyJ_ready [7] (by kernel_rfl) (by simp) (NextJ.cons rfl (fun K hK => ?_) NextJ.nil)
      go_simp
      have hge : W.heap.size ≤ w5.heap.size := by first | exact Nat.le_refl _ | exact hB5'.size
      have hne : w.heap.size ≠ w5.heap.size := by omega
      have kE := kz6
      have fE := (Blk.far (Blk.far (Blk.far (Blk.far (Blk.far (Blk.far kF7 (p := ⟨w5.heap.size, 0, none⟩) hne (.int .i64 k)) (p := ⟨w5.heap.size, 1, none⟩) hne (.string nm)) (p := ⟨w5.heap.size, 2, none⟩) hne (.bool kl)) (p := ⟨w5.heap.size, 3, none⟩) hne (.slice A9 n9 c9)) (p := ⟨w5.heap.size, 4, none⟩) hne (.func (.func i1) #[] #[])) (p := ⟨w5.heap.size, 5, none⟩) hne (.func (.func i2) #[] #[]))
      have hBE := (Below.setCell (Below.setCell (Below.setCell (Below.setCell (Below.setCell (Below.setCell hBt (p := ⟨w5.heap.size, 0, none⟩) hge (.int .i64 k)) (p := ⟨w5.heap.size, 1, none⟩) hge (.string nm)) (p := ⟨w5.heap.size, 2, none⟩) hge (.bool kl)) (p := ⟨w5.heap.size, 3, none⟩) hge (.slice A9 n9 c9)) (p := ⟨w5.heap.size, 4, none⟩) hge (.func (.func i1) #[] #[])) (p := ⟨w5.heap.size, 5, none⟩) hge (.func (.func i2) #[] #[]))
      have hS9 := And.intro (fE.cell 0 (.int .i64 k) rfl) (And.intro (fE.cell 1 (.int .i64 st) rfl) (And.intro (fE.cell 2 (.int .i64 lt) rfl) (fE.cell 3 (.int .i64 wi) rfl)))
      refine hK.out _ _ hS9 (fun h => absurd h (by decide)) ?_
      clear hK K
      try simp only [Act.put, List.getElem_toArray, List.getElem_cons_succ, List.getElem_cons_zero, List.setIfInBounds_toArray, List.set_cons_zero, List.set_cons_succ]
      refine wpAnyJ_take1 8 rfl (by kernel_rfl) (by kernel_rfl) rfl (by kernel_rfl) (fun _ _ _ h => h) (by rfl) hS9 (fun w' hSw => (by obtain ⟨z1, z2, z3, z4⟩ := hSw; go_simp; try (with_reducible rfl))) ?_
      try simp only [Act.put, List.getElem_toArray, List.getElem_cons_succ, List.getElem_cons_zero, List.setIfInBounds_toArray, List.set_cons_zero, List.set_cons_succ]
      refine wpAnyJ_done (by kernel_rfl) ?_ _
      obtain ⟨q0, q1, q2, q3⟩ := hS9
      clear hS1 y0 x0 y1 x1 y2 x2 y3 x3 y4 x4 y5 x5
      have hsE := kE.lt
      have hQ := hBB.trans (hBE.mono hBB.size)
      clear hBt kz0 kz1 kz2 kz3 kz4 kz5 kz6
      generalize ((((((w7.setCell ⟨w5.heap.size, 0, none⟩ (.int .i64 k)).setCell ⟨w5.heap.size, 1, none⟩ (.string nm)).setCell ⟨w5.heap.size, 2, none⟩ (.bool kl)).setCell ⟨w5.heap.size, 3, none⟩ (.slice A9 n9 c9)).setCell ⟨w5.heap.size, 4, none⟩ (.func (.func i1) #[] #[])).setCell ⟨w5.heap.size, 5, none⟩ (.func (.func i2) #[] #[])) = W9 at *
      go_wp2_with fail
      refine (fwrite_any w5.heap.size 0 k st lt wi hok.out _ (hDt.below hQ) (kE.cell 0 _ rfl) (by rw [hnm.out]; exact kE.cell 1 _ rfl) (by rw [hkl.out]; exact kE.cell 2 _ rfl)).mono ?_
      rintro e wf ⟨rfl, hBf⟩
      rw [hY.out]
      go_wp2_with fail
      go_ret2
      exact ⟨rfl, hQ.trans (hBf.mono hQ.size)⟩
  · skip
    go_simp
    have kF6 := kF.drew.alloc (.cells #[.int .i64 0, .string ⟨#[]⟩, .bool false, .slice none 0 0, .nilFunc, .nilFunc] 106)
    have kB6 := Blk.new W.drew 106 #[.int .i64 0, .string ⟨#[]⟩, .bool false, .slice none 0 0, .nilFunc, .nilFunc]
    have hS6 := And.intro (kF6.cell 0 (.int .i64 k) rfl) (And.intro (kF6.cell 1 (.int .i64 st) rfl) (And.intro (kF6.cell 2 (.int .i64 lt) rfl) (kF6.cell 3 (.int .i64 wi) rfl)))
    refine hK.out _ _ hS6 (fun h => absurd h (by decide)) ?_
    clear hK K
    try simp only [Act.put, List.getElem_toArray, List.getElem_cons_succ, List.getElem_cons_zero, List.setIfInBounds_toArray, List.set_cons_zero, List.set_cons_succ]
    refine wpAnyJ_ready [0] (by kernel_rfl) (by simp) (NextJ.cons rfl (fun K hK => ?_) NextJ.nil)
    go_simp
    refine (kinds_any (W.drew.alloc (.cells #[.int .i64 0, .string ⟨#[]⟩, .bool false, .slice none 0 0, .nilFunc, .nilFunc] 106))).mono ?_
    rintro e w5 ⟨g, KA, rfl, hKA, hB5⟩
    have hB5' : Below W.heap.size W w5 := ⟨hB5.os, hB5.tape, hB5.output, Nat.le_trans (by simp) hB5.size, fun k hk => (hB5.block k (Nat.lt_of_lt_of_le hk (by simp))).trans (by first | rfl | exact Below.heap_alloc W.drew _ k hk)⟩
    have kF5 := kF6.below' hB5
    have kB5 := kB6.below' hB5
    have hS7 := And.intro (kF5.cell 0 (.int .i64 k) rfl) (And.intro (kF5.cell 1 (.int .i64 st) rfl) (And.intro (kF5.cell 2 (.int .i64 lt) rfl) (kF5.cell 3 (.int .i64 wi) rfl)))
    go_simp
    refine hK.out _ _ hS7 (fun h => absurd h (by decide)) ?_
    clear hK K
    try simp only [Act.put, List.getElem_toArray, List.getElem_cons_succ, List.getElem_cons_zero, List.setIfInBounds_toArray, List.set_cons_zero, List.set_cons_succ]
    refine wpAnyJ_ready [2] (by kernel_rfl) (by simp) (NextJ.cons rfl (fun K hK => ?_) NextJ.nil)
    go_simp
    refine (find_any g KA ⟨k, st, lt, wi⟩ w5 w5.heap.size hKA (Nat.le_refl _)).mono ?_
    rintro e w7 ⟨rfl, hB7⟩
    have kF7 := kF5.below' hB7
    have kB7 := kB5.below' hB7
    have hS8 := And.intro (kF7.cell 0 (.int .i64 k) rfl) (And.intro (kF7.cell 1 (.int .i64 st) rfl) (And.intro (kF7.cell 2 (.int .i64 lt) rfl) (kF7.cell 3 (.int .i64 wi) rfl)))
    obtain ⟨A9, c9, hv9, _, _⟩ := hKA.withs (k := k)
    rw [hn9.out] at hv9
    have hkc : (kcell KA k).toArray = #[.int .i64 k, .string nm, .bool kl, .slice A9 n9 c9, .func (.func i1) #[] #[], .func (.func i2) #[] #[]] := by unfold kcell; rw [if_pos hin.out]; unfold kcells; rw [hv9, hnm.out, hkl.out, hi1.out, hi2.out]
    rw [show (⟨k, st, lt, wi⟩ : Flt).k = k from rfl, hkc, hs.out]
    clear hkc hv9
    go_simp
    refine hK.out _ _ hS8 (fun h => absurd h (by decide)) ?_
    clear hK K
    try simp only [Act.put, List.getElem_toArray, List.getElem_cons_succ, List.getElem_cons_zero, List.setIfInBounds_toArray, List.set_cons_zero, List.set_cons_succ]
    refine wpAnyJ_take1 3 rfl (by kernel_rfl) (by kernel_rfl) rfl (by kernel_rfl) (fun _ _ _ h => h) (by rfl) hS8 (fun w' hSw => (by obtain ⟨z1, z2, z3, z4⟩ := hSw; go_simp; try (with_reducible rfl))) ?_
    try simp only [Act.put, List.getElem_toArray, List.getElem_cons_succ, List.getElem_cons_zero, List.setIfInBounds_toArray, List.set_cons_zero, List.set_cons_succ]
    refine wpAnyJ_take1 4 rfl (by kernel_rfl) (by kernel_rfl) rfl (by kernel_rfl) (fun _ _ _ h => h) (by rfl) hS8 (fun w' hSw => (by obtain ⟨z1, z2, z3, z4⟩ := hSw; go_simp; try (with_reducible rfl))) ?_
    try simp only [Act.put, List.getElem_toArray, List.getElem_cons_succ, List.getElem_cons_zero, List.setIfInBounds_toArray, List.set_cons_zero, List.set_cons_succ]
    refine wpAnyJ_take1 5 rfl (by kernel_rfl) (by kernel_rfl) rfl (by kernel_rfl) (fun _ _ _ h => h) (by rfl) hS8 (fun w' hSw => (by obtain ⟨z1, z2, z3, z4⟩ := hSw; go_simp; try (with_reducible rfl))) ?_
    try simp only [Act.put, List.getElem_toArray, List.getElem_cons_succ, List.getElem_cons_zero, List.setIfInBounds_toArray, List.set_cons_zero, List.set_cons_succ]
    have hBt : Below W.heap.size W w7 := hB5'.trans (hB7.mono hB5'.size)
    have kz0 : Blk w7 W.heap.size 106 #[.int .i64 0, .string ⟨#[]⟩, .bool false, .slice none 0 0, .nilFunc, .nilFunc] := kB7
    have y0 := kz0.cell 0 (.int .i64 0) rfl
    have x0 := kz0.frozen 0
    have kz1 := kz0.set_ 0 (.int .i64 k)
    have y1 := kz1.cell 1 (.string ⟨#[]⟩) rfl
    have x1 := kz1.frozen 1
    have kz2 := kz1.set_ 1 (.string nm)
    have y2 := kz2.cell 2 (.bool false) rfl
    have x2 := kz2.frozen 2
    have kz3 := kz2.set_ 2 (.bool kl)
    have y3 := kz3.cell 3 (.slice none 0 0) rfl
    have x3 := kz3.frozen 3
    have kz4 := kz3.set_ 3 (.slice A9 n9 c9)
    have y4 := kz4.cell 4 (.nilFunc) rfl
    have x4 := kz4.frozen 4
    have kz5 := kz4.set_ 4 (.func (.func i1) #[] #[])
    have y5 := kz5.cell 5 (.nilFunc) rfl
    have x5 := kz5.frozen 5
    have kz6 := kz5.set_ 5 (.func (.func i2) #[] #[])
    have bxl := kz0.lt
    refine wpAnyJ_ready [7] (by kernel_rfl) (by simp) (NextJ.cons rfl (fun K hK => ?_) NextJ.nil)
    go_simp
    have hge : W.heap.size ≤ W.heap.size := by first | exact Nat.le_refl _ | exact hB5'.size
    have hne : w.heap.size ≠ W.heap.size := by omega
    have kE := kz6
    have fE := (Blk.far (Blk.far (Blk.far (Blk.far (Blk.far (Blk.far kF7 (p := ⟨W.heap.size, 0, none⟩) hne (.int .i64 k)) (p := ⟨W.heap.size, 1, none⟩) hne (.string nm)) (p := ⟨W.heap.size, 2, none⟩) hne (.bool kl)) (p := ⟨W.heap.size, 3, none⟩) hne (.slice A9 n9 c9)) (p := ⟨W.heap.size, 4, none⟩) hne (.func (.func i1) #[] #[])) (p := ⟨W.heap.size, 5, none⟩) hne (.func (.func i2) #[] #[]))
    have hBE := (Below.setCell (Below.setCell (Below.setCell (Below.setCell (Below.setCell (Below.setCell hBt (p := ⟨W.heap.size, 0, none⟩) hge (.int .i64 k)) (p := ⟨W.heap.size, 1, none⟩) hge (.string nm)) (p := ⟨W.heap.size, 2, none⟩) hge (.bool kl)) (p := ⟨W.heap.size, 3, none⟩) hge (.slice A9 n9 c9)) (p := ⟨W.heap.size, 4, none⟩) hge (.func (.func i1) #[] #[])) (p := ⟨W.heap.size, 5, none⟩) hge (.func (.func i2) #[] #[]))
    have hS9 := And.intro (fE.cell 0 (.int .i64 k) rfl) (And.intro (fE.cell 1 (.int .i64 st) rfl) (And.intro (fE.cell 2 (.int .i64 lt) rfl) (fE.cell 3 (.int .i64 wi) rfl)))
    refine hK.out _ _ hS9 (fun h => absurd h (by decide)) ?_
    clear hK K
    try simp only [Act.put, List.getElem_toArray, List.getElem_cons_succ, List.getElem_cons_zero, List.setIfInBounds_toArray, List.set_cons_zero, List.set_cons_succ]
    refine wpAnyJ_take1 8 rfl (by kernel_rfl) (by kernel_rfl) rfl (by kernel_rfl) (fun _ _ _ h => h) (by rfl) hS9 (fun w' hSw => (by obtain ⟨z1, z2, z3, z4⟩ := hSw; go_simp; try (with_reducible rfl))) ?_
    try simp only [Act.put, List.getElem_toArray, List.getElem_cons_succ, List.getElem_cons_zero, List.setIfInBounds_toArray, List.set_cons_zero, List.set_cons_succ]
    refine wpAnyJ_done (by kernel_rfl) ?_ _
    obtain ⟨q0, q1, q2, q3⟩ := hS9
    clear hS1 y0 x0 y1 x1 y2 x2 y3 x3 y4 x4 y5 x5
    have hsE := kE.lt
    have hQ := hBB.trans (hBE.mono hBB.size)
    clear hBt kz0 kz1 kz2 kz3 kz4 kz5 kz6
    generalize ((((((w7.setCell ⟨W.heap.size, 0, none⟩ (.int .i64 k)).setCell ⟨W.heap.size, 1, none⟩ (.string nm)).setCell ⟨W.heap.size, 2, none⟩ (.bool kl)).setCell ⟨W.heap.size, 3, none⟩ (.slice A9 n9 c9)).setCell ⟨W.heap.size, 4, none⟩ (.func (.func i1) #[] #[])).setCell ⟨W.heap.size, 5, none⟩ (.func (.func i2) #[] #[])) = W9 at *
    go_wp2_with fail
    refine (fwrite_any W.heap.size 0 k st lt wi hok.out _ (hDt.below hQ) (kE.cell 0 _ rfl) (by rw [hnm.out]; exact kE.cell 1 _ rfl) (by rw [hkl.out]; exact kE.cell 2 _ rfl)).mono ?_
    rintro e wf ⟨rfl, hBf⟩
    rw [hY.out]
    go_wp2_with fail
    go_ret2
    exact ⟨rfl, hQ.trans (hBf.mono hQ.size)⟩
theorem fprint_any (k st lt wi : Int) (w : World) (hDt : DtAt w) : Calls Tryz.prog 18 #[.agg #[.int .i64 k, .int .i64 st, .int .i64 lt, .int .i64 wi]] w (Ret (.tuple #[.string (bN (printF ⟨k, st, lt, wi⟩).1), .int .i64 (printF ⟨k, st, lt, wi⟩).2]) w) := by
  by_cases hin : 1 ≤ k ∧ k ≤ 6
  · cases hs : shapedF ⟨k, st, lt, wi⟩
    · exact fprn_1 k st lt wi (Lib.hid hin) (Lib.hid hs) w hDt
    by_cases a1 : st < 0
    · exact fprn_2 k st lt wi (Lib.hid hin) (Lib.hid hs) a1 w hDt
    by_cases a2 : 999 < st
    · exact fprn_3 k st lt wi (Lib.hid hin) (Lib.hid hs) a1 a2 w hDt
    by_cases a3 : lt < 0
    · exact fprn_4 k st lt wi (Lib.hid hin) (Lib.hid hs) a1 a2 a3 w hDt
    by_cases a4 : 16 < lt
    · exact fprn_5 k st lt wi (Lib.hid hin) (Lib.hid hs) a1 a2 a3 a4 w hDt
    · exact fprn_6 k st lt wi (Lib.hid hin) (Lib.hid hs) a1 a2 a3 a4 w hDt
  · exact fprn_0 k st lt wi (Lib.hid hin) (Lib.hid (shapedF_out hin)) w hDt
end Go.Proofs.YtmfklcnocekdlaaGreatDoor

