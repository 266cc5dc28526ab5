/- faults: Print and Parse at the document's examples, walked. -/
import Derived.Test.YtblifdchofihoaaGreatDoorFText
import Derived.Test.YtblifdchofihoaaGreatDoorPut
set_option linter.unusedSimpArgs false
set_option linter.unusedVariables false
namespace Go.Proofs.YtblifdchofihoaaGreatDoor
open Go Go.RowKit Tor

set_option maxRecDepth 100000 in
set_option maxHeartbeats 4000000 in
theorem fprint_ex (w : World) : Calls Tryz.prog 6 #[.agg #[.int .i64 2, .int .i64 2, .int .i64 2, .int .i64 80]] w (Ret (.tuple #[.string ⟨#[101, 120, 116, 114, 97, 32, 50, 32, 50, 32, 80]⟩, .int .i64 0]) w) := by
  have hBB : Below w.heap.size w (w.alloc (.cells #[.int .i64 2, .int .i64 2, .int .i64 2, .int .i64 80] 23)) := by (repeat' first | exact Below.refl _ _ | apply Below.drew | (refine Below.setCells ?_ _ _ ?_) | (refine Below.setCell ?_ ?_ _) | (refine Below.alloc ?_ ?_ _) | (simp; done) | (simp; omega))
  have kF := Blk.new w 23 #[.int .i64 2, .int .i64 2, .int .i64 2, .int .i64 80]
  go_enter Tryz.func6, Tryz.ntmps6
  go_wp2_with fail
  have fl := kF.lt
  generalize w.alloc (.cells #[.int .i64 2, .int .i64 2, .int .i64 2, .int .i64 80] 23) = W at *
  have p0 := kF.cell 0 (.int .i64 2) rfl
  have p1 := kF.cell 1 (.int .i64 2) rfl
  have p2 := kF.cell 2 (.int .i64 2) rfl
  have p3 := kF.cell 3 (.int .i64 80) rfl
  refine wp_region_J (fun w' => w'.cell? ⟨w.heap.size, 0, none⟩ = some (.int .i64 2) ∧ w'.cell? ⟨w.heap.size, 1, none⟩ = some (.int .i64 2) ∧ w'.cell? ⟨w.heap.size, 2, none⟩ = some (.int .i64 2) ∧ w'.cell? ⟨w.heap.size, 3, none⟩ = some (.int .i64 80)) (fun _ => True) (fun _ => false) (by kernel_rfl) ?_
  have hS1 : W.drew.cell? ⟨w.heap.size, 0, none⟩ = some (.int .i64 2) ∧ W.drew.cell? ⟨w.heap.size, 1, none⟩ = some (.int .i64 2) ∧ W.drew.cell? ⟨w.heap.size, 2, none⟩ = some (.int .i64 2) ∧ W.drew.cell? ⟨w.heap.size, 3, none⟩ = some (.int .i64 80) := ⟨p0, p1, p2, p3⟩
  refine wpAnyJ_take1 1 rfl (by kernel_rfl) (by kernel_rfl) rfl (by kernel_rfl) (fun _ _ _ h => h) (by rfl) hS1 (fun w' hSw => (by obtain ⟨z1, z2, z3, z4⟩ := hSw; go_simp; try (with_reducible rfl))) ?_
  try simp only [Act.put, List.getElem_toArray, List.getElem_cons_succ, List.getElem_cons_zero, List.setIfInBounds_toArray, List.set_cons_zero, List.set_cons_succ]
  refine wpAnyJ_ready [0, 6] (by kernel_rfl) (by simp) (NextJ.cons rfl (fun K hK => ?_) (NextJ.cons rfl (fun K hK => ?_) NextJ.nil))
  · skip
    go_simp
    refine (kinds_any W.drew).mono ?_
    rintro e w5 ⟨g, KA, rfl, hKA, hB5⟩
    have hB5' : Below W.heap.size W w5 := ⟨hB5.os, hB5.tape, hB5.output, Nat.le_trans (by simp) hB5.size, fun k hk => (hB5.block k (Nat.lt_of_lt_of_le hk (by simp))).trans (by first | rfl | exact Below.heap_alloc W.drew _ k hk)⟩
    have kF5 := kF.drew.below' hB5
    have hS1 := And.intro (kF5.cell 0 (.int .i64 2) rfl) (And.intro (kF5.cell 1 (.int .i64 2) rfl) (And.intro (kF5.cell 2 (.int .i64 2) rfl) (kF5.cell 3 (.int .i64 80) rfl)))
    go_simp
    refine hK.out _ _ hS1 (fun h => absurd h (by decide)) ?_
    clear hK K
    try simp only [Act.put, List.getElem_toArray, List.getElem_cons_succ, List.getElem_cons_zero, List.setIfInBounds_toArray, List.set_cons_zero, List.set_cons_succ]
    refine wpAnyJ_ready [2, 6] (by kernel_rfl) (by simp) (NextJ.cons rfl (fun K hK => ?_) (NextJ.cons rfl (fun K hK => ?_) NextJ.nil))
    · skip
      go_simp
      refine (find_any g KA ⟨2, 2, 2, 80⟩ w5 w5.heap.size hKA (Nat.le_refl _)).mono ?_
      rintro e w7 ⟨rfl, hB7⟩
      have kF7 := kF5.below' hB7
      have hS2 := And.intro (kF7.cell 0 (.int .i64 2) rfl) (And.intro (kF7.cell 1 (.int .i64 2) rfl) (And.intro (kF7.cell 2 (.int .i64 2) rfl) (kF7.cell 3 (.int .i64 80) rfl)))
      obtain ⟨A9, c9, hv9, _, _⟩ := hKA.withs (k := 2)
      have hkc : (kcell KA 2).toArray = #[.int .i64 2, .string ⟨#[101, 120, 116, 114, 97]⟩, .bool true, .slice A9 9 c9, .func (.func 34) #[] #[], .func (.func 35) #[] #[]] := by unfold kcell; rw [if_pos (by decide)]; unfold kcells; rw [hv9]; rfl
      rw [hkc, show shapedF ⟨2, 2, 2, 80⟩ = true from by decide]
      clear hkc hv9
      go_simp
      refine hK.out _ _ hS2 (fun h => absurd h (by decide)) ?_
      clear hK K
      try simp only [Act.put, List.getElem_toArray, List.getElem_cons_succ, List.getElem_cons_zero, List.setIfInBounds_toArray, List.set_cons_zero, List.set_cons_succ]
      refine wpAnyJ_take1 3 rfl (by kernel_rfl) (by kernel_rfl) rfl (by kernel_rfl) (fun _ _ _ h => h) (by rfl) hS2 (fun w' hSw => (by obtain ⟨z1, z2, z3, z4⟩ := hSw; go_simp; try (with_reducible rfl))) ?_
      try simp only [Act.put, List.getElem_toArray, List.getElem_cons_succ, List.getElem_cons_zero, List.setIfInBounds_toArray, List.set_cons_zero, List.set_cons_succ]
      refine wpAnyJ_take1 4 rfl (by kernel_rfl) (by kernel_rfl) rfl (by kernel_rfl) (fun _ _ _ h => h) (by rfl) hS2 (fun w' hSw => (by obtain ⟨z1, z2, z3, z4⟩ := hSw; go_simp; try (with_reducible rfl))) ?_
      try simp only [Act.put, List.getElem_toArray, List.getElem_cons_succ, List.getElem_cons_zero, List.setIfInBounds_toArray, List.set_cons_zero, List.set_cons_succ]
      refine wpAnyJ_take1 5 rfl (by kernel_rfl) (by kernel_rfl) rfl (by kernel_rfl) (fun _ _ _ h => h) (by rfl) hS2 (fun w' hSw => (by obtain ⟨z1, z2, z3, z4⟩ := hSw; go_simp; try (with_reducible rfl))) ?_
      try simp only [Act.put, List.getElem_toArray, List.getElem_cons_succ, List.getElem_cons_zero, List.setIfInBounds_toArray, List.set_cons_zero, List.set_cons_succ]
      refine wpAnyJ_ready [6] (by kernel_rfl) (by simp) (NextJ.cons rfl (fun K hK => ?_) NextJ.nil)
      go_simp
      have kF6 := kF7.alloc (.cells #[.int .i64 0, .string ⟨#[]⟩, .bool false, .slice none 0 0, .nilFunc, .nilFunc] 44)
      have kB6 := Blk.new w7 44 #[.int .i64 0, .string ⟨#[]⟩, .bool false, .slice none 0 0, .nilFunc, .nilFunc]
      have hS3 := And.intro (kF6.cell 0 (.int .i64 2) rfl) (And.intro (kF6.cell 1 (.int .i64 2) rfl) (And.intro (kF6.cell 2 (.int .i64 2) rfl) (kF6.cell 3 (.int .i64 80) rfl)))
      refine hK.out _ _ hS3 (fun h => absurd h (by decide)) ?_
      clear hK K
      try simp only [Act.put, List.getElem_toArray, List.getElem_cons_succ, List.getElem_cons_zero, List.setIfInBounds_toArray, List.set_cons_zero, List.set_cons_succ]
      have hBt : Below W.heap.size W (w7.alloc (.cells #[.int .i64 0, .string ⟨#[]⟩, .bool false, .slice none 0 0, .nilFunc, .nilFunc] 44)) := Below.alloc (hB5'.trans (hB7.mono hB5'.size)) (Nat.le_trans hB5'.size hB7.size) _
      have kz0 : Blk (w7.alloc (.cells #[.int .i64 0, .string ⟨#[]⟩, .bool false, .slice none 0 0, .nilFunc, .nilFunc] 44)) w7.heap.size 44 #[.int .i64 0, .string ⟨#[]⟩, .bool false, .slice none 0 0, .nilFunc, .nilFunc] := kB6
      have y0 := kz0.cell 0 (.int .i64 0) rfl
      have x0 := kz0.frozen 0
      have kz1 := kz0.set_ 0 (.int .i64 2)
      have y1 := kz1.cell 1 (.string ⟨#[]⟩) rfl
      have x1 := kz1.frozen 1
      have kz2 := kz1.set_ 1 (.string ⟨#[101, 120, 116, 114, 97]⟩)
      have y2 := kz2.cell 2 (.bool false) rfl
      have x2 := kz2.frozen 2
      have kz3 := kz2.set_ 2 (.bool true)
      have y3 := kz3.cell 3 (.slice none 0 0) rfl
      have x3 := kz3.frozen 3
      have kz4 := kz3.set_ 3 (.slice A9 9 c9)
      have y4 := kz4.cell 4 (.nilFunc) rfl
      have x4 := kz4.frozen 4
      have kz5 := kz4.set_ 4 (.func (.func 34) #[] #[])
      have y5 := kz5.cell 5 (.nilFunc) rfl
      have x5 := kz5.frozen 5
      have kz6 := kz5.set_ 5 (.func (.func 35) #[] #[])
      have bxl := kz0.lt
      refine wpAnyJ_ready [7] (by kernel_rfl) (by simp) (NextJ.cons rfl (fun K hK => ?_) NextJ.nil)
      go_simp
      have kE := Blk.new w7 44 #[.int .i64 2, .string ⟨#[101, 120, 116, 114, 97]⟩, .bool true, .slice A9 9 c9, .func (.func 34) #[] #[], .func (.func 35) #[] #[]]
      have fE := kF7.alloc (.cells #[.int .i64 2, .string ⟨#[101, 120, 116, 114, 97]⟩, .bool true, .slice A9 9 c9, .func (.func 34) #[] #[], .func (.func 35) #[] #[]] 44)
      have hBE : Below W.heap.size W (w7.alloc (.cells #[.int .i64 2, .string ⟨#[101, 120, 116, 114, 97]⟩, .bool true, .slice A9 9 c9, .func (.func 34) #[] #[], .func (.func 35) #[] #[]] 44)) := Below.alloc (hB5'.trans (hB7.mono hB5'.size)) (Nat.le_trans hB5'.size hB7.size) _
      have hS9 := And.intro (fE.cell 0 (.int .i64 2) rfl) (And.intro (fE.cell 1 (.int .i64 2) rfl) (And.intro (fE.cell 2 (.int .i64 2) rfl) (fE.cell 3 (.int .i64 80) rfl)))
      refine hK.out _ _ hS9 (fun h => absurd h (by decide)) ?_
      clear hK K
      try simp only [Act.put, List.getElem_toArray, List.getElem_cons_succ, List.getElem_cons_zero, List.setIfInBounds_toArray, List.set_cons_zero, List.set_cons_succ]
      refine wpAnyJ_take1 8 rfl (by kernel_rfl) (by kernel_rfl) rfl (by kernel_rfl) (fun _ _ _ h => h) (by rfl) hS9 (fun w' hSw => (by obtain ⟨z1, z2, z3, z4⟩ := hSw; go_simp; try (with_reducible rfl))) ?_
      try simp only [Act.put, List.getElem_toArray, List.getElem_cons_succ, List.getElem_cons_zero, List.setIfInBounds_toArray, List.set_cons_zero, List.set_cons_succ]
      refine wpAnyJ_done (by kernel_rfl) ?_ _
      obtain ⟨q0, q1, q2, q3⟩ := hS9
      clear hS1 y0 x0 y1 x1 y2 x2 y3 x3 y4 x4 y5 x5
      have hsE := kE.lt
      go_wp2_with (first
        | (go_at_call 16; refine (fwrite_ex w7.heap.size _ (kE.cell 0 _ rfl) (kE.cell 1 _ rfl) (kE.cell 2 _ rfl)).mono ?_; rintro e wf ⟨rfl, hBf⟩)
        | fail)
      go_ret2
      exact ⟨rfl, (hBB.trans (hBE.mono hBB.size)).trans (hBf.mono (hBB.trans (hBE.mono hBB.size)).size)⟩
    · skip
      go_simp
      have kF6 := kF5.alloc (.cells #[.int .i64 0, .string ⟨#[]⟩, .bool false, .slice none 0 0, .nilFunc, .nilFunc] 44)
      have kB6 := Blk.new w5 44 #[.int .i64 0, .string ⟨#[]⟩, .bool false, .slice none 0 0, .nilFunc, .nilFunc]
      have hS4 := And.intro (kF6.cell 0 (.int .i64 2) rfl) (And.intro (kF6.cell 1 (.int .i64 2) rfl) (And.intro (kF6.cell 2 (.int .i64 2) rfl) (kF6.cell 3 (.int .i64 80) rfl)))
      refine hK.out _ _ hS4 (fun h => absurd h (by decide)) ?_
      clear hK K
      try simp only [Act.put, List.getElem_toArray, List.getElem_cons_succ, List.getElem_cons_zero, List.setIfInBounds_toArray, List.set_cons_zero, List.set_cons_succ]
      refine wpAnyJ_ready [2] (by kernel_rfl) (by simp) (NextJ.cons rfl (fun K hK => ?_) NextJ.nil)
      have hKA6 := hKA.below (Below.alloc (Below.refl _ w5) (Nat.le_refl _) (.cells #[.int .i64 0, .string ⟨#[]⟩, .bool false, .slice none 0 0, .nilFunc, .nilFunc] 44)) (Nat.le_refl _)
      have hKA6 : KindsAt (w5.alloc (.cells #[.int .i64 0, .string ⟨#[]⟩, .bool false, .slice none 0 0, .nilFunc, .nilFunc] 44)) (w5.alloc (.cells #[.int .i64 0, .string ⟨#[]⟩, .bool false, .slice none 0 0, .nilFunc, .nilFunc] 44)).heap.size g KA := ⟨Nat.lt_of_lt_of_le hKA6.lt (by simp), hKA6.blk, hKA6.wa.more (by simp), hKA6.wb.more (by simp), hKA6.wp.more (by simp)⟩
      go_simp
      refine (find_any g KA ⟨2, 2, 2, 80⟩ (w5.alloc (.cells #[.int .i64 0, .string ⟨#[]⟩, .bool false, .slice none 0 0, .nilFunc, .nilFunc] 44)) (w5.alloc (.cells #[.int .i64 0, .string ⟨#[]⟩, .bool false, .slice none 0 0, .nilFunc, .nilFunc] 44)).heap.size hKA6 (Nat.le_refl _)).mono ?_
      rintro e w7 ⟨rfl, hB7⟩
      have kF7 := kF6.below' hB7
      have kB7 := kB6.below' hB7
      have hS5 := And.intro (kF7.cell 0 (.int .i64 2) rfl) (And.intro (kF7.cell 1 (.int .i64 2) rfl) (And.intro (kF7.cell 2 (.int .i64 2) rfl) (kF7.cell 3 (.int .i64 80) rfl)))
      obtain ⟨A9, c9, hv9, _, _⟩ := hKA6.withs (k := 2)
      have hkc : (kcell KA 2).toArray = #[.int .i64 2, .string ⟨#[101, 120, 116, 114, 97]⟩, .bool true, .slice A9 9 c9, .func (.func 34) #[] #[], .func (.func 35) #[] #[]] := by unfold kcell; rw [if_pos (by decide)]; unfold kcells; rw [hv9]; rfl
      rw [hkc, show shapedF ⟨2, 2, 2, 80⟩ = true from by decide]
      clear hkc hv9
      go_simp
      refine hK.out _ _ hS5 (fun h => absurd h (by decide)) ?_
      clear hK K
      try simp only [Act.put, List.getElem_toArray, List.getElem_cons_succ, List.getElem_cons_zero, List.setIfInBounds_toArray, List.set_cons_zero, List.set_cons_succ]
      refine wpAnyJ_take1 3 rfl (by kernel_rfl) (by kernel_rfl) rfl (by kernel_rfl) (fun _ _ _ h => h) (by rfl) hS5 (fun w' hSw => (by obtain ⟨z1, z2, z3, z4⟩ := hSw; go_simp; try (with_reducible rfl))) ?_
      try simp only [Act.put, List.getElem_toArray, List.getElem_cons_succ, List.getElem_cons_zero, List.setIfInBounds_toArray, List.set_cons_zero, List.set_cons_succ]
      refine wpAnyJ_take1 4 rfl (by kernel_rfl) (by kernel_rfl) rfl (by kernel_rfl) (fun _ _ _ h => h) (by rfl) hS5 (fun w' hSw => (by obtain ⟨z1, z2, z3, z4⟩ := hSw; go_simp; try (with_reducible rfl))) ?_
      try simp only [Act.put, List.getElem_toArray, List.getElem_cons_succ, List.getElem_cons_zero, List.setIfInBounds_toArray, List.set_cons_zero, List.set_cons_succ]
      refine wpAnyJ_take1 5 rfl (by kernel_rfl) (by kernel_rfl) rfl (by kernel_rfl) (fun _ _ _ h => h) (by rfl) hS5 (fun w' hSw => (by obtain ⟨z1, z2, z3, z4⟩ := hSw; go_simp; try (with_reducible rfl))) ?_
      try simp only [Act.put, List.getElem_toArray, List.getElem_cons_succ, List.getElem_cons_zero, List.setIfInBounds_toArray, List.set_cons_zero, List.set_cons_succ]
      have hBt : Below W.heap.size W w7 := (Below.alloc hB5' hB5'.size _).trans (hB7.mono (Nat.le_trans hB5'.size (by simp)))
      have kz0 : Blk w7 w5.heap.size 44 #[.int .i64 0, .string ⟨#[]⟩, .bool false, .slice none 0 0, .nilFunc, .nilFunc] := kB7
      have y0 := kz0.cell 0 (.int .i64 0) rfl
      have x0 := kz0.frozen 0
      have kz1 := kz0.set_ 0 (.int .i64 2)
      have y1 := kz1.cell 1 (.string ⟨#[]⟩) rfl
      have x1 := kz1.frozen 1
      have kz2 := kz1.set_ 1 (.string ⟨#[101, 120, 116, 114, 97]⟩)
      have y2 := kz2.cell 2 (.bool false) rfl
      have x2 := kz2.frozen 2
      have kz3 := kz2.set_ 2 (.bool true)
      have y3 := kz3.cell 3 (.slice none 0 0) rfl
      have x3 := kz3.frozen 3
      have kz4 := kz3.set_ 3 (.slice A9 9 c9)
      have y4 := kz4.cell 4 (.nilFunc) rfl
      have x4 := kz4.frozen 4
      have kz5 := kz4.set_ 4 (.func (.func 34) #[] #[])
      have y5 := kz5.cell 5 (.nilFunc) rfl
      have x5 := kz5.frozen 5
      have kz6 := kz5.set_ 5 (.func (.func 35) #[] #[])
      have bxl := kz0.lt
      refine wpAnyJ_ready [7] (by kernel_rfl) (by simp) (NextJ.cons rfl (fun K hK => ?_) NextJ.nil)
      go_simp
      have hge : W.heap.size ≤ w5.heap.size := by first | exact Nat.le_refl _ | exact hB5'.size
      have hne : w.heap.size ≠ w5.heap.size := by omega
      have kE := kz6
      have fE := (Blk.far (Blk.far (Blk.far (Blk.far (Blk.far (Blk.far kF7 (p := ⟨w5.heap.size, 0, none⟩) hne (.int .i64 2)) (p := ⟨w5.heap.size, 1, none⟩) hne (.string ⟨#[101, 120, 116, 114, 97]⟩)) (p := ⟨w5.heap.size, 2, none⟩) hne (.bool true)) (p := ⟨w5.heap.size, 3, none⟩) hne (.slice A9 9 c9)) (p := ⟨w5.heap.size, 4, none⟩) hne (.func (.func 34) #[] #[])) (p := ⟨w5.heap.size, 5, none⟩) hne (.func (.func 35) #[] #[]))
      have hBE := (Below.setCell (Below.setCell (Below.setCell (Below.setCell (Below.setCell (Below.setCell hBt (p := ⟨w5.heap.size, 0, none⟩) hge (.int .i64 2)) (p := ⟨w5.heap.size, 1, none⟩) hge (.string ⟨#[101, 120, 116, 114, 97]⟩)) (p := ⟨w5.heap.size, 2, none⟩) hge (.bool true)) (p := ⟨w5.heap.size, 3, none⟩) hge (.slice A9 9 c9)) (p := ⟨w5.heap.size, 4, none⟩) hge (.func (.func 34) #[] #[])) (p := ⟨w5.heap.size, 5, none⟩) hge (.func (.func 35) #[] #[]))
      have hS9 := And.intro (fE.cell 0 (.int .i64 2) rfl) (And.intro (fE.cell 1 (.int .i64 2) rfl) (And.intro (fE.cell 2 (.int .i64 2) rfl) (fE.cell 3 (.int .i64 80) rfl)))
      refine hK.out _ _ hS9 (fun h => absurd h (by decide)) ?_
      clear hK K
      try simp only [Act.put, List.getElem_toArray, List.getElem_cons_succ, List.getElem_cons_zero, List.setIfInBounds_toArray, List.set_cons_zero, List.set_cons_succ]
      refine wpAnyJ_take1 8 rfl (by kernel_rfl) (by kernel_rfl) rfl (by kernel_rfl) (fun _ _ _ h => h) (by rfl) hS9 (fun w' hSw => (by obtain ⟨z1, z2, z3, z4⟩ := hSw; go_simp; try (with_reducible rfl))) ?_
      try simp only [Act.put, List.getElem_toArray, List.getElem_cons_succ, List.getElem_cons_zero, List.setIfInBounds_toArray, List.set_cons_zero, List.set_cons_succ]
      refine wpAnyJ_done (by kernel_rfl) ?_ _
      obtain ⟨q0, q1, q2, q3⟩ := hS9
      clear hS1 y0 x0 y1 x1 y2 x2 y3 x3 y4 x4 y5 x5
      have hsE := kE.lt
      go_wp2_with (first
        | (go_at_call 16; refine (fwrite_ex w5.heap.size _ (kE.cell 0 _ rfl) (kE.cell 1 _ rfl) (kE.cell 2 _ rfl)).mono ?_; rintro e wf ⟨rfl, hBf⟩)
        | fail)
      go_ret2
      exact ⟨rfl, (hBB.trans (hBE.mono hBB.size)).trans (hBf.mono (hBB.trans (hBE.mono hBB.size)).size)⟩
  · skip
    go_simp
    have kF6 := kF.drew.alloc (.cells #[.int .i64 0, .string ⟨#[]⟩, .bool false, .slice none 0 0, .nilFunc, .nilFunc] 44)
    have kB6 := Blk.new W.drew 44 #[.int .i64 0, .string ⟨#[]⟩, .bool false, .slice none 0 0, .nilFunc, .nilFunc]
    have hS6 := And.intro (kF6.cell 0 (.int .i64 2) rfl) (And.intro (kF6.cell 1 (.int .i64 2) rfl) (And.intro (kF6.cell 2 (.int .i64 2) rfl) (kF6.cell 3 (.int .i64 80) rfl)))
    refine hK.out _ _ hS6 (fun h => absurd h (by decide)) ?_
    clear hK K
    try simp only [Act.put, List.getElem_toArray, List.getElem_cons_succ, List.getElem_cons_zero, List.setIfInBounds_toArray, List.set_cons_zero, List.set_cons_succ]
    refine wpAnyJ_ready [0] (by kernel_rfl) (by simp) (NextJ.cons rfl (fun K hK => ?_) NextJ.nil)
    go_simp
    refine (kinds_any (W.drew.alloc (.cells #[.int .i64 0, .string ⟨#[]⟩, .bool false, .slice none 0 0, .nilFunc, .nilFunc] 44))).mono ?_
    rintro e w5 ⟨g, KA, rfl, hKA, hB5⟩
    have hB5' : Below W.heap.size W w5 := ⟨hB5.os, hB5.tape, hB5.output, Nat.le_trans (by simp) hB5.size, fun k hk => (hB5.block k (Nat.lt_of_lt_of_le hk (by simp))).trans (by first | rfl | exact Below.heap_alloc W.drew _ k hk)⟩
    have kF5 := kF6.below' hB5
    have kB5 := kB6.below' hB5
    have hS7 := And.intro (kF5.cell 0 (.int .i64 2) rfl) (And.intro (kF5.cell 1 (.int .i64 2) rfl) (And.intro (kF5.cell 2 (.int .i64 2) rfl) (kF5.cell 3 (.int .i64 80) rfl)))
    go_simp
    refine hK.out _ _ hS7 (fun h => absurd h (by decide)) ?_
    clear hK K
    try simp only [Act.put, List.getElem_toArray, List.getElem_cons_succ, List.getElem_cons_zero, List.setIfInBounds_toArray, List.set_cons_zero, List.set_cons_succ]
    refine wpAnyJ_ready [2] (by kernel_rfl) (by simp) (NextJ.cons rfl (fun K hK => ?_) NextJ.nil)
    go_simp
    refine (find_any g KA ⟨2, 2, 2, 80⟩ w5 w5.heap.size hKA (Nat.le_refl _)).mono ?_
    rintro e w7 ⟨rfl, hB7⟩
    have kF7 := kF5.below' hB7
    have kB7 := kB5.below' hB7
    have hS8 := And.intro (kF7.cell 0 (.int .i64 2) rfl) (And.intro (kF7.cell 1 (.int .i64 2) rfl) (And.intro (kF7.cell 2 (.int .i64 2) rfl) (kF7.cell 3 (.int .i64 80) rfl)))
    obtain ⟨A9, c9, hv9, _, _⟩ := hKA.withs (k := 2)
    have hkc : (kcell KA 2).toArray = #[.int .i64 2, .string ⟨#[101, 120, 116, 114, 97]⟩, .bool true, .slice A9 9 c9, .func (.func 34) #[] #[], .func (.func 35) #[] #[]] := by unfold kcell; rw [if_pos (by decide)]; unfold kcells; rw [hv9]; rfl
    rw [hkc, show shapedF ⟨2, 2, 2, 80⟩ = true from by decide]
    clear hkc hv9
    go_simp
    refine hK.out _ _ hS8 (fun h => absurd h (by decide)) ?_
    clear hK K
    try simp only [Act.put, List.getElem_toArray, List.getElem_cons_succ, List.getElem_cons_zero, List.setIfInBounds_toArray, List.set_cons_zero, List.set_cons_succ]
    refine wpAnyJ_take1 3 rfl (by kernel_rfl) (by kernel_rfl) rfl (by kernel_rfl) (fun _ _ _ h => h) (by rfl) hS8 (fun w' hSw => (by obtain ⟨z1, z2, z3, z4⟩ := hSw; go_simp; try (with_reducible rfl))) ?_
    try simp only [Act.put, List.getElem_toArray, List.getElem_cons_succ, List.getElem_cons_zero, List.setIfInBounds_toArray, List.set_cons_zero, List.set_cons_succ]
    refine wpAnyJ_take1 4 rfl (by kernel_rfl) (by kernel_rfl) rfl (by kernel_rfl) (fun _ _ _ h => h) (by rfl) hS8 (fun w' hSw => (by obtain ⟨z1, z2, z3, z4⟩ := hSw; go_simp; try (with_reducible rfl))) ?_
    try simp only [Act.put, List.getElem_toArray, List.getElem_cons_succ, List.getElem_cons_zero, List.setIfInBounds_toArray, List.set_cons_zero, List.set_cons_succ]
    refine wpAnyJ_take1 5 rfl (by kernel_rfl) (by kernel_rfl) rfl (by kernel_rfl) (fun _ _ _ h => h) (by rfl) hS8 (fun w' hSw => (by obtain ⟨z1, z2, z3, z4⟩ := hSw; go_simp; try (with_reducible rfl))) ?_
    try simp only [Act.put, List.getElem_toArray, List.getElem_cons_succ, List.getElem_cons_zero, List.setIfInBounds_toArray, List.set_cons_zero, List.set_cons_succ]
    have hBt : Below W.heap.size W w7 := hB5'.trans (hB7.mono hB5'.size)
    have kz0 : Blk w7 W.heap.size 44 #[.int .i64 0, .string ⟨#[]⟩, .bool false, .slice none 0 0, .nilFunc, .nilFunc] := kB7
    have y0 := kz0.cell 0 (.int .i64 0) rfl
    have x0 := kz0.frozen 0
    have kz1 := kz0.set_ 0 (.int .i64 2)
    have y1 := kz1.cell 1 (.string ⟨#[]⟩) rfl
    have x1 := kz1.frozen 1
    have kz2 := kz1.set_ 1 (.string ⟨#[101, 120, 116, 114, 97]⟩)
    have y2 := kz2.cell 2 (.bool false) rfl
    have x2 := kz2.frozen 2
    have kz3 := kz2.set_ 2 (.bool true)
    have y3 := kz3.cell 3 (.slice none 0 0) rfl
    have x3 := kz3.frozen 3
    have kz4 := kz3.set_ 3 (.slice A9 9 c9)
    have y4 := kz4.cell 4 (.nilFunc) rfl
    have x4 := kz4.frozen 4
    have kz5 := kz4.set_ 4 (.func (.func 34) #[] #[])
    have y5 := kz5.cell 5 (.nilFunc) rfl
    have x5 := kz5.frozen 5
    have kz6 := kz5.set_ 5 (.func (.func 35) #[] #[])
    have bxl := kz0.lt
    refine wpAnyJ_ready [7] (by kernel_rfl) (by simp) (NextJ.cons rfl (fun K hK => ?_) NextJ.nil)
    go_simp
    have hge : W.heap.size ≤ W.heap.size := by first | exact Nat.le_refl _ | exact hB5'.size
    have hne : w.heap.size ≠ W.heap.size := by omega
    have kE := kz6
    have fE := (Blk.far (Blk.far (Blk.far (Blk.far (Blk.far (Blk.far kF7 (p := ⟨W.heap.size, 0, none⟩) hne (.int .i64 2)) (p := ⟨W.heap.size, 1, none⟩) hne (.string ⟨#[101, 120, 116, 114, 97]⟩)) (p := ⟨W.heap.size, 2, none⟩) hne (.bool true)) (p := ⟨W.heap.size, 3, none⟩) hne (.slice A9 9 c9)) (p := ⟨W.heap.size, 4, none⟩) hne (.func (.func 34) #[] #[])) (p := ⟨W.heap.size, 5, none⟩) hne (.func (.func 35) #[] #[]))
    have hBE := (Below.setCell (Below.setCell (Below.setCell (Below.setCell (Below.setCell (Below.setCell hBt (p := ⟨W.heap.size, 0, none⟩) hge (.int .i64 2)) (p := ⟨W.heap.size, 1, none⟩) hge (.string ⟨#[101, 120, 116, 114, 97]⟩)) (p := ⟨W.heap.size, 2, none⟩) hge (.bool true)) (p := ⟨W.heap.size, 3, none⟩) hge (.slice A9 9 c9)) (p := ⟨W.heap.size, 4, none⟩) hge (.func (.func 34) #[] #[])) (p := ⟨W.heap.size, 5, none⟩) hge (.func (.func 35) #[] #[]))
    have hS9 := And.intro (fE.cell 0 (.int .i64 2) rfl) (And.intro (fE.cell 1 (.int .i64 2) rfl) (And.intro (fE.cell 2 (.int .i64 2) rfl) (fE.cell 3 (.int .i64 80) rfl)))
    refine hK.out _ _ hS9 (fun h => absurd h (by decide)) ?_
    clear hK K
    try simp only [Act.put, List.getElem_toArray, List.getElem_cons_succ, List.getElem_cons_zero, List.setIfInBounds_toArray, List.set_cons_zero, List.set_cons_succ]
    refine wpAnyJ_take1 8 rfl (by kernel_rfl) (by kernel_rfl) rfl (by kernel_rfl) (fun _ _ _ h => h) (by rfl) hS9 (fun w' hSw => (by obtain ⟨z1, z2, z3, z4⟩ := hSw; go_simp; try (with_reducible rfl))) ?_
    try simp only [Act.put, List.getElem_toArray, List.getElem_cons_succ, List.getElem_cons_zero, List.setIfInBounds_toArray, List.set_cons_zero, List.set_cons_succ]
    refine wpAnyJ_done (by kernel_rfl) ?_ _
    obtain ⟨q0, q1, q2, q3⟩ := hS9
    clear hS1 y0 x0 y1 x1 y2 x2 y3 x3 y4 x4 y5 x5
    have hsE := kE.lt
    go_wp2_with (first
      | (go_at_call 16; refine (fwrite_ex W.heap.size _ (kE.cell 0 _ rfl) (kE.cell 1 _ rfl) (kE.cell 2 _ rfl)).mono ?_; rintro e wf ⟨rfl, hBf⟩)
      | fail)
    go_ret2
    exact ⟨rfl, (hBB.trans (hBE.mono hBB.size)).trans (hBf.mono (hBB.trans (hBE.mono hBB.size)).size)⟩
end Go.Proofs.YtblifdchofihoaaGreatDoor
