/- faults: check, Put. -/
import Derived.Test.YtfnklchhhojimaaPut
set_option linter.unusedSimpArgs false
set_option linter.unusedVariables false
namespace Go.Proofs.Ytfnklchhhojimaa
open Go Go.RowKit Tor

set_option maxRecDepth 100000 in
theorem fcheck_any (p s : Int) (A : Option Addr) (l : List Tri) (c : Nat) (w : World) (H : Nat) (hr : RdT w H A l) (hH : H ≤ w.heap.size)
    (hw : ∀ (k : Nat) (hk : k < l.length), l[k].s.size ≤ 9223372036854775807) (hl : l.length ≤ 100000) :
    Calls Try.prog 12 #[.int .i64 p, .int .i64 s, .slice A l.length c] w (Ret (.int .i64 (sheetR p s l).2.2.2) w) := by
  have HW := Lib.hid hw
  clear hw
  go_enter Try.func12, Try.ntmps12
  go_wp2_with (first
    | (go_at_call 24; refine (csheet_any p s A l c w H hr hH HW.out hl).mono ?_; rintro e w8 ⟨v8, rfl, hown8, hB9⟩
       obtain ⟨A9, c9, rfl, _, _⟩ := Own.rd tri_len hown8)
    | fail)
  go_ret
  exact Ret.int rfl (hB9.alloc hB9.size _)


set_option maxRecDepth 100000 in
set_option maxHeartbeats 4000000 in
theorem fput_any (p s : Int) (A : Option Addr) (l : List Tri) (c : Nat) (f : Flt) (w : World) (H : Nat) (hr : RdT w H A l) (hH : H ≤ w.heap.size)
    (hw : ∀ (k : Nat) (hk : k < l.length), l[k].s.size ≤ 9223372036854775807) (hl : l.length ≤ 100000) :
    Calls Try.prog 6 #[.int .i64 p, .int .i64 s, .slice A l.length c, .agg #[.int .i64 f.k, .int .i64 f.st, .int .i64 f.lt, .int .i64 f.wi]] w (PutRet w (putR p s l f).1 (putR p s l f).2) := by
  have hBB : Below w.heap.size w (w.alloc (.cells #[.int .i64 f.k, .int .i64 f.st, .int .i64 f.lt, .int .i64 f.wi] 24)) := by (repeat' first | exact Below.refl _ _ | apply Below.drew | (refine Below.setCells ?_ _ _ ?_) | (refine Below.setCell ?_ ?_ _) | (refine Below.alloc ?_ ?_ _) | (simp; done) | (simp; omega))
  have kF := Blk.new w 24 #[.int .i64 f.k, .int .i64 f.st, .int .i64 f.lt, .int .i64 f.wi]
  have fl := kF.lt
  have HC := Lib.hid (fcheck_any p s A l c _ H (hr.below' hBB hH) (Nat.le_trans hH hBB.size) hw hl)
  by_cases hz : (sheetR p s l).2.2.2 = 0
  rotate_left
  · have hA : Hid (putR p s l f = ([], (sheetR p s l).2.2.2)) := by unfold putR; rw [if_pos hz]; exact Lib.hid rfl
    rw [hA.out]
    obtain ⟨e, he⟩ : ∃ e, Hid ((sheetR p s l).2.2.2 = e) := ⟨_, Lib.hid rfl⟩
    rw [he.out] at HC hz ⊢
    clear hA
    have y1 : (e == 0) = false := by simpa using hz
    have y2 : (e != 0) = true := by simpa using hz
    clear hz
    go_enter Try.func6, Try.ntmps6
    go_wp2_with (first | (go_at_call 12; refine HC.out.mono ?_; rintro e w1 ⟨rfl, hB1⟩) | fail)
    go_ret2
    exact PutRet.nil (hBB.trans (hB1.mono hBB.size))
  · have hA : Hid (putR p s l f = accF p s l f) := by unfold putR; rw [if_neg (by simpa using hz)]; exact Lib.hid rfl
    have hok := Lib.hid (ins_ok hz)
    rw [hA.out]
    rw [hz] at HC
    clear hA hz
    obtain ⟨L, hL⟩ : ∃ L, Hid (accF p s l f = L) := ⟨_, Lib.hid rfl⟩
    have HP := Lib.hid (fun (g : Nat) (K : KAt) (w : World) (H : Nat) (hK : KindsAt w H g K) (hr : RdT w H A l) (hH : H ≤ w.heap.size) => cput_any g K p s A l c f w H hK hr hH hok.out)
    rw [hL.out] at HP ⊢
    go_enter Try.func6, Try.ntmps6
    go_wp2_with (first
      | (go_at_call 12; refine HC.out.mono ?_; rintro e w1 ⟨rfl, hB1⟩
         have kF1 := kF.below' hB1
         have p0 := kF1.cell 0 (.int .i64 f.k) rfl
         have p1 := kF1.cell 1 (.int .i64 f.st) rfl
         have p2 := kF1.cell 2 (.int .i64 f.lt) rfl
         have p3 := kF1.cell 3 (.int .i64 f.wi) rfl)
      | fail)
    have hB2 := hBB.trans (hB1.mono hBB.size)
    refine wp_region_J (fun w' => w'.cell? ⟨w.heap.size, 0, none⟩ = some (.int .i64 f.k) ∧ w'.cell? ⟨w.heap.size, 1, none⟩ = some (.int .i64 f.st) ∧ w'.cell? ⟨w.heap.size, 2, none⟩ = some (.int .i64 f.lt) ∧ w'.cell? ⟨w.heap.size, 3, none⟩ = some (.int .i64 f.wi)) (fun _ => True) (fun _ => false) (by kernel_rfl) ?_
    have hS1 : w1.drew.cell? ⟨w.heap.size, 0, none⟩ = some (.int .i64 f.k) ∧ w1.drew.cell? ⟨w.heap.size, 1, none⟩ = some (.int .i64 f.st) ∧ w1.drew.cell? ⟨w.heap.size, 2, none⟩ = some (.int .i64 f.lt) ∧ w1.drew.cell? ⟨w.heap.size, 3, none⟩ = some (.int .i64 f.wi) := ⟨p0, p1, p2, p3⟩
    refine wpAnyJ_take1 1 rfl (by kernel_rfl) (by kernel_rfl) rfl (by kernel_rfl) (fun _ _ _ h => h) (by rfl) hS1 (fun w' hSw => (by obtain ⟨z1, z2, z3, z4⟩ := hSw; go_simp; try (with_reducible rfl))) ?_
    try simp only [Act.put, List.getElem_toArray, List.getElem_cons_succ, List.getElem_cons_zero, List.setIfInBounds_toArray, List.set_cons_zero, List.set_cons_succ]
    refine wpAnyJ_take1 2 rfl (by kernel_rfl) (by kernel_rfl) rfl (by kernel_rfl) (fun _ _ _ h => h) (by rfl) hS1 (fun w' hSw => (by obtain ⟨z1, z2, z3, z4⟩ := hSw; go_simp; try (with_reducible rfl))) ?_
    try simp only [Act.put, List.getElem_toArray, List.getElem_cons_succ, List.getElem_cons_zero, List.setIfInBounds_toArray, List.set_cons_zero, List.set_cons_succ]
    refine wpAnyJ_take1 3 rfl (by kernel_rfl) (by kernel_rfl) rfl (by kernel_rfl) (fun _ _ _ h => h) (by rfl) hS1 (fun w' hSw => (by obtain ⟨z1, z2, z3, z4⟩ := hSw; go_simp; try (with_reducible rfl))) ?_
    try simp only [Act.put, List.getElem_toArray, List.getElem_cons_succ, List.getElem_cons_zero, List.setIfInBounds_toArray, List.set_cons_zero, List.set_cons_succ]
    refine wpAnyJ_take1 4 rfl (by kernel_rfl) (by kernel_rfl) rfl (by kernel_rfl) (fun _ _ _ h => h) (by rfl) hS1 (fun w' hSw => (by obtain ⟨z1, z2, z3, z4⟩ := hSw; go_simp; try (with_reducible rfl))) ?_
    try simp only [Act.put, List.getElem_toArray, List.getElem_cons_succ, List.getElem_cons_zero, List.setIfInBounds_toArray, List.set_cons_zero, List.set_cons_succ]
    refine wpAnyJ_ready [0] (by kernel_rfl) (by simp) (NextJ.cons rfl (fun K hK => ?_) NextJ.nil)
    go_simp
    refine (kinds_any w1.drew).mono ?_
    rintro e w5 ⟨g, KA, rfl, hKA, hB5⟩
    have kF5 := kF1.drew.below' hB5
    have hB6 := hB2.drew.trans (hB5.mono hB2.size)
    have hS5 := (And.intro (kF5.cell 0 (.int .i64 f.k) rfl) (And.intro (kF5.cell 1 (.int .i64 f.st) rfl) (And.intro (kF5.cell 2 (.int .i64 f.lt) rfl) (kF5.cell 3 (.int .i64 f.wi) rfl))))
    go_simp
    refine hK.out _ _ hS5 (fun h => absurd h (by decide)) ?_
    clear hK K
    try simp only [Act.put, List.getElem_toArray, List.getElem_cons_succ, List.getElem_cons_zero, List.setIfInBounds_toArray, List.set_cons_zero, List.set_cons_succ]
    refine wpAnyJ_ready [5] (by kernel_rfl) (by simp) (NextJ.cons rfl (fun K hK => ?_) NextJ.nil)
    go_simp
    refine (HP.out g KA w5 w5.heap.size hKA ((hr.below' hB6 hH).more (Nat.le_trans hH hB6.size)) (Nat.le_refl _)).mono ?_
    rintro e w7 ⟨A7, c7, rfl, hR7, hB7⟩
    have kF7 := kF5.below' hB7
    have hS7 := (And.intro (kF7.cell 0 (.int .i64 f.k) rfl) (And.intro (kF7.cell 1 (.int .i64 f.st) rfl) (And.intro (kF7.cell 2 (.int .i64 f.lt) rfl) (kF7.cell 3 (.int .i64 f.wi) rfl))))
    go_simp
    refine hK.out _ _ hS7 (fun h => absurd h (by decide)) ?_
    clear hK K
    try simp only [Act.put, List.getElem_toArray, List.getElem_cons_succ, List.getElem_cons_zero, List.setIfInBounds_toArray, List.set_cons_zero, List.set_cons_succ]
    refine wpAnyJ_take1 6 rfl (by kernel_rfl) (by kernel_rfl) rfl (by kernel_rfl) (fun _ _ _ h => h) (by rfl) hS7 (fun w' hSw => (by obtain ⟨z1, z2, z3, z4⟩ := hSw; go_simp; try (with_reducible rfl))) ?_
    try simp only [Act.put, List.getElem_toArray, List.getElem_cons_succ, List.getElem_cons_zero, List.setIfInBounds_toArray, List.set_cons_zero, List.set_cons_succ]
    refine wpAnyJ_take1 7 rfl (by kernel_rfl) (by kernel_rfl) rfl (by kernel_rfl) (fun _ _ _ h => h) (by rfl) hS7 (fun w' hSw => (by obtain ⟨z1, z2, z3, z4⟩ := hSw; go_simp; try (with_reducible rfl))) ?_
    try simp only [Act.put, List.getElem_toArray, List.getElem_cons_succ, List.getElem_cons_zero, List.setIfInBounds_toArray, List.set_cons_zero, List.set_cons_succ]
    refine wpAnyJ_take1 8 rfl (by kernel_rfl) (by kernel_rfl) rfl (by kernel_rfl) (fun _ _ _ h => h) (by rfl) hS7 (fun w' hSw => (by obtain ⟨z1, z2, z3, z4⟩ := hSw; go_simp; try (with_reducible rfl))) ?_
    try simp only [Act.put, List.getElem_toArray, List.getElem_cons_succ, List.getElem_cons_zero, List.setIfInBounds_toArray, List.set_cons_zero, List.set_cons_succ]
    refine wpAnyJ_take1 9 rfl (by kernel_rfl) (by kernel_rfl) rfl (by kernel_rfl) (fun _ _ _ h => h) (by rfl) hS7 (fun w' hSw => (by obtain ⟨z1, z2, z3, z4⟩ := hSw; go_simp; try (with_reducible rfl))) ?_
    try simp only [Act.put, List.getElem_toArray, List.getElem_cons_succ, List.getElem_cons_zero, List.setIfInBounds_toArray, List.set_cons_zero, List.set_cons_succ]
    refine wpAnyJ_done (by kernel_rfl) ?_ _
    clear hS1 hS5 hS7
    go_wp2_with fail
    go_ret2
    exact ⟨A7, c7, rfl, hR7, hB6.trans (hB7.mono hB6.size)⟩
end Go.Proofs.Ytfnklchhhojimaa
