/- traces.Same; cmp.Or. -/
import Derived.Test.YtfnklchhhojimaaTrMatch
set_option linter.unusedSimpArgs false
set_option linter.unusedVariables false
namespace Go.Proofs.Ytfnklchhhojimaa
open Go Go.RowKit Tor

def orE (a b : Int) : Int := if a ≠ 0 then a else b

set_option maxRecDepth 100000 in
set_option maxHeartbeats 2000000 in
theorem or_any (g c : Nat) (a b : Int) (w : World) (h0 : w.cell? ⟨g, 0, none⟩ = some (.int .i64 a)) (h1 : w.cell? ⟨g, 1, none⟩ = some (.int .i64 b)) :
    Calls Try.prog 77 #[.slice (some ⟨g, 0, none⟩) 2 c] w (Ret (.int .i64 (orE a b)) w) := by
  obtain ⟨wo, rfl⟩ : ∃ wo : World, wo = w := ⟨_, rfl⟩
  go_enter Try.func77, Try.ntmps77
  go_wp2_with fail
  go_loopw [8] (fun i wr => wr = wo ∧ ∃ k : Nat, k ≤ 2 ∧ i = .int .i64 k ∧ (1 ≤ k → a = 0) ∧ (2 ≤ k → b = 0)) (fun i _ => 2 - (intOf i).toNat)
  case atStart => exact ⟨rfl, 0, by omega, rfl, by omega, by omega⟩
  case round =>
    obtain ⟨rfl, k, hk, rfl, ha, hb⟩ := hrel
    rcases (show k = 0 ∨ k = 1 ∨ k = 2 by omega) with rfl | rfl | rfl
    · by_cases hz : a = 0
      · have y1 : (a == 0) = true := by simpa using hz
        have y2 : (a != 0) = false := by simpa using hz
        have HZ := Lib.hid hz
        clear hz ha hb
        go_wp2_with fail
        go_roundw
        case rel => exact ⟨by first | rfl | trivial, 1, by omega, rfl, fun _ => HZ.out, by omega⟩
        case measure => simp [intOf]
      · have y1 : (a == 0) = false := by simpa using hz
        have y2 : (a != 0) = true := by simpa using hz
        have HZ : Hid (orE a b = a) := by unfold orE; rw [if_pos hz]; exact Lib.hid rfl
        clear hz ha hb
        go_wp2_with fail
        go_ret
        rw [HZ.out]; exact Ret.int rfl (Below.refl _ _)
    · have ha0 := ha (by omega)
      by_cases hz : b = 0
      · have y1 : (b == 0) = true := by simpa using hz
        have y2 : (b != 0) = false := by simpa using hz
        have HZ := Lib.hid hz
        have HA := Lib.hid ha0
        clear hz ha hb ha0
        go_wp2_with fail
        go_roundw
        case rel => exact ⟨by first | rfl | trivial, 2, by omega, rfl, fun _ => HA.out, fun _ => HZ.out⟩
        case measure => simp [intOf]
      · have y1 : (b == 0) = false := by simpa using hz
        have y2 : (b != 0) = true := by simpa using hz
        have HZ : Hid (orE a b = b) := by unfold orE; rw [if_neg (by simpa using ha0)]; exact Lib.hid rfl
        clear hz ha hb ha0
        go_wp2_with fail
        go_ret
        rw [HZ.out]; exact Ret.int rfl (Below.refl _ _)
    · have HZ : Hid (orE a b = 0) := by unfold orE; rw [if_neg (by simpa using ha (by omega)), hb (by omega)]; exact Lib.hid rfl
      clear ha hb
      go_wp2_with fail
      go_ret
      rw [HZ.out]; exact Ret.int rfl (Below.refl _ _)

set_option maxRecDepth 100000 in
set_option maxHeartbeats 4000000 in
theorem tcheck_any (sa sb : Nat) (p q : Int) (A B : Option Addr) (l m : List Tri) (c d : Nat) (w : World) (H : Nat) (hr : RdT w H A l) (hr2 : RdT w H B m) (hH : H ≤ w.heap.size)
    (a0 : w.cell? ⟨sa, 0, none⟩ = some (.int .i64 p)) (a1 : w.cell? ⟨sa, 1, none⟩ = some (.slice A l.length c)) (b0 : w.cell? ⟨sb, 0, none⟩ = some (.int .i64 q)) (b1 : w.cell? ⟨sb, 1, none⟩ = some (.slice B m.length d))
    (hw : ∀ (k : Nat) (hk : k < l.length), l[k].s.size ≤ 9223372036854775807) (hw2 : ∀ (k : Nat) (hk : k < m.length), m[k].s.size ≤ 9223372036854775807) (hl : l.length ≤ 1000000) (hm : m.length ≤ 1000000) :
    Calls Try.prog 62 #[.pointer (some ⟨sa, 0, none⟩), .pointer (some ⟨sb, 0, none⟩)] w (Ret (.int .i64 (orE (sheetE p l) (sheetE q m))) w) := by
  have sal := lt_of_cell a0
  have sbl := lt_of_cell b0
  have HA := Lib.hid (fun (w' : World) (hB : Below w.heap.size w w') => sheet_any p A l c w' H (hr.below' hB hH) (Nat.le_trans hH hB.size) hw (by omega))
  have HB := Lib.hid (fun (w' : World) (hB : Below w.heap.size w w') => sheet_any q B m d w' H (hr2.below' hB hH) (Nat.le_trans hH hB.size) hw2 (by omega))
  generalize sheetE p l = x at *
  generalize sheetE q m = y at *
  clear hw hw2 hr hr2
  go_enter Try.func62, Try.ntmps62
  go_wp2_with fail
  refine wp_region_J (fun w' => w'.cell? ⟨sa, 0, none⟩ = some (.int .i64 p) ∧ w'.cell? ⟨sa, 1, none⟩ = some (.slice A l.length c) ∧ w'.cell? ⟨sb, 0, none⟩ = some (.int .i64 q) ∧ w'.cell? ⟨sb, 1, none⟩ = some (.slice B m.length d)) (fun _ => True) (fun _ => false) (by kernel_rfl) ?_
  have hS1 : w.drew.cell? ⟨sa, 0, none⟩ = some (.int .i64 p) ∧ w.drew.cell? ⟨sa, 1, none⟩ = some (.slice A l.length c) ∧ w.drew.cell? ⟨sb, 0, none⟩ = some (.int .i64 q) ∧ w.drew.cell? ⟨sb, 1, none⟩ = some (.slice B m.length d) := ⟨a0, a1, b0, b1⟩
  have hB0 : Below w.heap.size w w.drew := (Below.refl _ _).drew
  refine wpAnyJ_take1 0 rfl (by kernel_rfl) (by kernel_rfl) rfl (by kernel_rfl) (fun _ _ _ h => h) (by rfl) hS1 (fun w' hSw => (by obtain ⟨z1, z2, z3, z4⟩ := hSw; go_simp; try (with_reducible rfl))) ?_
  try simp only [Act.put, List.getElem_toArray, List.getElem_cons_succ, List.getElem_cons_zero, List.setIfInBounds_toArray, List.set_cons_zero, List.set_cons_succ]
  refine wpAnyJ_take1 1 rfl (by kernel_rfl) (by kernel_rfl) rfl (by kernel_rfl) (fun _ _ _ h => h) (by rfl) hS1 (fun w' hSw => (by obtain ⟨z1, z2, z3, z4⟩ := hSw; go_simp; try (with_reducible rfl))) ?_
  try simp only [Act.put, List.getElem_toArray, List.getElem_cons_succ, List.getElem_cons_zero, List.setIfInBounds_toArray, List.set_cons_zero, List.set_cons_succ]
  refine wpAnyJ_take1 2 rfl (by kernel_rfl) (by kernel_rfl) rfl (by kernel_rfl) (fun _ _ _ h => h) (by rfl) hS1 (fun w' hSw => (by obtain ⟨z1, z2, z3, z4⟩ := hSw; go_simp; try (with_reducible rfl))) ?_
  try simp only [Act.put, List.getElem_toArray, List.getElem_cons_succ, List.getElem_cons_zero, List.setIfInBounds_toArray, List.set_cons_zero, List.set_cons_succ]
  refine wpAnyJ_take1 4 rfl (by kernel_rfl) (by kernel_rfl) rfl (by kernel_rfl) (fun _ _ _ h => h) (by rfl) hS1 (fun w' hSw => (by obtain ⟨z1, z2, z3, z4⟩ := hSw; go_simp; try (with_reducible rfl))) ?_
  try simp only [Act.put, List.getElem_toArray, List.getElem_cons_succ, List.getElem_cons_zero, List.setIfInBounds_toArray, List.set_cons_zero, List.set_cons_succ]
  refine wpAnyJ_take1 5 rfl (by kernel_rfl) (by kernel_rfl) rfl (by kernel_rfl) (fun _ _ _ h => h) (by rfl) hS1 (fun w' hSw => (by obtain ⟨z1, z2, z3, z4⟩ := hSw; go_simp; try (with_reducible rfl))) ?_
  try simp only [Act.put, List.getElem_toArray, List.getElem_cons_succ, List.getElem_cons_zero, List.setIfInBounds_toArray, List.set_cons_zero, List.set_cons_succ]
  refine wpAnyJ_take1 6 rfl (by kernel_rfl) (by kernel_rfl) rfl (by kernel_rfl) (fun _ _ _ h => h) (by rfl) hS1 (fun w' hSw => (by obtain ⟨z1, z2, z3, z4⟩ := hSw; go_simp; try (with_reducible rfl))) ?_
  try simp only [Act.put, List.getElem_toArray, List.getElem_cons_succ, List.getElem_cons_zero, List.setIfInBounds_toArray, List.set_cons_zero, List.set_cons_succ]
  refine wpAnyJ_ready [3] (by kernel_rfl) (by simp) (NextJ.cons rfl (fun K hK => ?_) NextJ.nil)
  go_simp
  refine (HA.out w.drew hB0).mono ?_
  rintro e w3 ⟨rfl, hB3⟩
  have hB3' := hB0.trans (hB3.mono hB0.size)
  have hS3 : w3.cell? ⟨sa, 0, none⟩ = some (.int .i64 p) ∧ w3.cell? ⟨sa, 1, none⟩ = some (.slice A l.length c) ∧ w3.cell? ⟨sb, 0, none⟩ = some (.int .i64 q) ∧ w3.cell? ⟨sb, 1, none⟩ = some (.slice B m.length d) := ⟨(hB3'.cell (p := ⟨sa, 0, none⟩) sal).trans a0, (hB3'.cell (p := ⟨sa, 1, none⟩) sal).trans a1, (hB3'.cell (p := ⟨sb, 0, none⟩) sbl).trans b0, (hB3'.cell (p := ⟨sb, 1, none⟩) sbl).trans b1⟩
  go_simp
  refine hK.out _ _ hS3 (fun h => absurd h (by decide)) ?_
  clear hK K
  try simp only [Act.put, List.getElem_toArray, List.getElem_cons_succ, List.getElem_cons_zero, List.setIfInBounds_toArray, List.set_cons_zero, List.set_cons_succ]
  refine wpAnyJ_ready [7] (by kernel_rfl) (by simp) (NextJ.cons rfl (fun K hK => ?_) NextJ.nil)
  go_simp
  refine (HB.out w3 hB3').mono ?_
  rintro e w4 ⟨rfl, hB4⟩
  have hB4' := hB3'.trans (hB4.mono hB3'.size)
  have hS4 : w4.cell? ⟨sa, 0, none⟩ = some (.int .i64 p) ∧ w4.cell? ⟨sa, 1, none⟩ = some (.slice A l.length c) ∧ w4.cell? ⟨sb, 0, none⟩ = some (.int .i64 q) ∧ w4.cell? ⟨sb, 1, none⟩ = some (.slice B m.length d) := ⟨(hB4'.cell (p := ⟨sa, 0, none⟩) sal).trans a0, (hB4'.cell (p := ⟨sa, 1, none⟩) sal).trans a1, (hB4'.cell (p := ⟨sb, 0, none⟩) sbl).trans b0, (hB4'.cell (p := ⟨sb, 1, none⟩) sbl).trans b1⟩
  go_simp
  refine hK.out _ _ hS4 (fun h => absurd h (by decide)) ?_
  clear hK K
  try simp only [Act.put, List.getElem_toArray, List.getElem_cons_succ, List.getElem_cons_zero, List.setIfInBounds_toArray, List.set_cons_zero, List.set_cons_succ]
  refine wpAnyJ_ready [8] (by kernel_rfl) (by simp) (NextJ.cons rfl (fun K hK => ?_) NextJ.nil)
  go_simp
  have hB5 := hB4'.alloc hB4'.size (.cells #[.int .i64 x, .int .i64 y] 28)
  have kE := Blk.new w4 28 #[.int .i64 x, .int .i64 y]
  have hS5 : (w4.alloc (.cells #[.int .i64 x, .int .i64 y] 28)).cell? ⟨sa, 0, none⟩ = some (.int .i64 p) ∧ (w4.alloc (.cells #[.int .i64 x, .int .i64 y] 28)).cell? ⟨sa, 1, none⟩ = some (.slice A l.length c) ∧ (w4.alloc (.cells #[.int .i64 x, .int .i64 y] 28)).cell? ⟨sb, 0, none⟩ = some (.int .i64 q) ∧ (w4.alloc (.cells #[.int .i64 x, .int .i64 y] 28)).cell? ⟨sb, 1, none⟩ = some (.slice B m.length d) := ⟨(hB5.cell (p := ⟨sa, 0, none⟩) sal).trans a0, (hB5.cell (p := ⟨sa, 1, none⟩) sal).trans a1, (hB5.cell (p := ⟨sb, 0, none⟩) sbl).trans b0, (hB5.cell (p := ⟨sb, 1, none⟩) sbl).trans b1⟩
  refine hK.out _ _ hS5 (fun h => absurd h (by decide)) ?_
  clear hK K
  try simp only [Act.put, List.getElem_toArray, List.getElem_cons_succ, List.getElem_cons_zero, List.setIfInBounds_toArray, List.set_cons_zero, List.set_cons_succ]
  refine wpAnyJ_ready [9] (by kernel_rfl) (by simp) (NextJ.cons rfl (fun K hK => ?_) NextJ.nil)
  go_simp
  refine (or_any w4.heap.size 2 x y _ (kE.cell 0 (.int .i64 x) rfl) (kE.cell 1 (.int .i64 y) rfl)).mono ?_
  rintro e w6 ⟨rfl, hB6⟩
  have hB6' := hB5.trans (hB6.mono hB5.size)
  have hS6 : w6.cell? ⟨sa, 0, none⟩ = some (.int .i64 p) ∧ w6.cell? ⟨sa, 1, none⟩ = some (.slice A l.length c) ∧ w6.cell? ⟨sb, 0, none⟩ = some (.int .i64 q) ∧ w6.cell? ⟨sb, 1, none⟩ = some (.slice B m.length d) := ⟨(hB6'.cell (p := ⟨sa, 0, none⟩) sal).trans a0, (hB6'.cell (p := ⟨sa, 1, none⟩) sal).trans a1, (hB6'.cell (p := ⟨sb, 0, none⟩) sbl).trans b0, (hB6'.cell (p := ⟨sb, 1, none⟩) sbl).trans b1⟩
  go_simp
  refine hK.out _ _ hS6 (fun h => absurd h (by decide)) ?_
  clear hK K
  try simp only [Act.put, List.getElem_toArray, List.getElem_cons_succ, List.getElem_cons_zero, List.setIfInBounds_toArray, List.set_cons_zero, List.set_cons_succ]
  refine wpAnyJ_take1 10 rfl (by kernel_rfl) (by kernel_rfl) rfl (by kernel_rfl) (fun _ _ _ h => h) (by rfl) hS6 (fun w' hSw => (by obtain ⟨z1, z2, z3, z4⟩ := hSw; go_simp; try (with_reducible rfl))) ?_
  try simp only [Act.put, List.getElem_toArray, List.getElem_cons_succ, List.getElem_cons_zero, List.setIfInBounds_toArray, List.set_cons_zero, List.set_cons_succ]
  refine wpAnyJ_done (by kernel_rfl) ?_ _
  clear hS1 hS3 hS4 hS5 hS6
  go_wp2_with fail
  go_ret
  exact Ret.int rfl hB6'


/-- traces.Same, plainly -/
def tsameR (p : Int) (l : List Tri) (q : Int) (m : List Tri) : Bool × Int := if orE (sheetE p l) (sheetE q m) ≠ 0 then (false, orE (sheetE p l) (sheetE q m)) else (traceB p l q m, 0)
theorem orE_zero {a b : Int} (h : orE a b = 0) : a = 0 ∧ b = 0 := by
  unfold orE at h
  split at h
  · exact absurd h (by assumption)
  · rename_i h2
    exact ⟨by simpa using h2, h⟩
theorem sheet_b {p : Int} {l : List Tri} (h : sheetE p l = 0) : l.length ≤ 400 ∧ ∀ (k : Nat) (hk : k < l.length), 0 ≤ l[k].b ∧ l[k].b ≤ 22 := by
  have hk := wok_of h
  unfold sheetE at h
  split at h
  · cases h
  · rename_i h1
    refine ⟨by omega, fun k hk' => ?_⟩
    have := hk _ (List.getElem_mem hk')
    have h2 := this.b0
    have h3 := this.b1
    omega


set_option maxRecDepth 100000 in
set_option maxHeartbeats 4000000 in
theorem tsame_any (p q : Int) (A B : Option Addr) (l m : List Tri) (c d : Nat) (w : World) (H : Nat) (hr : RdT w H A l) (hr2 : RdT w H B m) (hH : H ≤ w.heap.size)
    (hw : ∀ (k : Nat) (hk : k < l.length), l[k].s.size ≤ 9223372036854775807) (hw2 : ∀ (k : Nat) (hk : k < m.length), m[k].s.size ≤ 9223372036854775807) (hl : l.length ≤ 1000000) (hm : m.length ≤ 1000000) :
    Calls Try.prog 26 #[.agg #[.int .i64 p, .slice A l.length c], .agg #[.int .i64 q, .slice B m.length d]] w (Ret (.tuple #[.bool (tsameR p l q m).1, .int .i64 (tsameR p l q m).2]) w) := by
  have kA := (Blk.new w 35 #[.int .i64 p, .slice A l.length c]).alloc (.cells #[.int .i64 q, .slice B m.length d] 35)
  have kB := Blk.new (w.alloc (.cells #[.int .i64 p, .slice A l.length c] 35)) 35 #[.int .i64 q, .slice B m.length d]
  rw [World.size_alloc] at kB
  have hBB : Below w.heap.size w ((w.alloc (.cells #[.int .i64 p, .slice A l.length c] 35)).alloc (.cells #[.int .i64 q, .slice B m.length d] 35)) := by (repeat' first | exact Below.refl _ _ | apply Below.drew | (refine Below.setCells ?_ _ _ ?_) | (refine Below.setCell ?_ ?_ _) | (refine Below.alloc ?_ ?_ _) | (simp; done) | (simp; omega))
  have a0 := kA.cell 0 (.int .i64 p) rfl
  have a1 := kA.cell 1 (.slice A l.length c) rfl
  have b0 := kB.cell 0 (.int .i64 q) rfl
  have b1 := kB.cell 1 (.slice B m.length d) rfl
  have HC := Lib.hid (tcheck_any w.heap.size (w.heap.size + 1) p q A B l m c d _ H (hr.below' hBB hH) (hr2.below' hBB hH) (Nat.le_trans hH hBB.size) a0 a1 b0 b1 hw hw2 hl hm)
  obtain ⟨e, he⟩ : ∃ e, Hid (orE (sheetE p l) (sheetE q m) = e) := ⟨_, Lib.hid rfl⟩
  by_cases hz : e = 0
  rotate_left
  · have hA : Hid (tsameR p l q m = (false, e)) := by unfold tsameR; rw [he.out, if_pos hz]; exact Lib.hid rfl
    rw [hA.out]
    rw [he.out] at HC
    clear hA
    have y1 : (e == 0) = false := by simpa using hz
    have y2 : (e != 0) = true := by simpa using hz
    clear hz
    go_enter Try.func26, Try.ntmps26
    go_wp2_with (first | (go_at_call 62; refine HC.out.mono ?_; rintro e w1 ⟨rfl, hB1⟩) | fail)
    go_ret2
    exact Ret.val rfl (hBB.trans (hB1.mono hBB.size))
  · have hA : Hid (tsameR p l q m = (traceB p l q m, 0)) := by unfold tsameR; rw [he.out, if_neg (by simpa using hz)]; exact Lib.hid rfl
    rw [hA.out]
    rw [he.out, hz] at HC
    have h0 := orE_zero (he.out.trans hz)
    obtain ⟨g1, g2⟩ := sheet_b h0.1
    obtain ⟨g3, g4⟩ := sheet_b h0.2
    have HM := Lib.hid (fun (w' : World) (hB : Below w.heap.size w w') (a0 : w'.cell? ⟨w.heap.size, 0, none⟩ = some (.int .i64 p)) (a1 : w'.cell? ⟨w.heap.size, 1, none⟩ = some (.slice A l.length c)) (b0 : w'.cell? ⟨w.heap.size + 1, 0, none⟩ = some (.int .i64 q)) (b1 : w'.cell? ⟨w.heap.size + 1, 1, none⟩ = some (.slice B m.length d)) =>
      tmatch_any w.heap.size (w.heap.size + 1) p q A B l m c d w' H (hr.below' hB hH) (hr2.below' hB hH) (Nat.le_trans hH hB.size) a0 a1 b0 b1 g2 g4 g1 g3)
    clear hA hz h0 g2 g4 he a0 a1 b0 b1
    generalize traceB p l q m = T at *
    go_enter Try.func26, Try.ntmps26
    go_wp2_with (first
      | (go_at_call 62; refine HC.out.mono ?_; rintro e w1 ⟨rfl, hB1⟩
         have kA1 := kA.below' hB1
         have kB1 := kB.below' hB1
         have hB2 := hBB.trans (hB1.mono hBB.size))
      | (go_at_call 63; refine (HM.out _ hB2 (kA1.cell 0 _ rfl) (kA1.cell 1 _ rfl) (kB1.cell 0 _ rfl) (kB1.cell 1 _ rfl)).mono ?_; rintro e w3 ⟨v3, rfl, hB3⟩)
      | fail)
    go_ret2
    exact Ret.val rfl (hB2.trans (hB3.mono hB2.size))
end Go.Proofs.Ytfnklchhhojimaa
