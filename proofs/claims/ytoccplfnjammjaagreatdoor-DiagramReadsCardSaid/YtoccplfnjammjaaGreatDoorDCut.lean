/- diagram.Cut, torchonref14.Cut. -/
import Derived.Test.YtoccplfnjammjaaGreatDoorDSheet
set_option linter.unusedSimpArgs false
set_option linter.unusedVariables false
namespace Go.Proofs.YtoccplfnjammjaaGreatDoor
open Go Go.RowKit Tor

def cutD (p : Nat) (l : List Tri) (f t : Nat) : List Tri := pickL l (((rowsS p l).drop f).take (t - f))
theorem rdg_cut {w : World} {H : Nat} {A : Option Addr} {R : List (List Nat)} (h : RdG w H A R) (f t c : Nat) (hft : f ≤ t) (ht : t ≤ R.length) (hc : R.length ≤ c) : RdG w H (if c = f then A else A.map fun a => a.add (f * 1)) ((R.drop f).take (t - f)) := by
  intro hne
  have hlen : ((R.drop f).take (t - f)).length = t - f := by simp; omega
  have hpos : t - f ≠ 0 := fun e => hne (List.eq_nil_of_length_eq_zero (by omega))
  have hR : R ≠ [] := fun e => hne (by rw [e]; simp)
  obtain ⟨b, o, rfl, hb, hc'⟩ := h hR
  rw [if_neg (by omega)]
  refine ⟨b, o + f, by simp [Addr.add], hb, fun k hk => ?_⟩
  have hk2 : f + k < R.length := by simp at hk; omega
  obtain ⟨Ak, ck, h1, h2⟩ := hc' (f + k) hk2
  have e : ((R.drop f).take (t - f))[k] = R[f + k] := by simp
  rw [e]
  exact ⟨Ak, ck, by rw [Nat.add_assoc]; exact h1, h2⟩
theorem cut_run (W : World) (A : Option Addr) (n c f t : Nat) (hft : f ≤ t) (ht : t ≤ c) :
    (Instr.slice 40 (.slice A n c) (some (.int .i64 (f : Int))) (some (.int .i64 (t : Int))) none).run Tryz.prog W = .ok (.slice (if c = f then A else A.map fun a => a.add (f * 1)) (t - f) (c - f)) W := by
  have ht' : Tryz.prog.underlying 40 = some (.slice (Tryz.prog.elem 40)) := by rw [Program.elem, Tryz.underlying40]
  have he : Tryz.prog.elem 40 = 45 := by rw [Program.elem, Tryz.underlying40]
  rw [run_slice_lh W 40 _ _ _ ht' .i64 .i64 _ _ (by omega) (by omega) (by omega), he, Tryz.sizeOf45]
  simp [Result.andThen, sliced]
set_option maxRecDepth 100000 in
set_option maxHeartbeats 2000000 in
theorem dcut_err (p : Nat) (A : Option Addr) (l : List Tri) (c : Nat) (fr tt : Int) (w : World) (H : Nat) (hr : RdT w H A l) (hH : H ≤ w.heap.size)
    (hw : ∀ (k : Nat) (hk : k < l.length), l[k].s.size ≤ 9223372036854775807) (ok : OkD p l) (he : fr < 0 ∨ tt < fr ∨ ((rowsS p l).length : Int) < tt) :
    Calls Tryz.prog 23 #[.agg #[.int .i64 p, .slice A l.length c], .int .i64 fr, .int .i64 tt] w (Ret (.tuple #[.agg #[.int .i64 0, .slice none 0 0], .int .i64 7]) w) := by
  have hB0 : Below w.heap.size w ((w.alloc (.cells #[.int .i64 p, .slice A l.length c] 25)).alloc (.cells #[.int .i64 0, .slice none 0 0] 25)) := ((Below.refl _ _).alloc (Nat.le_refl _) _).alloc (by simp) _
  have kA0 : Blk ((w.alloc (.cells #[.int .i64 p, .slice A l.length c] 25)).alloc (.cells #[.int .i64 0, .slice none 0 0] 25)) w.heap.size 25 #[.int .i64 p, .slice A l.length c] := (Blk.new w _ _).alloc _
  have kR0 : Blk ((w.alloc (.cells #[.int .i64 p, .slice A l.length c] 25)).alloc (.cells #[.int .i64 0, .slice none 0 0] 25)) (w.heap.size + 1) 25 #[.int .i64 0, .slice none 0 0] := by have := Blk.new (w.alloc (.cells #[.int .i64 p, .slice A l.length c] 25)) 25 #[.int .i64 0, .slice none 0 0]; simpa using this
  obtain ⟨WW, hWW⟩ : ∃ WW, Hid (WW = ((w.alloc (.cells #[.int .i64 p, .slice A l.length c] 25)).alloc (.cells #[.int .i64 0, .slice none 0 0] 25))) := ⟨_, Lib.hid rfl⟩
  rw [← hWW.out] at kA0 kR0 hB0
  have HSH := Lib.hid (drows_any p A l c WW H (hr.below' hB0 hH) (Nat.le_trans hH hB0.size) hw ok.chk ok.p2 ok.p24 ok.bd ok.len)
  have HRL := rowsS_len p l
  have HOK := Lib.hid ok
  have hPk := fun f t => Nat.le_trans (pick_part l (rowsS p l) f t) (Nat.le_trans (Nat.le_of_eq (sheetD_len ok.inP)) ok.len)
  have hRl := fun r hr' => Nat.le_trans (row_len ok.inP (r := r) hr') ok.len
  have hRi := fun r (hr' : r ∈ rowsS p l) => row_in hr'
  have hol := ok.len
  clear ok
  clear hPk hRl hRi
  generalize rowsS p l = RS at *
  rcases (show fr < 0 ∨ (¬ fr < 0 ∧ tt < fr) ∨ (¬ fr < 0 ∧ ¬ tt < fr ∧ (RS.length : Int) < tt) by omega) with h1 | ⟨h1, h2⟩ | ⟨h1, h2, h3⟩
  all_goals
    clear he
    go_enter Tryz.func23, Tryz.ntmps23
    go_wp2_with (first
      | (go_at_call 18; rw [← hWW.out]; refine HSH.out.mono ?_; rintro e w1 ⟨v, vs, rfl, hG, hB1⟩
         obtain ⟨AR, cR, rfl, hcR, hrG⟩ := hG.rd2
         have kR := kR0.below' hB1
         have q0 := kR.frozen 0
         have q1 := kR.frozen 1
         have r0 := kR.cell 0 _ rfl
         have r1 := kR.cell 1 _ rfl
         have rl := kR.lt
         have hBf := hB0.trans (hB1.mono hB0.size)
         have hzf := hBf.size)
      | fail)
    (try simp only [Exit.inBlock, Exit.then])
    refine sheet_ret2 rfl rfl (g := w.heap.size + 1) (x := .int .i64 0) (y := .slice none 0 0) (by simpa using (kR.set_ 0 (.int .i64 0)).set_ 1 (.slice none 0 0)) rfl ?_
    exact ⟨rfl, by (repeat' first | assumption | exact Below.refl _ _ | apply Below.drew | (refine Below.setCells ?_ _ _ ?_) | (refine Below.setCell ?_ ?_ _) | (refine Below.alloc ?_ ?_ _) | (simp; done) | (simp; omega))⟩
set_option maxRecDepth 100000 in
set_option maxHeartbeats 2000000 in
theorem dcut_any (p : Nat) (A : Option Addr) (l : List Tri) (c : Nat) (f t : Nat) (w : World) (H : Nat) (hr : RdT w H A l) (hH : H ≤ w.heap.size)
    (hw : ∀ (k : Nat) (hk : k < l.length), l[k].s.size ≤ 9223372036854775807) (ok : OkD p l) (hft : f ≤ t) (ht : t ≤ (rowsS p l).length) :
    Calls Tryz.prog 23 #[.agg #[.int .i64 p, .slice A l.length c], .int .i64 f, .int .i64 t] w fun e w' => ∃ (A' : Option Addr) (c' : Nat), e = .returned (.tuple #[.agg #[.int .i64 p, .slice A' (cutD p l f t).length c'], .int .i64 0]) ∧ Own 3 Tri.enc w' w.heap.size 44 (.slice A' (cutD p l f t).length c') (cutD p l f t) ∧ (cutD p l f t).length ≤ c' ∧ Below w.heap.size w w' := by
  have hB0 : Below w.heap.size w ((w.alloc (.cells #[.int .i64 p, .slice A l.length c] 25)).alloc (.cells #[.int .i64 0, .slice none 0 0] 25)) := ((Below.refl _ _).alloc (Nat.le_refl _) _).alloc (by simp) _
  have kA0 : Blk ((w.alloc (.cells #[.int .i64 p, .slice A l.length c] 25)).alloc (.cells #[.int .i64 0, .slice none 0 0] 25)) w.heap.size 25 #[.int .i64 p, .slice A l.length c] := (Blk.new w _ _).alloc _
  have kR0 : Blk ((w.alloc (.cells #[.int .i64 p, .slice A l.length c] 25)).alloc (.cells #[.int .i64 0, .slice none 0 0] 25)) (w.heap.size + 1) 25 #[.int .i64 0, .slice none 0 0] := by have := Blk.new (w.alloc (.cells #[.int .i64 p, .slice A l.length c] 25)) 25 #[.int .i64 0, .slice none 0 0]; simpa using this
  obtain ⟨WW, hWW⟩ : ∃ WW, Hid (WW = ((w.alloc (.cells #[.int .i64 p, .slice A l.length c] 25)).alloc (.cells #[.int .i64 0, .slice none 0 0] 25))) := ⟨_, Lib.hid rfl⟩
  rw [← hWW.out] at kA0 kR0 hB0
  have HSH := Lib.hid (drows_any p A l c WW H (hr.below' hB0 hH) (Nat.le_trans hH hB0.size) hw ok.chk ok.p2 ok.p24 ok.bd ok.len)
  have HRL := rowsS_len p l
  have HOK := Lib.hid ok
  have hPk := fun f t => Nat.le_trans (pick_part l (rowsS p l) f t) (Nat.le_trans (Nat.le_of_eq (sheetD_len ok.inP)) ok.len)
  have hRl := fun r hr' => Nat.le_trans (row_len ok.inP (r := r) hr') ok.len
  have hRi := fun r (hr' : r ∈ rowsS p l) => row_in hr'
  have hol := ok.len
  clear ok
  have hPf := hPk f (t - f)
  clear hPk
  unfold cutD
  generalize rowsS p l = RS at *
  have h1 : ¬ (f : Int) < 0 := by omega
  have h2 : ¬ (t : Int) < (f : Int) := by omega
  have h3 : ¬ (RS.length : Int) < (t : Int) := by omega
  have hlen : ((RS.drop f).take (t - f)).length = t - f := by simp; omega
  have hRR : ∀ r ∈ (RS.drop f).take (t - f), r ∈ RS := fun r h => List.mem_of_mem_drop (List.mem_of_mem_take h)
  have HRI := Lib.hid hRi
  have HRLL := Lib.hid hRl
  have HLEN := Lib.hid hlen
  have HRR := Lib.hid hRR
  clear hRi hRl hlen hRR
  generalize hXX : (RS.drop f).take (t - f) = XX at *
  have HXX := Lib.hid hXX
  clear hXX
  go_enter Tryz.func23, Tryz.ntmps23
  go_wp2_with (first
    | (go_at_call 18; rw [← hWW.out]; refine HSH.out.mono ?_; rintro e w1 ⟨v, vs, rfl, hG, hB1⟩
       obtain ⟨AR, cR, rfl, hcR, hrG⟩ := hG.rd2
       have kR := kR0.below' hB1
       have kA := kA0.below' hB1
       have a0 := kA.cell 0 _ rfl
       have a1 := kA.cell 1 _ rfl
       have al := kA.lt
       have rlk := kR.lt
       have hBf := hB0.trans (hB1.mono hB0.size)
       have hzf := hBf.size)
    | fail)
  have hcut := Lib.hid (rdg_cut hrG f t cR hft ht hcR)
  rw [HXX.out] at hcut
  have HSL := fun W => cut_run W AR RS.length cR f t hft (Nat.le_trans ht hcR)
  generalize (if cR = f then AR else AR.map fun a => a.add (f * 1)) = A9 at hcut HSL
  have HPK := Lib.hid (fun (w2 : World) (hB2 : Below w1.heap.size w1 w2) => picked_any p A l c A9 XX (cR - f) w2 w1.heap.size ((hr.below' (hBf.trans (hB2.mono hzf)) hH).more (by omega)) (hcut.out.below hB2) hB2.size (fun r hr' => HRI.out r (HRR.out r hr')) hol (by rw [HLEN.out]; omega) (by omega) (fun r hr' => by have := HRLL.out r (HRR.out r hr'); omega))
  rw [HLEN.out] at HPK
  refine wp_region_J (fun w' => w'.cell? ⟨w.heap.size, 0, none⟩ = some (.int .i64 p) ∧ w'.cell? ⟨w.heap.size, 1, none⟩ = some (.slice A l.length c)) (fun _ => True) (fun _ => false) (by kernel_rfl) ?_
  have hS1 : w1.drew.cell? ⟨w.heap.size, 0, none⟩ = some (.int .i64 p) ∧ w1.drew.cell? ⟨w.heap.size, 1, none⟩ = some (.slice A l.length c) := ⟨a0, a1⟩
  have hB2 : Below w1.heap.size w1 w1.drew := (Below.refl _ _).drew
  refine wpAnyJ_take1 0 rfl (by kernel_rfl) (by kernel_rfl) rfl (by kernel_rfl) (fun _ _ _ h => h) (by rfl) hS1 (fun w' hSw => (by obtain ⟨z1, z2⟩ := hSw; go_simp; try (with_reducible rfl))) ?_
  try simp only [Act.put, List.getElem_toArray, List.getElem_cons_succ, List.getElem_cons_zero, List.setIfInBounds_toArray, List.set_cons_zero, List.set_cons_succ]
  refine wpAnyJ_take1 1 rfl (by kernel_rfl) (by kernel_rfl) rfl (by kernel_rfl) (fun _ _ _ h => h) (by rfl) hS1 (fun w' hSw => (by obtain ⟨z1, z2⟩ := hSw; go_simp; try (with_reducible rfl))) ?_
  try simp only [Act.put, List.getElem_toArray, List.getElem_cons_succ, List.getElem_cons_zero, List.setIfInBounds_toArray, List.set_cons_zero, List.set_cons_succ]
  refine wpAnyJ_take1 2 rfl (by kernel_rfl) (by kernel_rfl) rfl (by kernel_rfl) (fun _ _ _ h => h) (by rfl) hS1 (fun w' hSw => (by obtain ⟨z1, z2⟩ := hSw; go_simp; try (with_reducible rfl))) ?_
  try simp only [Act.put, List.getElem_toArray, List.getElem_cons_succ, List.getElem_cons_zero, List.setIfInBounds_toArray, List.set_cons_zero, List.set_cons_succ]
  refine wpAnyJ_take1 3 rfl (by kernel_rfl) (by kernel_rfl) rfl (by kernel_rfl) (fun _ _ _ h => h) (by rfl) hS1 (fun w' hSw => (by obtain ⟨z1, z2⟩ := hSw; go_simp; try (with_reducible rfl))) ?_
  try simp only [Act.put, List.getElem_toArray, List.getElem_cons_succ, List.getElem_cons_zero, List.setIfInBounds_toArray, List.set_cons_zero, List.set_cons_succ]
  refine wpAnyJ_take1 4 rfl (by kernel_rfl) (by kernel_rfl) rfl (by kernel_rfl) (fun _ _ _ h => h) (by rfl) hS1 (fun w' hSw => (by obtain ⟨z1, z2⟩ := hSw; go_simp; try (with_reducible rfl))) ?_
  try simp only [Act.put, List.getElem_toArray, List.getElem_cons_succ, List.getElem_cons_zero, List.setIfInBounds_toArray, List.set_cons_zero, List.set_cons_succ]
  refine wpAnyJ_ready [5] (by kernel_rfl) (by simp) (NextJ.cons rfl (fun K hK => ?_) NextJ.nil)
  go_simp
  refine (HPK.out w1.drew hB2).mono ?_
  rintro e w3 ⟨A2, c2, rfl, ho2, hc2, hB3⟩
  have hB3' := hB2.trans (hB3.mono hB2.size)
  have kR3 := kR.below' hB3'
  have kA3 := kA.below' hB3'
  have hBg := hBf.trans (hB3'.mono hzf)
  have hzg := hBg.size
  go_simp
  refine hK.out _ _ ⟨kA3.cell 0 _ rfl, kA3.cell 1 _ rfl⟩ (fun _ => trivial) ?_
  clear hK K
  try simp only [Act.put, List.getElem_toArray, List.getElem_cons_succ, List.getElem_cons_zero, List.setIfInBounds_toArray, List.set_cons_zero, List.set_cons_succ]
  have q0 := kR3.frozen 0
  have q1 := kR3.frozen 1
  have r0 := kR3.cell 0 _ rfl
  have r1 := kR3.cell 1 _ rfl
  have rl := kR3.lt
  refine wpAnyJ_ready [6] (by kernel_rfl) (by simp) (NextJ.cons rfl (fun K hK => ?_) NextJ.nil)
  go_simp
  have hne : w.heap.size ≠ w.heap.size + 1 := by omega
  have kA4 := (kA3.far (p := ⟨w.heap.size + 1, 0, none⟩) hne (.int .i64 p)).far (p := ⟨w.heap.size + 1, 1, none⟩) hne (.slice A2 (pickL l XX).length c2)
  refine hK.out _ _ ⟨kA4.cell 0 _ rfl, kA4.cell 1 _ rfl⟩ (fun _ => trivial) ?_
  clear hK K
  try simp only [Act.put, List.getElem_toArray, List.getElem_cons_succ, List.getElem_cons_zero, List.setIfInBounds_toArray, List.set_cons_zero, List.set_cons_succ]
  refine wpAnyJ_ready [7] (by kernel_rfl) (by simp) (NextJ.cons rfl (fun K hK => ?_) NextJ.nil)
  go_simp
  refine hK.out _ _ ⟨kA4.cell 0 _ rfl, kA4.cell 1 _ rfl⟩ (fun _ => trivial) ?_
  clear hK K
  try simp only [Act.put, List.getElem_toArray, List.getElem_cons_succ, List.getElem_cons_zero, List.setIfInBounds_toArray, List.set_cons_zero, List.set_cons_succ]
  refine wpAnyJ_done (by kernel_rfl) ?_ _
  go_wp2_with fail
  (try simp only [Exit.inBlock, Exit.then])
  refine sheet_ret2 rfl rfl (g := w.heap.size + 1) (x := .int .i64 p) (y := .slice A2 (pickL l XX).length c2) (by simpa using (kR3.set_ 0 (.int .i64 p)).set_ 1 (.slice A2 (pickL l XX).length c2)) rfl ?_
  have hz1 := hB2.size
  exact ⟨A2, c2, rfl, Own.base (ownsRow_setCell_below (ownsRow_setCell_below ho2 (by show w.heap.size + 1 < _; omega) _) (by show w.heap.size + 1 < _; omega) _) (by omega), hc2, by (repeat' first | assumption | exact Below.refl _ _ | apply Below.drew | (refine Below.setCells ?_ _ _ ?_) | (refine Below.setCell ?_ ?_ _) | (refine Below.alloc ?_ ?_ _) | (simp; done) | (simp; omega))⟩
set_option maxRecDepth 100000 in
set_option maxHeartbeats 2000000 in
theorem rdcut_err (p : Nat) (A : Option Addr) (l : List Tri) (c : Nat) (fr tt : Int) (w : World) (H : Nat) (hr : RdT w H A l) (hH : H ≤ w.heap.size)
    (hw : ∀ (k : Nat) (hk : k < l.length), l[k].s.size ≤ 9223372036854775807) (ok : OkD p l) (he : fr < 0 ∨ tt < fr ∨ ((rowsS p l).length : Int) < tt) :
    Calls Tryz.prog 30 #[.agg #[.int .i64 p, .slice A l.length c], .int .i64 fr, .int .i64 tt] w (Ret (.tuple #[.agg #[.int .i64 0, .slice none 0 0], .int .i64 7]) w) := by
  have hB0 : Below w.heap.size w ((w.alloc (.cells #[.int .i64 p, .slice A l.length c] 25)).alloc (.cells #[.int .i64 0, .slice none 0 0] 25)) := ((Below.refl _ _).alloc (Nat.le_refl _) _).alloc (by simp) _
  have kA0 : Blk ((w.alloc (.cells #[.int .i64 p, .slice A l.length c] 25)).alloc (.cells #[.int .i64 0, .slice none 0 0] 25)) w.heap.size 25 #[.int .i64 p, .slice A l.length c] := (Blk.new w _ _).alloc _
  have kR0 : Blk ((w.alloc (.cells #[.int .i64 p, .slice A l.length c] 25)).alloc (.cells #[.int .i64 0, .slice none 0 0] 25)) (w.heap.size + 1) 25 #[.int .i64 0, .slice none 0 0] := by have := Blk.new (w.alloc (.cells #[.int .i64 p, .slice A l.length c] 25)) 25 #[.int .i64 0, .slice none 0 0]; simpa using this
  obtain ⟨WW, hWW⟩ : ∃ WW, Hid (WW = ((w.alloc (.cells #[.int .i64 p, .slice A l.length c] 25)).alloc (.cells #[.int .i64 0, .slice none 0 0] 25))) := ⟨_, Lib.hid rfl⟩
  rw [← hWW.out] at kA0 kR0 hB0
  have HSH := Lib.hid (rrows_any p A l c WW H (hr.below' hB0 hH) (Nat.le_trans hH hB0.size) hw ok.chk ok.p24 ok.bd100 ok.len)
  have HRL := rowsS_len p l
  have HOK := Lib.hid ok
  have hPk := fun f t => Nat.le_trans (pick_part l (rowsS p l) f t) (Nat.le_trans (Nat.le_of_eq (sheetD_len ok.inP)) ok.len)
  have hRl := fun r hr' => Nat.le_trans (row_len ok.inP (r := r) hr') ok.len
  have hRi := fun r (hr' : r ∈ rowsS p l) => row_in hr'
  have hol := ok.len
  clear ok
  clear hPk hRl hRi
  generalize rowsS p l = RS at *
  rcases (show fr < 0 ∨ (¬ fr < 0 ∧ tt < fr) ∨ (¬ fr < 0 ∧ ¬ tt < fr ∧ (RS.length : Int) < tt) by omega) with h1 | ⟨h1, h2⟩ | ⟨h1, h2, h3⟩
  all_goals
    clear he
    go_enter Tryz.func30, Tryz.ntmps30
    go_wp2_with (first
      | (go_at_call 26; rw [← hWW.out]; refine HSH.out.mono ?_; rintro e w1 ⟨v, vs, rfl, hG, hB1⟩
         obtain ⟨AR, cR, rfl, hcR, hrG⟩ := hG.rd2
         have kR := kR0.below' hB1
         have q0 := kR.frozen 0
         have q1 := kR.frozen 1
         have r0 := kR.cell 0 _ rfl
         have r1 := kR.cell 1 _ rfl
         have rl := kR.lt
         have hBf := hB0.trans (hB1.mono hB0.size)
         have hzf := hBf.size)
      | fail)
    (try simp only [Exit.inBlock, Exit.then])
    refine sheet_ret2 rfl rfl (g := w.heap.size + 1) (x := .int .i64 0) (y := .slice none 0 0) (by simpa using (kR.set_ 0 (.int .i64 0)).set_ 1 (.slice none 0 0)) rfl ?_
    exact ⟨rfl, by (repeat' first | assumption | exact Below.refl _ _ | apply Below.drew | (refine Below.setCells ?_ _ _ ?_) | (refine Below.setCell ?_ ?_ _) | (refine Below.alloc ?_ ?_ _) | (simp; done) | (simp; omega))⟩
set_option maxRecDepth 100000 in
set_option maxHeartbeats 2000000 in
theorem rdcut_any (p : Nat) (A : Option Addr) (l : List Tri) (c : Nat) (f t : Nat) (w : World) (H : Nat) (hr : RdT w H A l) (hH : H ≤ w.heap.size)
    (hw : ∀ (k : Nat) (hk : k < l.length), l[k].s.size ≤ 9223372036854775807) (ok : OkD p l) (hft : f ≤ t) (ht : t ≤ (rowsS p l).length) :
    Calls Tryz.prog 30 #[.agg #[.int .i64 p, .slice A l.length c], .int .i64 f, .int .i64 t] w fun e w' => ∃ (A' : Option Addr) (c' : Nat), e = .returned (.tuple #[.agg #[.int .i64 p, .slice A' (cutD p l f t).length c'], .int .i64 0]) ∧ Own 3 Tri.enc w' w.heap.size 44 (.slice A' (cutD p l f t).length c') (cutD p l f t) ∧ (cutD p l f t).length ≤ c' ∧ Below w.heap.size w w' := by
  have hB0 : Below w.heap.size w ((w.alloc (.cells #[.int .i64 p, .slice A l.length c] 25)).alloc (.cells #[.int .i64 0, .slice none 0 0] 25)) := ((Below.refl _ _).alloc (Nat.le_refl _) _).alloc (by simp) _
  have kA0 : Blk ((w.alloc (.cells #[.int .i64 p, .slice A l.length c] 25)).alloc (.cells #[.int .i64 0, .slice none 0 0] 25)) w.heap.size 25 #[.int .i64 p, .slice A l.length c] := (Blk.new w _ _).alloc _
  have kR0 : Blk ((w.alloc (.cells #[.int .i64 p, .slice A l.length c] 25)).alloc (.cells #[.int .i64 0, .slice none 0 0] 25)) (w.heap.size + 1) 25 #[.int .i64 0, .slice none 0 0] := by have := Blk.new (w.alloc (.cells #[.int .i64 p, .slice A l.length c] 25)) 25 #[.int .i64 0, .slice none 0 0]; simpa using this
  obtain ⟨WW, hWW⟩ : ∃ WW, Hid (WW = ((w.alloc (.cells #[.int .i64 p, .slice A l.length c] 25)).alloc (.cells #[.int .i64 0, .slice none 0 0] 25))) := ⟨_, Lib.hid rfl⟩
  rw [← hWW.out] at kA0 kR0 hB0
  have HSH := Lib.hid (rrows_any p A l c WW H (hr.below' hB0 hH) (Nat.le_trans hH hB0.size) hw ok.chk ok.p24 ok.bd100 ok.len)
  have HRL := rowsS_len p l
  have HOK := Lib.hid ok
  have hPk := fun f t => Nat.le_trans (pick_part l (rowsS p l) f t) (Nat.le_trans (Nat.le_of_eq (sheetD_len ok.inP)) ok.len)
  have hRl := fun r hr' => Nat.le_trans (row_len ok.inP (r := r) hr') ok.len
  have hRi := fun r (hr' : r ∈ rowsS p l) => row_in hr'
  have hol := ok.len
  clear ok
  have hPf := hPk f (t - f)
  clear hPk
  unfold cutD
  generalize rowsS p l = RS at *
  have h1 : ¬ (f : Int) < 0 := by omega
  have h2 : ¬ (t : Int) < (f : Int) := by omega
  have h3 : ¬ (RS.length : Int) < (t : Int) := by omega
  have hlen : ((RS.drop f).take (t - f)).length = t - f := by simp; omega
  have hRR : ∀ r ∈ (RS.drop f).take (t - f), r ∈ RS := fun r h => List.mem_of_mem_drop (List.mem_of_mem_take h)
  have HRI := Lib.hid hRi
  have HRLL := Lib.hid hRl
  have HLEN := Lib.hid hlen
  have HRR := Lib.hid hRR
  clear hRi hRl hlen hRR
  generalize hXX : (RS.drop f).take (t - f) = XX at *
  have HXX := Lib.hid hXX
  clear hXX
  go_enter Tryz.func30, Tryz.ntmps30
  go_wp2_with (first
    | (go_at_call 26; rw [← hWW.out]; refine HSH.out.mono ?_; rintro e w1 ⟨v, vs, rfl, hG, hB1⟩
       obtain ⟨AR, cR, rfl, hcR, hrG⟩ := hG.rd2
       have kR := kR0.below' hB1
       have kA := kA0.below' hB1
       have a0 := kA.cell 0 _ rfl
       have a1 := kA.cell 1 _ rfl
       have al := kA.lt
       have rlk := kR.lt
       have hBf := hB0.trans (hB1.mono hB0.size)
       have hzf := hBf.size)
    | fail)
  have hcut := Lib.hid (rdg_cut hrG f t cR hft ht hcR)
  rw [HXX.out] at hcut
  have HSL := fun W => cut_run W AR RS.length cR f t hft (Nat.le_trans ht hcR)
  generalize (if cR = f then AR else AR.map fun a => a.add (f * 1)) = A9 at hcut HSL
  have HPK := Lib.hid (fun (w2 : World) (hB2 : Below w1.heap.size w1 w2) => rpicked_any p A l c A9 XX (cR - f) w2 w1.heap.size ((hr.below' (hBf.trans (hB2.mono hzf)) hH).more (by omega)) (hcut.out.below hB2) hB2.size (fun r hr' => HRI.out r (HRR.out r hr')) hol (by rw [HLEN.out]; omega) (by omega) (fun r hr' => by have := HRLL.out r (HRR.out r hr'); omega))
  rw [HLEN.out] at HPK
  refine wp_region_J (fun w' => w'.cell? ⟨w.heap.size, 0, none⟩ = some (.int .i64 p) ∧ w'.cell? ⟨w.heap.size, 1, none⟩ = some (.slice A l.length c)) (fun _ => True) (fun _ => false) (by kernel_rfl) ?_
  have hS1 : w1.drew.cell? ⟨w.heap.size, 0, none⟩ = some (.int .i64 p) ∧ w1.drew.cell? ⟨w.heap.size, 1, none⟩ = some (.slice A l.length c) := ⟨a0, a1⟩
  have hB2 : Below w1.heap.size w1 w1.drew := (Below.refl _ _).drew
  refine wpAnyJ_take1 0 rfl (by kernel_rfl) (by kernel_rfl) rfl (by kernel_rfl) (fun _ _ _ h => h) (by rfl) hS1 (fun w' hSw => (by obtain ⟨z1, z2⟩ := hSw; go_simp; try (with_reducible rfl))) ?_
  try simp only [Act.put, List.getElem_toArray, List.getElem_cons_succ, List.getElem_cons_zero, List.setIfInBounds_toArray, List.set_cons_zero, List.set_cons_succ]
  refine wpAnyJ_take1 1 rfl (by kernel_rfl) (by kernel_rfl) rfl (by kernel_rfl) (fun _ _ _ h => h) (by rfl) hS1 (fun w' hSw => (by obtain ⟨z1, z2⟩ := hSw; go_simp; try (with_reducible rfl))) ?_
  try simp only [Act.put, List.getElem_toArray, List.getElem_cons_succ, List.getElem_cons_zero, List.setIfInBounds_toArray, List.set_cons_zero, List.set_cons_succ]
  refine wpAnyJ_take1 2 rfl (by kernel_rfl) (by kernel_rfl) rfl (by kernel_rfl) (fun _ _ _ h => h) (by rfl) hS1 (fun w' hSw => (by obtain ⟨z1, z2⟩ := hSw; go_simp; try (with_reducible rfl))) ?_
  try simp only [Act.put, List.getElem_toArray, List.getElem_cons_succ, List.getElem_cons_zero, List.setIfInBounds_toArray, List.set_cons_zero, List.set_cons_succ]
  refine wpAnyJ_take1 3 rfl (by kernel_rfl) (by kernel_rfl) rfl (by kernel_rfl) (fun _ _ _ h => h) (by rfl) hS1 (fun w' hSw => (by obtain ⟨z1, z2⟩ := hSw; go_simp; try (with_reducible rfl))) ?_
  try simp only [Act.put, List.getElem_toArray, List.getElem_cons_succ, List.getElem_cons_zero, List.setIfInBounds_toArray, List.set_cons_zero, List.set_cons_succ]
  refine wpAnyJ_take1 4 rfl (by kernel_rfl) (by kernel_rfl) rfl (by kernel_rfl) (fun _ _ _ h => h) (by rfl) hS1 (fun w' hSw => (by obtain ⟨z1, z2⟩ := hSw; go_simp; try (with_reducible rfl))) ?_
  try simp only [Act.put, List.getElem_toArray, List.getElem_cons_succ, List.getElem_cons_zero, List.setIfInBounds_toArray, List.set_cons_zero, List.set_cons_succ]
  refine wpAnyJ_ready [5] (by kernel_rfl) (by simp) (NextJ.cons rfl (fun K hK => ?_) NextJ.nil)
  go_simp
  refine (HPK.out w1.drew hB2).mono ?_
  rintro e w3 ⟨A2, c2, rfl, ho2, hc2, hB3⟩
  have hB3' := hB2.trans (hB3.mono hB2.size)
  have kR3 := kR.below' hB3'
  have kA3 := kA.below' hB3'
  have hBg := hBf.trans (hB3'.mono hzf)
  have hzg := hBg.size
  go_simp
  refine hK.out _ _ ⟨kA3.cell 0 _ rfl, kA3.cell 1 _ rfl⟩ (fun _ => trivial) ?_
  clear hK K
  try simp only [Act.put, List.getElem_toArray, List.getElem_cons_succ, List.getElem_cons_zero, List.setIfInBounds_toArray, List.set_cons_zero, List.set_cons_succ]
  have q0 := kR3.frozen 0
  have q1 := kR3.frozen 1
  have r0 := kR3.cell 0 _ rfl
  have r1 := kR3.cell 1 _ rfl
  have rl := kR3.lt
  refine wpAnyJ_ready [6] (by kernel_rfl) (by simp) (NextJ.cons rfl (fun K hK => ?_) NextJ.nil)
  go_simp
  have hne : w.heap.size ≠ w.heap.size + 1 := by omega
  have kA4 := (kA3.far (p := ⟨w.heap.size + 1, 0, none⟩) hne (.int .i64 p)).far (p := ⟨w.heap.size + 1, 1, none⟩) hne (.slice A2 (pickL l XX).length c2)
  refine hK.out _ _ ⟨kA4.cell 0 _ rfl, kA4.cell 1 _ rfl⟩ (fun _ => trivial) ?_
  clear hK K
  try simp only [Act.put, List.getElem_toArray, List.getElem_cons_succ, List.getElem_cons_zero, List.setIfInBounds_toArray, List.set_cons_zero, List.set_cons_succ]
  refine wpAnyJ_ready [7] (by kernel_rfl) (by simp) (NextJ.cons rfl (fun K hK => ?_) NextJ.nil)
  go_simp
  refine hK.out _ _ ⟨kA4.cell 0 _ rfl, kA4.cell 1 _ rfl⟩ (fun _ => trivial) ?_
  clear hK K
  try simp only [Act.put, List.getElem_toArray, List.getElem_cons_succ, List.getElem_cons_zero, List.setIfInBounds_toArray, List.set_cons_zero, List.set_cons_succ]
  refine wpAnyJ_done (by kernel_rfl) ?_ _
  go_wp2_with fail
  (try simp only [Exit.inBlock, Exit.then])
  refine sheet_ret2 rfl rfl (g := w.heap.size + 1) (x := .int .i64 p) (y := .slice A2 (pickL l XX).length c2) (by simpa using (kR3.set_ 0 (.int .i64 p)).set_ 1 (.slice A2 (pickL l XX).length c2)) rfl ?_
  have hz1 := hB2.size
  exact ⟨A2, c2, rfl, Own.base (ownsRow_setCell_below (ownsRow_setCell_below ho2 (by show w.heap.size + 1 < _; omega) _) (by show w.heap.size + 1 < _; omega) _) (by omega), hc2, by (repeat' first | assumption | exact Below.refl _ _ | apply Below.drew | (refine Below.setCells ?_ _ _ ?_) | (refine Below.setCell ?_ ?_ _) | (refine Below.alloc ?_ ?_ _) | (simp; done) | (simp; omega))⟩
end Go.Proofs.YtoccplfnjammjaaGreatDoor
