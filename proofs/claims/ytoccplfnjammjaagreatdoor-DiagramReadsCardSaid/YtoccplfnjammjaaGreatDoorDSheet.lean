/- diagram and torchonref14: Rows of what is no sheet; Sheet, Cut. -/
import Derived.Test.YtoccplfnjammjaaGreatDoorDiaA
import Derived.Test.YtoccplfnjammjaaGreatDoorPick
import Derived.Test.YtoccplfnjammjaaGreatDoorDRows3
import Derived.Test.YtoccplfnjammjaaGreatDoorRRows
set_option linter.unusedSimpArgs false
set_option linter.unusedVariables false
namespace Go.Proofs.YtoccplfnjammjaaGreatDoor
open Go Go.RowKit Tor

theorem bad_ne {E : Int} (h : E ≠ 0) : (E == 0) = false := by simp [h]
/-- a sheet that is one -/
structure OkD (p : Nat) (l : List Tri) : Prop where
  chk : sheetE p l = 0
  p2 : 2 ≤ p
  p24 : p ≤ 24
  bd : ∀ (k : Nat) (hk : k < l.length), 0 ≤ l[k].b ∧ l[k].b ≤ (p : Int) - 2
  len : l.length ≤ 400
theorem OkD.bd100 {p : Nat} {l : List Tri} (h : OkD p l) : ∀ (k : Nat) (hk : k < l.length), 0 ≤ l[k].b ∧ l[k].b ≤ 100 := fun k hk => by have := h.bd k hk; have := h.p24; omega
theorem OkD.inP {p : Nat} {l : List Tri} (h : OkD p l) : InP p l := fun i hi => by
  have := h.bd i hi
  have := h.p2
  exact ⟨l[i].b.toNat, by omega, by rw [xAt_of hi]; omega⟩
theorem GridW.rd2 {w : World} {base : Nat} {v : Value} {vs : List Value} {R : List (List Nat)} (h : GridW w base v vs R) : ∃ A c, v = .slice A R.length c ∧ R.length ≤ c ∧ RdG w w.heap.size A R := h.rd
theorem sheet_cut {w : World} {H : Nat} {A : Option Addr} {R : List (List Nat)} (h : RdG w H A R) (f t : Nat) (hft : f ≤ t) (ht : t ≤ R.length) : RdG w H (if t - f = 0 ∧ A = none then none else A.map fun a => a.add f) ((R.drop f).take (t - f)) := by
  intro hne
  have hR : R ≠ [] := fun e => hne (by rw [e]; simp)
  obtain ⟨b, o, rfl, hb, hc⟩ := h hR
  rw [if_neg (by simp)]
  refine ⟨b, o + f, by simp [Addr.add], hb, fun k hk => ?_⟩
  have hk2 : f + k < R.length := by simp at hk; omega
  obtain ⟨Ak, ck, h1, h2⟩ := hc (f + k) hk2
  have e : ((R.drop f).take (t - f))[k] = R[f + k] := by simp
  rw [e]
  exact ⟨Ak, ck, by rw [Nat.add_assoc]; exact h1, h2⟩
set_option maxRecDepth 100000 in
set_option maxHeartbeats 2000000 in
theorem drows_bad (p : Int) (A : Option Addr) (l : List Tri) (c : Nat) (w : World) (H : Nat) (hr : RdT w H A l) (hH : H ≤ w.heap.size)
    (hw : ∀ (k : Nat) (hk : k < l.length), l[k].s.size ≤ 9223372036854775807) (hl : l.length ≤ 1000000) (he : sheetE p l ≠ 0) :
    Calls Tryz.prog 18 #[.agg #[.int .i64 p, .slice A l.length c]] w (Ret (.tuple #[.slice none 0 0, .int .i64 (sheetE p l)]) w) := by
  have hB0 : Below w.heap.size w (w.alloc (.cells #[.int .i64 p, .slice A l.length c] 25)) := (Below.refl _ _).alloc (Nat.le_refl _) _
  have HSH := Lib.hid (sheet_any p A l c (w.alloc (.cells #[.int .i64 p, .slice A l.length c] 25)) H (hr.below' hB0 hH) (Nat.le_trans hH hB0.size) hw (by omega))
  generalize sheetE p l = E at *
  have hE := bad_ne he
  go_enter Tryz.func18, Tryz.ntmps18
  go_wp2_with (first | (go_at_call 56; refine HSH.out.mono ?_; rintro e w1 ⟨rfl, hB1⟩) | fail)
  go_ret2
  exact ⟨rfl, hB0.trans (hB1.mono hB0.size)⟩
set_option maxRecDepth 100000 in
set_option maxHeartbeats 2000000 in
theorem rlevels_bad (p : Int) (A : Option Addr) (l : List Tri) (c : Nat) (w : World) (H : Nat) (hr : RdT w H A l) (hH : H ≤ w.heap.size)
    (hw : ∀ (k : Nat) (hk : k < l.length), l[k].s.size ≤ 9223372036854775807) (hl : l.length ≤ 1000000) (he : sheetE p l ≠ 0) :
    Calls Tryz.prog 62 #[.agg #[.int .i64 p, .slice A l.length c]] w (Ret (.tuple #[.slice none 0 0, .int .i64 (sheetE p l)]) w) := by
  have hB0 : Below w.heap.size w (w.alloc (.cells #[.int .i64 p, .slice A l.length c] 25)) := (Below.refl _ _).alloc (Nat.le_refl _) _
  have HSH := Lib.hid (sheetRef_any p A l c (w.alloc (.cells #[.int .i64 p, .slice A l.length c] 25)) H (hr.below' hB0 hH) (Nat.le_trans hH hB0.size) hw (by omega))
  generalize sheetE p l = E at *
  have hE := bad_ne he
  go_enter Tryz.func62, Tryz.ntmps62
  go_wp2_with (first | (go_at_call 84; refine HSH.out.mono ?_; rintro e w1 ⟨rfl, hB1⟩) | fail)
  go_ret2
  exact ⟨rfl, hB0.trans (hB1.mono hB0.size)⟩
set_option maxRecDepth 100000 in
set_option maxHeartbeats 2000000 in
theorem rrows_bad (p : Int) (A : Option Addr) (l : List Tri) (c : Nat) (w : World) (H : Nat) (hr : RdT w H A l) (hH : H ≤ w.heap.size)
    (hw : ∀ (k : Nat) (hk : k < l.length), l[k].s.size ≤ 9223372036854775807) (hl : l.length ≤ 1000000) (he : sheetE p l ≠ 0) :
    Calls Tryz.prog 26 #[.agg #[.int .i64 p, .slice A l.length c]] w (Ret (.tuple #[.slice none 0 0, .int .i64 (sheetE p l)]) w) := by
  have hB0 : Below w.heap.size w (w.alloc (.cells #[.int .i64 p, .slice A l.length c] 25)) := (Below.refl _ _).alloc (Nat.le_refl _) _
  have HSH := Lib.hid (rlevels_bad p A l c (w.alloc (.cells #[.int .i64 p, .slice A l.length c] 25)) H (hr.below' hB0 hH) (Nat.le_trans hH hB0.size) hw hl he)
  generalize sheetE p l = E at *
  have hE := bad_ne he
  go_enter Tryz.func26, Tryz.ntmps26
  go_wp2_with (first | (go_at_call 62; refine HSH.out.mono ?_; rintro e w1 ⟨rfl, hB1⟩) | fail)
  go_ret2
  exact ⟨rfl, hB0.trans (hB1.mono hB0.size)⟩
set_option maxRecDepth 100000 in
set_option maxHeartbeats 2000000 in
theorem dsheet_bad (p : Int) (A : Option Addr) (l : List Tri) (c : Nat) (w : World) (H : Nat) (hr : RdT w H A l) (hH : H ≤ w.heap.size)
    (hw : ∀ (k : Nat) (hk : k < l.length), l[k].s.size ≤ 9223372036854775807) (hl : l.length ≤ 1000000) (he : sheetE p l ≠ 0) :
    Calls Tryz.prog 22 #[.agg #[.int .i64 p, .slice A l.length c]] w (Ret (.tuple #[.agg #[.int .i64 0, .slice none 0 0], .int .i64 (sheetE p l)]) w) := by
  have hB0 : Below w.heap.size w ((w.alloc (.cells #[.int .i64 p, .slice A l.length c] 25)).alloc (.cells #[.int .i64 0, .slice none 0 0] 25)) := ((Below.refl _ _).alloc (Nat.le_refl _) _).alloc (by simp) _
  have HSH := Lib.hid (drows_bad p A l c ((w.alloc (.cells #[.int .i64 p, .slice A l.length c] 25)).alloc (.cells #[.int .i64 0, .slice none 0 0] 25)) H (hr.below' hB0 hH) (Nat.le_trans hH hB0.size) hw hl he)
  have kR0 : Blk ((w.alloc (.cells #[.int .i64 p, .slice A l.length c] 25)).alloc (.cells #[.int .i64 0, .slice none 0 0] 25)) (w.heap.size + 1) 25 #[.int .i64 0, .slice none 0 0] := by have := Blk.new (w.alloc (.cells #[.int .i64 p, .slice A l.length c] 25)) 25 #[.int .i64 0, .slice none 0 0]; simpa using this
  obtain ⟨WW, hWW⟩ : ∃ WW, Hid (WW = ((w.alloc (.cells #[.int .i64 p, .slice A l.length c] 25)).alloc (.cells #[.int .i64 0, .slice none 0 0] 25))) := ⟨_, Lib.hid rfl⟩
  rw [← hWW.out] at HSH kR0 hB0
  generalize sheetE p l = E at *
  have hE := bad_ne he
  go_enter Tryz.func22, Tryz.ntmps22
  go_wp2_with (first
    | (go_at_call 18; rw [← hWW.out]; refine HSH.out.mono ?_; rintro e w1 ⟨rfl, hB1⟩
       have kR := kR0.below' hB1
       have q0 := kR.frozen 0
       have q1 := kR.frozen 1
       have r0 := kR.cell 0 _ rfl
       have r1 := kR.cell 1 _ rfl
       have rl := kR.lt
       have hBf := hB0.trans (hB1.mono hB0.size)
       have hzf := hBf.size)
    | fail)
  (try simp only [Exit.inBlock, Exit.then])
  refine sheet_ret2 rfl rfl (g := w.heap.size + 1) (x := .int .i64 0) (y := .slice none 0 0) (by simpa using (kR.set_ 0 (.int .i64 0)).set_ 1 (.slice none 0 0)) rfl ?_
  exact ⟨rfl, by (repeat' first | assumption | exact Below.refl _ _ | apply Below.drew | (refine Below.setCells ?_ _ _ ?_) | (refine Below.setCell ?_ ?_ _) | (refine Below.alloc ?_ ?_ _) | (simp; done) | (simp; omega))⟩
set_option maxRecDepth 100000 in
set_option maxHeartbeats 2000000 in
theorem rdsheet_bad (p : Int) (A : Option Addr) (l : List Tri) (c : Nat) (w : World) (H : Nat) (hr : RdT w H A l) (hH : H ≤ w.heap.size)
    (hw : ∀ (k : Nat) (hk : k < l.length), l[k].s.size ≤ 9223372036854775807) (hl : l.length ≤ 1000000) (he : sheetE p l ≠ 0) :
    Calls Tryz.prog 27 #[.agg #[.int .i64 p, .slice A l.length c]] w (Ret (.tuple #[.agg #[.int .i64 0, .slice none 0 0], .int .i64 (sheetE p l)]) w) := by
  have hB0 : Below w.heap.size w ((w.alloc (.cells #[.int .i64 p, .slice A l.length c] 25)).alloc (.cells #[.int .i64 0, .slice none 0 0] 25)) := ((Below.refl _ _).alloc (Nat.le_refl _) _).alloc (by simp) _
  have HSH := Lib.hid (rrows_bad p A l c ((w.alloc (.cells #[.int .i64 p, .slice A l.length c] 25)).alloc (.cells #[.int .i64 0, .slice none 0 0] 25)) H (hr.below' hB0 hH) (Nat.le_trans hH hB0.size) hw hl he)
  have kR0 : Blk ((w.alloc (.cells #[.int .i64 p, .slice A l.length c] 25)).alloc (.cells #[.int .i64 0, .slice none 0 0] 25)) (w.heap.size + 1) 25 #[.int .i64 0, .slice none 0 0] := by have := Blk.new (w.alloc (.cells #[.int .i64 p, .slice A l.length c] 25)) 25 #[.int .i64 0, .slice none 0 0]; simpa using this
  obtain ⟨WW, hWW⟩ : ∃ WW, Hid (WW = ((w.alloc (.cells #[.int .i64 p, .slice A l.length c] 25)).alloc (.cells #[.int .i64 0, .slice none 0 0] 25))) := ⟨_, Lib.hid rfl⟩
  rw [← hWW.out] at HSH kR0 hB0
  generalize sheetE p l = E at *
  have hE := bad_ne he
  go_enter Tryz.func27, Tryz.ntmps27
  go_wp2_with (first
    | (go_at_call 26; rw [← hWW.out]; refine HSH.out.mono ?_; rintro e w1 ⟨rfl, hB1⟩
       have kR := kR0.below' hB1
       have q0 := kR.frozen 0
       have q1 := kR.frozen 1
       have r0 := kR.cell 0 _ rfl
       have r1 := kR.cell 1 _ rfl
       have rl := kR.lt
       have hBf := hB0.trans (hB1.mono hB0.size)
       have hzf := hBf.size)
    | fail)
  (try simp only [Exit.inBlock, Exit.then])
  refine sheet_ret2 rfl rfl (g := w.heap.size + 1) (x := .int .i64 0) (y := .slice none 0 0) (by simpa using (kR.set_ 0 (.int .i64 0)).set_ 1 (.slice none 0 0)) rfl ?_
  exact ⟨rfl, by (repeat' first | assumption | exact Below.refl _ _ | apply Below.drew | (refine Below.setCells ?_ _ _ ?_) | (refine Below.setCell ?_ ?_ _) | (refine Below.alloc ?_ ?_ _) | (simp; done) | (simp; omega))⟩
set_option maxRecDepth 100000 in
set_option maxHeartbeats 2000000 in
theorem dcut_bad (p : Int) (A : Option Addr) (l : List Tri) (c : Nat) (fr tt : Int) (w : World) (H : Nat) (hr : RdT w H A l) (hH : H ≤ w.heap.size)
    (hw : ∀ (k : Nat) (hk : k < l.length), l[k].s.size ≤ 9223372036854775807) (hl : l.length ≤ 1000000) (he : sheetE p l ≠ 0) :
    Calls Tryz.prog 23 #[.agg #[.int .i64 p, .slice A l.length c], .int .i64 fr, .int .i64 tt] w (Ret (.tuple #[.agg #[.int .i64 0, .slice none 0 0], .int .i64 (sheetE p l)]) w) := by
  have hB0 : Below w.heap.size w ((w.alloc (.cells #[.int .i64 p, .slice A l.length c] 25)).alloc (.cells #[.int .i64 0, .slice none 0 0] 25)) := ((Below.refl _ _).alloc (Nat.le_refl _) _).alloc (by simp) _
  have HSH := Lib.hid (drows_bad p A l c ((w.alloc (.cells #[.int .i64 p, .slice A l.length c] 25)).alloc (.cells #[.int .i64 0, .slice none 0 0] 25)) H (hr.below' hB0 hH) (Nat.le_trans hH hB0.size) hw hl he)
  have kR0 : Blk ((w.alloc (.cells #[.int .i64 p, .slice A l.length c] 25)).alloc (.cells #[.int .i64 0, .slice none 0 0] 25)) (w.heap.size + 1) 25 #[.int .i64 0, .slice none 0 0] := by have := Blk.new (w.alloc (.cells #[.int .i64 p, .slice A l.length c] 25)) 25 #[.int .i64 0, .slice none 0 0]; simpa using this
  obtain ⟨WW, hWW⟩ : ∃ WW, Hid (WW = ((w.alloc (.cells #[.int .i64 p, .slice A l.length c] 25)).alloc (.cells #[.int .i64 0, .slice none 0 0] 25))) := ⟨_, Lib.hid rfl⟩
  rw [← hWW.out] at HSH kR0 hB0
  generalize sheetE p l = E at *
  have hE := bad_ne he
  go_enter Tryz.func23, Tryz.ntmps23
  go_wp2_with (first
    | (go_at_call 18; rw [← hWW.out]; refine HSH.out.mono ?_; rintro e w1 ⟨rfl, hB1⟩
       have kR := kR0.below' hB1
       have q0 := kR.frozen 0
       have q1 := kR.frozen 1
       have r0 := kR.cell 0 _ rfl
       have r1 := kR.cell 1 _ rfl
       have rl := kR.lt
       have hBf := hB0.trans (hB1.mono hB0.size)
       have hzf := hBf.size)
    | fail)
  (try simp only [Exit.inBlock, Exit.then])
  refine sheet_ret2 rfl rfl (g := w.heap.size + 1) (x := .int .i64 0) (y := .slice none 0 0) (by simpa using (kR.set_ 0 (.int .i64 0)).set_ 1 (.slice none 0 0)) rfl ?_
  exact ⟨rfl, by (repeat' first | assumption | exact Below.refl _ _ | apply Below.drew | (refine Below.setCells ?_ _ _ ?_) | (refine Below.setCell ?_ ?_ _) | (refine Below.alloc ?_ ?_ _) | (simp; done) | (simp; omega))⟩
set_option maxRecDepth 100000 in
set_option maxHeartbeats 2000000 in
theorem rdcut_bad (p : Int) (A : Option Addr) (l : List Tri) (c : Nat) (fr tt : Int) (w : World) (H : Nat) (hr : RdT w H A l) (hH : H ≤ w.heap.size)
    (hw : ∀ (k : Nat) (hk : k < l.length), l[k].s.size ≤ 9223372036854775807) (hl : l.length ≤ 1000000) (he : sheetE p l ≠ 0) :
    Calls Tryz.prog 30 #[.agg #[.int .i64 p, .slice A l.length c], .int .i64 fr, .int .i64 tt] w (Ret (.tuple #[.agg #[.int .i64 0, .slice none 0 0], .int .i64 (sheetE p l)]) w) := by
  have hB0 : Below w.heap.size w ((w.alloc (.cells #[.int .i64 p, .slice A l.length c] 25)).alloc (.cells #[.int .i64 0, .slice none 0 0] 25)) := ((Below.refl _ _).alloc (Nat.le_refl _) _).alloc (by simp) _
  have HSH := Lib.hid (rrows_bad p A l c ((w.alloc (.cells #[.int .i64 p, .slice A l.length c] 25)).alloc (.cells #[.int .i64 0, .slice none 0 0] 25)) H (hr.below' hB0 hH) (Nat.le_trans hH hB0.size) hw hl he)
  have kR0 : Blk ((w.alloc (.cells #[.int .i64 p, .slice A l.length c] 25)).alloc (.cells #[.int .i64 0, .slice none 0 0] 25)) (w.heap.size + 1) 25 #[.int .i64 0, .slice none 0 0] := by have := Blk.new (w.alloc (.cells #[.int .i64 p, .slice A l.length c] 25)) 25 #[.int .i64 0, .slice none 0 0]; simpa using this
  obtain ⟨WW, hWW⟩ : ∃ WW, Hid (WW = ((w.alloc (.cells #[.int .i64 p, .slice A l.length c] 25)).alloc (.cells #[.int .i64 0, .slice none 0 0] 25))) := ⟨_, Lib.hid rfl⟩
  rw [← hWW.out] at HSH kR0 hB0
  generalize sheetE p l = E at *
  have hE := bad_ne he
  go_enter Tryz.func30, Tryz.ntmps30
  go_wp2_with (first
    | (go_at_call 26; rw [← hWW.out]; refine HSH.out.mono ?_; rintro e w1 ⟨rfl, hB1⟩
       have kR := kR0.below' hB1
       have q0 := kR.frozen 0
       have q1 := kR.frozen 1
       have r0 := kR.cell 0 _ rfl
       have r1 := kR.cell 1 _ rfl
       have rl := kR.lt
       have hBf := hB0.trans (hB1.mono hB0.size)
       have hzf := hBf.size)
    | fail)
  (try simp only [Exit.inBlock, Exit.then])
  refine sheet_ret2 rfl rfl (g := w.heap.size + 1) (x := .int .i64 0) (y := .slice none 0 0) (by simpa using (kR.set_ 0 (.int .i64 0)).set_ 1 (.slice none 0 0)) rfl ?_
  exact ⟨rfl, by (repeat' first | assumption | exact Below.refl _ _ | apply Below.drew | (refine Below.setCells ?_ _ _ ?_) | (refine Below.setCell ?_ ?_ _) | (refine Below.alloc ?_ ?_ _) | (simp; done) | (simp; omega))⟩
set_option maxRecDepth 100000 in
set_option maxHeartbeats 2000000 in
theorem dsheet_any (p : Nat) (A : Option Addr) (l : List Tri) (c : Nat) (w : World) (H : Nat) (hr : RdT w H A l) (hH : H ≤ w.heap.size)
    (hw : ∀ (k : Nat) (hk : k < l.length), l[k].s.size ≤ 9223372036854775807) (ok : OkD p l) :
    Calls Tryz.prog 22 #[.agg #[.int .i64 p, .slice A l.length c]] w fun e w' => ∃ (A' : Option Addr) (c' : Nat), e = .returned (.tuple #[.agg #[.int .i64 p, .slice A' (sheetD p l).length c'], .int .i64 0]) ∧ Own 3 Tri.enc w' w.heap.size 44 (.slice A' (sheetD p l).length c') (sheetD p l) ∧ (sheetD p l).length ≤ c' ∧ Below w.heap.size w w' := by
  have hB0 : Below w.heap.size w ((w.alloc (.cells #[.int .i64 p, .slice A l.length c] 25)).alloc (.cells #[.int .i64 0, .slice none 0 0] 25)) := ((Below.refl _ _).alloc (Nat.le_refl _) _).alloc (by simp) _
  have kA0 : Blk ((w.alloc (.cells #[.int .i64 p, .slice A l.length c] 25)).alloc (.cells #[.int .i64 0, .slice none 0 0] 25)) w.heap.size 25 #[.int .i64 p, .slice A l.length c] := (Blk.new w _ _).alloc _
  have kR0 : Blk ((w.alloc (.cells #[.int .i64 p, .slice A l.length c] 25)).alloc (.cells #[.int .i64 0, .slice none 0 0] 25)) (w.heap.size + 1) 25 #[.int .i64 0, .slice none 0 0] := by have := Blk.new (w.alloc (.cells #[.int .i64 p, .slice A l.length c] 25)) 25 #[.int .i64 0, .slice none 0 0]; simpa using this
  obtain ⟨WW, hWW⟩ : ∃ WW, Hid (WW = ((w.alloc (.cells #[.int .i64 p, .slice A l.length c] 25)).alloc (.cells #[.int .i64 0, .slice none 0 0] 25))) := ⟨_, Lib.hid rfl⟩
  rw [← hWW.out] at kA0 kR0 hB0
  have HSH := Lib.hid (drows_any p A l c WW H (hr.below' hB0 hH) (Nat.le_trans hH hB0.size) hw ok.chk ok.p2 ok.p24 ok.bd ok.len)
  have HOK := Lib.hid ok
  clear ok
  go_enter Tryz.func22, Tryz.ntmps22
  go_wp2_with (first
    | (go_at_call 18; rw [← hWW.out]; refine HSH.out.mono ?_; rintro e w1 ⟨v, vs, rfl, hG, hB1⟩
       obtain ⟨AR, cR, rfl, hcR, hrG⟩ := hG.rd2
       have kR := kR0.below' hB1
       have kA := kA0.below' hB1
       have a0 := kA.cell 0 _ rfl
       have a1 := kA.cell 1 _ rfl
       have al := kA.lt
       have rlk := kR.lt
       have hBf := hB0.trans (hB1.mono hB0.size)
       have hzf := hBf.size
       have HPK := Lib.hid (picked_any p A l c AR (rowsS p l) cR w1 w1.heap.size ((hr.below' hBf hH).more (by omega)) hrG (Nat.le_refl _) (fun r hr' => row_in hr') HOK.out.len (Nat.le_trans (rowsS_len p l) HOK.out.len) (by have := sheetD_len HOK.out.inP; have := HOK.out.len; unfold sheetD at *; omega) (fun r hr' => by have := row_len HOK.out.inP hr'; have := HOK.out.len; omega))
       have tk := True.intro)
    | (go_at_call 61; have := tk; refine HPK.out.mono ?_; rintro e w2 ⟨A2, c2, rfl, ho2, hc2, hB2⟩
       have kR2 := kR.below' hB2
       have q0 := kR2.frozen 0
       have q1 := kR2.frozen 1
       have r0 := kR2.cell 0 _ rfl
       have r1 := kR2.cell 1 _ rfl
       have rl := kR2.lt
       have hBg := hBf.trans (hB2.mono hzf)
       have hzg := hBg.size)
    | fail)
  (try simp only [Exit.inBlock, Exit.then])
  refine sheet_ret2 rfl rfl (g := w.heap.size + 1) (x := .int .i64 p) (y := .slice A2 (pickL l (rowsS p l)).length c2) (by simpa using (kR2.set_ 0 (.int .i64 p)).set_ 1 (.slice A2 (pickL l (rowsS p l)).length c2)) rfl ?_
  exact ⟨A2, c2, rfl, Own.base (ownsRow_setCell_below (ownsRow_setCell_below ho2 (by omega) _) (by omega) _) (by omega), hc2, by (repeat' first | assumption | exact Below.refl _ _ | apply Below.drew | (refine Below.setCells ?_ _ _ ?_) | (refine Below.setCell ?_ ?_ _) | (refine Below.alloc ?_ ?_ _) | (simp; done) | (simp; omega))⟩
set_option maxRecDepth 100000 in
set_option maxHeartbeats 2000000 in
theorem rdsheet_any (p : Nat) (A : Option Addr) (l : List Tri) (c : Nat) (w : World) (H : Nat) (hr : RdT w H A l) (hH : H ≤ w.heap.size)
    (hw : ∀ (k : Nat) (hk : k < l.length), l[k].s.size ≤ 9223372036854775807) (ok : OkD p l) :
    Calls Tryz.prog 27 #[.agg #[.int .i64 p, .slice A l.length c]] w fun e w' => ∃ (A' : Option Addr) (c' : Nat), e = .returned (.tuple #[.agg #[.int .i64 p, .slice A' (sheetD p l).length c'], .int .i64 0]) ∧ Own 3 Tri.enc w' w.heap.size 44 (.slice A' (sheetD p l).length c') (sheetD p l) ∧ (sheetD p l).length ≤ c' ∧ Below w.heap.size w w' := by
  have hB0 : Below w.heap.size w ((w.alloc (.cells #[.int .i64 p, .slice A l.length c] 25)).alloc (.cells #[.int .i64 0, .slice none 0 0] 25)) := ((Below.refl _ _).alloc (Nat.le_refl _) _).alloc (by simp) _
  have kA0 : Blk ((w.alloc (.cells #[.int .i64 p, .slice A l.length c] 25)).alloc (.cells #[.int .i64 0, .slice none 0 0] 25)) w.heap.size 25 #[.int .i64 p, .slice A l.length c] := (Blk.new w _ _).alloc _
  have kR0 : Blk ((w.alloc (.cells #[.int .i64 p, .slice A l.length c] 25)).alloc (.cells #[.int .i64 0, .slice none 0 0] 25)) (w.heap.size + 1) 25 #[.int .i64 0, .slice none 0 0] := by have := Blk.new (w.alloc (.cells #[.int .i64 p, .slice A l.length c] 25)) 25 #[.int .i64 0, .slice none 0 0]; simpa using this
  obtain ⟨WW, hWW⟩ : ∃ WW, Hid (WW = ((w.alloc (.cells #[.int .i64 p, .slice A l.length c] 25)).alloc (.cells #[.int .i64 0, .slice none 0 0] 25))) := ⟨_, Lib.hid rfl⟩
  rw [← hWW.out] at kA0 kR0 hB0
  have HSH := Lib.hid (rrows_any p A l c WW H (hr.below' hB0 hH) (Nat.le_trans hH hB0.size) hw ok.chk ok.p24 ok.bd100 ok.len)
  have HOK := Lib.hid ok
  clear ok
  go_enter Tryz.func27, Tryz.ntmps27
  go_wp2_with (first
    | (go_at_call 26; rw [← hWW.out]; refine HSH.out.mono ?_; rintro e w1 ⟨v, vs, rfl, hG, hB1⟩
       obtain ⟨AR, cR, rfl, hcR, hrG⟩ := hG.rd2
       have kR := kR0.below' hB1
       have kA := kA0.below' hB1
       have a0 := kA.cell 0 _ rfl
       have a1 := kA.cell 1 _ rfl
       have al := kA.lt
       have rlk := kR.lt
       have hBf := hB0.trans (hB1.mono hB0.size)
       have hzf := hBf.size
       have HPK := Lib.hid (rpicked_any p A l c AR (rowsS p l) cR w1 w1.heap.size ((hr.below' hBf hH).more (by omega)) hrG (Nat.le_refl _) (fun r hr' => row_in hr') HOK.out.len (Nat.le_trans (rowsS_len p l) HOK.out.len) (by have := sheetD_len HOK.out.inP; have := HOK.out.len; unfold sheetD at *; omega) (fun r hr' => by have := row_len HOK.out.inP hr'; have := HOK.out.len; omega))
       have tk := True.intro)
    | (go_at_call 63; have := tk; refine HPK.out.mono ?_; rintro e w2 ⟨A2, c2, rfl, ho2, hc2, hB2⟩
       have kR2 := kR.below' hB2
       have q0 := kR2.frozen 0
       have q1 := kR2.frozen 1
       have r0 := kR2.cell 0 _ rfl
       have r1 := kR2.cell 1 _ rfl
       have rl := kR2.lt
       have hBg := hBf.trans (hB2.mono hzf)
       have hzg := hBg.size)
    | fail)
  (try simp only [Exit.inBlock, Exit.then])
  refine sheet_ret2 rfl rfl (g := w.heap.size + 1) (x := .int .i64 p) (y := .slice A2 (pickL l (rowsS p l)).length c2) (by simpa using (kR2.set_ 0 (.int .i64 p)).set_ 1 (.slice A2 (pickL l (rowsS p l)).length c2)) rfl ?_
  exact ⟨A2, c2, rfl, Own.base (ownsRow_setCell_below (ownsRow_setCell_below ho2 (by omega) _) (by omega) _) (by omega), hc2, by (repeat' first | assumption | exact Below.refl _ _ | apply Below.drew | (refine Below.setCells ?_ _ _ ?_) | (refine Below.setCell ?_ ?_ _) | (refine Below.alloc ?_ ?_ _) | (simp; done) | (simp; omega))⟩
end Go.Proofs.YtoccplfnjammjaaGreatDoor
