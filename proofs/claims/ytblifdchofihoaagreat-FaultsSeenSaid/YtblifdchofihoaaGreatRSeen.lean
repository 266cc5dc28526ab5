/- torchonref25: alike, Seen, Same. -/
import Derived.Test.YtblifdchofihoaaGreatSeen2
import Derived.Test.YtblifdchofihoaaGreatMatch2
import Derived.Test.YtblifdchofihoaaGreatRPlain
import Derived.Test.YtblifdchofihoaaGreatRef25d
set_option linter.unusedSimpArgs false
set_option linter.unusedVariables false
namespace Go.Proofs.YtblifdchofihoaaGreat
open Go Go.RowKit Tor

set_option maxRecDepth 100000 in
set_option maxHeartbeats 4000000 in
theorem ralike_any (p s : Int) (A B : Option Addr) (l m : List Tri) (c d : Nat) (w : World) (H : Nat) (hr : RdT w H A l) (hr2 : RdT w H B m) (hH : H ≤ w.heap.size)
    (hok : (sheetR p s l).2.2.2 = 0) (hok2 : (sheetR p s m).2.2.2 = 0) (hl : l.length ≤ 400) (hm : m.length ≤ 400) :
    Calls Tryz.prog 17 #[.int .i64 p, .int .i64 s, .slice A l.length c, .slice B m.length d] w (Ret (.bool (alikeR p s l m)) w) := by
  have hi1 := ins_ok hok
  have hi2 := ins_ok hok2
  have hw1 : ∀ (k : Nat) (hk : k < l.length), l[k].s.size ≤ 9223372036854775807 := fun k hk => by have := (word_ok (hi1.w k hk)).1; omega
  have hw2 : ∀ (k : Nat) (hk : k < m.length), m[k].s.size ≤ 9223372036854775807 := fun k hk => by have := (word_ok (hi2.w k hk)).1; omega
  have C1 := Lib.hid (fun (w' : World) (hB : Below w.heap.size w w') => rsheet_any p s A l c w' H (hr.below' hB hH) (Nat.le_trans hH hB.size) hw1 (by omega))
  have C2 := Lib.hid (fun (w' : World) (hB : Below w.heap.size w w') => rsheet_any p s B m d w' H (hr2.below' hB hH) (Nat.le_trans hH hB.size) hw2 (by omega))
  obtain ⟨p1, e1, k1⟩ := sheetR_sheet hok hl
  obtain ⟨p2, e2, k2⟩ := sheetR_sheet hok2 hm
  have hR : Hid (alikeR p s l m = traceB p (plainL (sheetR p s l).2.1) p (plainL (sheetR p s m).2.1)) := by unfold alikeR; rw [p1, p2]; exact Lib.hid rfl
  rw [hR.out]
  have L1 := sheetR_len (p := p) (s := s) (l := l)
  have L2 := sheetR_len (p := p) (s := s) (l := m)
  unfold SheetPost at C1 C2
  rw [p1, hok] at C1
  rw [p2, hok2] at C2
  obtain ⟨i1, hi1'⟩ : ∃ i, Hid ((sheetR p s l).2.2.1 = i) := ⟨_, Lib.hid rfl⟩
  obtain ⟨i2, hi2'⟩ : ∃ i, Hid ((sheetR p s m).2.2.1 = i) := ⟨_, Lib.hid rfl⟩
  rw [hi1'.out] at C1
  rw [hi2'.out] at C2
  have hi1p := hi1.p24
  clear hi1' hi2' p1 p2 hR hok hok2 hi1 hi2 hw1 hw2
  generalize (sheetR p s l).2.1 = X at *
  generalize (sheetR p s m).2.1 = Y at *
  have P1 := plain_sheet e1
  have P2 := plain_sheet e2
  have R1 := plainR_ok e1
  have R2 := plainR_ok e2
  have W1 := words_of e1
  have W2 := words_of e2
  have V1 := words_of P1
  have V2 := words_of P2
  have N1 := plainL_len X
  have N2 := plainL_len Y
  have D1 := Lib.hid (fun (w' : World) (A' : Option Addr) (c' : Nat) (H' : Nat) (hr : RdT w' H' A' X) (hH : H' ≤ w'.heap.size) => (by have := rplain_any p A' X c' w' H' hr hH W1 (by omega); rw [R1] at this; exact this : Calls Tryz.prog 11 #[.agg #[.int .i64 p, .slice A' X.length c']] w' (PlainPost p (plainL X) 0 w')))
  have D2 := Lib.hid (fun (w' : World) (A' : Option Addr) (c' : Nat) (H' : Nat) (hr : RdT w' H' A' Y) (hH : H' ≤ w'.heap.size) => (by have := rplain_any p A' Y c' w' H' hr hH W2 (by omega); rw [R2] at this; exact this : Calls Tryz.prog 11 #[.agg #[.int .i64 p, .slice A' Y.length c']] w' (PlainPost p (plainL Y) 0 w')))
  have K1 : ∀ (k : Nat) (hk : k < (plainL X).length), 0 ≤ (plainL X)[k].b ∧ (plainL X)[k].b ≤ 100 := fun k hk => by have q := plain_wok k1 _ (List.getElem_mem hk); have q0 := q.b0; have q1 := q.b1; have := hi1p; omega
  have K2 : ∀ (k : Nat) (hk : k < (plainL Y).length), 0 ≤ (plainL Y)[k].b ∧ (plainL Y)[k].b ≤ 100 := fun k hk => by have q := plain_wok k2 _ (List.getElem_mem hk); have q0 := q.b0; have q1 := q.b1; have := hi1p; omega
  have T1 := Lib.hid (fun (w' : World) (A' B' : Option Addr) (c' d' : Nat) (H' : Nat) (hr : RdT w' H' A' (plainL X)) (hr2 : RdT w' H' B' (plainL Y)) (hH : H' ≤ w'.heap.size) => rsame05_any p p A' (plainL X) c' B' (plainL Y) d' w' H' hr hr2 hH V1 V2 (by omega) (by omega) P1 P2 K1 K2)
  clear K1 K2 V1 V2 W1 W2 R1 R2 P1 P2 e1 e2 k1 k2
  generalize traceB p (plainL X) p (plainL Y) = T at *
  generalize plainL X = PX at *
  generalize plainL Y = PY at *
  go_enter Tryz.func17, Tryz.ntmps17
  go_wp2_with (first
    | (go_at_call 28; refine (C1.out _ (Below.refl _ _)).mono ?_; rintro e w1 ⟨v1, rfl, hX, hB1⟩
       clear C1
       obtain ⟨A1, c1, rfl, _, _⟩ := Own.rd tri_len hX
       have hz1 := hB1.size
       have kX := Blk.new w1 29 #[.int .i64 p, .slice A1 X.length c1]
       have oX := hX.alloc (.cells #[.int .i64 p, .slice A1 X.length c1] 29)
       have hB2 := hB1.alloc hz1 (.cells #[.int .i64 p, .slice A1 X.length c1] 29)
       have hb1 : w1.heap.size < (w1.alloc (.cells #[.int .i64 p, .slice A1 X.length c1] 29)).heap.size := kX.lt)
    | (go_at_call 28; refine (C2.out _ hB2).mono ?_; rintro e w3 ⟨v3, rfl, hY, hB3⟩
       clear C2
       obtain ⟨A3, c3, rfl, _, _⟩ := Own.rd tri_len hY
       have hz3 := hB3.size
       have kX3 := (kX.below' hB3).alloc (.cells #[.int .i64 p, .slice A3 Y.length c3] 29)
       have kY := Blk.new w3 29 #[.int .i64 p, .slice A3 Y.length c3]
       have oX3 := Own.alloc (oX.below hB3) (.cells #[.int .i64 p, .slice A3 Y.length c3] 29)
       have oY3 := hY.alloc (.cells #[.int .i64 p, .slice A3 Y.length c3] 29)
       have hB4 := (hB2.trans (hB3.mono hB2.size)).alloc (hB2.trans (hB3.mono hB2.size)).size (.cells #[.int .i64 p, .slice A3 Y.length c3] 29)
       have x0 := kX3.cell 0 (.int .i64 p) rfl
       have x1 := kX3.cell 1 (.slice A1 X.length c1) rfl
       have xl := kX3.lt
       have hb3 : w3.heap.size < (w3.alloc (.cells #[.int .i64 p, .slice A3 Y.length c3] 29)).heap.size := kY.lt
       have hne13 : w1.heap.size ≠ w3.heap.size := by have := (kX.below' hB3).lt; omega)
    | (go_at_call 11; refine (D1.out _ A1 c1 _ (ownRd oX3) (Nat.le_refl _)).mono ?_; rintro e w5 ⟨v5, rfl, hPX, hB5⟩
       clear D1
       obtain ⟨A5, c5, rfl, _, _⟩ := Own.rd tri_len hPX
       have kX5 := kX3.below' hB5
       have kY5 := kY.below' hB5
       have x0 := kX5.cell 0 (.int .i64 p) rfl
       have x1 := kX5.cell 1 (.slice A1 X.length c1) rfl
       have fx0 := kX5.frozen 0
       have fx1 := kX5.frozen 1
       have xl5 := kX5.lt
       have kX6 := (kX5.set_ 0 (.int .i64 p)).set_ 1 (.slice A5 PX.length c5)
       have kY6 := (kY5.far (p := ⟨w1.heap.size, 0, none⟩) (Ne.symm hne13) (.int .i64 p)).far (p := ⟨w1.heap.size, 1, none⟩) (Ne.symm hne13) (.slice A5 PX.length c5)
       have oY6 := Own.far (Own.far (oY3.below hB5) (p := ⟨w1.heap.size, 0, none⟩) hb1 (.int .i64 p)) (p := ⟨w1.heap.size, 1, none⟩) hb1 (.slice A5 PX.length c5)
       have oP6 := Own.far (Own.far hPX (p := ⟨w1.heap.size, 0, none⟩) xl (.int .i64 p)) (p := ⟨w1.heap.size, 1, none⟩) xl (.slice A5 PX.length c5)
       have hB6 := ((hB4.trans (hB5.mono hB4.size)).setCell (p := ⟨w1.heap.size, 0, none⟩) hz1 (.int .i64 p)).setCell (p := ⟨w1.heap.size, 1, none⟩) hz1 (.slice A5 PX.length c5)
       have y0 := kY6.cell 0 (.int .i64 p) rfl
       have y1 := kY6.cell 1 (.slice A3 Y.length c3) rfl)
    | (go_at_call 11; refine (D2.out _ A3 c3 _ (ownRd oY6) (Nat.le_refl _)).mono ?_; rintro e w7 ⟨v7, rfl, hPY, hB7⟩
       clear D2
       obtain ⟨A7, c7, rfl, _, _⟩ := Own.rd tri_len hPY
       have kX7 := kX6.below' hB7
       have kY7 := kY6.below' hB7
       have y0 := kY7.cell 0 (.int .i64 p) rfl
       have y1 := kY7.cell 1 (.slice A3 Y.length c3) rfl
       have fy0 := kY7.frozen 0
       have fy1 := kY7.frozen 1
       have yl7 := kY7.lt
       have kX8 := (kX7.far (p := ⟨w3.heap.size, 0, none⟩) hne13 (.int .i64 p)).far (p := ⟨w3.heap.size, 1, none⟩) hne13 (.slice A7 PY.length c7)
       have kY8 := (kY7.set_ 0 (.int .i64 p)).set_ 1 (.slice A7 PY.length c7)
       have oP8 := Own.far (Own.far (oP6.below hB7) (p := ⟨w3.heap.size, 0, none⟩) hb3 (.int .i64 p)) (p := ⟨w3.heap.size, 1, none⟩) hb3 (.slice A7 PY.length c7)
       have oQ8 := Own.far (Own.far hPY (p := ⟨w3.heap.size, 0, none⟩) (lt_of_cell (kY6.cell 0 (.int .i64 p) rfl)) (.int .i64 p)) (p := ⟨w3.heap.size, 1, none⟩) (lt_of_cell (kY6.cell 0 (.int .i64 p) rfl)) (.slice A7 PY.length c7)
       have hzw3 : w.heap.size ≤ w3.heap.size := (hB2.trans (hB3.mono hB2.size)).size
       have hB8 := ((hB6.trans (hB7.mono hB6.size)).setCell (p := ⟨w3.heap.size, 0, none⟩) hzw3 (.int .i64 p)).setCell (p := ⟨w3.heap.size, 1, none⟩) hzw3 (.slice A7 PY.length c7)
       have x0 := kX8.cell 0 (.int .i64 p) rfl
       have x1 := kX8.cell 1 (.slice A5 PX.length c5) rfl
       have y0 := kY8.cell 0 (.int .i64 p) rfl
       have y1 := kY8.cell 1 (.slice A7 PY.length c7) rfl)
    | (go_at_call 30; refine (T1.out _ A5 A7 c5 c7 _ (ownRd oP8) (ownRd oQ8) (Nat.le_refl _)).mono ?_; rintro e w9 ⟨rfl, hB9⟩)
    | fail)
  go_ret
  exact Ret.val rfl (hB8.trans (hB9.mono hB8.size))
set_option maxRecDepth 100000 in
set_option maxHeartbeats 4000000 in
theorem rseen_any (p s : Int) (A : Option Addr) (l : List Tri) (c : Nat) (f : Flt) (w : World) (H : Nat) (hr : RdT w H A l) (hH : H ≤ w.heap.size)
    (hw : ∀ (k : Nat) (hk : k < l.length), l[k].s.size ≤ 9223372036854775807) (hl : l.length ≤ 100000) (hl4 : l.length ≤ 400 ∨ 1000 < l.length) (hlc : l.length ≤ c) :
    Calls Tryz.prog 7 #[.int .i64 p, .int .i64 s, .slice A l.length c, .agg #[.int .i64 f.k, .int .i64 f.st, .int .i64 f.lt, .int .i64 f.wi]] w (Ret (.tuple #[.bool (seenR p s l f).1, .int .i64 (seenR p s l f).2]) w) := by
  have hBB : Below w.heap.size w (w.alloc (.cells #[.int .i64 f.k, .int .i64 f.st, .int .i64 f.lt, .int .i64 f.wi] 24)) := by (repeat' first | exact Below.refl _ _ | apply Below.drew | (refine Below.setCells ?_ _ _ ?_) | (refine Below.setCell ?_ ?_ _) | (refine Below.alloc ?_ ?_ _) | (simp; done) | (simp; omega))
  have HP := Lib.hid (rPut_any p s A l c f _ H (hr.below' hBB hH) (Nat.le_trans hH hBB.size) hw hl hlc)
  have kF := Blk.new w 24 #[.int .i64 f.k, .int .i64 f.st, .int .i64 f.lt, .int .i64 f.wi]
  have p0 := kF.cell 0 (.int .i64 f.k) rfl
  have p1 := kF.cell 1 (.int .i64 f.st) rfl
  have p2 := kF.cell 2 (.int .i64 f.lt) rfl
  have p3 := kF.cell 3 (.int .i64 f.wi) rfl
  unfold PutRet at HP
  by_cases hz : (putR p s l f).2 = 0
  rotate_left
  · have hA : Hid (seenR p s l f = (false, (putR p s l f).2)) := by unfold seenR; rw [if_pos hz]; exact Lib.hid rfl
    rw [hA.out]
    clear hA
    generalize (putR p s l f).1 = L at *
    generalize (putR p s l f).2 = e at *
    have y1 : (e == 0) = false := by simpa using hz
    have y2 : (e != 0) = true := by simpa using hz
    clear hz
    go_enter Tryz.func7, Tryz.ntmps7
    go_wp2_with (first | (go_at_call 16; refine HP.out.mono ?_; rintro e w1 ⟨A1, c1, rfl, hr1, hB1⟩) | fail)
    go_ret2
    exact Ret.val rfl (hBB.trans (hB1.mono hBB.size))
  · have hok := put_ok hz
    have hA : Hid (seenR p s l f = (!alikeR p s l (putF l f), 0)) := by unfold seenR; rw [if_neg (by simpa using hz), hok.val]; exact Lib.hid rfl
    rw [hA.out]
    rw [hok.val] at HP
    have hl2 := putF_len l f
    have HK := Lib.hid (fun (w' : World) (B : Option Addr) (d H' : Nat) (hr1 : RdT w' H' A l) (hr2 : RdT w' H' B (putF l f)) (hH' : H' ≤ w'.heap.size) =>
      ralike_any p s A B l (putF l f) c d w' H' hr1 hr2 hH' hok.ok hok.ok2 (ok_len hok.ok hl4) (Nat.le_trans hl2 (ok_len hok.ok hl4)))
    clear hA hz hok
    generalize putF l f = L at *
    generalize alikeR p s l L = T at *
    go_enter Tryz.func7, Tryz.ntmps7
    go_wp2_with (first
      | (go_at_call 16; refine HP.out.mono ?_; rintro e w1 ⟨A1, c1, rfl, hr1, hB1⟩
         have hB2 := hBB.trans (hB1.mono hBB.size)
         have hrl := (hr.below' hB2 hH).more (Nat.le_trans hH hB2.size))
      | (go_at_call 17; refine (HK.out _ A1 c1 _ hrl hr1 (Nat.le_refl _)).mono ?_; rintro e w3 ⟨rfl, hB3⟩)
      | fail)
    go_ret2
    exact Ret.val rfl (hB2.trans (hB3.mono hB2.size))

set_option maxRecDepth 100000 in
set_option maxHeartbeats 4000000 in
theorem rsame_any (p s : Int) (A : Option Addr) (l : List Tri) (c : Nat) (f g : Flt) (w : World) (H : Nat) (hr : RdT w H A l) (hH : H ≤ w.heap.size)
    (hw : ∀ (k : Nat) (hk : k < l.length), l[k].s.size ≤ 9223372036854775807) (hl : l.length ≤ 100000) (hl4 : l.length ≤ 400 ∨ 1000 < l.length) (hlc : l.length ≤ c) :
    Calls Tryz.prog 9 #[.int .i64 p, .int .i64 s, .slice A l.length c, .agg #[.int .i64 f.k, .int .i64 f.st, .int .i64 f.lt, .int .i64 f.wi], .agg #[.int .i64 g.k, .int .i64 g.st, .int .i64 g.lt, .int .i64 g.wi]] w (Ret (.tuple #[.bool (sameR p s l f g).1, .int .i64 (sameR p s l f g).2]) w) := by
  have hBB : Below w.heap.size w ((w.alloc (.cells #[.int .i64 f.k, .int .i64 f.st, .int .i64 f.lt, .int .i64 f.wi] 24)).alloc (.cells #[.int .i64 g.k, .int .i64 g.st, .int .i64 g.lt, .int .i64 g.wi] 24)) := by (repeat' first | exact Below.refl _ _ | apply Below.drew | (refine Below.setCells ?_ _ _ ?_) | (refine Below.setCell ?_ ?_ _) | (refine Below.alloc ?_ ?_ _) | (simp; done) | (simp; omega))
  have kF := (Blk.new w 24 #[.int .i64 f.k, .int .i64 f.st, .int .i64 f.lt, .int .i64 f.wi]).alloc (.cells #[.int .i64 g.k, .int .i64 g.st, .int .i64 g.lt, .int .i64 g.wi] 24)
  have kG := Blk.new (w.alloc (.cells #[.int .i64 f.k, .int .i64 f.st, .int .i64 f.lt, .int .i64 f.wi] 24)) 24 #[.int .i64 g.k, .int .i64 g.st, .int .i64 g.lt, .int .i64 g.wi]
  rw [World.size_alloc] at kG
  have HP := Lib.hid (rPut_any p s A l c f _ H (hr.below' hBB hH) (Nat.le_trans hH hBB.size) hw hl hlc)
  have HG := Lib.hid (fun (w' : World) (hB : Below w.heap.size w w') => rPut_any p s A l c g w' H (hr.below' hB hH) (Nat.le_trans hH hB.size) hw hl hlc)
  have p0 := kF.cell 0 (.int .i64 f.k) rfl
  have p1 := kF.cell 1 (.int .i64 f.st) rfl
  have p2 := kF.cell 2 (.int .i64 f.lt) rfl
  have p3 := kF.cell 3 (.int .i64 f.wi) rfl
  unfold PutRet at HP HG
  obtain ⟨e1, he1⟩ : ∃ e, Hid ((putR p s l f).2 = e) := ⟨_, Lib.hid rfl⟩
  obtain ⟨e2, he2⟩ : ∃ e, Hid ((putR p s l g).2 = e) := ⟨_, Lib.hid rfl⟩
  by_cases h1 : e1 = 0
  rotate_left
  · have hA : Hid (sameR p s l f g = (false, e1)) := by unfold sameR; rw [he1.out, if_pos h1]; exact Lib.hid rfl
    rw [hA.out]
    rw [he1.out] at HP
    clear hA HG
    generalize (putR p s l f).1 = L at *
    have y1 : (e1 == 0) = false := by simpa using h1
    have y2 : (e1 != 0) = true := by simpa using h1
    clear h1
    go_enter Tryz.func9, Tryz.ntmps9
    go_wp2_with (first
      | (go_at_call 16; refine HP.out.mono ?_; rintro e w1 ⟨A1, c1, rfl, hr1, hB1⟩)
      | fail)
    go_ret2
    exact Ret.val rfl (hBB.trans (hB1.mono hBB.size))
  by_cases h2 : e2 = 0
  rotate_left
  · have hA : Hid (sameR p s l f g = (false, e2)) := by unfold sameR; rw [he1.out, he2.out, if_neg (by simpa using h1), if_pos h2]; exact Lib.hid rfl
    rw [hA.out]
    rw [he1.out, h1] at HP
    rw [he2.out] at HG
    clear hA
    generalize (putR p s l f).1 = L at *
    generalize (putR p s l g).1 = M at *
    have y1 : (e2 == 0) = false := by simpa using h2
    have y2 : (e2 != 0) = true := by simpa using h2
    clear h1 h2
    go_enter Tryz.func9, Tryz.ntmps9
    go_wp2_with (first
      | (go_at_call 16; refine HP.out.mono ?_; rintro e w1 ⟨A1, c1, rfl, hr1, hB1⟩
         clear HP
         have hB2 := hBB.trans (hB1.mono hBB.size)
         have kG1 := kG.below' hB1
         have q0 := kG1.cell 0 (.int .i64 g.k) rfl
         have q1 := kG1.cell 1 (.int .i64 g.st) rfl
         have q2 := kG1.cell 2 (.int .i64 g.lt) rfl
         have q3 := kG1.cell 3 (.int .i64 g.wi) rfl)
      | (go_at_call 16; refine (HG.out _ hB2).mono ?_; rintro e w3 ⟨A3, c3, rfl, hr3, hB3⟩)
      | fail)
    go_ret2
    exact Ret.val rfl (hB2.trans (hB3.mono hB2.size))
  have hok := put_ok (he1.out.trans h1)
  have hok2 := put_ok (he2.out.trans h2)
  have hA : Hid (sameR p s l f g = (alikeR p s (putF l f) (putF l g), 0)) := by
    unfold sameR
    rw [hok.val, hok2.val]; exact Lib.hid rfl
  rw [hA.out]
  rw [hok.val] at HP
  rw [hok2.val] at HG
  have hl1 := putF_len l f
  have hl2 := putF_len l g
  have HK := Lib.hid (fun (w' : World) (B D : Option Addr) (b d H' : Nat) (hr1 : RdT w' H' B (putF l f)) (hr2 : RdT w' H' D (putF l g)) (hH' : H' ≤ w'.heap.size) =>
    ralike_any p s B D (putF l f) (putF l g) b d w' H' hr1 hr2 hH' hok.ok2 hok2.ok2 (Nat.le_trans hl1 (ok_len hok.ok hl4)) (Nat.le_trans hl2 (ok_len hok.ok hl4)))
  clear hA h1 h2 hok hok2 he1 he2
  generalize putF l f = L at *
  generalize putF l g = M at *
  generalize alikeR p s L M = T at *
  go_enter Tryz.func9, Tryz.ntmps9
  go_wp2_with (first
    | (go_at_call 16; refine HP.out.mono ?_; rintro e w1 ⟨A1, c1, rfl, hr1, hB1⟩
       clear HP
       have hB2 := hBB.trans (hB1.mono hBB.size)
       have kG1 := kG.below' hB1
       have q0 := kG1.cell 0 (.int .i64 g.k) rfl
       have q1 := kG1.cell 1 (.int .i64 g.st) rfl
       have q2 := kG1.cell 2 (.int .i64 g.lt) rfl
       have q3 := kG1.cell 3 (.int .i64 g.wi) rfl)
    | (go_at_call 16; refine (HG.out _ hB2).mono ?_; rintro e w3 ⟨A3, c3, rfl, hr3, hB3⟩
       have hB4 := hB2.trans (hB3.mono hB2.size)
       have hr5 := (hr1.below' hB3 (Nat.le_refl _)).more hB3.size)
    | (go_at_call 17; refine (HK.out _ A1 A3 c1 c3 _ hr5 hr3 (Nat.le_refl _)).mono ?_; rintro e w9 ⟨rfl, hB9⟩)
    | fail)
  go_ret2
  exact Ret.val rfl (hB4.trans (hB9.mono hB4.size))
end Go.Proofs.YtblifdchofihoaaGreat
