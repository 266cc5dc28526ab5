/- faults: alike, Seen, Same. -/
import Derived.Test.YtfnklchhhojimaaPut3
import Derived.Test.YtfnklchhhojimaaFPlain
import Derived.Test.YtfnklchhhojimaaTrSame
set_option linter.unusedSimpArgs false
set_option linter.unusedVariables false
namespace Go.Proofs.Ytfnklchhhojimaa
open Go Go.RowKit Tor

/-- what valid instructions make is a sheet -/
theorem sheetR_sheet {p s : Int} {l : List Tri} (h : (sheetR p s l).2.2.2 = 0) (hl : l.length ≤ 400) : (sheetR p s l).1 = p ∧ sheetE p (sheetR p s l).2.1 = 0 ∧ ∀ x ∈ (sheetR p s l).2.1, WOk p x := by
  have hi := ins_ok h
  obtain ⟨h1, h2, h3, h4⟩ := sheetR_inv h
  have hw := okS_works l _ _ h3
  rw [h4]
  exact ⟨rfl, sheetE_of hi.p2 hi.p24 (by have : (worksOf l).length ≤ l.length := by unfold worksOf; rw [List.length_map]; exact List.length_filter_le _ _
                                         show (worksOf l).length ≤ 400
                                         omega) hw, hw⟩
theorem plainR_ok {p : Int} {l : List Tri} (h : sheetE p l = 0) : plainR p l = (p, plainL l, 0) := by unfold plainR; rw [if_neg (by simpa using h)]
theorem plain_sheet {p : Int} {l : List Tri} (h : sheetE p l = 0) : sheetE p (plainL l) = 0 := by
  have hw := plain_wok (wok_of h)
  have hl := plainL_len l
  unfold sheetE at h
  split at h
  · cases h
  · rename_i h1
    split at h
    · cases h
    · rename_i h2
      exact sheetE_of (by omega) (by omega) (by omega) hw
theorem words_of {p : Int} {l : List Tri} (h : sheetE p l = 0) : ∀ (k : Nat) (hk : k < l.length), l[k].s.size ≤ 9223372036854775807 := wok_words (wok_of h)

theorem ownRd {w : World} {base : Nat} {e : TypeId} {A : Option Addr} {n c : Nat} {l : List Tri} (h : Own 3 Tri.enc w base e (.slice A n c) l) : RdT w w.heap.size A l := by
  obtain ⟨A', c', e, _, hr⟩ := Own.rd tri_len h
  injection e with e1 _ _
  rw [e1]; exact hr

set_option maxRecDepth 100000 in
set_option maxHeartbeats 4000000 in
theorem alike_any (p s : Int) (A B : Option Addr) (l m : List Tri) (c d : Nat) (w : World) (H : Nat) (hr : RdT w H A l) (hr2 : RdT w H B m) (hH : H ≤ w.heap.size)
    (hok : (sheetR p s l).2.2.2 = 0) (hok2 : (sheetR p s m).2.2.2 = 0) (hl : l.length ≤ 400) (hm : m.length ≤ 400) :
    Calls Try.prog 11 #[.int .i64 p, .int .i64 s, .slice A l.length c, .slice B m.length d] w (Ret (.bool (alikeR p s l m)) w) := by
  have hi1 := ins_ok hok
  have hi2 := ins_ok hok2
  have hw1 : ∀ (k : Nat) (hk : k < l.length), l[k].s.size ≤ 9223372036854775807 := fun k hk => by have := (word_ok (hi1.w k hk)).1; omega
  have hw2 : ∀ (k : Nat) (hk : k < m.length), m[k].s.size ≤ 9223372036854775807 := fun k hk => by have := (word_ok (hi2.w k hk)).1; omega
  have C1 := Lib.hid (fun (w' : World) (hB : Below w.heap.size w w') => csheet_any p s A l c w' H (hr.below' hB hH) (Nat.le_trans hH hB.size) hw1 (by omega))
  have C2 := Lib.hid (fun (w' : World) (hB : Below w.heap.size w w') => csheet_any p s B m d w' H (hr2.below' hB hH) (Nat.le_trans hH hB.size) hw2 (by omega))
  obtain ⟨p1, e1, k1⟩ := sheetR_sheet hok hl
  obtain ⟨p2, e2, k2⟩ := sheetR_sheet hok2 hm
  have hR : Hid (alikeR p s l m = traceB p (plainL (sheetR p s l).2.1) p (plainL (sheetR p s m).2.1)) := by unfold alikeR; rw [p1, p2]; exact Lib.hid rfl
  rw [hR.out]
  have L1 := sheetR_len (p := p) (s := s) (l := l)
  have L2 := sheetR_len (p := p) (s := s) (l := m)
  unfold SheetPost at C1 C2
  rw [p1, hok] at C1
  rw [p2, hok2] at C2
  obtain ⟨i1, hi1'⟩ : ∃ i, Hid ((sheetR p s l).2.2.1 = i) := ⟨_, Lib.hid rfl⟩
  obtain ⟨i2, hi2'⟩ : ∃ i, Hid ((sheetR p s m).2.2.1 = i) := ⟨_, Lib.hid rfl⟩
  rw [hi1'.out] at C1
  rw [hi2'.out] at C2
  clear hi1' hi2' p1 p2 hR hok hok2 hi1 hi2 hw1 hw2
  generalize (sheetR p s l).2.1 = X at *
  generalize (sheetR p s m).2.1 = Y at *
  have P1 := plain_sheet e1
  have P2 := plain_sheet e2
  have R1 := plainR_ok e1
  have R2 := plainR_ok e2
  have W1 := words_of e1
  have W2 := words_of e2
  have V1 := words_of P1
  have V2 := words_of P2
  have N1 := plainL_len X
  have N2 := plainL_len Y
  have D1 := Lib.hid (fun (w' : World) (A' : Option Addr) (c' : Nat) (H' : Nat) (hr : RdT w' H' A' X) (hH : H' ≤ w'.heap.size) => (by have := plain_any p A' X c' w' H' hr hH W1 (by omega); rw [R1] at this; exact this : Calls Try.prog 25 #[.agg #[.int .i64 p, .slice A' X.length c']] w' (PlainPost p (plainL X) 0 w')))
  have D2 := Lib.hid (fun (w' : World) (A' : Option Addr) (c' : Nat) (H' : Nat) (hr : RdT w' H' A' Y) (hH : H' ≤ w'.heap.size) => (by have := plain_any p A' Y c' w' H' hr hH W2 (by omega); rw [R2] at this; exact this : Calls Try.prog 25 #[.agg #[.int .i64 p, .slice A' Y.length c']] w' (PlainPost p (plainL Y) 0 w')))
  have hT : tsameR p (plainL X) p (plainL Y) = (traceB p (plainL X) p (plainL Y), 0) := by unfold tsameR orE; rw [P1, P2]; rfl
  have T1 := Lib.hid (fun (w' : World) (A' B' : Option Addr) (c' d' : Nat) (H' : Nat) (hr : RdT w' H' A' (plainL X)) (hr2 : RdT w' H' B' (plainL Y)) (hH : H' ≤ w'.heap.size) => (by have := tsame_any p p A' B' (plainL X) (plainL Y) c' d' w' H' hr hr2 hH V1 V2 (by omega) (by omega); rw [hT] at this; exact this : Calls Try.prog 26 #[.agg #[.int .i64 p, .slice A' (plainL X).length c'], .agg #[.int .i64 p, .slice B' (plainL Y).length d']] w' (Ret (.tuple #[.bool (traceB p (plainL X) p (plainL Y)), .int .i64 0]) w')))
  clear hT V1 V2 W1 W2 R1 R2 P1 P2 e1 e2 k1 k2
  generalize traceB p (plainL X) p (plainL Y) = T at *
  generalize plainL X = PX at *
  generalize plainL Y = PY at *
  go_enter Try.func11, Try.ntmps11
  go_wp2_with (first
    | (go_at_call 24; refine (C1.out _ (Below.refl _ _)).mono ?_; rintro e w1 ⟨v1, rfl, hX, hB1⟩
       clear C1
       obtain ⟨A1, c1, rfl, _, _⟩ := Own.rd tri_len hX
       have hz1 := hB1.size
       have kX := Blk.new w1 35 #[.int .i64 p, .slice A1 X.length c1]
       have oX := hX.alloc (.cells #[.int .i64 p, .slice A1 X.length c1] 35)
       have hB2 := hB1.alloc hz1 (.cells #[.int .i64 p, .slice A1 X.length c1] 35)
       have hb1 : w1.heap.size < (w1.alloc (.cells #[.int .i64 p, .slice A1 X.length c1] 35)).heap.size := kX.lt)
    | (go_at_call 24; refine (C2.out _ hB2).mono ?_; rintro e w3 ⟨v3, rfl, hY, hB3⟩
       clear C2
       obtain ⟨A3, c3, rfl, _, _⟩ := Own.rd tri_len hY
       have hz3 := hB3.size
       have kX3 := (kX.below' hB3).alloc (.cells #[.int .i64 p, .slice A3 Y.length c3] 35)
       have kY := Blk.new w3 35 #[.int .i64 p, .slice A3 Y.length c3]
       have oX3 := Own.alloc (oX.below hB3) (.cells #[.int .i64 p, .slice A3 Y.length c3] 35)
       have oY3 := hY.alloc (.cells #[.int .i64 p, .slice A3 Y.length c3] 35)
       have hB4 := (hB2.trans (hB3.mono hB2.size)).alloc (hB2.trans (hB3.mono hB2.size)).size (.cells #[.int .i64 p, .slice A3 Y.length c3] 35)
       have x0 := kX3.cell 0 (.int .i64 p) rfl
       have x1 := kX3.cell 1 (.slice A1 X.length c1) rfl
       have xl := kX3.lt
       have hb3 : w3.heap.size < (w3.alloc (.cells #[.int .i64 p, .slice A3 Y.length c3] 35)).heap.size := kY.lt
       have hne13 : w1.heap.size ≠ w3.heap.size := by have := (kX.below' hB3).lt; omega)
    | (go_at_call 25; refine (D1.out _ A1 c1 _ (ownRd oX3) (Nat.le_refl _)).mono ?_; rintro e w5 ⟨v5, rfl, hPX, hB5⟩
       clear D1
       obtain ⟨A5, c5, rfl, _, _⟩ := Own.rd tri_len hPX
       have kX5 := kX3.below' hB5
       have kY5 := kY.below' hB5
       have x0 := kX5.cell 0 (.int .i64 p) rfl
       have x1 := kX5.cell 1 (.slice A1 X.length c1) rfl
       have fx0 := kX5.frozen 0
       have fx1 := kX5.frozen 1
       have xl5 := kX5.lt
       have kX6 := (kX5.set_ 0 (.int .i64 p)).set_ 1 (.slice A5 PX.length c5)
       have kY6 := (kY5.far (p := ⟨w1.heap.size, 0, none⟩) (Ne.symm hne13) (.int .i64 p)).far (p := ⟨w1.heap.size, 1, none⟩) (Ne.symm hne13) (.slice A5 PX.length c5)
       have oY6 := Own.far (Own.far (oY3.below hB5) (p := ⟨w1.heap.size, 0, none⟩) hb1 (.int .i64 p)) (p := ⟨w1.heap.size, 1, none⟩) hb1 (.slice A5 PX.length c5)
       have oP6 := Own.far (Own.far hPX (p := ⟨w1.heap.size, 0, none⟩) xl (.int .i64 p)) (p := ⟨w1.heap.size, 1, none⟩) xl (.slice A5 PX.length c5)
       have hB6 := ((hB4.trans (hB5.mono hB4.size)).setCell (p := ⟨w1.heap.size, 0, none⟩) hz1 (.int .i64 p)).setCell (p := ⟨w1.heap.size, 1, none⟩) hz1 (.slice A5 PX.length c5)
       have y0 := kY6.cell 0 (.int .i64 p) rfl
       have y1 := kY6.cell 1 (.slice A3 Y.length c3) rfl)
    | (go_at_call 25; refine (D2.out _ A3 c3 _ (ownRd oY6) (Nat.le_refl _)).mono ?_; rintro e w7 ⟨v7, rfl, hPY, hB7⟩
       clear D2
       obtain ⟨A7, c7, rfl, _, _⟩ := Own.rd tri_len hPY
       have kX7 := kX6.below' hB7
       have kY7 := kY6.below' hB7
       have y0 := kY7.cell 0 (.int .i64 p) rfl
       have y1 := kY7.cell 1 (.slice A3 Y.length c3) rfl
       have fy0 := kY7.frozen 0
       have fy1 := kY7.frozen 1
       have yl7 := kY7.lt
       have kX8 := (kX7.far (p := ⟨w3.heap.size, 0, none⟩) hne13 (.int .i64 p)).far (p := ⟨w3.heap.size, 1, none⟩) hne13 (.slice A7 PY.length c7)
       have kY8 := (kY7.set_ 0 (.int .i64 p)).set_ 1 (.slice A7 PY.length c7)
       have oP8 := Own.far (Own.far (oP6.below hB7) (p := ⟨w3.heap.size, 0, none⟩) hb3 (.int .i64 p)) (p := ⟨w3.heap.size, 1, none⟩) hb3 (.slice A7 PY.length c7)
       have oQ8 := Own.far (Own.far hPY (p := ⟨w3.heap.size, 0, none⟩) (lt_of_cell (kY6.cell 0 (.int .i64 p) rfl)) (.int .i64 p)) (p := ⟨w3.heap.size, 1, none⟩) (lt_of_cell (kY6.cell 0 (.int .i64 p) rfl)) (.slice A7 PY.length c7)
       have hzw3 : w.heap.size ≤ w3.heap.size := (hB2.trans (hB3.mono hB2.size)).size
       have hB8 := ((hB6.trans (hB7.mono hB6.size)).setCell (p := ⟨w3.heap.size, 0, none⟩) hzw3 (.int .i64 p)).setCell (p := ⟨w3.heap.size, 1, none⟩) hzw3 (.slice A7 PY.length c7)
       have x0 := kX8.cell 0 (.int .i64 p) rfl
       have x1 := kX8.cell 1 (.slice A5 PX.length c5) rfl
       have y0 := kY8.cell 0 (.int .i64 p) rfl
       have y1 := kY8.cell 1 (.slice A7 PY.length c7) rfl)
    | (go_at_call 26; refine (T1.out _ A5 A7 c5 c7 _ (ownRd oP8) (ownRd oQ8) (Nat.le_refl _)).mono ?_; rintro e w9 ⟨rfl, hB9⟩)
    | fail)
  go_ret
  exact Ret.val rfl (hB8.trans (hB9.mono hB8.size))
end Go.Proofs.Ytfnklchhhojimaa
