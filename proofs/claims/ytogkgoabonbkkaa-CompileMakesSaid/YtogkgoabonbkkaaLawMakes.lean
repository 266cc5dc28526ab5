/- The law CompileMakes, walked. -/
import Derived.Test.YtogkgoabonbkkaaSame5
set_option linter.unusedSimpArgs false
set_option linter.unusedVariables false
namespace Go.Proofs.Ytogkgoabonbkkaa
open Go Go.RowKit Tor

theorem _root_.Tor.Own.rdT {w : World} {base : Nat} {e : TypeId} {A : Option Addr} {n c : Nat} {l : List Tri} (h : Own 3 Tri.enc w base e (.slice A n c) l) : RdT w w.heap.size A l := by
  obtain ⟨A', c', e, _, hr⟩ := Own.rd tri_len h
  injection e with e1 _ _
  rw [e1]; exact hr
theorem chk_of {P S : Int} {l : List Tri} (h1 : sheetE P l = 0) (h2 : handsE P S = 0) : chkE P l S = 0 := by
  unfold handsE at h2
  split at h2
  · rename_i h
    unfold chkE
    rw [if_pos h1, if_pos h.2.2]
  · cases h2
set_option maxRecDepth 100000 in
theorem lawMakes_bad (P S : Int) (A : Option Addr) (l : List Tri) (c : Nat) (w : World) (H : Nat) (hr : RdT w H A l) (hH : H ≤ w.heap.size)
    (hw : ∀ (k : Nat) (hk : k < l.length), l[k].s.size ≤ 9223372036854775807) (hl : l.length ≤ 9223372036854775807) (he : sheetE P l ≠ 0) :
    Calls Try.prog 5 #[.agg #[.int .i64 P, .slice A l.length c], .int .i64 S] w (Ret (.bool true) w) := by
  have HW := Lib.hid hw
  have HRB := Lib.hid (show ∀ w', Below w.heap.size w w' → RdT w' H A l from fun w' hB => hr.below' hB hH)
  have hB0 : Below w.heap.size w (w.alloc (.cells #[.int .i64 P, .slice A l.length c] 24)) := by (repeat' first | exact Below.refl _ _ | apply Below.drew | (refine Below.setCells ?_ _ _ ?_) | (refine Below.setCell ?_ ?_ _) | (refine Below.alloc ?_ ?_ _) | (simp; done) | (simp; omega))
  have kS := Blk.new w 24 #[.int .i64 P, .slice A l.length c]
  obtain ⟨E, HE⟩ : ∃ E, Hid (sheetE P l = E) := ⟨_, Lib.hid rfl⟩
  rw [HE.out] at he
  have t1 : (E != 0) = true := by simp [he]
  clear hw hr he
  go_enter Try.func5, Try.ntmps5
  go_wp2_with (first
    | (go_at_call 17; refine (sheetRef_any P A l c _ H (HRB.out _ hB0) (Nat.le_trans hH hB0.size) HW.out hl).mono ?_; rintro e w1 ⟨rfl, hB1⟩; rw [HE.out]
       have kS1 := kS.below' hB1
       have a0 := kS1.cell 0 _ rfl
       have a1 := kS1.cell 1 _ rfl
       have a2 := kS1.lt
       have hB1' := hB0.trans (hB1.mono hB0.size))
    | (go_at_call 11; refine (awake_any _).mono ?_; rintro e w9 ⟨rfl, hB9⟩))
  go_ret
  exact Ret.bool rfl (hB1'.trans (hB9.mono hB1'.size))
set_option maxRecDepth 100000 in
theorem lawMakes_long (P S : Int) (A : Option Addr) (l : List Tri) (c : Nat) (w : World) (H : Nat) (hr : RdT w H A l) (hH : H ≤ w.heap.size)
    (hw : ∀ (k : Nat) (hk : k < l.length), l[k].s.size ≤ 9223372036854775807) (hl : l.length ≤ 9223372036854775807) (he : sheetE P l = 0) (h60 : 60 < l.length) :
    Calls Try.prog 5 #[.agg #[.int .i64 P, .slice A l.length c], .int .i64 S] w (Ret (.bool true) w) := by
  have HW := Lib.hid hw
  have HRB := Lib.hid (show ∀ w', Below w.heap.size w w' → RdT w' H A l from fun w' hB => hr.below' hB hH)
  have hB0 : Below w.heap.size w (w.alloc (.cells #[.int .i64 P, .slice A l.length c] 24)) := by (repeat' first | exact Below.refl _ _ | apply Below.drew | (refine Below.setCells ?_ _ _ ?_) | (refine Below.setCell ?_ ?_ _) | (refine Below.alloc ?_ ?_ _) | (simp; done) | (simp; omega))
  have kS := Blk.new w 24 #[.int .i64 P, .slice A l.length c]
  have HE := Lib.hid he
  have t1 : (60 : Int) < (l.length : Int) := by omega
  clear hw hr he h60
  go_enter Try.func5, Try.ntmps5
  go_wp2_with (first
    | (go_at_call 17; refine (sheetRef_any P A l c _ H (HRB.out _ hB0) (Nat.le_trans hH hB0.size) HW.out hl).mono ?_; rintro e w1 ⟨rfl, hB1⟩; rw [HE.out]
       have kS1 := kS.below' hB1
       have a0 := kS1.cell 0 _ rfl
       have a1 := kS1.cell 1 _ rfl
       have a2 := kS1.lt
       have hB1' := hB0.trans (hB1.mono hB0.size))
    | (go_at_call 11; refine (awake_any _).mono ?_; rintro e w9 ⟨rfl, hB9⟩))
  go_ret
  exact Ret.bool rfl (hB1'.trans (hB9.mono hB1'.size))
set_option maxRecDepth 100000 in
theorem lawMakes_hands (P S : Int) (A : Option Addr) (l : List Tri) (c : Nat) (w : World) (H : Nat) (hr : RdT w H A l) (hH : H ≤ w.heap.size)
    (hw : ∀ (k : Nat) (hk : k < l.length), l[k].s.size ≤ 9223372036854775807) (hl : l.length ≤ 9223372036854775807) (he : sheetE P l = 0) (h60 : l.length ≤ 60) (hh : handsE P S ≠ 0) :
    Calls Try.prog 5 #[.agg #[.int .i64 P, .slice A l.length c], .int .i64 S] w (Ret (.bool true) w) := by
  have HW := Lib.hid hw
  have HRB := Lib.hid (show ∀ w', Below w.heap.size w w' → RdT w' H A l from fun w' hB => hr.below' hB hH)
  have hB0 : Below w.heap.size w (w.alloc (.cells #[.int .i64 P, .slice A l.length c] 24)) := by (repeat' first | exact Below.refl _ _ | apply Below.drew | (refine Below.setCells ?_ _ _ ?_) | (refine Below.setCell ?_ ?_ _) | (refine Below.alloc ?_ ?_ _) | (simp; done) | (simp; omega))
  have kS := Blk.new w 24 #[.int .i64 P, .slice A l.length c]
  have HE := Lib.hid he
  have t1 : ¬ (60 : Int) < (l.length : Int) := by omega
  obtain ⟨E, HH⟩ : ∃ E, Hid (handsE P S = E) := ⟨_, Lib.hid rfl⟩
  rw [HH.out] at hh
  have t2 : (E != 0) = true := by simp [hh]
  clear hw hr he h60 hh
  go_enter Try.func5, Try.ntmps5
  go_wp2_with (first
    | (go_at_call 17; refine (sheetRef_any P A l c _ H (HRB.out _ hB0) (Nat.le_trans hH hB0.size) HW.out hl).mono ?_; rintro e w1 ⟨rfl, hB1⟩; rw [HE.out]
       have kS1 := kS.below' hB1
       have a0 := kS1.cell 0 _ rfl
       have a1 := kS1.cell 1 _ rfl
       have a2 := kS1.lt
       have hB1' := hB0.trans (hB1.mono hB0.size))
    | (go_at_call 18; refine (hands_any P S _).mono ?_; rintro e w2 ⟨rfl, hB2⟩; rw [HH.out]
       have kS2 := kS1.below' hB2
       have b0 := kS2.cell 0 _ rfl
       have b1 := kS2.cell 1 _ rfl
       have b2 := kS2.lt
       have hB2' := hB1'.trans (hB2.mono hB1'.size))
    | (go_at_call 11; refine (awake_any _).mono ?_; rintro e w9 ⟨rfl, hB9⟩))
  go_ret
  exact Ret.bool rfl (hB2'.trans (hB9.mono hB2'.size))
set_option maxRecDepth 100000 in
set_option maxHeartbeats 2000000 in
theorem lawMakes_main_long (P S : Int) (A : Option Addr) (l : List Tri) (c : Nat) (w : World) (H : Nat) (hr : RdT w H A l) (hH : H ≤ w.heap.size)
    (hw : ∀ (k : Nat) (hk : k < l.length), l[k].s.size ≤ 9223372036854775807) (hl : l.length ≤ 9223372036854775807) (he : sheetE P l = 0) (h60 : l.length ≤ 60) (hh : handsE P S = 0) (hlc : l.length ≤ c) (h10 : 10 < l.length) :
    Calls Try.prog 5 #[.agg #[.int .i64 P, .slice A l.length c], .int .i64 S] w (Ret (.bool true) w) := by
  have HW := Lib.hid hw
  have HRB := Lib.hid (show ∀ w', Below w.heap.size w w' → RdT w' H A l from fun w' hB => hr.below' hB hH)
  have hB0 : Below w.heap.size w (w.alloc (.cells #[.int .i64 P, .slice A l.length c] 24)) := by (repeat' first | exact Below.refl _ _ | apply Below.drew | (refine Below.setCells ?_ _ _ ?_) | (refine Below.setCell ?_ ?_ _) | (refine Below.alloc ?_ ?_ _) | (simp; done) | (simp; omega))
  have kS := Blk.new w 24 #[.int .i64 P, .slice A l.length c]
  have HE := Lib.hid he
  have HH := Lib.hid hh
  have t1 : ¬ (60 : Int) < (l.length : Int) := by omega
  have hchk := chk_of he hh
  have g := good_of hchk
  have g1 := g.b1
  have g2 := g.b2
  have g3 := g.b3
  obtain ⟨p, rfl⟩ : ∃ p : Nat, P = p := ⟨P.toNat, by omega⟩
  obtain ⟨s, rfl⟩ : ∃ s : Nat, S = s := ⟨S.toNat, by omega⟩
  have hwk := wok_of he
  have HK := Lib.hid hwk
  have HC := Lib.hid hchk
  have hlt60 : l.length ≤ 60 := h60
  -- Steps
  have o1 := Lib.hid (rst_ok (p := (p : Int)) (s := (s : Int)) g1 g2 l (-1) 0 hwk (by omega))
  have o2 := Lib.hid (rst_works (p := (p : Int)) (s := (s : Int)) l (-1) hwk)
  have o3 := rst_len (p : Int) (s : Int) l (-1)
  have o4 := Lib.hid (fun (w' : World) (hB : Below w.heap.size w w') => cSteps_ins p s A l c w' H (HRB.out w' hB) (Nat.le_trans hH hB.size) hwk hchk)
  generalize rst (p : Int) (s : Int) l (-1) = L1 at o1 o2 o3 o4
  -- Quick
  have q0 := rq_ok (l := l) (P := p) (S := s) (by omega) (by omega) (by omega) hwk (by omega) (2 * l.length + 1) [] (-1) List.nodup_nil (by simp)
  have q1 := Lib.hid q0.1
  have q2 := Lib.hid q0.2
  have q3 := rq_len l p s (2 * l.length + 1) [] (-1)
  have q4 := Lib.hid (fun (w' : World) (hB : Below w.heap.size w w') => cQuick_ins p s A l c w' H (HRB.out w' hB) (Nat.le_trans hH hB.size) hwk hchk)
  have q5 := rqo_lin (l := l) (P := p) (S := s) (by omega) (by omega) (by omega) (wok_b hwk) (2 * l.length + 1) [] (-1) List.nodup_nil (by simp)
  have q6 := Lib.hid q5.1
  have q7 := Lib.hid (q5.2 (by left; split <;> simp))
  clear q0 q5
  generalize rq l p s (2 * l.length + 1) [] (-1) = L2 at q1 q2 q3 q4
  generalize rqo l p s (2 * l.length + 1) [] (-1) = O2 at q2 q6 q7
  obtain ⟨M2, HM2⟩ : ∃ M2, Hid (M2 = O2.map (xAt l)) := ⟨_, Lib.hid rfl⟩
  have q8 : M2.length = l.length := by rw [HM2.out, List.length_map]; simpa using q7.out
  have p4 := Lib.hid (fun (w' : World) (hB : Below w.heap.size w w') => cBest_long p s A l c w' H (HRB.out w' hB) (Nat.le_trans hH hB.size) hw hchk hl h10)
  have t10 : (10 : Int) < (l.length : Int) := by omega
  clear h10
  have Q8 := Lib.hid q8
  have hM2s : M2.length ≤ 60 := by omega
  clear hw hr he hh hchk hwk g q8 h60
  go_enter Try.func5, Try.ntmps5
  go_wp2_with (first
    | (go_at_call 17; refine (sheetRef_any p A l c _ H (HRB.out _ hB0) (Nat.le_trans hH hB0.size) HW.out hl).mono ?_; rintro e w1 ⟨rfl, hB1⟩; rw [HE.out]
       have kS1 := kS.below' hB1
       have a0 := kS1.cell 0 _ rfl
       have a1 := kS1.cell 1 _ rfl
       have a2 := kS1.lt
       have hB1' := hB0.trans (hB1.mono hB0.size))
    | (go_at_call 18; refine (hands_any p s _).mono ?_; rintro e w2 ⟨rfl, hB2⟩; rw [HH.out]
       have kS2 := kS1.below' hB2
       have b0 := kS2.cell 0 _ rfl
       have b1 := kS2.cell 1 _ rfl
       have b2 := kS2.lt
       have hB2' := hB1'.trans (hB2.mono hB1'.size))
    | (go_at_call 19; refine (o4.out _ hB2').mono ?_; rintro e w3 ⟨A3, c3, rfl, hd3, hB3⟩
       have kS3 := kS2.below' hB3
       have d0 := kS3.cell 0 _ rfl
       have d1 := kS3.cell 1 _ rfl
       have d2 := kS3.lt
       have hB3' := hB2'.trans (hB3.mono hB2'.size)
       have hz3 := hB3'.size)
    | (go_at_call 20; refine (rsheet_ok p s A3 L1 l c3 w3 _ hd3 (Nat.le_refl _) HH.out (by omega) o1.out o2.out).mono ?_; rintro e w4 ⟨A4, c4, rfl, hown4, hc4, hB4⟩
       have hB4' := hB3'.trans (hB4.mono hB3'.size)
       have hz4 := hB4'.size
       have hzz4 := hB4.size
       have kS4 := (kS3.below' hB4).alloc (.cells #[.int .i64 p, .slice A4 l.length c4] 24)
       have e0 := kS4.cell 0 _ rfl
       have e1 := kS4.cell 1 _ rfl
       have e2 := kS4.lt
       have hown4a := hown4.alloc (.cells #[.int .i64 p, .slice A4 l.length c4] 24)
       have hBX : Below w.heap.size w (w4.alloc (.cells #[.int .i64 p, .slice A4 l.length c4] 24)) := hB4'.alloc hz4 _
       have kX := Blk.new w4 24 #[.int .i64 p, .slice A4 l.length c4]
       have hX : w4.heap.size < (w4.alloc (.cells #[.int .i64 p, .slice A4 l.length c4] 24)).heap.size := kX.lt
       generalize hW4 : w4.alloc (.cells #[.int .i64 p, .slice A4 l.length c4] 24) = W4 at *
       have hzX := hBX.size
       have x0 := kX.cell 0 _ rfl
       have x1 := kX.cell 1 _ rfl
       clear o1 o2)
    | (go_at_call 21; refine (same_eq A A4 l p c c4 W4 W4.heap.size (by omega) ((HRB.out _ hBX).more (by omega)) hown4a.rdT (Nat.le_refl _)).mono ?_; rintro e w5 ⟨rfl, hB5⟩
       have kS5 := kS4.below' hB5
       have kX5 := kX.below' hB5
       have f0 := kS5.cell 0 _ rfl
       have f1 := kS5.cell 1 _ rfl
       have f2 := kS5.lt
       have hB5' := hBX.trans (hB5.mono hzX)
       have hz5 := hB5'.size)
    | (go_at_call 12; refine (q4.out _ hB5').mono ?_; rintro e w6 ⟨A6, c6, rfl, hd6, hB6⟩
       have kS6 := kS5.below' hB6
       have kX6 := kX5.below' hB6
       have g0 := kS6.cell 0 _ rfl
       have g1' := kS6.cell 1 _ rfl
       have g2' := kS6.lt
       have hB6' := hB5'.trans (hB6.mono hz5)
       have hz6 := hB6'.size
       have hl6 := kX6.lt)
    | (go_at_call 20; refine (rsheet_ok p s A6 L2 M2 c6 w6 _ hd6 (Nat.le_refl _) HH.out (by omega) q1.out (by rw [q2.out, HM2.out])).mono ?_; rintro e w7 ⟨A7, c7, rfl, hown7, hc7, hB7⟩
       have kX7 := kX6.below' hB7
       have kS7 := kS6.below' hB7
       have i0 := kX7.cell 0 _ rfl
       have i1 := kX7.cell 1 _ rfl
       have i2 := kX7.lt
       have i3 := kX7.frozen 0
       have i4 := kX7.frozen 1
       have hne7 : w.heap.size ≠ w4.heap.size := by omega
       have hB7' := hB6'.trans (hB7.mono hz6)
       have hB7x := (hB7'.setCell (p := ⟨w4.heap.size, 0, none⟩) hz4 (.int .i64 p)).setCell (p := ⟨w4.heap.size, 1, none⟩) hz4 (.slice A7 M2.length c7)
       have kS7x := (kS7.far (p := ⟨w4.heap.size, 0, none⟩) hne7 (.int .i64 p)).far (p := ⟨w4.heap.size, 1, none⟩) hne7 (.slice A7 M2.length c7)
       have kX7x := (kX7.set_ 0 (.int .i64 p)).set_ 1 (.slice A7 M2.length c7)
       have hown7x : Own 3 Tri.enc ((w7.setCell ⟨w4.heap.size, 0, none⟩ (.int .i64 p)).setCell ⟨w4.heap.size, 1, none⟩ (.slice A7 M2.length c7)) w6.heap.size 57 (.slice A7 M2.length c7) M2 := ownsRow_setCell_below (ownsRow_setCell_below hown7 (a := ⟨w4.heap.size, 0, none⟩) (by show w4.heap.size < _; omega) (.int .i64 p)) (a := ⟨w4.heap.size, 1, none⟩) (by show w4.heap.size < _; omega) (.slice A7 M2.length c7)
       generalize hW7 : (w7.setCell ⟨w4.heap.size, 0, none⟩ (.int .i64 p)).setCell ⟨w4.heap.size, 1, none⟩ (.slice A7 M2.length c7) = W7 at *
       have j0 := kS7x.cell 0 _ rfl
       have j1 := kS7x.cell 1 _ rfl
       have j2 := kS7x.lt
       have k0' := kX7x.cell 0 (.int .i64 p) rfl
       have k1' := kX7x.cell 1 (.slice A7 M2.length c7) rfl
       have k2' := kX7x.lt
       have hz7 := hB7x.size
       clear q1 q2)
    | (go_at_call 22; refine (same05_any p A l c A7 O2 M2 c7 W7 W7.heap.size HM2.out ((HRB.out _ hB7x).more (by omega)) hown7x.rdT (Nat.le_refl _) HK.out (by omega) g3 (by omega) q6.out (by rw [← List.length_map (f := xAt l), ← HM2.out]; exact Q8.out)).mono ?_; rintro e w8 ⟨rfl, hB8⟩
       have kS8 := kS7x.below' hB8
       have kX8 := kX7x.below' hB8
       have m0 := kS8.cell 0 _ rfl
       have m1 := kS8.cell 1 _ rfl
       have m2 := kS8.lt
       have hB8' := hB7x.trans (hB8.mono hz7)
       have hz8 := hB8'.size
       clear q6)
    | (go_at_call 15; refine (p4.out _ hB8').mono ?_; rintro e w10 ⟨rfl, hB10⟩
       have kS10 := kS8.below' hB10
       have n0 := kS10.cell 0 _ rfl
       have n1 := kS10.cell 1 _ rfl
       have n2 := kS10.lt
       have hB10' := hB8'.trans (hB10.mono hz8)
       have hz10 := hB10'.size)
    | (go_at_call 11; refine (awake_any _).mono ?_; rintro e w9 ⟨rfl, hB9⟩))
  go_ret
  exact Ret.bool rfl (hB10'.trans (hB9.mono hz10))
set_option maxRecDepth 100000 in
set_option maxHeartbeats 2000000 in
theorem lawMakes_main_short (P S : Int) (A : Option Addr) (l : List Tri) (c : Nat) (w : World) (H : Nat) (hr : RdT w H A l) (hH : H ≤ w.heap.size)
    (hw : ∀ (k : Nat) (hk : k < l.length), l[k].s.size ≤ 9223372036854775807) (hl : l.length ≤ 9223372036854775807) (he : sheetE P l = 0) (h60 : l.length ≤ 60) (hh : handsE P S = 0) (hlc : l.length ≤ c) (h10 : l.length ≤ 10) :
    Calls Try.prog 5 #[.agg #[.int .i64 P, .slice A l.length c], .int .i64 S] w (Ret (.bool true) w) := by
  have HW := Lib.hid hw
  have HRB := Lib.hid (show ∀ w', Below w.heap.size w w' → RdT w' H A l from fun w' hB => hr.below' hB hH)
  have hB0 : Below w.heap.size w (w.alloc (.cells #[.int .i64 P, .slice A l.length c] 24)) := by (repeat' first | exact Below.refl _ _ | apply Below.drew | (refine Below.setCells ?_ _ _ ?_) | (refine Below.setCell ?_ ?_ _) | (refine Below.alloc ?_ ?_ _) | (simp; done) | (simp; omega))
  have kS := Blk.new w 24 #[.int .i64 P, .slice A l.length c]
  have HE := Lib.hid he
  have HH := Lib.hid hh
  have t1 : ¬ (60 : Int) < (l.length : Int) := by omega
  have hchk := chk_of he hh
  have g := good_of hchk
  have g1 := g.b1
  have g2 := g.b2
  have g3 := g.b3
  obtain ⟨p, rfl⟩ : ∃ p : Nat, P = p := ⟨P.toNat, by omega⟩
  obtain ⟨s, rfl⟩ : ∃ s : Nat, S = s := ⟨S.toNat, by omega⟩
  have hwk := wok_of he
  have HK := Lib.hid hwk
  have HC := Lib.hid hchk
  have hlt60 : l.length ≤ 60 := h60
  -- Steps
  have o1 := Lib.hid (rst_ok (p := (p : Int)) (s := (s : Int)) g1 g2 l (-1) 0 hwk (by omega))
  have o2 := Lib.hid (rst_works (p := (p : Int)) (s := (s : Int)) l (-1) hwk)
  have o3 := rst_len (p : Int) (s : Int) l (-1)
  have o4 := Lib.hid (fun (w' : World) (hB : Below w.heap.size w w') => cSteps_ins p s A l c w' H (HRB.out w' hB) (Nat.le_trans hH hB.size) hwk hchk)
  generalize rst (p : Int) (s : Int) l (-1) = L1 at o1 o2 o3 o4
  -- Quick
  have q0 := rq_ok (l := l) (P := p) (S := s) (by omega) (by omega) (by omega) hwk (by omega) (2 * l.length + 1) [] (-1) List.nodup_nil (by simp)
  have q1 := Lib.hid q0.1
  have q2 := Lib.hid q0.2
  have q3 := rq_len l p s (2 * l.length + 1) [] (-1)
  have q4 := Lib.hid (fun (w' : World) (hB : Below w.heap.size w w') => cQuick_ins p s A l c w' H (HRB.out w' hB) (Nat.le_trans hH hB.size) hwk hchk)
  have q5 := rqo_lin (l := l) (P := p) (S := s) (by omega) (by omega) (by omega) (wok_b hwk) (2 * l.length + 1) [] (-1) List.nodup_nil (by simp)
  have q6 := Lib.hid q5.1
  have q7 := Lib.hid (q5.2 (by left; split <;> simp))
  clear q0 q5
  generalize rq l p s (2 * l.length + 1) [] (-1) = L2 at q1 q2 q3 q4
  generalize rqo l p s (2 * l.length + 1) [] (-1) = O2 at q2 q6 q7
  obtain ⟨M2, HM2⟩ : ∃ M2, Hid (M2 = O2.map (xAt l)) := ⟨_, Lib.hid rfl⟩
  have q8 : M2.length = l.length := by rw [HM2.out, List.length_map]; simpa using q7.out
  have p0 := bestO_lin (p := (p : Int)) (s := (s : Int)) (l := l) h10
  have p1 := Lib.hid (rst_ok (p := (p : Int)) (s := (s : Int)) g1 g2 ((bestO p s l).map (xAt l)) (-1) 0 (lin_wok hwk p0.1) (by rw [List.length_map, p0.2]; omega))
  have p2 := Lib.hid (rst_works (p := (p : Int)) (s := (s : Int)) ((bestO p s l).map (xAt l)) (-1) (lin_wok hwk p0.1))
  have p3 := rst_len (p : Int) (s : Int) ((bestO p s l).map (xAt l)) (-1)
  have p4 := Lib.hid (fun (w' : World) (hB : Below w.heap.size w w') => cBest_ins p s A l c w' H (HRB.out w' hB) (Nat.le_trans hH hB.size) hwk hchk h10 hlc)
  rw [List.length_map, p0.2] at p3
  have p6 := Lib.hid p0.1
  have p7 := Lib.hid p0.2
  clear p0
  generalize rst (p : Int) (s : Int) ((bestO p s l).map (xAt l)) (-1) = L3 at p1 p2 p3 p4
  generalize bestO (p : Int) (s : Int) l = O3 at p2 p6 p7
  obtain ⟨M3, HM3⟩ : ∃ M3, Hid (M3 = O3.map (xAt l)) := ⟨_, Lib.hid rfl⟩
  have p8 : M3.length = l.length := by rw [HM3.out, List.length_map]; exact p7.out
  have P8 := Lib.hid p8
  have hM3s : M3.length ≤ 60 := by omega
  have t10 : ¬ (10 : Int) < (l.length : Int) := by omega
  clear h10 p8
  have Q8 := Lib.hid q8
  have hM2s : M2.length ≤ 60 := by omega
  clear hw hr he hh hchk hwk g q8 h60
  go_enter Try.func5, Try.ntmps5
  go_wp2_with (first
    | (go_at_call 17; refine (sheetRef_any p A l c _ H (HRB.out _ hB0) (Nat.le_trans hH hB0.size) HW.out hl).mono ?_; rintro e w1 ⟨rfl, hB1⟩; rw [HE.out]
       have kS1 := kS.below' hB1
       have a0 := kS1.cell 0 _ rfl
       have a1 := kS1.cell 1 _ rfl
       have a2 := kS1.lt
       have hB1' := hB0.trans (hB1.mono hB0.size))
    | (go_at_call 18; refine (hands_any p s _).mono ?_; rintro e w2 ⟨rfl, hB2⟩; rw [HH.out]
       have kS2 := kS1.below' hB2
       have b0 := kS2.cell 0 _ rfl
       have b1 := kS2.cell 1 _ rfl
       have b2 := kS2.lt
       have hB2' := hB1'.trans (hB2.mono hB1'.size))
    | (go_at_call 19; refine (o4.out _ hB2').mono ?_; rintro e w3 ⟨A3, c3, rfl, hd3, hB3⟩
       have kS3 := kS2.below' hB3
       have d0 := kS3.cell 0 _ rfl
       have d1 := kS3.cell 1 _ rfl
       have d2 := kS3.lt
       have hB3' := hB2'.trans (hB3.mono hB2'.size)
       have hz3 := hB3'.size)
    | (go_at_call 20; refine (rsheet_ok p s A3 L1 l c3 w3 _ hd3 (Nat.le_refl _) HH.out (by omega) o1.out o2.out).mono ?_; rintro e w4 ⟨A4, c4, rfl, hown4, hc4, hB4⟩
       have hB4' := hB3'.trans (hB4.mono hB3'.size)
       have hz4 := hB4'.size
       have hzz4 := hB4.size
       have kS4 := (kS3.below' hB4).alloc (.cells #[.int .i64 p, .slice A4 l.length c4] 24)
       have e0 := kS4.cell 0 _ rfl
       have e1 := kS4.cell 1 _ rfl
       have e2 := kS4.lt
       have hown4a := hown4.alloc (.cells #[.int .i64 p, .slice A4 l.length c4] 24)
       have hBX : Below w.heap.size w (w4.alloc (.cells #[.int .i64 p, .slice A4 l.length c4] 24)) := hB4'.alloc hz4 _
       have kX := Blk.new w4 24 #[.int .i64 p, .slice A4 l.length c4]
       have hX : w4.heap.size < (w4.alloc (.cells #[.int .i64 p, .slice A4 l.length c4] 24)).heap.size := kX.lt
       generalize hW4 : w4.alloc (.cells #[.int .i64 p, .slice A4 l.length c4] 24) = W4 at *
       have hzX := hBX.size
       have x0 := kX.cell 0 _ rfl
       have x1 := kX.cell 1 _ rfl
       clear o1 o2)
    | (go_at_call 21; refine (same_eq A A4 l p c c4 W4 W4.heap.size (by omega) ((HRB.out _ hBX).more (by omega)) hown4a.rdT (Nat.le_refl _)).mono ?_; rintro e w5 ⟨rfl, hB5⟩
       have kS5 := kS4.below' hB5
       have kX5 := kX.below' hB5
       have f0 := kS5.cell 0 _ rfl
       have f1 := kS5.cell 1 _ rfl
       have f2 := kS5.lt
       have hB5' := hBX.trans (hB5.mono hzX)
       have hz5 := hB5'.size)
    | (go_at_call 12; refine (q4.out _ hB5').mono ?_; rintro e w6 ⟨A6, c6, rfl, hd6, hB6⟩
       have kS6 := kS5.below' hB6
       have kX6 := kX5.below' hB6
       have g0 := kS6.cell 0 _ rfl
       have g1' := kS6.cell 1 _ rfl
       have g2' := kS6.lt
       have hB6' := hB5'.trans (hB6.mono hz5)
       have hz6 := hB6'.size
       have hl6 := kX6.lt)
    | (go_at_call 20; refine (rsheet_ok p s A6 L2 M2 c6 w6 _ hd6 (Nat.le_refl _) HH.out (by omega) q1.out (by rw [q2.out, HM2.out])).mono ?_; rintro e w7 ⟨A7, c7, rfl, hown7, hc7, hB7⟩
       have kX7 := kX6.below' hB7
       have kS7 := kS6.below' hB7
       have i0 := kX7.cell 0 _ rfl
       have i1 := kX7.cell 1 _ rfl
       have i2 := kX7.lt
       have i3 := kX7.frozen 0
       have i4 := kX7.frozen 1
       have hne7 : w.heap.size ≠ w4.heap.size := by omega
       have hB7' := hB6'.trans (hB7.mono hz6)
       have hB7x := (hB7'.setCell (p := ⟨w4.heap.size, 0, none⟩) hz4 (.int .i64 p)).setCell (p := ⟨w4.heap.size, 1, none⟩) hz4 (.slice A7 M2.length c7)
       have kS7x := (kS7.far (p := ⟨w4.heap.size, 0, none⟩) hne7 (.int .i64 p)).far (p := ⟨w4.heap.size, 1, none⟩) hne7 (.slice A7 M2.length c7)
       have kX7x := (kX7.set_ 0 (.int .i64 p)).set_ 1 (.slice A7 M2.length c7)
       have hown7x : Own 3 Tri.enc ((w7.setCell ⟨w4.heap.size, 0, none⟩ (.int .i64 p)).setCell ⟨w4.heap.size, 1, none⟩ (.slice A7 M2.length c7)) w6.heap.size 57 (.slice A7 M2.length c7) M2 := ownsRow_setCell_below (ownsRow_setCell_below hown7 (a := ⟨w4.heap.size, 0, none⟩) (by show w4.heap.size < _; omega) (.int .i64 p)) (a := ⟨w4.heap.size, 1, none⟩) (by show w4.heap.size < _; omega) (.slice A7 M2.length c7)
       generalize hW7 : (w7.setCell ⟨w4.heap.size, 0, none⟩ (.int .i64 p)).setCell ⟨w4.heap.size, 1, none⟩ (.slice A7 M2.length c7) = W7 at *
       have j0 := kS7x.cell 0 _ rfl
       have j1 := kS7x.cell 1 _ rfl
       have j2 := kS7x.lt
       have k0' := kX7x.cell 0 (.int .i64 p) rfl
       have k1' := kX7x.cell 1 (.slice A7 M2.length c7) rfl
       have k2' := kX7x.lt
       have hz7 := hB7x.size
       clear q1 q2)
    | (go_at_call 22; refine (same05_any p A l c A7 O2 M2 c7 W7 W7.heap.size HM2.out ((HRB.out _ hB7x).more (by omega)) hown7x.rdT (Nat.le_refl _) HK.out (by omega) g3 (by omega) q6.out (by rw [← List.length_map (f := xAt l), ← HM2.out]; exact Q8.out)).mono ?_; rintro e w8 ⟨rfl, hB8⟩
       have kS8 := kS7x.below' hB8
       have kX8 := kX7x.below' hB8
       have m0 := kS8.cell 0 _ rfl
       have m1 := kS8.cell 1 _ rfl
       have m2 := kS8.lt
       have hB8' := hB7x.trans (hB8.mono hz7)
       have hz8 := hB8'.size
       clear q6)
    | (go_at_call 15; refine (p4.out _ hB8').mono ?_; rintro e w10 ⟨A10, c10, rfl, hd10, hB10⟩
       have kS10 := kS8.below' hB10
       have kX10 := kX8.below' hB10
       have n0 := kS10.cell 0 _ rfl
       have n1 := kS10.cell 1 _ rfl
       have n2 := kS10.lt
       have hB10' := hB8'.trans (hB10.mono hz8)
       have hz10 := hB10'.size
       have hl10 := kX10.lt)
    | (go_at_call 20; refine (rsheet_ok p s A10 L3 M3 c10 w10 _ hd10 (Nat.le_refl _) HH.out (by omega) p1.out (by rw [p2.out, HM3.out])).mono ?_; rintro e w11 ⟨A11, c11, rfl, hown11, hc11, hB11⟩
       have kX11 := kX10.below' hB11
       have kS11 := kS10.below' hB11
       have r0 := kX11.cell 0 (.int .i64 p) rfl
       have r1 := kX11.cell 1 (.slice A7 M2.length c7) rfl
       have r2 := kX11.lt
       have r3 := kX11.frozen 0
       have r4 := kX11.frozen 1
       have hne11 : w.heap.size ≠ w4.heap.size := by omega
       have hB11' := hB10'.trans (hB11.mono hz10)
       have hB11x := (hB11'.setCell (p := ⟨w4.heap.size, 0, none⟩) hz4 (.int .i64 p)).setCell (p := ⟨w4.heap.size, 1, none⟩) hz4 (.slice A11 M3.length c11)
       have kS11x := (kS11.far (p := ⟨w4.heap.size, 0, none⟩) hne11 (.int .i64 p)).far (p := ⟨w4.heap.size, 1, none⟩) hne11 (.slice A11 M3.length c11)
       have kX11x := (kX11.set_ 0 (.int .i64 p)).set_ 1 (.slice A11 M3.length c11)
       have hown11x : Own 3 Tri.enc ((w11.setCell ⟨w4.heap.size, 0, none⟩ (.int .i64 p)).setCell ⟨w4.heap.size, 1, none⟩ (.slice A11 M3.length c11)) w10.heap.size 57 (.slice A11 M3.length c11) M3 := ownsRow_setCell_below (ownsRow_setCell_below hown11 (a := ⟨w4.heap.size, 0, none⟩) (by show w4.heap.size < _; omega) (.int .i64 p)) (a := ⟨w4.heap.size, 1, none⟩) (by show w4.heap.size < _; omega) (.slice A11 M3.length c11)
       generalize hW11 : (w11.setCell ⟨w4.heap.size, 0, none⟩ (.int .i64 p)).setCell ⟨w4.heap.size, 1, none⟩ (.slice A11 M3.length c11) = W11 at *
       have u0 := kS11x.cell 0 _ rfl
       have u1 := kS11x.cell 1 _ rfl
       have u2 := kS11x.lt
       have v0 := kX11x.cell 0 (.int .i64 p) rfl
       have v1 := kX11x.cell 1 (.slice A11 M3.length c11) rfl
       have v2 := kX11x.lt
       have hz11 := hB11x.size
       clear p1 p2)
    | (go_at_call 22; refine (same05_any p A l c A11 O3 M3 c11 W11 W11.heap.size HM3.out ((HRB.out _ hB11x).more (by omega)) hown11x.rdT (Nat.le_refl _) HK.out (by omega) g3 (by omega) p6.out (by rw [← List.length_map (f := xAt l), ← HM3.out]; exact P8.out)).mono ?_; rintro e w12 ⟨rfl, hB12⟩
       have hB12' := hB11x.trans (hB12.mono hz11)
       have hz12 := hB12'.size
       clear p6)
    | (go_at_call 11; refine (awake_any _).mono ?_; rintro e w9 ⟨rfl, hB9⟩))
  go_ret
  exact Ret.bool rfl (hB12'.trans (hB9.mono hz12))

theorem lawMakes_any (P S : Int) (A : Option Addr) (l : List Tri) (c : Nat) (w : World) (H : Nat) (hr : RdT w H A l) (hH : H ≤ w.heap.size)
    (hw : ∀ (k : Nat) (hk : k < l.length), l[k].s.size ≤ 9223372036854775807) (hl : l.length ≤ 9223372036854775807) (hlc : l.length ≤ c) :
    Calls Try.prog 5 #[.agg #[.int .i64 P, .slice A l.length c], .int .i64 S] w (Ret (.bool true) w) := by
  by_cases he : sheetE P l = 0
  · by_cases h60 : l.length ≤ 60
    · by_cases hh : handsE P S = 0
      · by_cases h10 : l.length ≤ 10
        · exact lawMakes_main_short P S A l c w H hr hH hw hl he h60 hh hlc h10
        · exact lawMakes_main_long P S A l c w H hr hH hw hl he h60 hh hlc (by omega)
      · exact lawMakes_hands P S A l c w H hr hH hw hl he h60 hh
    · exact lawMakes_long P S A l c w H hr hH hw hl he (by omega)
  · exact lawMakes_bad P S A l c w H hr hH hw hl he
end Go.Proofs.Ytogkgoabonbkkaa
