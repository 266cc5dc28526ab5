/- The law CompileSides, walked. -/
import Derived.Test.YtogkgoabonbkkaaFlip
set_option linter.unusedSimpArgs false
set_option linter.unusedVariables false
namespace Go.Proofs.Ytogkgoabonbkkaa
open Go Go.RowKit Tor

theorem _root_.Tor.Own.rdT {w : World} {base : Nat} {e : TypeId} {A : Option Addr} {n c : Nat} {l : List Tri} (h : Own 3 Tri.enc w base e (.slice A n c) l) : RdT w w.heap.size A l := by
  obtain ⟨A', c', e, _, hr⟩ := Own.rd tri_len h
  injection e with e1 _ _
  rw [e1]; exact hr
theorem chk_of {P S : Int} {l : List Tri} (h1 : sheetE P l = 0) (h2 : handsE P S = 0) : chkE P l S = 0 := by
  unfold handsE at h2
  split at h2
  · rename_i h
    unfold chkE
    rw [if_pos h1, if_pos h.2.2]
  · cases h2

/-- what holds of a sheet and of its instructions -/
def StepsOk (p s : Nat) (T L : List Tri) : Prop := ∀ (w' : World) (A' : Option Addr) (c' H' : Nat), RdT w' H' A' T → H' ≤ w'.heap.size → Calls Try.prog 19 #[.agg #[.int .i64 p, .slice A' T.length c'], .int .i64 s] w' (InsPost L w')
def BestOk (p s : Nat) (T L : List Tri) : Prop := ∀ (w' : World) (A' : Option Addr) (c' H' : Nat), RdT w' H' A' T → H' ≤ w'.heap.size → T.length ≤ c' → Calls Try.prog 15 #[.agg #[.int .i64 p, .slice A' T.length c'], .int .i64 s] w' (InsPost L w')
theorem steps_ok {p s : Nat} {T : List Tri} (hw : ∀ x ∈ T, WOk p x) (hh : handsE p s = 0) (hn : T.length ≤ 400) : StepsOk p s T (rst p s T (-1)) := fun w' A' c' H' hr hH =>
  cSteps_ins p s A' T c' w' H' hr hH hw (chk_of (sheetE_of (hands_bd hh).1 (hands_bd hh).2.1 hn hw) hh)
theorem best_ok {p s : Nat} {T : List Tri} (hw : ∀ x ∈ T, WOk p x) (hh : handsE p s = 0) (hn : T.length ≤ 10) : BestOk p s T (rst p s ((bestO p s T).map (xAt T)) (-1)) := fun w' A' c' H' hr hH hc =>
  cBest_ins p s A' T c' w' H' hr hH hw (chk_of (sheetE_of (hands_bd hh).1 (hands_bd hh).2.1 (by omega) hw) hh) hn hc
/-- what the flipped sheet's instructions are -/
theorem side_flip {p s : Nat} {l T : List Tri} (hw : ∀ x ∈ l, WOk p x) (hh : handsE p s = 0) (hn : l.length ≤ 60) (hm : Mir p T l) (hT : ∀ x ∈ T, WOk p x) :
    T.length = l.length ∧ ∃ L, StepsOk p s T L ∧ L.length ≤ 200 ∧ reachesN L = C p s l := by
  have hb := hands_bd hh
  have e := hm.len
  have := rst_len (p : Int) (s : Int) T (-1)
  exact ⟨e, _, steps_ok hT hh (by omega), by omega, C_flip hb.2.2.1 hb.2.2.2.2 hm hT hw⟩
theorem side_best {p s : Nat} {l T : List Tri} (hw : ∀ x ∈ l, WOk p x) (hh : handsE p s = 0) (hn : l.length ≤ 10) (hm : Mir p T l) (hT : ∀ x ∈ T, WOk p x) :
    ∃ L, BestOk p s T L ∧ L.length ≤ 200 ∧ reachesN L = C p s ((bestO p s l).map (xAt l)) := by
  have hb := hands_bd hh
  have e := hm.len
  have := rst_len (p : Int) (s : Int) ((bestO p s T).map (xAt T)) (-1)
  rw [List.length_map, (bestO_lin (p := (p : Int)) (s := (s : Int)) (show T.length ≤ 10 by omega)).2] at this
  exact ⟨_, best_ok hT hh (by omega), by omega, best_mir hb.2.2.1 hb.2.2.2.2 hm hT hw hn⟩
theorem times_any (P : Int) (A : Option Addr) (l : List Tri) (c : Nat) (w : World) (H : Nat) (hr : RdT w H A l) (hH : H ≤ w.heap.size) (hwk : ∀ x ∈ l, WOk P x) (h2 : 2 ≤ P) (h24 : P ≤ 24) (hl : l.length ≤ 60) (h0 : A = none → c = 0) :
    Calls Try.prog 24 #[.agg #[.int .i64 P, .slice A l.length c], .int .i64 2] w fun e w' => ∃ (A' : Option Addr) (c' : Nat), e = .returned (.tuple #[.agg #[.int .i64 P, .slice A' (l ++ l).length c'], .int .i64 0]) ∧ Own 3 Tri.enc w' w.heap.size 57 (.slice A' (l ++ l).length c') (l ++ l) ∧ Below w.heap.size w w' := by
  cases A with
  | some ax => exact times_some P ax l c w H hr hH hwk h2 h24 hl
  | none =>
    have hl : l = [] := Classical.byContradiction fun hl => by
      obtain ⟨b, o, e, _⟩ := hr hl
      cases e
    have hc := h0 rfl
    subst hl hc
    exact times_none P w H hH h2 h24

set_option maxRecDepth 100000 in
theorem lawSides_bad (P S : Int) (A : Option Addr) (l : List Tri) (c : Nat) (w : World) (H : Nat) (hr : RdT w H A l) (hH : H ≤ w.heap.size)
    (hw : ∀ (k : Nat) (hk : k < l.length), l[k].s.size ≤ 9223372036854775807) (hl : l.length ≤ 9223372036854775807) (he : sheetE P l ≠ 0) :
    Calls Try.prog 6 #[.agg #[.int .i64 P, .slice A l.length c], .int .i64 S] w (Ret (.bool true) w) := by
  have HW := Lib.hid hw
  have HRB := Lib.hid (show ∀ w', Below w.heap.size w w' → RdT w' H A l from fun w' hB => hr.below' hB hH)
  have hB0 : Below w.heap.size w (w.alloc (.cells #[.int .i64 P, .slice A l.length c] 24)) := by (repeat' first | exact Below.refl _ _ | apply Below.drew | (refine Below.setCells ?_ _ _ ?_) | (refine Below.setCell ?_ ?_ _) | (refine Below.alloc ?_ ?_ _) | (simp; done) | (simp; omega))
  have kS := Blk.new w 24 #[.int .i64 P, .slice A l.length c]
  obtain ⟨E, HE⟩ : ∃ E, Hid (sheetE P l = E) := ⟨_, Lib.hid rfl⟩
  rw [HE.out] at he
  have t1 : (E != 0) = true := by simp [he]
  clear hw hr he
  go_enter Try.func6, Try.ntmps6
  go_wp2_with (first
    | (go_at_call 17; refine (sheetRef_any P A l c _ H (HRB.out _ hB0) (Nat.le_trans hH hB0.size) HW.out hl).mono ?_; rintro e w1 ⟨rfl, hB1⟩; rw [HE.out]
       have kS1 := kS.below' hB1
       have a0 := kS1.cell 0 _ rfl
       have a1 := kS1.cell 1 _ rfl
       have a2 := kS1.lt
       have hB1' := hB0.trans (hB1.mono hB0.size))
    | (go_at_call 11; refine (awake_any _).mono ?_; rintro e w9 ⟨rfl, hB9⟩))
  go_ret
  exact Ret.bool rfl (hB1'.trans (hB9.mono hB1'.size))
set_option maxRecDepth 100000 in
theorem lawSides_long (P S : Int) (A : Option Addr) (l : List Tri) (c : Nat) (w : World) (H : Nat) (hr : RdT w H A l) (hH : H ≤ w.heap.size)
    (hw : ∀ (k : Nat) (hk : k < l.length), l[k].s.size ≤ 9223372036854775807) (hl : l.length ≤ 9223372036854775807) (he : sheetE P l = 0) (h60 : 60 < l.length) :
    Calls Try.prog 6 #[.agg #[.int .i64 P, .slice A l.length c], .int .i64 S] w (Ret (.bool true) w) := by
  have HW := Lib.hid hw
  have HRB := Lib.hid (show ∀ w', Below w.heap.size w w' → RdT w' H A l from fun w' hB => hr.below' hB hH)
  have hB0 : Below w.heap.size w (w.alloc (.cells #[.int .i64 P, .slice A l.length c] 24)) := by (repeat' first | exact Below.refl _ _ | apply Below.drew | (refine Below.setCells ?_ _ _ ?_) | (refine Below.setCell ?_ ?_ _) | (refine Below.alloc ?_ ?_ _) | (simp; done) | (simp; omega))
  have kS := Blk.new w 24 #[.int .i64 P, .slice A l.length c]
  have HE := Lib.hid he
  have t1 : (60 : Int) < (l.length : Int) := by omega
  clear hw hr he h60
  go_enter Try.func6, Try.ntmps6
  go_wp2_with (first
    | (go_at_call 17; refine (sheetRef_any P A l c _ H (HRB.out _ hB0) (Nat.le_trans hH hB0.size) HW.out hl).mono ?_; rintro e w1 ⟨rfl, hB1⟩; rw [HE.out]
       have kS1 := kS.below' hB1
       have a0 := kS1.cell 0 _ rfl
       have a1 := kS1.cell 1 _ rfl
       have a2 := kS1.lt
       have hB1' := hB0.trans (hB1.mono hB0.size))
    | (go_at_call 11; refine (awake_any _).mono ?_; rintro e w9 ⟨rfl, hB9⟩))
  go_ret
  exact Ret.bool rfl (hB1'.trans (hB9.mono hB1'.size))
set_option maxRecDepth 100000 in
theorem lawSides_hands (P S : Int) (A : Option Addr) (l : List Tri) (c : Nat) (w : World) (H : Nat) (hr : RdT w H A l) (hH : H ≤ w.heap.size)
    (hw : ∀ (k : Nat) (hk : k < l.length), l[k].s.size ≤ 9223372036854775807) (hl : l.length ≤ 9223372036854775807) (he : sheetE P l = 0) (h60 : l.length ≤ 60) (hh : handsE P S ≠ 0) :
    Calls Try.prog 6 #[.agg #[.int .i64 P, .slice A l.length c], .int .i64 S] w (Ret (.bool true) w) := by
  have HW := Lib.hid hw
  have HRB := Lib.hid (show ∀ w', Below w.heap.size w w' → RdT w' H A l from fun w' hB => hr.below' hB hH)
  have hB0 : Below w.heap.size w (w.alloc (.cells #[.int .i64 P, .slice A l.length c] 24)) := by (repeat' first | exact Below.refl _ _ | apply Below.drew | (refine Below.setCells ?_ _ _ ?_) | (refine Below.setCell ?_ ?_ _) | (refine Below.alloc ?_ ?_ _) | (simp; done) | (simp; omega))
  have kS := Blk.new w 24 #[.int .i64 P, .slice A l.length c]
  have HE := Lib.hid he
  have t1 : ¬ (60 : Int) < (l.length : Int) := by omega
  obtain ⟨E, HH⟩ : ∃ E, Hid (handsE P S = E) := ⟨_, Lib.hid rfl⟩
  rw [HH.out] at hh
  have t2 : (E != 0) = true := by simp [hh]
  clear hw hr he h60 hh
  go_enter Try.func6, Try.ntmps6
  go_wp2_with (first
    | (go_at_call 17; refine (sheetRef_any P A l c _ H (HRB.out _ hB0) (Nat.le_trans hH hB0.size) HW.out hl).mono ?_; rintro e w1 ⟨rfl, hB1⟩; rw [HE.out]
       have kS1 := kS.below' hB1
       have a0 := kS1.cell 0 _ rfl
       have a1 := kS1.cell 1 _ rfl
       have a2 := kS1.lt
       have hB1' := hB0.trans (hB1.mono hB0.size))
    | (go_at_call 18; refine (hands_any P S _).mono ?_; rintro e w2 ⟨rfl, hB2⟩; rw [HH.out]
       have kS2 := kS1.below' hB2
       have b0 := kS2.cell 0 _ rfl
       have b1 := kS2.cell 1 _ rfl
       have b2 := kS2.lt
       have hB2' := hB1'.trans (hB2.mono hB1'.size))
    | (go_at_call 11; refine (awake_any _).mono ?_; rintro e w9 ⟨rfl, hB9⟩))
  go_ret
  exact Ret.bool rfl (hB2'.trans (hB9.mono hB2'.size))
set_option maxRecDepth 100000 in
set_option maxHeartbeats 4000000 in
theorem lawSides_mid (P S : Int) (A : Option Addr) (l : List Tri) (c : Nat) (w : World) (H : Nat) (hr : RdT w H A l) (hH : H ≤ w.heap.size)
    (hw : ∀ (k : Nat) (hk : k < l.length), l[k].s.size ≤ 9223372036854775807) (hl : l.length ≤ 9223372036854775807) (he : sheetE P l = 0) (h60 : l.length ≤ 60) (hh : handsE P S = 0) (hA0 : A = none → c = 0) (hlc : l.length ≤ c) (h10 : 10 < l.length) :
    Calls Try.prog 6 #[.agg #[.int .i64 P, .slice A l.length c], .int .i64 S] w (Ret (.bool true) w) := by
  have HW := Lib.hid hw
  have HRB := Lib.hid (show ∀ w', Below w.heap.size w w' → RdT w' H A l from fun w' hB => hr.below' hB hH)
  have hB0 : Below w.heap.size w (w.alloc (.cells #[.int .i64 P, .slice A l.length c] 24)) := by (repeat' first | exact Below.refl _ _ | apply Below.drew | (refine Below.setCells ?_ _ _ ?_) | (refine Below.setCell ?_ ?_ _) | (refine Below.alloc ?_ ?_ _) | (simp; done) | (simp; omega))
  have kS := Blk.new w 24 #[.int .i64 P, .slice A l.length c]
  have HE := Lib.hid he
  have HH := Lib.hid hh
  have HA0 := Lib.hid hA0
  have t1 : ¬ (60 : Int) < (l.length : Int) := by omega
  have hbd := hands_bd hh
  obtain ⟨p, rfl⟩ : ∃ p : Nat, P = p := ⟨P.toNat, by omega⟩
  obtain ⟨s, rfl⟩ : ∃ s : Nat, S = s := ⟨S.toNat, by omega⟩
  have hwk := wok_of he
  have HK := Lib.hid hwk
  have hdd := wok_app hwk hwk
  have hll : (l ++ l).length ≤ 120 := by rw [List.length_append]; omega
  have S1 := Lib.hid (steps_ok hwk hh (by omega))
  have S3 := Lib.hid (steps_ok hdd hh (by omega))
  have s1 := rst_len (p : Int) (s : Int) l (-1)
  have s3 := rst_len (p : Int) (s : Int) (l ++ l) (-1)
  have r1 : reachesN (rst (p : Int) (s : Int) l (-1)) = C p s l := rfl
  have r3 : reachesN (rst (p : Int) (s : Int) (l ++ l) (-1)) = C p s (l ++ l) := rfl
  have ca := C_app (p := (p : Int)) (s := (s : Int)) hbd.2.2.1 hbd.2.2.2.2 hwk l.length l (Nat.le_refl _) hwk
  have HT := Lib.hid (fun (w' : World) (hB : Below w.heap.size w w') => times_any p A l c w' H (HRB.out w' hB) (Nat.le_trans hH hB.size) hwk (by omega) (by omega) h60 hA0)
  have HF := Lib.hid (fun (w' : World) (hB : Below w.heap.size w w') => flip_any p A l c w' H (HRB.out w' hB) (Nat.le_trans hH hB.size) hwk (by omega) (by omega) (by omega))
  have HSF := Lib.hid (fun (T : List Tri) (hm : Mir p T l) (hT : ∀ x ∈ T, WOk p x) => side_flip (s := s) hwk hh h60 hm hT)
  have t10 : (10 : Int) < (l.length : Int) := by omega
  have S1' := Lib.hid (fun (w' : World) (hB : Below w.heap.size w w') => S1.out w' A c H (HRB.out w' hB) (Nat.le_trans hH hB.size))
  clear S1
  generalize rst (p : Int) (s : Int) l (-1) = L1 at S1' s1 r1
  generalize rst (p : Int) (s : Int) (l ++ l) (-1) = L3 at S3 s3 r3
  generalize C (p : Int) (s : Int) l = n at r1 ca HSF
  generalize C (p : Int) (s : Int) (l ++ l) = n3 at r3 ca
  generalize l ++ l = D at S3 s3 hll HT
  have R1 := Lib.hid r1
  have R3 := Lib.hid r3
  have hL1 : L1.length ≤ 300 := by omega
  have hL3 : L3.length ≤ 300 := by omega
  have hn : n ≤ 300 := by rw [← r1]; unfold reachesN; exact Nat.le_trans (List.length_filter_le _ _) hL1
  have x1 : ¬ 2 * (n : Int) < (n3 : Int) := by omega
  have x2 : ¬ (n3 : Int) < 2 * (n : Int) - 1 := by omega
  have x3 : ((n : Int) != (n : Int)) = false := by simp
  have w1' : IntKind.i64.wrap (2 * (n : Int)) = 2 * (n : Int) := IntWalk.i64_in _ (by omega)
  have w2' : IntKind.i64.wrap (2 * (n : Int) - 1) = 2 * (n : Int) - 1 := IntWalk.i64_in _ (by omega)
  have tk1 := True.intro
  have tk2 := True.intro
  have tk3 := True.intro
  have tk4 := True.intro
  have tk5 := True.intro
  clear hw hr he hh hwk hdd s1 s3 r1 r3 ca hll hA0 h10
  go_enter Try.func6, Try.ntmps6
  go_wp2_with (first
    | (go_at_call 17; refine (sheetRef_any p A l c _ H (HRB.out _ hB0) (Nat.le_trans hH hB0.size) HW.out hl).mono ?_; rintro e w1 ⟨rfl, hB1⟩; rw [HE.out]
       have kS1 := kS.below' hB1
       have a0 := kS1.cell 0 _ rfl
       have a1 := kS1.cell 1 _ rfl
       have a2 := kS1.lt
       have hB1' := hB0.trans (hB1.mono hB0.size))
    | (go_at_call 18; refine (hands_any p s _).mono ?_; rintro e w2 ⟨rfl, hB2⟩; rw [HH.out]
       have kS2 := kS1.below' hB2
       have a0 := kS2.cell 0 _ rfl
       have a1 := kS2.cell 1 _ rfl
       have a2 := kS2.lt
       have hB2' := hB1'.trans (hB2.mono hB1'.size)
       clear kS1)
    | (go_at_call 23; refine (HF.out _ hB2').mono ?_; rintro e w3 ⟨T, A3, c3, rfl, hown3, hc3, hmir, hTok, hB3⟩
       obtain ⟨hTl, L2, S2, s2, r2⟩ := HSF.out T hmir hTok
       have S2' := Lib.hid S2
       have R2 := Lib.hid r2
       have HTL := Lib.hid hTl
       clear S2 r2 hmir hTok hTl
       have hB3' := hB2'.trans (hB3.mono hB2'.size)
       have hz3 := hB3'.size
       have hsS : w.heap.size < w3.heap.size := by have := hB3.size; omega
       have kS3 := (kS2.below' hB3).alloc (.cells #[.int .i64 p, .slice A3 T.length c3] 24)
       have kX := Blk.new w3 24 #[.int .i64 p, .slice A3 T.length c3]
       have hown3a := hown3.alloc (.cells #[.int .i64 p, .slice A3 T.length c3] 24)
       have hBX := hB3'.alloc hz3 (.cells #[.int .i64 p, .slice A3 T.length c3] 24)
       generalize hW3 : w3.alloc (.cells #[.int .i64 p, .slice A3 T.length c3] 24) = W3 at *
       have a0 := kS3.cell 0 _ rfl
       have a1 := kS3.cell 1 _ rfl
       have a2 := kS3.lt
       have hdT := hown3a.rdT
       have hzX := hBX.size
       clear kS2 hown3 hown3a)
    | (go_at_call 24; refine (HT.out _ hBX).mono ?_; rintro e w4 ⟨A4, c4, rfl, hown4, hB4⟩
       have hB4' := hBX.trans (hB4.mono hzX)
       have hz4 := hB4'.size
       have kS4 := (kS3.below' hB4).alloc (.cells #[.int .i64 p, .slice A4 D.length c4] 24)
       have kX4 := (kX.below' hB4).alloc (.cells #[.int .i64 p, .slice A4 D.length c4] 24)
       have kY := Blk.new w4 24 #[.int .i64 p, .slice A4 D.length c4]
       have hown4a := hown4.alloc (.cells #[.int .i64 p, .slice A4 D.length c4] 24)
       have hBY := hB4'.alloc hz4 (.cells #[.int .i64 p, .slice A4 D.length c4] 24)
       have hs4 := hB4.size
       have hdT4 := (hdT.below' hB4 (Nat.le_refl _)).below' ((Below.refl w4.heap.size w4).alloc (Nat.le_refl _) (.cells #[.int .i64 p, .slice A4 D.length c4] 24)) hs4
       generalize hW4 : w4.alloc (.cells #[.int .i64 p, .slice A4 D.length c4] 24) = W4 at *
       have a0 := kS4.cell 0 _ rfl
       have a1 := kS4.cell 1 _ rfl
       have a2 := kS4.lt
       have hdD := hown4a.rdT
       have hzY := hBY.size
       have hlY := kY.lt
       clear kS3 kX hown4 hown4a hdT)
    | (go_at_call 19; have := tk1; refine (S1'.out _ hBY).mono ?_; rintro e w5 ⟨A5, c5, rfl, hd1, hB5⟩
       have hB5' := hBY.trans (hB5.mono hzY)
       have hz5 := hB5'.size
       have kS5 := kS4.below' hB5
       have kX5 := kX4.below' hB5
       have kY5 := kY.below' hB5
       have hs5 := hB5.size
       have hdT5 := hdT4.below' hB5 (by omega)
       have hdD5 := hdD.below' hB5 (Nat.le_refl _)
       have a0 := kS5.cell 0 _ rfl
       have a1 := kS5.cell 1 _ rfl
       have a2 := kS5.lt
       have x0 := kX5.cell 0 _ rfl
       have x1' := kX5.cell 1 _ rfl
       have x2' := kX5.lt
       clear kS4 kX4 kY hdT4 hdD tk1)
    | (go_at_call 19; have := tk2; refine (S2'.out w5 A3 c3 _ hdT5 (by omega)).mono ?_; rintro e w6 ⟨A6, c6, rfl, hd2, hB6⟩
       have hB6' := hB5'.trans (hB6.mono hz5)
       have hz6 := hB6'.size
       have kS6 := kS5.below' hB6
       have kX6 := kX5.below' hB6
       have kY6 := kY5.below' hB6
       have hs6 := hB6.size
       have hdT6 := hdT5.below' hB6 (by omega)
       have hdD6 := hdD5.below' hB6 (by omega)
       have hd16 := hd1.below' hB6 (Nat.le_refl _)
       have y0 := kY6.cell 0 _ rfl
       have y1 := kY6.cell 1 _ rfl
       have y2 := kY6.lt
       clear kS5 kX5 kY5 hdT5 hdD5 hd1 x0 x1' x2' a0 a1 a2 tk2)
    | (go_at_call 19; have := tk3; refine (S3.out w6 A4 c4 _ hdD6 (by omega)).mono ?_; rintro e w7 ⟨A7, c7, rfl, hd3, hB7⟩
       have hB7' := hB6'.trans (hB7.mono hz6)
       have hz7 := hB7'.size
       have kS7 := kS6.below' hB7
       have kX7 := kX6.below' hB7
       have hs7 := hB7.size
       have hdT7 := hdT6.below' hB7 (by omega)
       have hd17 := hd16.below' hB7 (by omega)
       have hd27 := hd2.below' hB7 (Nat.le_refl _)
       clear kS6 kX6 kY6 hdT6 hdD6 hd16 hd2 y0 y1 y2 tk3)
    | (go_at_call 25; have := tk4; refine (rreaches_any A5 L1 c5 w7 _ (by omega) hd17 (by omega)).mono ?_; rintro e w8 ⟨rfl, hB8⟩; rw [R1.out]
       have hB8' := hB7'.trans (hB8.mono hz7)
       have hz8 := hB8'.size
       have kS8 := kS7.below' hB8
       have kX8 := kX7.below' hB8
       have hs8 := hB8.size
       have hdT8 := hdT7.below' hB8 (by omega)
       have hd28 := hd27.below' hB8 (by omega)
       have hd38 := hd3.below' hB8 (Nat.le_refl _)
       clear kS7 kX7 hdT7 hd17 hd27 hd3 tk4)
    | (go_at_call 25; have := tk5; refine (rreaches_any A6 L2 c6 w8 _ (by omega) hd28 (by omega)).mono ?_; rintro e w10 ⟨rfl, hB10⟩; rw [R2.out]
       have hB10' := hB8'.trans (hB10.mono hz8)
       have hz10 := hB10'.size
       have kS10 := kS8.below' hB10
       have kX10 := kX8.below' hB10
       have hs10 := hB10.size
       have hdT10 := hdT8.below' hB10 (by omega)
       have hd310 := hd38.below' hB10 (by omega)
       clear kS8 kX8 hdT8 hd28 hd38 tk5)
    | (go_at_call 25; refine (rreaches_any A7 L3 c7 w10 _ (by omega) hd310 (by omega)).mono ?_; rintro e w11 ⟨rfl, hB11⟩; rw [R3.out]
       have hB11' := hB10'.trans (hB11.mono hz10)
       have hz11 := hB11'.size
       have kS11 := kS10.below' hB11
       have kX11 := kX10.below' hB11
       have hs11 := hB11.size
       have hdT11 := hdT10.below' hB11 (by omega)
       have hd311 := hd310.below' hB11 (by omega)
       clear kS10 kX10 hdT10 hd310)
    | (go_at_call 25; refine (rreaches_any A7 L3 c7 w11 _ (by omega) hd311 (by omega)).mono ?_; rintro e w12 ⟨rfl, hB12⟩; rw [R3.out]
       have hB12' := hB11'.trans (hB12.mono hz11)
       have hz12 := hB12'.size
       have kS12 := kS11.below' hB12
       have kX12 := kX11.below' hB12
       have hs12 := hB12.size
       have hdT12 := hdT11.below' hB12 (by omega)
       have a0 := kS12.cell 0 _ rfl
       have a1 := kS12.cell 1 _ rfl
       have a2 := kS12.lt
       clear kS11 kX11 hdT11 hd311)
    | (go_at_call 11; refine (awake_any _).mono ?_; rintro e w9 ⟨rfl, hB9⟩))
  go_ret
  exact Ret.bool rfl (hB12'.trans (hB9.mono hz12))

set_option maxRecDepth 100000 in
set_option maxHeartbeats 4000000 in
theorem lawSides_small (P S : Int) (A : Option Addr) (l : List Tri) (c : Nat) (w : World) (H : Nat) (hr : RdT w H A l) (hH : H ≤ w.heap.size)
    (hw : ∀ (k : Nat) (hk : k < l.length), l[k].s.size ≤ 9223372036854775807) (hl : l.length ≤ 9223372036854775807) (he : sheetE P l = 0) (h60 : l.length ≤ 60) (hh : handsE P S = 0) (hA0 : A = none → c = 0) (hlc : l.length ≤ c) (h10 : l.length ≤ 10) :
    Calls Try.prog 6 #[.agg #[.int .i64 P, .slice A l.length c], .int .i64 S] w (Ret (.bool true) w) := by
  have HW := Lib.hid hw
  have HRB := Lib.hid (show ∀ w', Below w.heap.size w w' → RdT w' H A l from fun w' hB => hr.below' hB hH)
  have hB0 : Below w.heap.size w (w.alloc (.cells #[.int .i64 P, .slice A l.length c] 24)) := by (repeat' first | exact Below.refl _ _ | apply Below.drew | (refine Below.setCells ?_ _ _ ?_) | (refine Below.setCell ?_ ?_ _) | (refine Below.alloc ?_ ?_ _) | (simp; done) | (simp; omega))
  have kS := Blk.new w 24 #[.int .i64 P, .slice A l.length c]
  have HE := Lib.hid he
  have HH := Lib.hid hh
  have HA0 := Lib.hid hA0
  have t1 : ¬ (60 : Int) < (l.length : Int) := by omega
  have hbd := hands_bd hh
  obtain ⟨p, rfl⟩ : ∃ p : Nat, P = p := ⟨P.toNat, by omega⟩
  obtain ⟨s, rfl⟩ : ∃ s : Nat, S = s := ⟨S.toNat, by omega⟩
  have hwk := wok_of he
  have HK := Lib.hid hwk
  have hdd := wok_app hwk hwk
  have hll : (l ++ l).length ≤ 120 := by rw [List.length_append]; omega
  have S1 := Lib.hid (steps_ok hwk hh (by omega))
  have S3 := Lib.hid (steps_ok hdd hh (by omega))
  have s1 := rst_len (p : Int) (s : Int) l (-1)
  have s3 := rst_len (p : Int) (s : Int) (l ++ l) (-1)
  have r1 : reachesN (rst (p : Int) (s : Int) l (-1)) = C p s l := rfl
  have r3 : reachesN (rst (p : Int) (s : Int) (l ++ l) (-1)) = C p s (l ++ l) := rfl
  have ca := C_app (p := (p : Int)) (s := (s : Int)) hbd.2.2.1 hbd.2.2.2.2 hwk l.length l (Nat.le_refl _) hwk
  have HT := Lib.hid (fun (w' : World) (hB : Below w.heap.size w w') => times_any p A l c w' H (HRB.out w' hB) (Nat.le_trans hH hB.size) hwk (by omega) (by omega) h60 hA0)
  have HF := Lib.hid (fun (w' : World) (hB : Below w.heap.size w w') => flip_any p A l c w' H (HRB.out w' hB) (Nat.le_trans hH hB.size) hwk (by omega) (by omega) (by omega))
  have HSF := Lib.hid (fun (T : List Tri) (hm : Mir p T l) (hT : ∀ x ∈ T, WOk p x) => side_flip (s := s) hwk hh h60 hm hT)
  have HSB := Lib.hid (fun (T : List Tri) (hm : Mir p T l) (hT : ∀ x ∈ T, WOk p x) => side_best (s := s) hwk hh h10 hm hT)
  have B1 := Lib.hid (fun (w' : World) (hB : Below w.heap.size w w') => best_ok hwk hh h10 w' A c H (HRB.out w' hB) (Nat.le_trans hH hB.size) hlc)
  have b1 := rst_len (p : Int) (s : Int) ((bestO p s l).map (xAt l)) (-1)
  rw [List.length_map, (bestO_lin (p := (p : Int)) (s := (s : Int)) h10).2] at b1
  have b2 : reachesN (rst (p : Int) (s : Int) ((bestO p s l).map (xAt l)) (-1)) = C p s ((bestO p s l).map (xAt l)) := rfl
  generalize rst (p : Int) (s : Int) ((bestO p s l).map (xAt l)) (-1) = L4 at b1 b2 B1
  generalize C (p : Int) (s : Int) ((bestO p s l).map (xAt l)) = m at b2 HSB
  have B2 := Lib.hid b2
  have hL4 : L4.length ≤ 200 := by omega
  have t10 : ¬ (10 : Int) < (l.length : Int) := by omega
  clear b1 b2
  have S1' := Lib.hid (fun (w' : World) (hB : Below w.heap.size w w') => S1.out w' A c H (HRB.out w' hB) (Nat.le_trans hH hB.size))
  clear S1
  generalize rst (p : Int) (s : Int) l (-1) = L1 at S1' s1 r1
  generalize rst (p : Int) (s : Int) (l ++ l) (-1) = L3 at S3 s3 r3
  generalize C (p : Int) (s : Int) l = n at r1 ca HSF
  generalize C (p : Int) (s : Int) (l ++ l) = n3 at r3 ca
  generalize l ++ l = D at S3 s3 hll HT
  have R1 := Lib.hid r1
  have R3 := Lib.hid r3
  have hL1 : L1.length ≤ 300 := by omega
  have hL3 : L3.length ≤ 300 := by omega
  have hn : n ≤ 300 := by rw [← r1]; unfold reachesN; exact Nat.le_trans (List.length_filter_le _ _) hL1
  have x1 : ¬ 2 * (n : Int) < (n3 : Int) := by omega
  have x2 : ¬ (n3 : Int) < 2 * (n : Int) - 1 := by omega
  have x3 : ((n : Int) != (n : Int)) = false := by simp
  have w1' : IntKind.i64.wrap (2 * (n : Int)) = 2 * (n : Int) := IntWalk.i64_in _ (by omega)
  have w2' : IntKind.i64.wrap (2 * (n : Int) - 1) = 2 * (n : Int) - 1 := IntWalk.i64_in _ (by omega)
  have tk1 := True.intro
  have tk2 := True.intro
  have tk3 := True.intro
  have tk4 := True.intro
  have tk5 := True.intro
  clear hw hr he hh hwk hdd s1 s3 r1 r3 ca hll hA0 h10
  go_enter Try.func6, Try.ntmps6
  go_wp2_with (first
    | (go_at_call 17; refine (sheetRef_any p A l c _ H (HRB.out _ hB0) (Nat.le_trans hH hB0.size) HW.out hl).mono ?_; rintro e w1 ⟨rfl, hB1⟩; rw [HE.out]
       have kS1 := kS.below' hB1
       have a0 := kS1.cell 0 _ rfl
       have a1 := kS1.cell 1 _ rfl
       have a2 := kS1.lt
       have hB1' := hB0.trans (hB1.mono hB0.size))
    | (go_at_call 18; refine (hands_any p s _).mono ?_; rintro e w2 ⟨rfl, hB2⟩; rw [HH.out]
       have kS2 := kS1.below' hB2
       have a0 := kS2.cell 0 _ rfl
       have a1 := kS2.cell 1 _ rfl
       have a2 := kS2.lt
       have hB2' := hB1'.trans (hB2.mono hB1'.size)
       clear kS1)
    | (go_at_call 23; refine (HF.out _ hB2').mono ?_; rintro e w3 ⟨T, A3, c3, rfl, hown3, hc3, hmir, hTok, hB3⟩
       obtain ⟨hTl, L2, S2, s2, r2⟩ := HSF.out T hmir hTok
       have S2' := Lib.hid S2
       have R2 := Lib.hid r2
       obtain ⟨L5, B5, s5, r5⟩ := HSB.out T hmir hTok
       have B5' := Lib.hid B5
       have R5 := Lib.hid r5
       clear B5 r5
       have HTL := Lib.hid hTl
       clear S2 r2 hmir hTok hTl
       have hB3' := hB2'.trans (hB3.mono hB2'.size)
       have hz3 := hB3'.size
       have hsS : w.heap.size < w3.heap.size := by have := hB3.size; omega
       have kS3 := (kS2.below' hB3).alloc (.cells #[.int .i64 p, .slice A3 T.length c3] 24)
       have kX := Blk.new w3 24 #[.int .i64 p, .slice A3 T.length c3]
       have hown3a := hown3.alloc (.cells #[.int .i64 p, .slice A3 T.length c3] 24)
       have hBX := hB3'.alloc hz3 (.cells #[.int .i64 p, .slice A3 T.length c3] 24)
       generalize hW3 : w3.alloc (.cells #[.int .i64 p, .slice A3 T.length c3] 24) = W3 at *
       have a0 := kS3.cell 0 _ rfl
       have a1 := kS3.cell 1 _ rfl
       have a2 := kS3.lt
       have hdT := hown3a.rdT
       have hzX := hBX.size
       clear kS2 hown3 hown3a)
    | (go_at_call 24; refine (HT.out _ hBX).mono ?_; rintro e w4 ⟨A4, c4, rfl, hown4, hB4⟩
       have hB4' := hBX.trans (hB4.mono hzX)
       have hz4 := hB4'.size
       have kS4 := (kS3.below' hB4).alloc (.cells #[.int .i64 p, .slice A4 D.length c4] 24)
       have kX4 := (kX.below' hB4).alloc (.cells #[.int .i64 p, .slice A4 D.length c4] 24)
       have kY := Blk.new w4 24 #[.int .i64 p, .slice A4 D.length c4]
       have hown4a := hown4.alloc (.cells #[.int .i64 p, .slice A4 D.length c4] 24)
       have hBY := hB4'.alloc hz4 (.cells #[.int .i64 p, .slice A4 D.length c4] 24)
       have hs4 := hB4.size
       have hdT4 := (hdT.below' hB4 (Nat.le_refl _)).below' ((Below.refl w4.heap.size w4).alloc (Nat.le_refl _) (.cells #[.int .i64 p, .slice A4 D.length c4] 24)) hs4
       generalize hW4 : w4.alloc (.cells #[.int .i64 p, .slice A4 D.length c4] 24) = W4 at *
       have a0 := kS4.cell 0 _ rfl
       have a1 := kS4.cell 1 _ rfl
       have a2 := kS4.lt
       have hdD := hown4a.rdT
       have hzY := hBY.size
       have hlY := kY.lt
       clear kS3 kX hown4 hown4a hdT)
    | (go_at_call 19; have := tk1; refine (S1'.out _ hBY).mono ?_; rintro e w5 ⟨A5, c5, rfl, hd1, hB5⟩
       have hB5' := hBY.trans (hB5.mono hzY)
       have hz5 := hB5'.size
       have kS5 := kS4.below' hB5
       have kX5 := kX4.below' hB5
       have kY5 := kY.below' hB5
       have hs5 := hB5.size
       have hdT5 := hdT4.below' hB5 (by omega)
       have hdD5 := hdD.below' hB5 (Nat.le_refl _)
       have a0 := kS5.cell 0 _ rfl
       have a1 := kS5.cell 1 _ rfl
       have a2 := kS5.lt
       have x0 := kX5.cell 0 _ rfl
       have x1' := kX5.cell 1 _ rfl
       have x2' := kX5.lt
       clear kS4 kX4 kY hdT4 hdD tk1)
    | (go_at_call 19; have := tk2; refine (S2'.out w5 A3 c3 _ hdT5 (by omega)).mono ?_; rintro e w6 ⟨A6, c6, rfl, hd2, hB6⟩
       have hB6' := hB5'.trans (hB6.mono hz5)
       have hz6 := hB6'.size
       have kS6 := kS5.below' hB6
       have kX6 := kX5.below' hB6
       have kY6 := kY5.below' hB6
       have hs6 := hB6.size
       have hdT6 := hdT5.below' hB6 (by omega)
       have hdD6 := hdD5.below' hB6 (by omega)
       have hd16 := hd1.below' hB6 (Nat.le_refl _)
       have y0 := kY6.cell 0 _ rfl
       have y1 := kY6.cell 1 _ rfl
       have y2 := kY6.lt
       clear kS5 kX5 kY5 hdT5 hdD5 hd1 x0 x1' x2' a0 a1 a2 tk2)
    | (go_at_call 19; have := tk3; refine (S3.out w6 A4 c4 _ hdD6 (by omega)).mono ?_; rintro e w7 ⟨A7, c7, rfl, hd3, hB7⟩
       have hB7' := hB6'.trans (hB7.mono hz6)
       have hz7 := hB7'.size
       have kS7 := kS6.below' hB7
       have kX7 := kX6.below' hB7
       have hs7 := hB7.size
       have hdT7 := hdT6.below' hB7 (by omega)
       have hd17 := hd16.below' hB7 (by omega)
       have hd27 := hd2.below' hB7 (Nat.le_refl _)
       clear kS6 kX6 kY6 hdT6 hdD6 hd16 hd2 y0 y1 y2 tk3)
    | (go_at_call 25; have := tk4; refine (rreaches_any A5 L1 c5 w7 _ (by omega) hd17 (by omega)).mono ?_; rintro e w8 ⟨rfl, hB8⟩; rw [R1.out]
       have hB8' := hB7'.trans (hB8.mono hz7)
       have hz8 := hB8'.size
       have kS8 := kS7.below' hB8
       have kX8 := kX7.below' hB8
       have hs8 := hB8.size
       have hdT8 := hdT7.below' hB8 (by omega)
       have hd28 := hd27.below' hB8 (by omega)
       have hd38 := hd3.below' hB8 (Nat.le_refl _)
       clear kS7 kX7 hdT7 hd17 hd27 hd3 tk4)
    | (go_at_call 25; have := tk5; refine (rreaches_any A6 L2 c6 w8 _ (by omega) hd28 (by omega)).mono ?_; rintro e w10 ⟨rfl, hB10⟩; rw [R2.out]
       have hB10' := hB8'.trans (hB10.mono hz8)
       have hz10 := hB10'.size
       have kS10 := kS8.below' hB10
       have kX10 := kX8.below' hB10
       have hs10 := hB10.size
       have hdT10 := hdT8.below' hB10 (by omega)
       have hd310 := hd38.below' hB10 (by omega)
       clear kS8 kX8 hdT8 hd28 hd38 tk5)
    | (go_at_call 25; refine (rreaches_any A7 L3 c7 w10 _ (by omega) hd310 (by omega)).mono ?_; rintro e w11 ⟨rfl, hB11⟩; rw [R3.out]
       have hB11' := hB10'.trans (hB11.mono hz10)
       have hz11 := hB11'.size
       have kS11 := kS10.below' hB11
       have kX11 := kX10.below' hB11
       have hs11 := hB11.size
       have hdT11 := hdT10.below' hB11 (by omega)
       have hd311 := hd310.below' hB11 (by omega)
       clear kS10 kX10 hdT10 hd310)
    | (go_at_call 25; refine (rreaches_any A7 L3 c7 w11 _ (by omega) hd311 (by omega)).mono ?_; rintro e w12 ⟨rfl, hB12⟩; rw [R3.out]
       have hB12' := hB11'.trans (hB12.mono hz11)
       have hz12 := hB12'.size
       have kS12 := kS11.below' hB12
       have kX12 := kX11.below' hB12
       have hs12 := hB12.size
       have hdT12 := hdT11.below' hB12 (by omega)
       have a0 := kS12.cell 0 _ rfl
       have a1 := kS12.cell 1 _ rfl
       have a2 := kS12.lt
       clear kS11 kX11 hdT11 hd311)
    | (go_at_call 15; refine (B1.out _ hB12').mono ?_; rintro e w13 ⟨A13, c13, rfl, hd13, hB13⟩
       have hB13' := hB12'.trans (hB13.mono hz12)
       have hz13 := hB13'.size
       have kX13 := kX12.below' hB13
       have hs13 := hB13.size
       have hdT13 := hdT12.below' hB13 (by omega)
       have x0 := kX13.cell 0 _ rfl
       have x1' := kX13.cell 1 _ rfl
       have x2' := kX13.lt
       clear B1 kS12 kX12 hdT12 a0 a1 a2)
    | (go_at_call 15; refine (B5'.out w13 A3 c3 _ hdT13 (by omega) hc3).mono ?_; rintro e w14 ⟨A14, c14, rfl, hd14, hB14⟩
       have hB14' := hB13'.trans (hB14.mono hz13)
       have hz14 := hB14'.size
       have hs14 := hB14.size
       have hd134 := hd13.below' hB14 (Nat.le_refl _)
       clear kX13 hdT13 x0 x1' x2' hd13)
    | (go_at_call 25; refine (rreaches_any A13 L4 c13 w14 _ (by omega) hd134 (by omega)).mono ?_; rintro e w15 ⟨rfl, hB15⟩; rw [B2.out]
       have hB15' := hB14'.trans (hB15.mono hz14)
       have hz15 := hB15'.size
       have hs15 := hB15.size
       have hd145 := hd14.below' hB15 (Nat.le_refl _)
       clear hd134)
    | (go_at_call 25; refine (rreaches_any A14 L5 c14 w15 _ (by omega) hd145 (by omega)).mono ?_; rintro e w16 ⟨rfl, hB16⟩; rw [R5.out]
       have hB16' := hB15'.trans (hB16.mono hz15)
       have hz16 := hB16'.size)
    | (go_at_call 11; refine (awake_any _).mono ?_; rintro e w9 ⟨rfl, hB9⟩))
  go_ret
  exact Ret.bool rfl (hB16'.trans (hB9.mono hz16))

theorem lawSides_any (P S : Int) (A : Option Addr) (l : List Tri) (c : Nat) (w : World) (H : Nat) (hr : RdT w H A l) (hH : H ≤ w.heap.size)
    (hw : ∀ (k : Nat) (hk : k < l.length), l[k].s.size ≤ 9223372036854775807) (hl : l.length ≤ 9223372036854775807) (hlc : l.length ≤ c) (hA0 : A = none → c = 0) :
    Calls Try.prog 6 #[.agg #[.int .i64 P, .slice A l.length c], .int .i64 S] w (Ret (.bool true) w) := by
  by_cases he : sheetE P l = 0
  · by_cases h60 : l.length ≤ 60
    · by_cases hh : handsE P S = 0
      · by_cases h10 : l.length ≤ 10
        · exact lawSides_small P S A l c w H hr hH hw hl he h60 hh hA0 hlc h10
        · exact lawSides_mid P S A l c w H hr hH hw hl he h60 hh hA0 hlc (by omega)
      · exact lawSides_hands P S A l c w H hr hH hw hl he h60 hh
    · exact lawSides_long P S A l c w H hr hH hw hl he (by omega)
  · exact lawSides_bad P S A l c w H hr hH hw hl he
end Go.Proofs.Ytogkgoabonbkkaa
