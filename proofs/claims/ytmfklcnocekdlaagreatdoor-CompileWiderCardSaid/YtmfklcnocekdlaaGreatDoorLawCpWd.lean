/- The law CompileWider, walked. -/
import Derived.Test.YtmfklcnocekdlaaGreatDoorWideM
import Derived.Test.YtmfklcnocekdlaaGreatDoorOptW
import Derived.Test.YtmfklcnocekdlaaGreatDoorOldA5
import Derived.Test.YtmfklcnocekdlaaGreatDoorCParse
import Derived.Test.YtmfklcnocekdlaaGreatDoorOldB
set_option linter.unusedSimpArgs false
set_option linter.unusedVariables false
namespace Go.Proofs.YtmfklcnocekdlaaGreatDoor
open Go Go.RowKit Tor

theorem _root_.Tor.Own.rdT {w : World} {base : Nat} {e : TypeId} {A : Option Addr} {n c : Nat} {l : List Tri} (h : Own 3 Tri.enc w base e (.slice A n c) l) : RdT w w.heap.size A l := by
  obtain ⟨A', c', e, _, hr⟩ := Own.rd tri_len h
  injection e with e1 _ _
  rw [e1]; exact hr
theorem chk_of {P S : Int} {l : List Tri} (h1 : sheetE P l = 0) (h2 : handsE P S = 0) : chkE P l S = 0 := by
  unfold handsE at h2
  split at h2
  · rename_i h
    unfold chkE
    rw [if_pos h1, if_pos h.2.2]
  · cases h2

/-- what holds of a sheet and of its instructions -/
def StepsOk (p s : Nat) (T L : List Tri) : Prop := ∀ (w' : World) (A' : Option Addr) (c' H' : Nat), RdT w' H' A' T → H' ≤ w'.heap.size → Calls Tryz.prog 14 #[.agg #[.int .i64 p, .slice A' T.length c'], .int .i64 s] w' (InsPost L w')
def BestOk (p s : Nat) (T L : List Tri) : Prop := ∀ (w' : World) (A' : Option Addr) (c' H' : Nat), RdT w' H' A' T → H' ≤ w'.heap.size → T.length ≤ c' → Calls Tryz.prog 16 #[.agg #[.int .i64 p, .slice A' T.length c'], .int .i64 s] w' (InsPost L w')
theorem steps_ok {p s : Nat} {T : List Tri} (hw : ∀ x ∈ T, WOk p x) (hh : handsE p s = 0) (hn : T.length ≤ 400) : StepsOk p s T (rst p s T (-1)) := fun w' A' c' H' hr hH =>
  cSteps_ins p s A' T c' w' H' hr hH hw (chk_of (sheetE_of (hands_bd hh).1 (hands_bd hh).2.1 hn hw) hh)
theorem best_ok {p s : Nat} {T : List Tri} (hw : ∀ x ∈ T, WOk p x) (hh : handsE p s = 0) (hn : T.length ≤ 10) : BestOk p s T (rst p s ((bestO p s T).map (xAt T)) (-1)) := fun w' A' c' H' hr hH hc =>
  cBest_ins p s A' T c' w' H' hr hH hw (chk_of (sheetE_of (hands_bd hh).1 (hands_bd hh).2.1 (by omega) hw) hh) hn hc
/-- the instructions of a sheet are printed and read back -/
def TextOk (L : List Tri) (S : ByteArray) : Prop :=
  (∀ (w' : World) (A' : Option Addr) (c' H' : Nat), RdT w' H' A' L → H' ≤ w'.heap.size → Calls Tryz.prog 7 #[.slice A' L.length c'] w' (fun e w'' => e = .returned (.tuple #[.string S, .int .i64 0]) ∧ Below w'.heap.size w' w'')) ∧
  (∀ (w' : World), CpAt w' → Calls Tryz.prog 9 #[.string S] w' fun e w'' => ∃ (A' : Option Addr) (c' : Nat), e = .returned (.tuple #[.slice A' L.length c', .int .i64 0, .int .i64 0]) ∧ RdT w'' w''.heap.size A' L ∧ Below w'.heap.size w' w'')
theorem text_ok {L : List Tri} (hl : L.length ≤ 1000) (h : ∀ x ∈ L, LineOk x) : TextOk L (bN (L.flatMap lineB)) := by
  have hp := print_line hl h
  have hq := parse_line hl h
  have hlen := lines_len L (k := L.length) (by
    rw [List.take_length, List.any_eq_false]
    intro x hx
    rw [line_good (h x hx)]; simp) L.length (Nat.le_refl _)
  rw [List.take_length] at hlen
  refine ⟨fun w' A' c' H' hr hH => ?_, fun w' hw => ?_⟩
  · have := cprint_any A' L c' w' H' hr hH (by omega) (fun k hk => by
      have h1 := word_lettersC (h _ (List.getElem_mem hk)).wd
      omega)
    rw [hp] at this
    exact this
  · have := cparse_any (L.flatMap lineB) w' hw (by omega)
    rw [hq] at this
    refine this.mono ?_
    rintro e w'' ⟨v, rfl, ho, hB⟩
    obtain ⟨A3, c3, rfl, _, hr3⟩ := Own.rd tri_len ho
    exact ⟨A3, c3, rfl, hr3, hB⟩
set_option maxRecDepth 100000 in
theorem lawWider_bad (P S : Int) (A : Option Addr) (l : List Tri) (c : Nat) (w : World) (H : Nat) (hr : RdT w H A l) (hH : H ≤ w.heap.size)
    (hw : ∀ (k : Nat) (hk : k < l.length), l[k].s.size ≤ 9223372036854775807) (hl : l.length ≤ 9223372036854775807) (he : sheetE P l ≠ 0) :
    Calls Tryz.prog 4 #[.agg #[.int .i64 P, .slice A l.length c], .int .i64 S] w (Ret (.bool true) w) := by
  have HW := Lib.hid hw
  have HRB := Lib.hid (show ∀ w', Below w.heap.size w w' → RdT w' H A l from fun w' hB => hr.below' hB hH)
  have hB0 : Below w.heap.size w (w.alloc (.cells #[.int .i64 P, .slice A l.length c] 33)) := by (repeat' first | exact Below.refl _ _ | apply Below.drew | (refine Below.setCells ?_ _ _ ?_) | (refine Below.setCell ?_ ?_ _) | (refine Below.alloc ?_ ?_ _) | (simp; done) | (simp; omega))
  have kS := Blk.new w 33 #[.int .i64 P, .slice A l.length c]
  obtain ⟨E, HE⟩ : ∃ E, Hid (sheetE P l = E) := ⟨_, Lib.hid rfl⟩
  rw [HE.out] at he
  have t1 : (E != 0) = true := by simp [he]
  clear hw hr he
  go_enter Tryz.func4, Tryz.ntmps4
  go_wp2_with (first
    | (go_at_call 12; refine (sheetRef_any P A l c _ H (HRB.out _ hB0) (Nat.le_trans hH hB0.size) HW.out hl).mono ?_; rintro e w1 ⟨rfl, hB1⟩; rw [HE.out]
       have kS1 := kS.below' hB1
       have a0 := kS1.cell 0 _ rfl
       have a1 := kS1.cell 1 _ rfl
       have a2 := kS1.lt
       have hB1' := hB0.trans (hB1.mono hB0.size))
    | (go_at_call 6; refine (awake_any _).mono ?_; rintro e w9 ⟨rfl, hB9⟩))
  go_ret
  exact Ret.bool rfl (hB1'.trans (hB9.mono hB1'.size))
set_option maxRecDepth 100000 in
theorem lawWider_long (P S : Int) (A : Option Addr) (l : List Tri) (c : Nat) (w : World) (H : Nat) (hr : RdT w H A l) (hH : H ≤ w.heap.size)
    (hw : ∀ (k : Nat) (hk : k < l.length), l[k].s.size ≤ 9223372036854775807) (hl : l.length ≤ 9223372036854775807) (he : sheetE P l = 0) (h60 : 60 < l.length) :
    Calls Tryz.prog 4 #[.agg #[.int .i64 P, .slice A l.length c], .int .i64 S] w (Ret (.bool true) w) := by
  have HW := Lib.hid hw
  have HRB := Lib.hid (show ∀ w', Below w.heap.size w w' → RdT w' H A l from fun w' hB => hr.below' hB hH)
  have hB0 : Below w.heap.size w (w.alloc (.cells #[.int .i64 P, .slice A l.length c] 33)) := by (repeat' first | exact Below.refl _ _ | apply Below.drew | (refine Below.setCells ?_ _ _ ?_) | (refine Below.setCell ?_ ?_ _) | (refine Below.alloc ?_ ?_ _) | (simp; done) | (simp; omega))
  have kS := Blk.new w 33 #[.int .i64 P, .slice A l.length c]
  have HE := Lib.hid he
  have t1 : (60 : Int) < (l.length : Int) := by omega
  clear hw hr he h60
  go_enter Tryz.func4, Tryz.ntmps4
  go_wp2_with (first
    | (go_at_call 12; refine (sheetRef_any P A l c _ H (HRB.out _ hB0) (Nat.le_trans hH hB0.size) HW.out hl).mono ?_; rintro e w1 ⟨rfl, hB1⟩; rw [HE.out]
       have kS1 := kS.below' hB1
       have a0 := kS1.cell 0 _ rfl
       have a1 := kS1.cell 1 _ rfl
       have a2 := kS1.lt
       have hB1' := hB0.trans (hB1.mono hB0.size))
    | (go_at_call 6; refine (awake_any _).mono ?_; rintro e w9 ⟨rfl, hB9⟩))
  go_ret
  exact Ret.bool rfl (hB1'.trans (hB9.mono hB1'.size))
set_option maxRecDepth 100000 in
theorem lawWider_hands (P S : Int) (A : Option Addr) (l : List Tri) (c : Nat) (w : World) (H : Nat) (hr : RdT w H A l) (hH : H ≤ w.heap.size)
    (hw : ∀ (k : Nat) (hk : k < l.length), l[k].s.size ≤ 9223372036854775807) (hl : l.length ≤ 9223372036854775807) (he : sheetE P l = 0) (h60 : l.length ≤ 60) (hh : handsE P S ≠ 0) :
    Calls Tryz.prog 4 #[.agg #[.int .i64 P, .slice A l.length c], .int .i64 S] w (Ret (.bool true) w) := by
  have HW := Lib.hid hw
  have HRB := Lib.hid (show ∀ w', Below w.heap.size w w' → RdT w' H A l from fun w' hB => hr.below' hB hH)
  have hB0 : Below w.heap.size w (w.alloc (.cells #[.int .i64 P, .slice A l.length c] 33)) := by (repeat' first | exact Below.refl _ _ | apply Below.drew | (refine Below.setCells ?_ _ _ ?_) | (refine Below.setCell ?_ ?_ _) | (refine Below.alloc ?_ ?_ _) | (simp; done) | (simp; omega))
  have kS := Blk.new w 33 #[.int .i64 P, .slice A l.length c]
  have HE := Lib.hid he
  have t1 : ¬ (60 : Int) < (l.length : Int) := by omega
  obtain ⟨E, HH⟩ : ∃ E, Hid (handsE P S = E) := ⟨_, Lib.hid rfl⟩
  rw [HH.out] at hh
  have t2 : (E != 0) = true := by simp [hh]
  clear hw hr he h60 hh
  go_enter Tryz.func4, Tryz.ntmps4
  go_wp2_with (first
    | (go_at_call 12; refine (sheetRef_any P A l c _ H (HRB.out _ hB0) (Nat.le_trans hH hB0.size) HW.out hl).mono ?_; rintro e w1 ⟨rfl, hB1⟩; rw [HE.out]
       have kS1 := kS.below' hB1
       have a0 := kS1.cell 0 _ rfl
       have a1 := kS1.cell 1 _ rfl
       have a2 := kS1.lt
       have hB1' := hB0.trans (hB1.mono hB0.size))
    | (go_at_call 13; refine (hands_any P S _).mono ?_; rintro e w2 ⟨rfl, hB2⟩; rw [HH.out]
       have kS2 := kS1.below' hB2
       have b0 := kS2.cell 0 _ rfl
       have b1 := kS2.cell 1 _ rfl
       have b2 := kS2.lt
       have hB2' := hB1'.trans (hB2.mono hB1'.size))
    | (go_at_call 6; refine (awake_any _).mono ?_; rintro e w9 ⟨rfl, hB9⟩))
  go_ret
  exact Ret.bool rfl (hB2'.trans (hB9.mono hB2'.size))
set_option maxRecDepth 100000 in
set_option maxHeartbeats 8000000 in
theorem lawWider_h2 (P S : Int) (A : Option Addr) (l : List Tri) (c : Nat) (w : World) (H : Nat) (hcp : CpAt w) (hr : RdT w H A l) (hH : H ≤ w.heap.size)
    (hw : ∀ (k : Nat) (hk : k < l.length), l[k].s.size ≤ 9223372036854775807) (hl : l.length ≤ 9223372036854775807) (he : sheetE P l = 0) (h60 : l.length ≤ 60) (hh : handsE P S = 0) (hlc : l.length ≤ c) (hh2 : handsE P (S + 1) ≠ 0) :
    Calls Tryz.prog 4 #[.agg #[.int .i64 P, .slice A l.length c], .int .i64 S] w (Ret (.bool true) w) := by
  have HRB := Lib.hid (show ∀ w', Below w.heap.size w w' → RdT w' H A l from fun w' hB => hr.below' hB hH)
  have hB0 : Below w.heap.size w (w.alloc (.cells #[.int .i64 P, .slice A l.length c] 33)) := by (repeat' first | exact Below.refl _ _ | apply Below.drew | (refine Below.setCells ?_ _ _ ?_) | (refine Below.setCell ?_ ?_ _) | (refine Below.alloc ?_ ?_ _) | (simp; done) | (simp; omega))
  have kS := Blk.new w 33 #[.int .i64 P, .slice A l.length c]
  have t1 : ¬ (60 : Int) < (l.length : Int) := by omega
  have hbd := hands_bd hh
  obtain ⟨p, rfl⟩ : ∃ p : Nat, P = p := ⟨P.toNat, by omega⟩
  obtain ⟨s, rfl⟩ : ∃ s : Nat, S = s := ⟨S.toNat, by omega⟩
  have hwk := wok_of he
  have HCH := Lib.hid (fun (w' : World) (hB : Below w.heap.size w w') => (by have := sheetRef_any p A l c w' H (HRB.out _ hB) (Nat.le_trans hH hB.size) hw hl; rw [he] at this; exact this : Calls Tryz.prog 12 #[.agg #[.int .i64 p, .slice A l.length c]] w' (Ret (.int .i64 0) w')))
  have HHN := Lib.hid (fun (w' : World) => (by have := hands_any p s w'; rw [hh] at this; exact this : Calls Tryz.prog 13 #[.int .i64 p, .int .i64 s] w' (Ret (.int .i64 0) w')))
  have hs1 : IntKind.i64.wrap ((s : Int) + 1) = ((s + 1 : Nat) : Int) := by rw [IntWalk.i64_in _ (by omega)]; rfl
  have S1 := Lib.hid (fun (w' : World) (hB : Below w.heap.size w w') => steps_ok (s := s) hwk hh (by omega) w' A c H (HRB.out w' hB) (Nat.le_trans hH hB.size))
  have s1 := rst_len (p : Int) (s : Int) l (-1)
  have r1 : reachesN (rst (p : Int) (s : Int) l (-1)) = C p s l := rfl
  obtain ⟨TX, hTX⟩ : ∃ TX, TextOk (rst (p : Int) (s : Int) l (-1)) TX := ⟨_, text_ok (by omega) (rst_line hbd.2.2.1 hbd.2.2.2.2 hbd.2.1 l _ hwk)⟩
  obtain ⟨E2, HE2⟩ : ∃ E, handsE (p : Int) ((s : Int) + 1) = E := ⟨_, rfl⟩
  rw [HE2] at hh2
  have HHM := Lib.hid (fun (w' : World) => (by have := hands_any p ((s + 1 : Nat) : Int) w'; rw [show (((s + 1 : Nat) : Int)) = (s : Int) + 1 from rfl, HE2] at this; exact this : Calls Tryz.prog 13 #[.int .i64 p, .int .i64 ((s + 1 : Nat) : Int)] w' (Ret (.int .i64 E2) w')))
  have e2 : (E2 != 0) = true := by simp [hh2]
  generalize rst (p : Int) (s : Int) l (-1) = L1 at S1 s1 r1 hTX
  have HTX := Lib.hid hTX
  have hL1 : Hid (L1.length ≤ 200) := Lib.hid (by omega)
  clear s1 r1 hTX hr he hh hwk h60 hh2 hw hbd
  go_enter Tryz.func4, Tryz.ntmps4
  go_wp2_with fail
  refine (HCH.out _ hB0).mono ?_
  rintro e w1 ⟨rfl, hB1⟩
  have q1 := hB0.trans (hB1.mono hB0.size)
  have kS1 := kS.below' hB1
  have a0 := kS1.cell 0 _ rfl
  have a1 := kS1.cell 1 _ rfl
  have a2 := kS1.lt
  go_wp2_with fail
  clear a0 a1 a2
  refine (HHN.out _).mono ?_
  rintro e w2 ⟨rfl, hB2⟩
  have q2 := q1.trans (hB2.mono q1.size)
  have kS2 := kS1.below' hB2
  have a0 := kS2.cell 0 _ rfl
  have a1 := kS2.cell 1 _ rfl
  have a2 := kS2.lt
  go_wp2_with fail
  clear a0 a1 a2
  refine (S1.out _ q2).mono ?_
  rintro e w3 ⟨A1, c1, rfl, hd3, hB3⟩
  have q3 := q2.trans (hB3.mono q2.size)
  have kS3 := kS2.below' hB3
  have a0 := kS3.cell 0 _ rfl
  have a1 := kS3.cell 1 _ rfl
  have a2 := kS3.lt
  go_wp2_with fail
  clear a0 a1 a2
  refine (HTX.out.1 _ _ _ _ hd3 (Nat.le_refl _)).mono ?_
  rintro e w4 ⟨rfl, hB4⟩
  have q4 := q3.trans (hB4.mono q3.size)
  have kS4 := kS3.below' hB4
  have hd4 := (hd3.below hB4).more hB4.size
  have a0 := kS4.cell 0 _ rfl
  have a1 := kS4.cell 1 _ rfl
  have a2 := kS4.lt
  go_wp2_with fail
  clear a0 a1 a2
  refine (HTX.out.2 _ (hcp.below q4)).mono ?_
  rintro e w5 ⟨A2, c2, rfl, he5, hB5⟩
  have q5 := q4.trans (hB5.mono q4.size)
  have kS5 := kS4.below' hB5
  have hd5 := (hd4.below hB5).more hB5.size
  have HX := Lib.hid (sameSteps_any A1 A2 L1 L1 c1 c2 w5 w5.heap.size (by have := hL1.out; omega) hd5 he5 (Nat.le_refl _))
  rw [decide_eq_true (rfl : L1 = L1)] at HX
  have a0 := kS5.cell 0 _ rfl
  have a1 := kS5.cell 1 _ rfl
  have a2 := kS5.lt
  go_wp2_with fail
  clear a0 a1 a2
  refine (HX.out).mono ?_
  rintro e w6 ⟨rfl, hB6⟩
  have q6 := q5.trans (hB6.mono q5.size)
  have kS6 := kS5.below' hB6
  have hd6 := (hd5.below hB6).more hB6.size
  have a0 := kS6.cell 0 _ rfl
  have a1 := kS6.cell 1 _ rfl
  have a2 := kS6.lt
  go_wp2_with fail
  clear a0 a1 a2
  refine (HHM.out _).mono ?_
  rintro e w7 ⟨rfl, hB7⟩
  have q7 := q6.trans (hB7.mono q6.size)
  have kS7 := kS6.below' hB7
  have hd7 := (hd6.below hB7).more hB7.size
  have a0 := kS7.cell 0 _ rfl
  have a1 := kS7.cell 1 _ rfl
  have a2 := kS7.lt
  go_wp2_with fail
  clear a0 a1 a2
  refine (awake_any _).mono ?_
  rintro e w20 ⟨rfl, hB20⟩
  go_wp2_with fail
  go_ret
  exact ⟨rfl, q7.trans (hB20.mono q7.size)⟩
set_option maxRecDepth 100000 in
set_option maxHeartbeats 8000000 in
theorem lawWider_mid (P S : Int) (A : Option Addr) (l : List Tri) (c : Nat) (w : World) (H : Nat) (hcp : CpAt w) (hr : RdT w H A l) (hH : H ≤ w.heap.size)
    (hw : ∀ (k : Nat) (hk : k < l.length), l[k].s.size ≤ 9223372036854775807) (hl : l.length ≤ 9223372036854775807) (he : sheetE P l = 0) (h60 : l.length ≤ 60) (hh : handsE P S = 0) (hlc : l.length ≤ c) (hh2 : handsE P (S + 1) = 0) (h10 : 10 < l.length) :
    Calls Tryz.prog 4 #[.agg #[.int .i64 P, .slice A l.length c], .int .i64 S] w (Ret (.bool true) w) := by
  have HRB := Lib.hid (show ∀ w', Below w.heap.size w w' → RdT w' H A l from fun w' hB => hr.below' hB hH)
  have hB0 : Below w.heap.size w (w.alloc (.cells #[.int .i64 P, .slice A l.length c] 33)) := by (repeat' first | exact Below.refl _ _ | apply Below.drew | (refine Below.setCells ?_ _ _ ?_) | (refine Below.setCell ?_ ?_ _) | (refine Below.alloc ?_ ?_ _) | (simp; done) | (simp; omega))
  have kS := Blk.new w 33 #[.int .i64 P, .slice A l.length c]
  have t1 : ¬ (60 : Int) < (l.length : Int) := by omega
  have hbd := hands_bd hh
  obtain ⟨p, rfl⟩ : ∃ p : Nat, P = p := ⟨P.toNat, by omega⟩
  obtain ⟨s, rfl⟩ : ∃ s : Nat, S = s := ⟨S.toNat, by omega⟩
  have hwk := wok_of he
  have HCH := Lib.hid (fun (w' : World) (hB : Below w.heap.size w w') => (by have := sheetRef_any p A l c w' H (HRB.out _ hB) (Nat.le_trans hH hB.size) hw hl; rw [he] at this; exact this : Calls Tryz.prog 12 #[.agg #[.int .i64 p, .slice A l.length c]] w' (Ret (.int .i64 0) w')))
  have HHN := Lib.hid (fun (w' : World) => (by have := hands_any p s w'; rw [hh] at this; exact this : Calls Tryz.prog 13 #[.int .i64 p, .int .i64 s] w' (Ret (.int .i64 0) w')))
  have hs1 : IntKind.i64.wrap ((s : Int) + 1) = ((s + 1 : Nat) : Int) := by rw [IntWalk.i64_in _ (by omega)]; rfl
  have S1 := Lib.hid (fun (w' : World) (hB : Below w.heap.size w w') => steps_ok (s := s) hwk hh (by omega) w' A c H (HRB.out w' hB) (Nat.le_trans hH hB.size))
  have s1 := rst_len (p : Int) (s : Int) l (-1)
  have r1 : reachesN (rst (p : Int) (s : Int) l (-1)) = C p s l := rfl
  obtain ⟨TX, hTX⟩ : ∃ TX, TextOk (rst (p : Int) (s : Int) l (-1)) TX := ⟨_, text_ok (by omega) (rst_line hbd.2.2.1 hbd.2.2.2.2 hbd.2.1 l _ hwk)⟩
  have hh3 : handsE (p : Int) ((s + 1 : Nat) : Int) = 0 := hh2
  have hbd2 := hands_bd hh2
  have HHM := Lib.hid (fun (w' : World) => (by have := hands_any p ((s + 1 : Nat) : Int) w'; rw [hh3] at this; exact this : Calls Tryz.prog 13 #[.int .i64 p, .int .i64 ((s + 1 : Nat) : Int)] w' (Ret (.int .i64 0) w')))
  have S2 := Lib.hid (fun (w' : World) (hB : Below w.heap.size w w') => steps_ok (s := s + 1) hwk hh3 (by omega) w' A c H (HRB.out w' hB) (Nat.le_trans hH hB.size))
  have s2 := rst_len (p : Int) ((s + 1 : Nat) : Int) l (-1)
  have r2 : reachesN (rst (p : Int) ((s + 1 : Nat) : Int) l (-1)) = C p ((s + 1 : Nat) : Int) l := rfl
  have cw := C_wider (p := (p : Int)) (s := (s : Int)) hbd.2.2.1 hbd2.2.2.2.2 _ l (Nat.le_refl _) hwk
  rw [show (s : Int) + 1 = ((s + 1 : Nat) : Int) from rfl] at cw
  have t10 : (10 : Int) < (l.length : Int) := by omega
  generalize rst (p : Int) (s : Int) l (-1) = L1 at S1 s1 r1 hTX
  have HTX := Lib.hid hTX
  have hL1 : Hid (L1.length ≤ 200) := Lib.hid (by omega)
  generalize rst (p : Int) ((s + 1 : Nat) : Int) l (-1) = L2 at S2 s2 r2
  have hL2 : Hid (L2.length ≤ 200) := Lib.hid (by omega)
  rw [← r1, ← r2] at cw
  obtain ⟨n1, hn1⟩ : ∃ n, Hid (reachesN L1 = n) := ⟨_, Lib.hid rfl⟩
  obtain ⟨n2, hn2⟩ : ∃ n, Hid (reachesN L2 = n) := ⟨_, Lib.hid rfl⟩
  rw [hn1.out, hn2.out] at cw
  have x1 : ¬ (n1 : Int) < (n2 : Int) := by omega
  clear s2 r2 cw hh3 hbd2
  clear s1 r1 hTX hr he hh hwk h60 hh2 h10 hw hbd
  go_enter Tryz.func4, Tryz.ntmps4
  go_wp2_with fail
  refine (HCH.out _ hB0).mono ?_
  rintro e w1 ⟨rfl, hB1⟩
  have q1 := hB0.trans (hB1.mono hB0.size)
  have kS1 := kS.below' hB1
  have a0 := kS1.cell 0 _ rfl
  have a1 := kS1.cell 1 _ rfl
  have a2 := kS1.lt
  go_wp2_with fail
  clear a0 a1 a2
  refine (HHN.out _).mono ?_
  rintro e w2 ⟨rfl, hB2⟩
  have q2 := q1.trans (hB2.mono q1.size)
  have kS2 := kS1.below' hB2
  have a0 := kS2.cell 0 _ rfl
  have a1 := kS2.cell 1 _ rfl
  have a2 := kS2.lt
  go_wp2_with fail
  clear a0 a1 a2
  refine (S1.out _ q2).mono ?_
  rintro e w3 ⟨A1, c1, rfl, hd3, hB3⟩
  have q3 := q2.trans (hB3.mono q2.size)
  have kS3 := kS2.below' hB3
  have a0 := kS3.cell 0 _ rfl
  have a1 := kS3.cell 1 _ rfl
  have a2 := kS3.lt
  go_wp2_with fail
  clear a0 a1 a2
  refine (HTX.out.1 _ _ _ _ hd3 (Nat.le_refl _)).mono ?_
  rintro e w4 ⟨rfl, hB4⟩
  have q4 := q3.trans (hB4.mono q3.size)
  have kS4 := kS3.below' hB4
  have hd4 := (hd3.below hB4).more hB4.size
  have a0 := kS4.cell 0 _ rfl
  have a1 := kS4.cell 1 _ rfl
  have a2 := kS4.lt
  go_wp2_with fail
  clear a0 a1 a2
  refine (HTX.out.2 _ (hcp.below q4)).mono ?_
  rintro e w5 ⟨A2, c2, rfl, he5, hB5⟩
  have q5 := q4.trans (hB5.mono q4.size)
  have kS5 := kS4.below' hB5
  have hd5 := (hd4.below hB5).more hB5.size
  have HX := Lib.hid (sameSteps_any A1 A2 L1 L1 c1 c2 w5 w5.heap.size (by have := hL1.out; omega) hd5 he5 (Nat.le_refl _))
  rw [decide_eq_true (rfl : L1 = L1)] at HX
  have a0 := kS5.cell 0 _ rfl
  have a1 := kS5.cell 1 _ rfl
  have a2 := kS5.lt
  go_wp2_with fail
  clear a0 a1 a2
  refine (HX.out).mono ?_
  rintro e w6 ⟨rfl, hB6⟩
  have q6 := q5.trans (hB6.mono q5.size)
  have kS6 := kS5.below' hB6
  have hd6 := (hd5.below hB6).more hB6.size
  have a0 := kS6.cell 0 _ rfl
  have a1 := kS6.cell 1 _ rfl
  have a2 := kS6.lt
  go_wp2_with fail
  clear a0 a1 a2
  refine (HHM.out _).mono ?_
  rintro e w7 ⟨rfl, hB7⟩
  have q7 := q6.trans (hB7.mono q6.size)
  have kS7 := kS6.below' hB7
  have hd7 := (hd6.below hB7).more hB7.size
  have a0 := kS7.cell 0 _ rfl
  have a1 := kS7.cell 1 _ rfl
  have a2 := kS7.lt
  go_wp2_with fail
  clear a0 a1 a2
  refine (S2.out _ q7).mono ?_
  rintro e w8 ⟨A3, c3, rfl, he8, hB8⟩
  have q8 := q7.trans (hB8.mono q7.size)
  have kS8 := kS7.below' hB8
  have hd8 := (hd7.below hB8).more hB8.size
  have a0 := kS8.cell 0 _ rfl
  have a1 := kS8.cell 1 _ rfl
  have a2 := kS8.lt
  go_wp2_with fail
  clear a0 a1 a2
  refine (creaches_any A3 L2 c3 _ _ (by have := hL2.out; omega) he8 (Nat.le_refl _)).mono ?_
  rintro e w9 ⟨rfl, hB9⟩
  have q9 := q8.trans (hB9.mono q8.size)
  have kS9 := kS8.below' hB9
  have hd9 := (hd8.below hB9).more hB9.size
  rw [hn2.out]
  have a0 := kS9.cell 0 _ rfl
  have a1 := kS9.cell 1 _ rfl
  have a2 := kS9.lt
  go_wp2_with fail
  clear a0 a1 a2
  refine (creaches_any A1 L1 c1 _ _ (by have := hL1.out; omega) hd9 (Nat.le_refl _)).mono ?_
  rintro e w10 ⟨rfl, hB10⟩
  have q10 := q9.trans (hB10.mono q9.size)
  have kS10 := kS9.below' hB10
  rw [hn1.out]
  have a0 := kS10.cell 0 _ rfl
  have a1 := kS10.cell 1 _ rfl
  have a2 := kS10.lt
  go_wp2_with fail
  clear a0 a1 a2
  refine (awake_any _).mono ?_
  rintro e w20 ⟨rfl, hB20⟩
  go_wp2_with fail
  go_ret
  exact ⟨rfl, q10.trans (hB20.mono q10.size)⟩
set_option maxRecDepth 100000 in
set_option maxHeartbeats 8000000 in
theorem lawWider_small (P S : Int) (A : Option Addr) (l : List Tri) (c : Nat) (w : World) (H : Nat) (hcp : CpAt w) (hr : RdT w H A l) (hH : H ≤ w.heap.size)
    (hw : ∀ (k : Nat) (hk : k < l.length), l[k].s.size ≤ 9223372036854775807) (hl : l.length ≤ 9223372036854775807) (he : sheetE P l = 0) (h60 : l.length ≤ 60) (hh : handsE P S = 0) (hlc : l.length ≤ c) (hh2 : handsE P (S + 1) = 0) (h10 : l.length ≤ 10) :
    Calls Tryz.prog 4 #[.agg #[.int .i64 P, .slice A l.length c], .int .i64 S] w (Ret (.bool true) w) := by
  have HRB := Lib.hid (show ∀ w', Below w.heap.size w w' → RdT w' H A l from fun w' hB => hr.below' hB hH)
  have hB0 : Below w.heap.size w (w.alloc (.cells #[.int .i64 P, .slice A l.length c] 33)) := by (repeat' first | exact Below.refl _ _ | apply Below.drew | (refine Below.setCells ?_ _ _ ?_) | (refine Below.setCell ?_ ?_ _) | (refine Below.alloc ?_ ?_ _) | (simp; done) | (simp; omega))
  have kS := Blk.new w 33 #[.int .i64 P, .slice A l.length c]
  have t1 : ¬ (60 : Int) < (l.length : Int) := by omega
  have hbd := hands_bd hh
  obtain ⟨p, rfl⟩ : ∃ p : Nat, P = p := ⟨P.toNat, by omega⟩
  obtain ⟨s, rfl⟩ : ∃ s : Nat, S = s := ⟨S.toNat, by omega⟩
  have hwk := wok_of he
  have HCH := Lib.hid (fun (w' : World) (hB : Below w.heap.size w w') => (by have := sheetRef_any p A l c w' H (HRB.out _ hB) (Nat.le_trans hH hB.size) hw hl; rw [he] at this; exact this : Calls Tryz.prog 12 #[.agg #[.int .i64 p, .slice A l.length c]] w' (Ret (.int .i64 0) w')))
  have HHN := Lib.hid (fun (w' : World) => (by have := hands_any p s w'; rw [hh] at this; exact this : Calls Tryz.prog 13 #[.int .i64 p, .int .i64 s] w' (Ret (.int .i64 0) w')))
  have hs1 : IntKind.i64.wrap ((s : Int) + 1) = ((s + 1 : Nat) : Int) := by rw [IntWalk.i64_in _ (by omega)]; rfl
  have S1 := Lib.hid (fun (w' : World) (hB : Below w.heap.size w w') => steps_ok (s := s) hwk hh (by omega) w' A c H (HRB.out w' hB) (Nat.le_trans hH hB.size))
  have s1 := rst_len (p : Int) (s : Int) l (-1)
  have r1 : reachesN (rst (p : Int) (s : Int) l (-1)) = C p s l := rfl
  obtain ⟨TX, hTX⟩ : ∃ TX, TextOk (rst (p : Int) (s : Int) l (-1)) TX := ⟨_, text_ok (by omega) (rst_line hbd.2.2.1 hbd.2.2.2.2 hbd.2.1 l _ hwk)⟩
  have hh3 : handsE (p : Int) ((s + 1 : Nat) : Int) = 0 := hh2
  have hbd2 := hands_bd hh2
  have HHM := Lib.hid (fun (w' : World) => (by have := hands_any p ((s + 1 : Nat) : Int) w'; rw [hh3] at this; exact this : Calls Tryz.prog 13 #[.int .i64 p, .int .i64 ((s + 1 : Nat) : Int)] w' (Ret (.int .i64 0) w')))
  have S2 := Lib.hid (fun (w' : World) (hB : Below w.heap.size w w') => steps_ok (s := s + 1) hwk hh3 (by omega) w' A c H (HRB.out w' hB) (Nat.le_trans hH hB.size))
  have s2 := rst_len (p : Int) ((s + 1 : Nat) : Int) l (-1)
  have r2 : reachesN (rst (p : Int) ((s + 1 : Nat) : Int) l (-1)) = C p ((s + 1 : Nat) : Int) l := rfl
  have cw := C_wider (p := (p : Int)) (s := (s : Int)) hbd.2.2.1 hbd2.2.2.2.2 _ l (Nat.le_refl _) hwk
  rw [show (s : Int) + 1 = ((s + 1 : Nat) : Int) from rfl] at cw
  have B1 := Lib.hid (fun (w' : World) (hB : Below w.heap.size w w') => best_ok (s := s) hwk hh h10 w' A c H (HRB.out w' hB) (Nat.le_trans hH hB.size) hlc)
  have B2 := Lib.hid (fun (w' : World) (hB : Below w.heap.size w w') => best_ok (s := s + 1) hwk hh3 h10 w' A c H (HRB.out w' hB) (Nat.le_trans hH hB.size) hlc)
  have b1 := rst_len (p : Int) (s : Int) ((bestO p s l).map (xAt l)) (-1)
  rw [List.length_map, (bestO_lin (p := (p : Int)) (s := (s : Int)) h10).2] at b1
  have b2 := rst_len (p : Int) ((s + 1 : Nat) : Int) ((bestO p ((s + 1 : Nat) : Int) l).map (xAt l)) (-1)
  rw [List.length_map, (bestO_lin (p := (p : Int)) (s := ((s + 1 : Nat) : Int)) h10).2] at b2
  have c1 : reachesN (rst (p : Int) (s : Int) ((bestO p s l).map (xAt l)) (-1)) = C p s ((bestO p s l).map (xAt l)) := rfl
  have c2 : reachesN (rst (p : Int) ((s + 1 : Nat) : Int) ((bestO p ((s + 1 : Nat) : Int) l).map (xAt l)) (-1)) = C p ((s + 1 : Nat) : Int) ((bestO p ((s + 1 : Nat) : Int) l).map (xAt l)) := rfl
  have bw := best_wider (p := (p : Int)) (s := (s : Int)) hbd.2.2.1 hbd2.2.2.2.2 h10 hwk
  rw [show (s : Int) + 1 = ((s + 1 : Nat) : Int) from rfl, ← c1, ← c2] at bw
  generalize rst (p : Int) (s : Int) ((bestO p s l).map (xAt l)) (-1) = L3 at B1 b1 bw
  generalize rst (p : Int) ((s + 1 : Nat) : Int) ((bestO p ((s + 1 : Nat) : Int) l).map (xAt l)) (-1) = L4 at B2 b2 bw
  clear c1 c2
  have t10 : ¬ (10 : Int) < (l.length : Int) := by omega
  have hL3 : Hid (L3.length ≤ 200) := Lib.hid (by omega)
  have hL4 : Hid (L4.length ≤ 200) := Lib.hid (by omega)
  obtain ⟨n3, hn3⟩ : ∃ n, Hid (reachesN L3 = n) := ⟨_, Lib.hid rfl⟩
  obtain ⟨n4, hn4⟩ : ∃ n, Hid (reachesN L4 = n) := ⟨_, Lib.hid rfl⟩
  rw [hn3.out, hn4.out] at bw
  have x2 : ((n4 : Int) ≤ (n3 : Int)) := by omega
  clear b1 b2 bw
  generalize rst (p : Int) (s : Int) l (-1) = L1 at S1 s1 r1 hTX
  have HTX := Lib.hid hTX
  have hL1 : Hid (L1.length ≤ 200) := Lib.hid (by omega)
  generalize rst (p : Int) ((s + 1 : Nat) : Int) l (-1) = L2 at S2 s2 r2
  have hL2 : Hid (L2.length ≤ 200) := Lib.hid (by omega)
  rw [← r1, ← r2] at cw
  obtain ⟨n1, hn1⟩ : ∃ n, Hid (reachesN L1 = n) := ⟨_, Lib.hid rfl⟩
  obtain ⟨n2, hn2⟩ : ∃ n, Hid (reachesN L2 = n) := ⟨_, Lib.hid rfl⟩
  rw [hn1.out, hn2.out] at cw
  have x1 : ¬ (n1 : Int) < (n2 : Int) := by omega
  clear s2 r2 cw hh3 hbd2
  clear s1 r1 hTX hr he hh hwk h60 hh2 h10 hw hbd
  go_enter Tryz.func4, Tryz.ntmps4
  go_wp2_with fail
  refine (HCH.out _ hB0).mono ?_
  rintro e w1 ⟨rfl, hB1⟩
  have q1 := hB0.trans (hB1.mono hB0.size)
  have kS1 := kS.below' hB1
  have a0 := kS1.cell 0 _ rfl
  have a1 := kS1.cell 1 _ rfl
  have a2 := kS1.lt
  go_wp2_with fail
  clear a0 a1 a2
  refine (HHN.out _).mono ?_
  rintro e w2 ⟨rfl, hB2⟩
  have q2 := q1.trans (hB2.mono q1.size)
  have kS2 := kS1.below' hB2
  have a0 := kS2.cell 0 _ rfl
  have a1 := kS2.cell 1 _ rfl
  have a2 := kS2.lt
  go_wp2_with fail
  clear a0 a1 a2
  refine (S1.out _ q2).mono ?_
  rintro e w3 ⟨A1, c1, rfl, hd3, hB3⟩
  have q3 := q2.trans (hB3.mono q2.size)
  have kS3 := kS2.below' hB3
  have a0 := kS3.cell 0 _ rfl
  have a1 := kS3.cell 1 _ rfl
  have a2 := kS3.lt
  go_wp2_with fail
  clear a0 a1 a2
  refine (HTX.out.1 _ _ _ _ hd3 (Nat.le_refl _)).mono ?_
  rintro e w4 ⟨rfl, hB4⟩
  have q4 := q3.trans (hB4.mono q3.size)
  have kS4 := kS3.below' hB4
  have hd4 := (hd3.below hB4).more hB4.size
  have a0 := kS4.cell 0 _ rfl
  have a1 := kS4.cell 1 _ rfl
  have a2 := kS4.lt
  go_wp2_with fail
  clear a0 a1 a2
  refine (HTX.out.2 _ (hcp.below q4)).mono ?_
  rintro e w5 ⟨A2, c2, rfl, he5, hB5⟩
  have q5 := q4.trans (hB5.mono q4.size)
  have kS5 := kS4.below' hB5
  have hd5 := (hd4.below hB5).more hB5.size
  have HX := Lib.hid (sameSteps_any A1 A2 L1 L1 c1 c2 w5 w5.heap.size (by have := hL1.out; omega) hd5 he5 (Nat.le_refl _))
  rw [decide_eq_true (rfl : L1 = L1)] at HX
  have a0 := kS5.cell 0 _ rfl
  have a1 := kS5.cell 1 _ rfl
  have a2 := kS5.lt
  go_wp2_with fail
  clear a0 a1 a2
  refine (HX.out).mono ?_
  rintro e w6 ⟨rfl, hB6⟩
  have q6 := q5.trans (hB6.mono q5.size)
  have kS6 := kS5.below' hB6
  have hd6 := (hd5.below hB6).more hB6.size
  have a0 := kS6.cell 0 _ rfl
  have a1 := kS6.cell 1 _ rfl
  have a2 := kS6.lt
  go_wp2_with fail
  clear a0 a1 a2
  refine (HHM.out _).mono ?_
  rintro e w7 ⟨rfl, hB7⟩
  have q7 := q6.trans (hB7.mono q6.size)
  have kS7 := kS6.below' hB7
  have hd7 := (hd6.below hB7).more hB7.size
  have a0 := kS7.cell 0 _ rfl
  have a1 := kS7.cell 1 _ rfl
  have a2 := kS7.lt
  go_wp2_with fail
  clear a0 a1 a2
  refine (S2.out _ q7).mono ?_
  rintro e w8 ⟨A3, c3, rfl, he8, hB8⟩
  have q8 := q7.trans (hB8.mono q7.size)
  have kS8 := kS7.below' hB8
  have hd8 := (hd7.below hB8).more hB8.size
  have a0 := kS8.cell 0 _ rfl
  have a1 := kS8.cell 1 _ rfl
  have a2 := kS8.lt
  go_wp2_with fail
  clear a0 a1 a2
  refine (creaches_any A3 L2 c3 _ _ (by have := hL2.out; omega) he8 (Nat.le_refl _)).mono ?_
  rintro e w9 ⟨rfl, hB9⟩
  have q9 := q8.trans (hB9.mono q8.size)
  have kS9 := kS8.below' hB9
  have hd9 := (hd8.below hB9).more hB9.size
  rw [hn2.out]
  have a0 := kS9.cell 0 _ rfl
  have a1 := kS9.cell 1 _ rfl
  have a2 := kS9.lt
  go_wp2_with fail
  clear a0 a1 a2
  refine (creaches_any A1 L1 c1 _ _ (by have := hL1.out; omega) hd9 (Nat.le_refl _)).mono ?_
  rintro e w10 ⟨rfl, hB10⟩
  have q10 := q9.trans (hB10.mono q9.size)
  have kS10 := kS9.below' hB10
  rw [hn1.out]
  have a0 := kS10.cell 0 _ rfl
  have a1 := kS10.cell 1 _ rfl
  have a2 := kS10.lt
  go_wp2_with fail
  clear a0 a1 a2
  refine (B1.out _ q10).mono ?_
  rintro e w11 ⟨A4, c4, rfl, he11, hB11⟩
  have q11 := q10.trans (hB11.mono q10.size)
  have kS11 := kS10.below' hB11
  have a0 := kS11.cell 0 _ rfl
  have a1 := kS11.cell 1 _ rfl
  have a2 := kS11.lt
  go_wp2_with fail
  clear a0 a1 a2
  refine (B2.out _ q11).mono ?_
  rintro e w12 ⟨A5, c5, rfl, he12, hB12⟩
  have q12 := q11.trans (hB12.mono q11.size)
  have kS12 := kS11.below' hB12
  have hf12 := (he11.below hB12).more hB12.size
  have a0 := kS12.cell 0 _ rfl
  have a1 := kS12.cell 1 _ rfl
  have a2 := kS12.lt
  go_wp2_with fail
  clear a0 a1 a2
  refine (creaches_any A5 L4 c5 _ _ (by have := hL4.out; omega) he12 (Nat.le_refl _)).mono ?_
  rintro e w13 ⟨rfl, hB13⟩
  have q13 := q12.trans (hB13.mono q12.size)
  have kS13 := kS12.below' hB13
  have hf13 := (hf12.below hB13).more hB13.size
  rw [hn4.out]
  have a0 := kS13.cell 0 _ rfl
  have a1 := kS13.cell 1 _ rfl
  have a2 := kS13.lt
  go_wp2_with fail
  clear a0 a1 a2
  refine (creaches_any A4 L3 c4 _ _ (by have := hL3.out; omega) hf13 (Nat.le_refl _)).mono ?_
  rintro e w14 ⟨rfl, hB14⟩
  have q14 := q13.trans (hB14.mono q13.size)
  have kS14 := kS13.below' hB14
  rw [hn3.out]
  have a0 := kS14.cell 0 _ rfl
  have a1 := kS14.cell 1 _ rfl
  have a2 := kS14.lt
  go_wp2_with fail
  clear a0 a1 a2
  refine (awake_any _).mono ?_
  rintro e w20 ⟨rfl, hB20⟩
  go_wp2_with fail
  go_ret
  exact ⟨rfl, q14.trans (hB20.mono q14.size)⟩
theorem lawWider_any (P S : Int) (A : Option Addr) (l : List Tri) (c : Nat) (w : World) (hcp : CpAt w) (hr : RdT w w.heap.size A l)
    (hw : ∀ (k : Nat) (hk : k < l.length), l[k].s.size ≤ 9223372036854775807) (hl : l.length ≤ 9223372036854775807) (hlc : l.length ≤ c) :
    Calls Tryz.prog 4 #[.agg #[.int .i64 P, .slice A l.length c], .int .i64 S] w (Ret (.bool true) w) := by
  have hH := Nat.le_refl w.heap.size
  by_cases he : sheetE P l = 0
  · by_cases h60 : l.length ≤ 60
    · by_cases hh : handsE P S = 0
      · by_cases hh2 : handsE P (S + 1) = 0
        · by_cases h10 : l.length ≤ 10
          · exact lawWider_small P S A l c w _ hcp hr hH hw hl he h60 hh hlc hh2 h10
          · exact lawWider_mid P S A l c w _ hcp hr hH hw hl he h60 hh hlc hh2 (by omega)
        · exact lawWider_h2 P S A l c w _ hcp hr hH hw hl he h60 hh hlc hh2
      · exact lawWider_hands P S A l c w _ hr hH hw hl he h60 hh
    · exact lawWider_long P S A l c w _ hr hH hw hl he (by omega)
  · exact lawWider_bad P S A l c w _ hr hH hw hl he
end Go.Proofs.YtmfklcnocekdlaaGreatDoor
