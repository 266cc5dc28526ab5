/- The law FaultsUnseen, walked. -/
import Derived.Test.YtfnklchhhojimaaLaw25
import Derived.Test.YtfnklchhhojimaaHoldC
import Derived.Test.YtfnklchhhojimaaBrdV
set_option linter.unusedSimpArgs false
set_option linter.unusedVariables false
namespace Go.Proofs.Ytfnklchhhojimaa
open Go Go.RowKit Tor Brd

/-- what is not seen has the same crossings, and as many pins -/
structure UnS (P S : Int) (l : List Tri) (f : Flt) (X Y : List Tri) : Prop where
  p2 : 2 ≤ P
  x : (sheetR P S l).1 = P ∧ (sheetR P S l).2.1 = X ∧ (sheetR P S l).2.2.2 = 0
  y : (sheetR P S (putF l f)).1 = P ∧ (sheetR P S (putF l f)).2.1 = Y ∧ (sheetR P S (putF l f)).2.2.2 = 0
  ox : sheetE P X = 0
  oy : sheetE P Y = 0
  lx : X.length ≤ l.length
  ly : Y.length ≤ l.length
  wd : ∀ (k : Nat) (hk : k < (putF l f).length), (putF l f)[k].s.size ≤ 9223372036854775807
  br : BrEq (2 * P).toNat (crsL X) (crsL Y)
  pn : pnsL Y = pnsL X
  i1 : ∀ x ∈ crsL X, InR (2 * P).toNat x
  i2 : ∀ x ∈ crsL Y, InR (2 * P).toNat x
theorem unseen_of {P S : Int} {l : List Tri} {f : Flt} (hl : l.length ≤ 40) (h : PutOk P S l f) (ha : alikeR P S l (putF l f) = true) : ∃ X Y, UnS P S l f X Y := by
  have hl2 := putF_len l f
  obtain ⟨p1, e1, k1⟩ := sheetR_sheet h.ok (by omega)
  obtain ⟨p2, e2, k2⟩ := sheetR_sheet h.ok2 (by omega)
  have ht : TrEq (plainL (sheetR P S l).2.1) (plainL (sheetR P S (putF l f)).2.1) := by
    unfold alikeR at ha
    rw [traceB_iff (fun k hk => (plain_wok k1 _ (List.getElem_mem hk)).b0)] at ha
    exact ha.2
  have hp := (hands_bd (p := P) (s := S) (by
    apply Classical.byContradiction; intro hn
    have := h.ok
    rw [sheetR_hands hn] at this
    exact hn this)).1
  have hn : ((P.toNat : Nat) : Int) = P := by omega
  have w1 : InW P.toNat (sheetR P S l).2.1 := fun x hx => by have a := (k1 x hx).b0; have b := (k1 x hx).b1; omega
  have w2 : InW P.toNat (sheetR P S (putF l f)).2.1 := fun x hx => by have a := (k2 x hx).b0; have b := (k2 x hx).b1; omega
  obtain ⟨b1, b2⟩ := alike_cr w1 w2 ht
  have hq : 2 * P.toNat = (2 * P).toNat := by omega
  rw [hq] at b1
  have c1 := crs_in w1
  have c2 := crs_in w2
  rw [hq] at c1 c2
  exact ⟨_, _, ⟨hp, ⟨p1, rfl, h.ok⟩, ⟨p2, rfl, h.ok2⟩, e1, e2, sheetR_len, Nat.le_trans sheetR_len hl2, fun k hk => by have := (word_ok ((ins_ok h.ok2).w k hk)).1; omega, b1, b2.symm, c1, c2⟩⟩

set_option maxRecDepth 100000 in
set_option maxHeartbeats 8000000 in
theorem lawUnseen_any (P S : Int) (A : Option Addr) (l : List Tri) (c : Nat) (f g : Flt) (w : World) (H : Nat) (hr : RdT w H A l) (hH : H ≤ w.heap.size)
    (hw : ∀ (k : Nat) (hk : k < l.length), l[k].s.size ≤ 9223372036854775807) (hl : l.length ≤ 9223372036854775807) :
    Calls Try.prog 3 #[.agg #[.int .i64 P, .int .i64 S, .slice A l.length c, .int .i64 f.k, .int .i64 f.st, .int .i64 f.lt, .int .i64 f.wi, .int .i64 g.k, .int .i64 g.st, .int .i64 g.lt, .int .i64 g.wi]] w (Ret (.bool true) w) := by
  obtain ⟨W0, hW0⟩ : ∃ W0, Hid (W0 = w.alloc (.cells #[.int .i64 P, .int .i64 S, .slice A l.length c, .int .i64 f.k, .int .i64 f.st, .int .i64 f.lt, .int .i64 f.wi, .int .i64 g.k, .int .i64 g.st, .int .i64 g.lt, .int .i64 g.wi] 26)) := ⟨_, Lib.hid rfl⟩
  have hB0 : Below w.heap.size w W0 := by rw [hW0.out]; (repeat' first | exact Below.refl _ _ | apply Below.drew | (refine Below.setCells ?_ _ _ ?_) | (refine Below.setCell ?_ ?_ _) | (refine Below.alloc ?_ ?_ _) | (simp; done) | (simp; omega))
  have k0 : Blk W0 w.heap.size 26 #[.int .i64 P, .int .i64 S, .slice A l.length c, .int .i64 f.k, .int .i64 f.st, .int .i64 f.lt, .int .i64 f.wi, .int .i64 g.k, .int .i64 g.st, .int .i64 g.lt, .int .i64 g.wi] := by rw [hW0.out]; exact Blk.new w _ _
  by_cases h40 : 40 < l.length
  · have h40' : (40 : Int) < (l.length : Int) := by omega
    clear h40
    have c0 := k0.cell 0 (.int .i64 P) rfl
    have c1 := k0.cell 1 (.int .i64 S) rfl
    have c2 := k0.cell 2 (.slice A l.length c) rfl
    have c3 := k0.cell 3 (.int .i64 f.k) rfl
    have c4 := k0.cell 4 (.int .i64 f.st) rfl
    have c5 := k0.cell 5 (.int .i64 f.lt) rfl
    have c6 := k0.cell 6 (.int .i64 f.wi) rfl
    have lC := k0.lt
    rw [hW0.out] at c0 c1 c2 c3 c4 c5 c6 lC
    go_enter Try.func3, Try.ntmps3
    go_wp2_with (first
      | (go_at_call 4; rw [← hW0.out]; refine (awake_any _).mono ?_; rintro e w1 ⟨rfl, hB1⟩)
      | fail)
    go_ret
    exact Ret.val rfl (hB0.trans (hB1.mono hB0.size))
  have h40' : ¬ (40 : Int) < (l.length : Int) := by omega
  by_cases h6 : 6 < P
  · clear h40
    have c0 := k0.cell 0 (.int .i64 P) rfl
    have c1 := k0.cell 1 (.int .i64 S) rfl
    have c2 := k0.cell 2 (.slice A l.length c) rfl
    have c3 := k0.cell 3 (.int .i64 f.k) rfl
    have c4 := k0.cell 4 (.int .i64 f.st) rfl
    have c5 := k0.cell 5 (.int .i64 f.lt) rfl
    have c6 := k0.cell 6 (.int .i64 f.wi) rfl
    have lC := k0.lt
    rw [hW0.out] at c0 c1 c2 c3 c4 c5 c6 lC
    go_enter Try.func3, Try.ntmps3
    go_wp2_with (first
      | (go_at_call 4; rw [← hW0.out]; refine (awake_any _).mono ?_; rintro e w1 ⟨rfl, hB1⟩)
      | fail)
    go_ret
    exact Ret.val rfl (hB0.trans (hB1.mono hB0.size))
  have HA := Lib.hid (fun (w' : World) (hB : Below w.heap.size w w') => fseen_any P S A l c f w' H (hr.below' hB hH) (Nat.le_trans hH hB.size) hw (by omega) (by omega))
  have HP := Lib.hid (fun (w' : World) (hB : Below w.heap.size w w') => fput_any P S A l c f w' H (hr.below' hB hH) (Nat.le_trans hH hB.size) hw (by omega))
  by_cases hz : (putR P S l f).2 = 0
  rotate_left
  · have hA : Hid (seenR P S l f = (false, (putR P S l f).2)) := by unfold seenR; rw [if_pos hz]; exact Lib.hid rfl
    rw [hA.out] at HA
    clear hA
    unfold PutRet at HP
    generalize (putR P S l f).1 = L at *
    generalize (putR P S l f).2 = E at *
    have y1 : (E == 0) = false := by simpa using hz
    have y2 : (E != 0) = true := by simpa using hz
    have y3 : (E != E) = false := by simp
    clear hz h40
    have c0 := k0.cell 0 (.int .i64 P) rfl
    have c1 := k0.cell 1 (.int .i64 S) rfl
    have c2 := k0.cell 2 (.slice A l.length c) rfl
    have c3 := k0.cell 3 (.int .i64 f.k) rfl
    have c4 := k0.cell 4 (.int .i64 f.st) rfl
    have c5 := k0.cell 5 (.int .i64 f.lt) rfl
    have c6 := k0.cell 6 (.int .i64 f.wi) rfl
    have lC := k0.lt
    rw [hW0.out] at c0 c1 c2 c3 c4 c5 c6 lC
    go_enter Try.func3, Try.ntmps3
    go_wp2_with (first
      | (go_at_call 5; rw [← hW0.out]; refine (HA.out _ hB0).mono ?_; rintro e w1 ⟨rfl, hB1⟩
         have k1 := k0.below' hB1
         have hB1' := hB0.trans (hB1.mono hB0.size)
         have c0 := k1.cell 0 (.int .i64 P) rfl
         have c1 := k1.cell 1 (.int .i64 S) rfl
         have c2 := k1.cell 2 (.slice A l.length c) rfl
         have c3 := k1.cell 3 (.int .i64 f.k) rfl
         have c4 := k1.cell 4 (.int .i64 f.st) rfl
         have c5 := k1.cell 5 (.int .i64 f.lt) rfl
         have c6 := k1.cell 6 (.int .i64 f.wi) rfl
         have lC := k1.lt
         have hz1 := hB1'.size)
      | (go_at_call 6; refine (HP.out _ hB1').mono ?_; rintro e w2 ⟨A2, a2, rfl, r2, hB2⟩
         have k2 := k1.below' hB2
         have hB2' := hB1'.trans (hB2.mono hz1)
         have c0 := k2.cell 0 (.int .i64 P) rfl
         have c1 := k2.cell 1 (.int .i64 S) rfl
         have c2 := k2.cell 2 (.slice A l.length c) rfl
         have c3 := k2.cell 3 (.int .i64 f.k) rfl
         have c4 := k2.cell 4 (.int .i64 f.st) rfl
         have c5 := k2.cell 5 (.int .i64 f.lt) rfl
         have c6 := k2.cell 6 (.int .i64 f.wi) rfl
         have lC := k2.lt
         have hz2 := hB2'.size)
      | (go_at_call 4; refine (awake_any _).mono ?_; rintro e w3 ⟨rfl, hB3⟩)
      | fail)
    go_ret
    exact Ret.val rfl (hB2'.trans (hB3.mono hz2))
  have hok := put_ok hz
  rw [hok.val] at HP
  unfold PutRet at HP
  by_cases hal : alikeR P S l (putF l f) = true
  rotate_left
  · have hA : Hid (seenR P S l f = (true, 0)) := by unfold seenR; rw [if_neg (by simpa using hz), hok.val]; exact Lib.hid (by simp [hal])
    rw [hA.out] at HA
    clear hA hok hz hal h40
    generalize putF l f = L at *
    have c0 := k0.cell 0 (.int .i64 P) rfl
    have c1 := k0.cell 1 (.int .i64 S) rfl
    have c2 := k0.cell 2 (.slice A l.length c) rfl
    have c3 := k0.cell 3 (.int .i64 f.k) rfl
    have c4 := k0.cell 4 (.int .i64 f.st) rfl
    have c5 := k0.cell 5 (.int .i64 f.lt) rfl
    have c6 := k0.cell 6 (.int .i64 f.wi) rfl
    have lC := k0.lt
    rw [hW0.out] at c0 c1 c2 c3 c4 c5 c6 lC
    go_enter Try.func3, Try.ntmps3
    go_wp2_with (first
      | (go_at_call 5; rw [← hW0.out]; refine (HA.out _ hB0).mono ?_; rintro e w1 ⟨rfl, hB1⟩
         have k1 := k0.below' hB1
         have hB1' := hB0.trans (hB1.mono hB0.size)
         have c0 := k1.cell 0 (.int .i64 P) rfl
         have c1 := k1.cell 1 (.int .i64 S) rfl
         have c2 := k1.cell 2 (.slice A l.length c) rfl
         have c3 := k1.cell 3 (.int .i64 f.k) rfl
         have c4 := k1.cell 4 (.int .i64 f.st) rfl
         have c5 := k1.cell 5 (.int .i64 f.lt) rfl
         have c6 := k1.cell 6 (.int .i64 f.wi) rfl
         have lC := k1.lt
         have hz1 := hB1'.size)
      | (go_at_call 6; refine (HP.out _ hB1').mono ?_; rintro e w2 ⟨A2, a2, rfl, r2, hB2⟩
         have k2 := k1.below' hB2
         have hB2' := hB1'.trans (hB2.mono hz1)
         have c0 := k2.cell 0 (.int .i64 P) rfl
         have c1 := k2.cell 1 (.int .i64 S) rfl
         have c2 := k2.cell 2 (.slice A l.length c) rfl
         have c3 := k2.cell 3 (.int .i64 f.k) rfl
         have c4 := k2.cell 4 (.int .i64 f.st) rfl
         have c5 := k2.cell 5 (.int .i64 f.lt) rfl
         have c6 := k2.cell 6 (.int .i64 f.wi) rfl
         have lC := k2.lt
         have hz2 := hB2'.size)
      | (go_at_call 4; refine (awake_any _).mono ?_; rintro e w3 ⟨rfl, hB3⟩)
      | fail)
    go_ret
    exact Ret.val rfl (hB2'.trans (hB3.mono hz2))
  have hA : Hid (seenR P S l f = (false, 0)) := by unfold seenR; rw [if_neg (by simpa using hz), hok.val]; exact Lib.hid (by simp [hal])
  rw [hA.out] at HA
  obtain ⟨X, Y, hU⟩ := unseen_of (by omega) hok hal
  have hpl := putF_len l f
  have HS := Lib.hid (fun (w' : World) (hB : Below w.heap.size w w') => (by have := rsheet_any P S A l c w' H (hr.below' hB hH) (Nat.le_trans hH hB.size) hw (by omega); unfold SheetPost at this; rw [hU.x.1, hU.x.2.1, hU.x.2.2] at this; exact this : Calls Try.prog 7 #[.int .i64 P, .int .i64 S, .slice A l.length c] w' (fun e w'' => ∃ v, e = .returned (.tuple #[.agg #[.int .i64 P, v], .int .i64 (sheetR P S l).2.2.1, .int .i64 0]) ∧ Tor.Own 3 Tri.enc w'' w'.heap.size 54 v X ∧ Below w'.heap.size w' w'')))
  have HT := Lib.hid (fun (w' : World) (B : Option Addr) (d H' : Nat) (hr' : RdT w' H' B (putF l f)) (hH' : H' ≤ w'.heap.size) => (by have := rsheet_any P S B (putF l f) d w' H' hr' hH' hU.wd (by omega); unfold SheetPost at this; rw [hU.y.1, hU.y.2.1, hU.y.2.2] at this; exact this : Calls Try.prog 7 #[.int .i64 P, .int .i64 S, .slice B (putF l f).length d] w' (fun e w'' => ∃ v, e = .returned (.tuple #[.agg #[.int .i64 P, v], .int .i64 (sheetR P S (putF l f)).2.2.1, .int .i64 0]) ∧ Tor.Own 3 Tri.enc w'' w'.heap.size 54 v Y ∧ Below w'.heap.size w' w'')))
  have HX := Lib.hid (fun (w' : World) (B : Option Addr) (d H' : Nat) (hr' : RdT w' H' B X) (hH' : H' ≤ w'.heap.size) => lcross_any P B X d w' H' hr' hH' hU.ox (by have := hU.lx; omega))
  have HY := Lib.hid (fun (w' : World) (B : Option Addr) (d H' : Nat) (hr' : RdT w' H' B Y) (hH' : H' ≤ w'.heap.size) => (by have := lcross_any P B Y d w' H' hr' hH' hU.oy (by have := hU.ly; omega); unfold CrosRet at this; rw [hU.pn] at this; exact this : Calls Try.prog 8 #[.agg #[.int .i64 P, .slice B Y.length d]] w' (fun e w'' => ∃ v, e = .returned (.tuple #[v, .int .i64 (pnsL X)]) ∧ Tor.Own 1 ienc w'' w'.heap.size 3 v (crsL Y) ∧ Below w'.heap.size w' w'')))
  unfold CrosRet at HX
  have p2 := hU.p2
  obtain ⟨n, hn⟩ : ∃ n : Nat, (n : Int) = 2 * P := ⟨(2 * P).toNat, by omega⟩
  have hnt : (2 * P).toNat = n := by omega
  have HQ := Lib.hid (fun (w' : World) (B D : Option Addr) (d d' H' : Nat) (hr1 : RdI w' H' B (crsL X)) (hr2 : RdI w' H' D (crsL Y)) (hH' : H' ≤ w'.heap.size) (h1 : (crsL X).length ≤ 400) (h2 : (crsL Y).length ≤ 400) => (by have := bsame_any n (by omega) (by omega) B (crsL X) d D (crsL Y) d' w' H' hr1 hr2 hH' h1 h2 (by rw [← hnt]; exact hU.i1) (by rw [← hnt]; exact hU.i2) (by rw [← hnt]; exact hU.br); rw [hn] at this; exact this : Calls Try.prog 9 #[.int .i64 (2 * P), .slice B (crsL X).length d, .slice D (crsL Y).length d'] w' (Ret (.tuple #[.bool true, .int .i64 0]) w')))
  have e2p : IntKind.i64.wrap (2 * P) = 2 * P := IntWalk.i64_in _ (by omega)
  clear hA hok hz hal h40 hU hn hnt p2
  generalize (sheetR P S l).2.2.1 = j1 at *
  generalize (sheetR P S (putF l f)).2.2.1 = j2 at *
  generalize putF l f = L at *
  generalize pnsL X = N at *
  generalize crsL X = C at *
  generalize crsL Y = D at *
  have z1 : ((N : Int) == (N : Int)) = true := by simp
  by_cases l1 : 120 < C.length
  · have l1' : (120 : Int) < (C.length : Int) := by omega
    clear l1 HQ
    have c0 := k0.cell 0 (.int .i64 P) rfl
    have c1 := k0.cell 1 (.int .i64 S) rfl
    have c2 := k0.cell 2 (.slice A l.length c) rfl
    have c3 := k0.cell 3 (.int .i64 f.k) rfl
    have c4 := k0.cell 4 (.int .i64 f.st) rfl
    have c5 := k0.cell 5 (.int .i64 f.lt) rfl
    have c6 := k0.cell 6 (.int .i64 f.wi) rfl
    have lC := k0.lt
    rw [hW0.out] at c0 c1 c2 c3 c4 c5 c6 lC
    go_enter Try.func3, Try.ntmps3
    go_wp2_with (first
      | (go_at_call 5; rw [← hW0.out]; refine (HA.out _ hB0).mono ?_; rintro e w1 ⟨rfl, hB1⟩
         have k1 := k0.below' hB1
         have hB1' := hB0.trans (hB1.mono hB0.size)
         have c0 := k1.cell 0 (.int .i64 P) rfl
         have c1 := k1.cell 1 (.int .i64 S) rfl
         have c2 := k1.cell 2 (.slice A l.length c) rfl
         have c3 := k1.cell 3 (.int .i64 f.k) rfl
         have c4 := k1.cell 4 (.int .i64 f.st) rfl
         have c5 := k1.cell 5 (.int .i64 f.lt) rfl
         have c6 := k1.cell 6 (.int .i64 f.wi) rfl
         have lC := k1.lt
         have hz1 := hB1'.size)
      | (go_at_call 6; refine (HP.out _ hB1').mono ?_; rintro e w2 ⟨A2, a2, rfl, r2, hB2⟩
         have k2 := k1.below' hB2
         have hB2' := hB1'.trans (hB2.mono hz1)
         have c0 := k2.cell 0 (.int .i64 P) rfl
         have c1 := k2.cell 1 (.int .i64 S) rfl
         have c2 := k2.cell 2 (.slice A l.length c) rfl
         have c3 := k2.cell 3 (.int .i64 f.k) rfl
         have c4 := k2.cell 4 (.int .i64 f.st) rfl
         have c5 := k2.cell 5 (.int .i64 f.lt) rfl
         have c6 := k2.cell 6 (.int .i64 f.wi) rfl
         have lC := k2.lt
         have hz2 := hB2'.size)
      | (go_at_call 7; refine (HS.out _ hB2').mono ?_; rintro e w3 ⟨v3, rfl, o3, hB3⟩; clear HS
         obtain ⟨A3, a3, rfl, _, _⟩ := Own.rd tri_len o3
         have r3 := ownRd o3
         have hB3' := hB2'.trans (hB3.mono hz2)
         have hz3 := hB3'.size
         have kX := Blk.new w3 35 #[.int .i64 P, .slice A3 X.length a3]
         have hBe : Below w3.heap.size w3 (w3.alloc (.cells #[.int .i64 P, .slice A3 X.length a3] 35)) := (Below.refl _ _).alloc (Nat.le_refl _) _
         have hB4' := hB3'.trans (hBe.mono hz3)
         have k4 := (k2.below' hB3).below' hBe
         have r2b := (r2.below hB3).below' hBe hB3.size
         have r3b := r3.below hBe
         have hz4 := hB4'.size
         have c0 := k4.cell 0 (.int .i64 P) rfl
         have c1 := k4.cell 1 (.int .i64 S) rfl
         have c2 := k4.cell 2 (.slice A l.length c) rfl
         have c3 := k4.cell 3 (.int .i64 f.k) rfl
         have c4 := k4.cell 4 (.int .i64 f.st) rfl
         have c5 := k4.cell 5 (.int .i64 f.lt) rfl
         have c6 := k4.cell 6 (.int .i64 f.wi) rfl
         have lC := k4.lt
         have r2c := r2b.more (Nat.le_trans hB3.size hBe.size))
      | (go_at_call 7; refine (HT.out _ A2 a2 _ r2c (Nat.le_refl _)).mono ?_; rintro e w5 ⟨v5, rfl, o5, hB5⟩; clear HT
         obtain ⟨A5, a5, rfl, _, _⟩ := Own.rd tri_len o5
         have r5 := ownRd o5
         have hB5' := hB4'.trans (hB5.mono hz4)
         have hz5 := hB5'.size
         have kY := Blk.new w5 35 #[.int .i64 P, .slice A5 Y.length a5]
         have hBf : Below w5.heap.size w5 (w5.alloc (.cells #[.int .i64 P, .slice A5 Y.length a5] 35)) := (Below.refl _ _).alloc (Nat.le_refl _) _
         have hB6' := hB5'.trans (hBf.mono hz5)
         have hz6 := hB6'.size
         have k6 := (k4.below' hB5).below' hBf
         have kX6 := (kX.below' hB5).below' hBf
         have r3d := (r3b.below' (hB5.trans (hBf.mono hB5.size)) hBe.size).more (Nat.le_trans hBe.size (Nat.le_trans hB5.size hBf.size))
         have r5b := (r5.below hBf).more hBf.size
         have xc0 := kX6.cell 0 (.int .i64 P) rfl
         have xc1 := kX6.cell 1 (.slice A3 X.length a3) rfl
         have xl := kX6.lt
         have c0 := k6.cell 0 (.int .i64 P) rfl
         have c1 := k6.cell 1 (.int .i64 S) rfl
         have c2 := k6.cell 2 (.slice A l.length c) rfl
         have c3 := k6.cell 3 (.int .i64 f.k) rfl
         have c4 := k6.cell 4 (.int .i64 f.st) rfl
         have c5 := k6.cell 5 (.int .i64 f.lt) rfl
         have c6 := k6.cell 6 (.int .i64 f.wi) rfl
         have lC := k6.lt
         have tk := True.intro)
      | (go_at_call 8; have := tk; refine (HX.out _ A3 a3 _ r3d (Nat.le_refl _)).mono ?_; rintro e w7 ⟨v7, rfl, o7, hB7⟩; clear HX
         obtain ⟨A7, a7, rfl, _, _⟩ := Own.rd int_len o7
         have r7 := ownRdI o7
         have hB7' := hB6'.trans (hB7.mono hz6)
         have hz7 := hB7'.size
         have k7 := k6.below' hB7
         have kY7 := kY.below' hB7
         have yc0 := kY7.cell 0 (.int .i64 P) rfl
         have yc1 := kY7.cell 1 (.slice A5 Y.length a5) rfl
         have yl := kY7.lt
         have r5d := (r5b.below hB7).more hB7.size
         clear tk)
      | (go_at_call 8; refine (HY.out _ A5 a5 _ r5d (Nat.le_refl _)).mono ?_; rintro e w8 ⟨v8, rfl, o8, hB8⟩; clear HY
         obtain ⟨A8, a8, rfl, _, _⟩ := Own.rd int_len o8
         have r8 := ownRdI o8
         have hB8' := hB7'.trans (hB8.mono hz7)
         have hz8 := hB8'.size
         have r7b := (r7.below hB8).more hB8.size
         have k8 := k7.below' hB8
         have c0 := k8.cell 0 (.int .i64 P) rfl
         have c1 := k8.cell 1 (.int .i64 S) rfl
         have c2 := k8.cell 2 (.slice A l.length c) rfl
         have c3 := k8.cell 3 (.int .i64 f.k) rfl
         have c4 := k8.cell 4 (.int .i64 f.st) rfl
         have c5 := k8.cell 5 (.int .i64 f.lt) rfl
         have c6 := k8.cell 6 (.int .i64 f.wi) rfl
         have lC := k8.lt
         have tk2 := True.intro)
      | (go_at_call 4; refine (awake_any _).mono ?_; rintro e w10 ⟨rfl, hB10⟩)
      | fail)
    go_ret
    exact Ret.val rfl (hB8'.trans (hB10.mono hz8))
  have l1' : ¬ (120 : Int) < (C.length : Int) := by omega
  by_cases l2 : 120 < D.length
  · have l2' : (120 : Int) < (D.length : Int) := by omega
    clear l1 l2 HQ
    have c0 := k0.cell 0 (.int .i64 P) rfl
    have c1 := k0.cell 1 (.int .i64 S) rfl
    have c2 := k0.cell 2 (.slice A l.length c) rfl
    have c3 := k0.cell 3 (.int .i64 f.k) rfl
    have c4 := k0.cell 4 (.int .i64 f.st) rfl
    have c5 := k0.cell 5 (.int .i64 f.lt) rfl
    have c6 := k0.cell 6 (.int .i64 f.wi) rfl
    have lC := k0.lt
    rw [hW0.out] at c0 c1 c2 c3 c4 c5 c6 lC
    go_enter Try.func3, Try.ntmps3
    go_wp2_with (first
      | (go_at_call 5; rw [← hW0.out]; refine (HA.out _ hB0).mono ?_; rintro e w1 ⟨rfl, hB1⟩
         have k1 := k0.below' hB1
         have hB1' := hB0.trans (hB1.mono hB0.size)
         have c0 := k1.cell 0 (.int .i64 P) rfl
         have c1 := k1.cell 1 (.int .i64 S) rfl
         have c2 := k1.cell 2 (.slice A l.length c) rfl
         have c3 := k1.cell 3 (.int .i64 f.k) rfl
         have c4 := k1.cell 4 (.int .i64 f.st) rfl
         have c5 := k1.cell 5 (.int .i64 f.lt) rfl
         have c6 := k1.cell 6 (.int .i64 f.wi) rfl
         have lC := k1.lt
         have hz1 := hB1'.size)
      | (go_at_call 6; refine (HP.out _ hB1').mono ?_; rintro e w2 ⟨A2, a2, rfl, r2, hB2⟩
         have k2 := k1.below' hB2
         have hB2' := hB1'.trans (hB2.mono hz1)
         have c0 := k2.cell 0 (.int .i64 P) rfl
         have c1 := k2.cell 1 (.int .i64 S) rfl
         have c2 := k2.cell 2 (.slice A l.length c) rfl
         have c3 := k2.cell 3 (.int .i64 f.k) rfl
         have c4 := k2.cell 4 (.int .i64 f.st) rfl
         have c5 := k2.cell 5 (.int .i64 f.lt) rfl
         have c6 := k2.cell 6 (.int .i64 f.wi) rfl
         have lC := k2.lt
         have hz2 := hB2'.size)
      | (go_at_call 7; refine (HS.out _ hB2').mono ?_; rintro e w3 ⟨v3, rfl, o3, hB3⟩; clear HS
         obtain ⟨A3, a3, rfl, _, _⟩ := Own.rd tri_len o3
         have r3 := ownRd o3
         have hB3' := hB2'.trans (hB3.mono hz2)
         have hz3 := hB3'.size
         have kX := Blk.new w3 35 #[.int .i64 P, .slice A3 X.length a3]
         have hBe : Below w3.heap.size w3 (w3.alloc (.cells #[.int .i64 P, .slice A3 X.length a3] 35)) := (Below.refl _ _).alloc (Nat.le_refl _) _
         have hB4' := hB3'.trans (hBe.mono hz3)
         have k4 := (k2.below' hB3).below' hBe
         have r2b := (r2.below hB3).below' hBe hB3.size
         have r3b := r3.below hBe
         have hz4 := hB4'.size
         have c0 := k4.cell 0 (.int .i64 P) rfl
         have c1 := k4.cell 1 (.int .i64 S) rfl
         have c2 := k4.cell 2 (.slice A l.length c) rfl
         have c3 := k4.cell 3 (.int .i64 f.k) rfl
         have c4 := k4.cell 4 (.int .i64 f.st) rfl
         have c5 := k4.cell 5 (.int .i64 f.lt) rfl
         have c6 := k4.cell 6 (.int .i64 f.wi) rfl
         have lC := k4.lt
         have r2c := r2b.more (Nat.le_trans hB3.size hBe.size))
      | (go_at_call 7; refine (HT.out _ A2 a2 _ r2c (Nat.le_refl _)).mono ?_; rintro e w5 ⟨v5, rfl, o5, hB5⟩; clear HT
         obtain ⟨A5, a5, rfl, _, _⟩ := Own.rd tri_len o5
         have r5 := ownRd o5
         have hB5' := hB4'.trans (hB5.mono hz4)
         have hz5 := hB5'.size
         have kY := Blk.new w5 35 #[.int .i64 P, .slice A5 Y.length a5]
         have hBf : Below w5.heap.size w5 (w5.alloc (.cells #[.int .i64 P, .slice A5 Y.length a5] 35)) := (Below.refl _ _).alloc (Nat.le_refl _) _
         have hB6' := hB5'.trans (hBf.mono hz5)
         have hz6 := hB6'.size
         have k6 := (k4.below' hB5).below' hBf
         have kX6 := (kX.below' hB5).below' hBf
         have r3d := (r3b.below' (hB5.trans (hBf.mono hB5.size)) hBe.size).more (Nat.le_trans hBe.size (Nat.le_trans hB5.size hBf.size))
         have r5b := (r5.below hBf).more hBf.size
         have xc0 := kX6.cell 0 (.int .i64 P) rfl
         have xc1 := kX6.cell 1 (.slice A3 X.length a3) rfl
         have xl := kX6.lt
         have c0 := k6.cell 0 (.int .i64 P) rfl
         have c1 := k6.cell 1 (.int .i64 S) rfl
         have c2 := k6.cell 2 (.slice A l.length c) rfl
         have c3 := k6.cell 3 (.int .i64 f.k) rfl
         have c4 := k6.cell 4 (.int .i64 f.st) rfl
         have c5 := k6.cell 5 (.int .i64 f.lt) rfl
         have c6 := k6.cell 6 (.int .i64 f.wi) rfl
         have lC := k6.lt
         have tk := True.intro)
      | (go_at_call 8; have := tk; refine (HX.out _ A3 a3 _ r3d (Nat.le_refl _)).mono ?_; rintro e w7 ⟨v7, rfl, o7, hB7⟩; clear HX
         obtain ⟨A7, a7, rfl, _, _⟩ := Own.rd int_len o7
         have r7 := ownRdI o7
         have hB7' := hB6'.trans (hB7.mono hz6)
         have hz7 := hB7'.size
         have k7 := k6.below' hB7
         have kY7 := kY.below' hB7
         have yc0 := kY7.cell 0 (.int .i64 P) rfl
         have yc1 := kY7.cell 1 (.slice A5 Y.length a5) rfl
         have yl := kY7.lt
         have r5d := (r5b.below hB7).more hB7.size
         clear tk)
      | (go_at_call 8; refine (HY.out _ A5 a5 _ r5d (Nat.le_refl _)).mono ?_; rintro e w8 ⟨v8, rfl, o8, hB8⟩; clear HY
         obtain ⟨A8, a8, rfl, _, _⟩ := Own.rd int_len o8
         have r8 := ownRdI o8
         have hB8' := hB7'.trans (hB8.mono hz7)
         have hz8 := hB8'.size
         have r7b := (r7.below hB8).more hB8.size
         have k8 := k7.below' hB8
         have c0 := k8.cell 0 (.int .i64 P) rfl
         have c1 := k8.cell 1 (.int .i64 S) rfl
         have c2 := k8.cell 2 (.slice A l.length c) rfl
         have c3 := k8.cell 3 (.int .i64 f.k) rfl
         have c4 := k8.cell 4 (.int .i64 f.st) rfl
         have c5 := k8.cell 5 (.int .i64 f.lt) rfl
         have c6 := k8.cell 6 (.int .i64 f.wi) rfl
         have lC := k8.lt
         have tk2 := True.intro)
      | (go_at_call 4; refine (awake_any _).mono ?_; rintro e w10 ⟨rfl, hB10⟩)
      | fail)
    go_ret
    exact Ret.val rfl (hB8'.trans (hB10.mono hz8))
  have l2' : ¬ (120 : Int) < (D.length : Int) := by omega
  have l3 : C.length ≤ 120 := by omega
  have l4 : D.length ≤ 120 := by omega
  clear l1 l2
  have c0 := k0.cell 0 (.int .i64 P) rfl
  have c1 := k0.cell 1 (.int .i64 S) rfl
  have c2 := k0.cell 2 (.slice A l.length c) rfl
  have c3 := k0.cell 3 (.int .i64 f.k) rfl
  have c4 := k0.cell 4 (.int .i64 f.st) rfl
  have c5 := k0.cell 5 (.int .i64 f.lt) rfl
  have c6 := k0.cell 6 (.int .i64 f.wi) rfl
  have lC := k0.lt
  rw [hW0.out] at c0 c1 c2 c3 c4 c5 c6 lC
  go_enter Try.func3, Try.ntmps3
  go_wp2_with (first
    | (go_at_call 5; rw [← hW0.out]; refine (HA.out _ hB0).mono ?_; rintro e w1 ⟨rfl, hB1⟩
       have k1 := k0.below' hB1
       have hB1' := hB0.trans (hB1.mono hB0.size)
       have c0 := k1.cell 0 (.int .i64 P) rfl
       have c1 := k1.cell 1 (.int .i64 S) rfl
       have c2 := k1.cell 2 (.slice A l.length c) rfl
       have c3 := k1.cell 3 (.int .i64 f.k) rfl
       have c4 := k1.cell 4 (.int .i64 f.st) rfl
       have c5 := k1.cell 5 (.int .i64 f.lt) rfl
       have c6 := k1.cell 6 (.int .i64 f.wi) rfl
       have lC := k1.lt
       have hz1 := hB1'.size)
    | (go_at_call 6; refine (HP.out _ hB1').mono ?_; rintro e w2 ⟨A2, a2, rfl, r2, hB2⟩
       have k2 := k1.below' hB2
       have hB2' := hB1'.trans (hB2.mono hz1)
       have c0 := k2.cell 0 (.int .i64 P) rfl
       have c1 := k2.cell 1 (.int .i64 S) rfl
       have c2 := k2.cell 2 (.slice A l.length c) rfl
       have c3 := k2.cell 3 (.int .i64 f.k) rfl
       have c4 := k2.cell 4 (.int .i64 f.st) rfl
       have c5 := k2.cell 5 (.int .i64 f.lt) rfl
       have c6 := k2.cell 6 (.int .i64 f.wi) rfl
       have lC := k2.lt
       have hz2 := hB2'.size)
    | (go_at_call 7; refine (HS.out _ hB2').mono ?_; rintro e w3 ⟨v3, rfl, o3, hB3⟩; clear HS
       obtain ⟨A3, a3, rfl, _, _⟩ := Own.rd tri_len o3
       have r3 := ownRd o3
       have hB3' := hB2'.trans (hB3.mono hz2)
       have hz3 := hB3'.size
       have kX := Blk.new w3 35 #[.int .i64 P, .slice A3 X.length a3]
       have hBe : Below w3.heap.size w3 (w3.alloc (.cells #[.int .i64 P, .slice A3 X.length a3] 35)) := (Below.refl _ _).alloc (Nat.le_refl _) _
       have hB4' := hB3'.trans (hBe.mono hz3)
       have k4 := (k2.below' hB3).below' hBe
       have r2b := (r2.below hB3).below' hBe hB3.size
       have r3b := r3.below hBe
       have hz4 := hB4'.size
       have c0 := k4.cell 0 (.int .i64 P) rfl
       have c1 := k4.cell 1 (.int .i64 S) rfl
       have c2 := k4.cell 2 (.slice A l.length c) rfl
       have c3 := k4.cell 3 (.int .i64 f.k) rfl
       have c4 := k4.cell 4 (.int .i64 f.st) rfl
       have c5 := k4.cell 5 (.int .i64 f.lt) rfl
       have c6 := k4.cell 6 (.int .i64 f.wi) rfl
       have lC := k4.lt
       have r2c := r2b.more (Nat.le_trans hB3.size hBe.size))
    | (go_at_call 7; refine (HT.out _ A2 a2 _ r2c (Nat.le_refl _)).mono ?_; rintro e w5 ⟨v5, rfl, o5, hB5⟩; clear HT
       obtain ⟨A5, a5, rfl, _, _⟩ := Own.rd tri_len o5
       have r5 := ownRd o5
       have hB5' := hB4'.trans (hB5.mono hz4)
       have hz5 := hB5'.size
       have kY := Blk.new w5 35 #[.int .i64 P, .slice A5 Y.length a5]
       have hBf : Below w5.heap.size w5 (w5.alloc (.cells #[.int .i64 P, .slice A5 Y.length a5] 35)) := (Below.refl _ _).alloc (Nat.le_refl _) _
       have hB6' := hB5'.trans (hBf.mono hz5)
       have hz6 := hB6'.size
       have k6 := (k4.below' hB5).below' hBf
       have kX6 := (kX.below' hB5).below' hBf
       have r3d := (r3b.below' (hB5.trans (hBf.mono hB5.size)) hBe.size).more (Nat.le_trans hBe.size (Nat.le_trans hB5.size hBf.size))
       have r5b := (r5.below hBf).more hBf.size
       have xc0 := kX6.cell 0 (.int .i64 P) rfl
       have xc1 := kX6.cell 1 (.slice A3 X.length a3) rfl
       have xl := kX6.lt
       have c0 := k6.cell 0 (.int .i64 P) rfl
       have c1 := k6.cell 1 (.int .i64 S) rfl
       have c2 := k6.cell 2 (.slice A l.length c) rfl
       have c3 := k6.cell 3 (.int .i64 f.k) rfl
       have c4 := k6.cell 4 (.int .i64 f.st) rfl
       have c5 := k6.cell 5 (.int .i64 f.lt) rfl
       have c6 := k6.cell 6 (.int .i64 f.wi) rfl
       have lC := k6.lt
       have tk := True.intro)
    | (go_at_call 8; have := tk; refine (HX.out _ A3 a3 _ r3d (Nat.le_refl _)).mono ?_; rintro e w7 ⟨v7, rfl, o7, hB7⟩; clear HX
       obtain ⟨A7, a7, rfl, _, _⟩ := Own.rd int_len o7
       have r7 := ownRdI o7
       have hB7' := hB6'.trans (hB7.mono hz6)
       have hz7 := hB7'.size
       have k7 := k6.below' hB7
       have kY7 := kY.below' hB7
       have yc0 := kY7.cell 0 (.int .i64 P) rfl
       have yc1 := kY7.cell 1 (.slice A5 Y.length a5) rfl
       have yl := kY7.lt
       have r5d := (r5b.below hB7).more hB7.size
       clear tk)
    | (go_at_call 8; refine (HY.out _ A5 a5 _ r5d (Nat.le_refl _)).mono ?_; rintro e w8 ⟨v8, rfl, o8, hB8⟩; clear HY
       obtain ⟨A8, a8, rfl, _, _⟩ := Own.rd int_len o8
       have r8 := ownRdI o8
       have hB8' := hB7'.trans (hB8.mono hz7)
       have hz8 := hB8'.size
       have r7b := (r7.below hB8).more hB8.size
       have k8 := k7.below' hB8
       have c0 := k8.cell 0 (.int .i64 P) rfl
       have c1 := k8.cell 1 (.int .i64 S) rfl
       have c2 := k8.cell 2 (.slice A l.length c) rfl
       have c3 := k8.cell 3 (.int .i64 f.k) rfl
       have c4 := k8.cell 4 (.int .i64 f.st) rfl
       have c5 := k8.cell 5 (.int .i64 f.lt) rfl
       have c6 := k8.cell 6 (.int .i64 f.wi) rfl
       have lC := k8.lt
       have tk2 := True.intro)
    | (go_at_call 9; refine (HQ.out w8 A7 A8 a7 a8 _ r7b r8 (Nat.le_refl _) (by omega) (by omega)).mono ?_; rintro e w9 ⟨rfl, hB9⟩; clear HQ
       have hB9' := hB8'.trans (hB9.mono hz8)
       have hz9 := hB9'.size)
    | (go_at_call 4; refine (awake_any _).mono ?_; rintro e w10 ⟨rfl, hB10⟩)
    | fail)
  go_ret
  exact Ret.val rfl (hB9'.trans (hB10.mono hz9))
end Go.Proofs.Ytfnklchhhojimaa
