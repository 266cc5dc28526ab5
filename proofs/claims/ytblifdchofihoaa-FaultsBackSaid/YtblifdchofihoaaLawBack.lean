/- The law FaultsBack, walked. -/
import Derived.Test.YtblifdchofihoaaBack
set_option linter.unusedSimpArgs false
set_option linter.unusedVariables false
namespace Go.Proofs.Ytblifdchofihoaa
open Go Go.RowKit Tor

theorem bt {w w1 w2 : World} (h : Below w.heap.size w w1) (k : Below w1.heap.size w1 w2) : Below w.heap.size w w2 := h.trans (k.mono h.size)
theorem ba {w w1 : World} (h : Below w.heap.size w w1) (o : Obj) : Below w.heap.size w (w1.alloc o) := h.alloc h.size o
/-- what the loads of two steps read -/
def SwS (cb b o n c len : Nat) (x y : Tri) (w' : World) : Prop := w'.cell? ⟨cb, 2, none⟩ = some (.slice (some ⟨b, o, none⟩) len c) ∧ w'.cell? ⟨cb, 4, none⟩ = some (.int .i64 n) ∧
  w'.cell? ⟨b, o + n * 3, none⟩ = some (.int .i64 x.a) ∧ w'.cell? ⟨b, o + n * 3 + 1, none⟩ = some (.int .i64 x.b) ∧ w'.cell? ⟨b, o + n * 3 + 2, none⟩ = some (.string x.s) ∧
  w'.cell? ⟨b, o + (n + 1) * 3, none⟩ = some (.int .i64 y.a) ∧ w'.cell? ⟨b, o + (n + 1) * 3 + 1, none⟩ = some (.int .i64 y.b) ∧ w'.cell? ⟨b, o + (n + 1) * 3 + 2, none⟩ = some (.string y.s)
theorem SwS.alloc {cb b o n c len : Nat} {x y : Tri} {w : World} (h : SwS cb b o n c len x y w) (q : Obj) : SwS cb b o n c len x y (w.alloc q) := by
  obtain ⟨h1, h2, h3, h4, h5, h6, h7, h8⟩ := h
  exact ⟨cell_old h1, cell_old h2, cell_old h3, cell_old h4, cell_old h5, cell_old h6, cell_old h7, cell_old h8⟩
theorem toList_inj {a b : ByteArray} (h : a.toList = b.toList) : a = b := by
  rw [ByteArray.toList_eq, ByteArray.toList_eq] at h
  exact ByteArray.ext (Array.ext' h)
theorem put_words {l : List Tri} {f : Flt} (h : ∀ (k : Nat) (hk : k < l.length), wordE l[k].s = 0) : ∀ (k : Nat) (hk : k < (putF l f).length), (putF l f)[k].s.size ≤ 9223372036854775807 := fun k hk => by
  have := putF_words (f := f) (fun x hx => by obtain ⟨k, hk, rfl⟩ := List.getElem_of_mem hx; exact wordE_size (h k hk)) _ (List.getElem_mem hk)
  omega

set_option maxRecDepth 100000 in
set_option maxHeartbeats 8000000 in
theorem lawBack1 (P S : Int) (A : Option Addr) (l : List Tri) (c : Nat) (n m : Nat) (wi : Int) (g : Flt) (w : World) (H : Nat) (hr : RdT w H A l) (hH : H ≤ w.heap.size)
    (hw : ∀ (k : Nat) (hk : k < l.length), l[k].s.size ≤ 9223372036854775807) (hl : l.length ≤ 100) (hok : PutOk P S l ⟨1, n, m, wi⟩) :
    Calls Try.prog 5 #[.agg #[.int .i64 P, .int .i64 S, .slice A l.length c, .int .i64 1, .int .i64 n, .int .i64 m, .int .i64 wi, .int .i64 g.k, .int .i64 g.st, .int .i64 g.lt, .int .i64 g.wi]] w (Ret (.bool true) w) := by
  have hBB : Below w.heap.size w (w.alloc (.cells #[.int .i64 P, .int .i64 S, .slice A l.length c, .int .i64 1, .int .i64 n, .int .i64 m, .int .i64 wi, .int .i64 g.k, .int .i64 g.st, .int .i64 g.lt, .int .i64 g.wi] 26)) := by (repeat' first | exact Below.refl _ _ | apply Below.drew | (refine Below.setCells ?_ _ _ ?_) | (refine Below.setCell ?_ ?_ _) | (refine Below.alloc ?_ ?_ _) | (simp; done) | (simp; omega))
  have kC := Blk.new w 26 #[.int .i64 P, .int .i64 S, .slice A l.length c, .int .i64 1, .int .i64 n, .int .i64 m, .int .i64 wi, .int .i64 g.k, .int .i64 g.st, .int .i64 g.lt, .int .i64 g.wi]
  have hst := fits_step hok.fit
  have hn : n < l.length := by simpa using hst.2.1
  have hins := ins_ok hok.ok
  have hml := putF_len l ⟨1, n, m, wi⟩
  have HP := Lib.hid (fun (w' : World) (hB : Below w.heap.size w w') => fput_any P S A l c ⟨1, n, m, wi⟩ w' H (hr.below' hB hH) (Nat.le_trans hH hB.size) hw (by omega))
  rw [hok.val] at HP
  have HS := Lib.hid (fun (w' : World) (hB : Below w.heap.size w w') => rsheet_any P S A l c w' H (hr.below' hB hH) (Nat.le_trans hH hB.size) hw (by omega))
  unfold SheetPost at HS
  rw [hok.ok] at HS
  have HBK := Lib.hid (fun (w' : World) (hB : Below w.heap.size w w') => back1_any A l c n m wi w' H (hr.below' hB hH) (Nat.le_trans hH hB.size) (by omega) hn (by have hfit := hok.fit; unfold fitsF at hfit; simp at hfit; omega) (by rw [xAt_of hn]; have := wordE_size (hins.w n hn); omega))
  have hbp := back_put hok (by simp)
  have ebf : backF l ⟨1, n, m, wi⟩ = ⟨2, n, m, (byteAt (xAt l n).s m).toNat⟩ := by unfold backF; simp
  rw [ebf] at hbp
  have HQ := Lib.hid (fun (w' : World) (A' : Option Addr) (c' H' : Nat) (hr' : RdT w' H' A' (putF l ⟨1, n, m, wi⟩)) (hH' : H' ≤ w'.heap.size) => fput_any P S A' (putF l ⟨1, n, m, wi⟩) c' ⟨2, n, m, (byteAt (xAt l n).s m).toNat⟩ w' H' hr' hH' (put_words hins.w) (by omega))
  rw [hbp] at HQ
  unfold PutRet at HQ
  have hfit := hok.fit
  have hm : m < (xAt l n).s.size := by
    unfold fitsF at hfit
    simp at hfit
    omega
  have hx := xAt_of hn
  unfold PutRet at HP
  generalize putF l ⟨1, n, m, wi⟩ = M at *
  generalize (sheetR P S l).1 = x1 at *
  generalize (sheetR P S l).2.1 = x2 at *
  generalize (sheetR P S l).2.2.1 = x3 at *
  have hl' : ¬ (100 : Int) < (l.length : Int) := by omega
  obtain ⟨b, o, rfl, hb0, g0, g1, g2⟩ := hr.tri hn
  have lb := lt_of_cell g0
  have n0 : (0 : Int) ≤ (n : Int) := by omega
  have n1 : (n : Int) < (l.length : Int) := by omega
  have d1 : decide ((n : Int) < 0) = false := decide_eq_false (by omega)
  have d2 : decide (l.length ≤ n) = false := decide_eq_false (by omega)
  have d3 : decide ((l.length : Int) ≤ (n : Int)) = false := decide_eq_false (by omega)
  rw [hx] at hm
  have d4 : decide ((m : Int) < 0) = false := decide_eq_false (by omega)
  have d5 : decide (l[n].s.size ≤ m) = false := decide_eq_false (by omega)
  have d6 : decide ((l[n].s.size : Int) ≤ (m : Int)) = false := decide_eq_false (by omega)
  have hr0 := Lib.hid hr
  clear hok hst hins hw hr hbp ebf hfit hx
  have tk1 : True := trivial
  have kl := kC.lt
  have c0 := kC.cell 0 (.int .i64 P) rfl
  have c1 := kC.cell 1 (.int .i64 S) rfl
  have c2 := kC.cell 2 (.slice (some ⟨b, o, none⟩) l.length c) rfl
  have c3 := kC.cell 3 (.int .i64 1) rfl
  have c4 := kC.cell 4 (.int .i64 n) rfl
  have c5 := kC.cell 5 (.int .i64 m) rfl
  have c6 := kC.cell 6 (.int .i64 wi) rfl
  have c7 := kC.cell 7 (.int .i64 g.k) rfl
  have c8 := kC.cell 8 (.int .i64 g.st) rfl
  have c9 := kC.cell 9 (.int .i64 g.lt) rfl
  have c10 := kC.cell 10 (.int .i64 g.wi) rfl
  have lC := kC.lt
  go_enter Try.func5, Try.ntmps5
  go_wp2_with (first
    | (go_at_call 11; have := tk1; refine (HP.out _ hBB).mono ?_; rintro e w1 ⟨A1, c1', rfl, hr1, hB1⟩; clear tk1
       have hB1' := bt hBB hB1
       have kC1 := kC.below' hB1
       have c0 := kC1.cell 0 (.int .i64 P) rfl
       have c1 := kC1.cell 1 (.int .i64 S) rfl
       have c2 := kC1.cell 2 (.slice (some ⟨b, o, none⟩) l.length c) rfl
       have c3 := kC1.cell 3 (.int .i64 1) rfl
       have c4 := kC1.cell 4 (.int .i64 n) rfl
       have c5 := kC1.cell 5 (.int .i64 m) rfl
       have c6 := kC1.cell 6 (.int .i64 wi) rfl
       have c7 := kC1.cell 7 (.int .i64 g.k) rfl
       have c8 := kC1.cell 8 (.int .i64 g.st) rfl
       have c9 := kC1.cell 9 (.int .i64 g.lt) rfl
       have c10 := kC1.cell 10 (.int .i64 g.wi) rfl
       have lC := kC1.lt)
    | (go_at_call 15; refine (HS.out _ hB1').mono ?_; rintro e w2 ⟨v2, rfl, hown2, hB2⟩
       obtain ⟨A2, c2', rfl, _, _⟩ := Own.rd tri_len hown2
       have hB2' := ba (bt hB1' hB2) (.cells #[.int .i64 x1, .slice A2 x2.length c2'] 38)
       have hC2 := ba hB2 (.cells #[.int .i64 x1, .slice A2 x2.length c2'] 38)
       have kC2 := (kC1.below' hB2).alloc (.cells #[.int .i64 x1, .slice A2 x2.length c2'] 38)
       have c0 := kC2.cell 0 (.int .i64 P) rfl
       have c1 := kC2.cell 1 (.int .i64 S) rfl
       have c2 := kC2.cell 2 (.slice (some ⟨b, o, none⟩) l.length c) rfl
       have c3 := kC2.cell 3 (.int .i64 1) rfl
       have c4 := kC2.cell 4 (.int .i64 n) rfl
       have c5 := kC2.cell 5 (.int .i64 m) rfl
       have c6 := kC2.cell 6 (.int .i64 wi) rfl
       have c7 := kC2.cell 7 (.int .i64 g.k) rfl
       have c8 := kC2.cell 8 (.int .i64 g.st) rfl
       have c9 := kC2.cell 9 (.int .i64 g.lt) rfl
       have c10 := kC2.cell 10 (.int .i64 g.wi) rfl
       have lC := kC2.lt
       have e0 := (hB2'.cell (p := ⟨b, _, none⟩) lb).trans g0
       have e1 := (hB2'.cell (p := ⟨b, _, none⟩) lb).trans g1
       have e2 := (hB2'.cell (p := ⟨b, _, none⟩) lb).trans g2
       have lC2 : w.heap.size < w2.heap.size + 1 := by simpa using lC
       have lb2 : b < w2.heap.size + 1 := by have := hB2'.size; simp at this; omega)
    | fail)
  refine wp_region_ex (by kernel_rfl) (by kernel_rfl) ?_
  repeat (go_big_quiet_step (fail))
  refine wpQuiet_nil ?_
  intro _ hw'
  obtain ⟨g3, hw''⟩ := hw'
  subst hw''
  have hq3 := g3.h
  have hB3' := bt hB2' hq3
  have hC3 := bt hC2 hq3
  have kC3 := kC2.below' hq3
  have c0 := kC3.cell 0 (.int .i64 P) rfl
  have c1 := kC3.cell 1 (.int .i64 S) rfl
  have c2 := kC3.cell 2 (.slice (some ⟨b, o, none⟩) l.length c) rfl
  have c3 := kC3.cell 3 (.int .i64 1) rfl
  have c4 := kC3.cell 4 (.int .i64 n) rfl
  have c5 := kC3.cell 5 (.int .i64 m) rfl
  have c6 := kC3.cell 6 (.int .i64 wi) rfl
  have c7 := kC3.cell 7 (.int .i64 g.k) rfl
  have c8 := kC3.cell 8 (.int .i64 g.st) rfl
  have c9 := kC3.cell 9 (.int .i64 g.lt) rfl
  have c10 := kC3.cell 10 (.int .i64 g.wi) rfl
  have lC := kC3.lt
  generalize g3.w = w3 at *
  clear hq3
  go_wp2_with (first
    | (go_at_call 18; refine (HBK.out _ hB3').mono ?_; rintro e w4 ⟨rfl, hB4⟩
       have hB4' := ba (bt hB3' hB4) (.cells #[.int .i64 2, .int .i64 n, .int .i64 m, .int .i64 (byteAt (xAt l n).s m).toNat] 24)
       have hC4 := ba (bt hC3 hB4) (.cells #[.int .i64 2, .int .i64 n, .int .i64 m, .int .i64 (byteAt (xAt l n).s m).toNat] 24)
       have kC4 := (kC3.below' hB4).alloc (.cells #[.int .i64 2, .int .i64 n, .int .i64 m, .int .i64 (byteAt (xAt l n).s m).toNat] 24)
       have c0 := kC4.cell 0 (.int .i64 P) rfl
       have c1 := kC4.cell 1 (.int .i64 S) rfl
       have c2 := kC4.cell 2 (.slice (some ⟨b, o, none⟩) l.length c) rfl
       have c3 := kC4.cell 3 (.int .i64 1) rfl
       have c4 := kC4.cell 4 (.int .i64 n) rfl
       have c5 := kC4.cell 5 (.int .i64 m) rfl
       have c6 := kC4.cell 6 (.int .i64 wi) rfl
       have c7 := kC4.cell 7 (.int .i64 g.k) rfl
       have c8 := kC4.cell 8 (.int .i64 g.st) rfl
       have c9 := kC4.cell 9 (.int .i64 g.lt) rfl
       have c10 := kC4.cell 10 (.int .i64 g.wi) rfl
       have lC := kC4.lt
       have hr4 := (hr1.below' hC4 (Nat.le_refl _)).more hC4.size)
    | (go_at_call 11; refine (HQ.out _ A1 c1' _ hr4 (Nat.le_refl _)).mono ?_; rintro e w5 ⟨A5, q5, rfl, hr5, hB5⟩
       have hB5' := bt hB4' hB5
       have kC5 := kC4.below' hB5
       have c0 := kC5.cell 0 (.int .i64 P) rfl
       have c1 := kC5.cell 1 (.int .i64 S) rfl
       have c2 := kC5.cell 2 (.slice (some ⟨b, o, none⟩) l.length c) rfl
       have c3 := kC5.cell 3 (.int .i64 1) rfl
       have c4 := kC5.cell 4 (.int .i64 n) rfl
       have c5 := kC5.cell 5 (.int .i64 m) rfl
       have c6 := kC5.cell 6 (.int .i64 wi) rfl
       have c7 := kC5.cell 7 (.int .i64 g.k) rfl
       have c8 := kC5.cell 8 (.int .i64 g.st) rfl
       have c9 := kC5.cell 9 (.int .i64 g.lt) rfl
       have c10 := kC5.cell 10 (.int .i64 g.wi) rfl
       have lC := kC5.lt
       have hrA := (hr0.out.below' hB5' hH).more (Nat.le_trans hH hB5'.size))
    | (go_at_call 13; refine (samesteps_eq A5 _ l q5 c w5 _ (by omega) hr5 hrA (Nat.le_refl _)).mono ?_; rintro e w6 ⟨rfl, hB6⟩
       have hB6' := bt hB5' hB6
       have kC6 := kC5.below' hB6
       have c0 := kC6.cell 0 (.int .i64 P) rfl
       have c1 := kC6.cell 1 (.int .i64 S) rfl
       have c2 := kC6.cell 2 (.slice (some ⟨b, o, none⟩) l.length c) rfl
       have c3 := kC6.cell 3 (.int .i64 1) rfl
       have c4 := kC6.cell 4 (.int .i64 n) rfl
       have c5 := kC6.cell 5 (.int .i64 m) rfl
       have c6 := kC6.cell 6 (.int .i64 wi) rfl
       have c7 := kC6.cell 7 (.int .i64 g.k) rfl
       have c8 := kC6.cell 8 (.int .i64 g.st) rfl
       have c9 := kC6.cell 9 (.int .i64 g.lt) rfl
       have c10 := kC6.cell 10 (.int .i64 g.wi) rfl
       have lC := kC6.lt)
    | (go_at_call 10; refine (awake_any _).mono ?_; rintro e w9 ⟨rfl, hB9⟩)
    | fail)
  go_ret
  exact Ret.val rfl (bt hB6' hB9)

set_option maxRecDepth 100000 in
set_option maxHeartbeats 8000000 in
theorem lawBack2 (P S : Int) (A : Option Addr) (l : List Tri) (c : Nat) (n : Nat) (lt wi : Int) (g : Flt) (w : World) (H : Nat) (hr : RdT w H A l) (hH : H ≤ w.heap.size)
    (hw : ∀ (k : Nat) (hk : k < l.length), l[k].s.size ≤ 9223372036854775807) (hl : l.length ≤ 100) (hok : PutOk P S l ⟨2, n, lt, wi⟩) :
    Calls Try.prog 5 #[.agg #[.int .i64 P, .int .i64 S, .slice A l.length c, .int .i64 2, .int .i64 n, .int .i64 lt, .int .i64 wi, .int .i64 g.k, .int .i64 g.st, .int .i64 g.lt, .int .i64 g.wi]] w (Ret (.bool true) w) := by
  have hBB : Below w.heap.size w (w.alloc (.cells #[.int .i64 P, .int .i64 S, .slice A l.length c, .int .i64 2, .int .i64 n, .int .i64 lt, .int .i64 wi, .int .i64 g.k, .int .i64 g.st, .int .i64 g.lt, .int .i64 g.wi] 26)) := by (repeat' first | exact Below.refl _ _ | apply Below.drew | (refine Below.setCells ?_ _ _ ?_) | (refine Below.setCell ?_ ?_ _) | (refine Below.alloc ?_ ?_ _) | (simp; done) | (simp; omega))
  have kC := Blk.new w 26 #[.int .i64 P, .int .i64 S, .slice A l.length c, .int .i64 2, .int .i64 n, .int .i64 lt, .int .i64 wi, .int .i64 g.k, .int .i64 g.st, .int .i64 g.lt, .int .i64 g.wi]
  have hst := fits_step hok.fit
  have hn : n < l.length := by simpa using hst.2.1
  have hins := ins_ok hok.ok
  have hml := putF_len l ⟨2, n, lt, wi⟩
  have HP := Lib.hid (fun (w' : World) (hB : Below w.heap.size w w') => fput_any P S A l c ⟨2, n, lt, wi⟩ w' H (hr.below' hB hH) (Nat.le_trans hH hB.size) hw (by omega))
  rw [hok.val] at HP
  have HS := Lib.hid (fun (w' : World) (hB : Below w.heap.size w w') => rsheet_any P S A l c w' H (hr.below' hB hH) (Nat.le_trans hH hB.size) hw (by omega))
  unfold SheetPost at HS
  rw [hok.ok] at HS
  have HBK := Lib.hid (fun (w' : World) (hB : Below w.heap.size w w') => back2_any A l c n lt wi w')
  have hbp := back_put hok (by simp)
  have ebf : backF l ⟨2, n, lt, wi⟩ = ⟨1, n, lt, 0⟩ := by unfold backF; simp
  rw [ebf] at hbp
  have HQ := Lib.hid (fun (w' : World) (A' : Option Addr) (c' H' : Nat) (hr' : RdT w' H' A' (putF l ⟨2, n, lt, wi⟩)) (hH' : H' ≤ w'.heap.size) => fput_any P S A' (putF l ⟨2, n, lt, wi⟩) c' ⟨1, n, lt, 0⟩ w' H' hr' hH' (put_words hins.w) (by omega))
  rw [hbp] at HQ
  unfold PutRet at HQ
  unfold PutRet at HP
  generalize putF l ⟨2, n, lt, wi⟩ = M at *
  generalize (sheetR P S l).1 = x1 at *
  generalize (sheetR P S l).2.1 = x2 at *
  generalize (sheetR P S l).2.2.1 = x3 at *
  have hl' : ¬ (100 : Int) < (l.length : Int) := by omega
  obtain ⟨b, o, rfl, hb0, g0, g1, g2⟩ := hr.tri hn
  have lb := lt_of_cell g0
  have n0 : (0 : Int) ≤ (n : Int) := by omega
  have n1 : (n : Int) < (l.length : Int) := by omega
  have d1 : decide ((n : Int) < 0) = false := decide_eq_false (by omega)
  have d2 : decide (l.length ≤ n) = false := decide_eq_false (by omega)
  have d3 : decide ((l.length : Int) ≤ (n : Int)) = false := decide_eq_false (by omega)
  have hr0 := Lib.hid hr
  clear hok hst hins hw hr hbp ebf
  have tk1 : True := trivial
  have kl := kC.lt
  have c0 := kC.cell 0 (.int .i64 P) rfl
  have c1 := kC.cell 1 (.int .i64 S) rfl
  have c2 := kC.cell 2 (.slice (some ⟨b, o, none⟩) l.length c) rfl
  have c3 := kC.cell 3 (.int .i64 2) rfl
  have c4 := kC.cell 4 (.int .i64 n) rfl
  have c5 := kC.cell 5 (.int .i64 lt) rfl
  have c6 := kC.cell 6 (.int .i64 wi) rfl
  have c7 := kC.cell 7 (.int .i64 g.k) rfl
  have c8 := kC.cell 8 (.int .i64 g.st) rfl
  have c9 := kC.cell 9 (.int .i64 g.lt) rfl
  have c10 := kC.cell 10 (.int .i64 g.wi) rfl
  have lC := kC.lt
  go_enter Try.func5, Try.ntmps5
  go_wp2_with (first
    | (go_at_call 11; have := tk1; refine (HP.out _ hBB).mono ?_; rintro e w1 ⟨A1, c1', rfl, hr1, hB1⟩; clear tk1
       have hB1' := bt hBB hB1
       have kC1 := kC.below' hB1
       have c0 := kC1.cell 0 (.int .i64 P) rfl
       have c1 := kC1.cell 1 (.int .i64 S) rfl
       have c2 := kC1.cell 2 (.slice (some ⟨b, o, none⟩) l.length c) rfl
       have c3 := kC1.cell 3 (.int .i64 2) rfl
       have c4 := kC1.cell 4 (.int .i64 n) rfl
       have c5 := kC1.cell 5 (.int .i64 lt) rfl
       have c6 := kC1.cell 6 (.int .i64 wi) rfl
       have c7 := kC1.cell 7 (.int .i64 g.k) rfl
       have c8 := kC1.cell 8 (.int .i64 g.st) rfl
       have c9 := kC1.cell 9 (.int .i64 g.lt) rfl
       have c10 := kC1.cell 10 (.int .i64 g.wi) rfl
       have lC := kC1.lt)
    | (go_at_call 15; refine (HS.out _ hB1').mono ?_; rintro e w2 ⟨v2, rfl, hown2, hB2⟩
       obtain ⟨A2, c2', rfl, _, _⟩ := Own.rd tri_len hown2
       have hB2' := ba (bt hB1' hB2) (.cells #[.int .i64 x1, .slice A2 x2.length c2'] 38)
       have hC2 := ba hB2 (.cells #[.int .i64 x1, .slice A2 x2.length c2'] 38)
       have kC2 := (kC1.below' hB2).alloc (.cells #[.int .i64 x1, .slice A2 x2.length c2'] 38)
       have c0 := kC2.cell 0 (.int .i64 P) rfl
       have c1 := kC2.cell 1 (.int .i64 S) rfl
       have c2 := kC2.cell 2 (.slice (some ⟨b, o, none⟩) l.length c) rfl
       have c3 := kC2.cell 3 (.int .i64 2) rfl
       have c4 := kC2.cell 4 (.int .i64 n) rfl
       have c5 := kC2.cell 5 (.int .i64 lt) rfl
       have c6 := kC2.cell 6 (.int .i64 wi) rfl
       have c7 := kC2.cell 7 (.int .i64 g.k) rfl
       have c8 := kC2.cell 8 (.int .i64 g.st) rfl
       have c9 := kC2.cell 9 (.int .i64 g.lt) rfl
       have c10 := kC2.cell 10 (.int .i64 g.wi) rfl
       have lC := kC2.lt
       have e0 := (hB2'.cell (p := ⟨b, _, none⟩) lb).trans g0
       have e1 := (hB2'.cell (p := ⟨b, _, none⟩) lb).trans g1
       have e2 := (hB2'.cell (p := ⟨b, _, none⟩) lb).trans g2
       have lC2 : w.heap.size < w2.heap.size + 1 := by simpa using lC
       have lb2 : b < w2.heap.size + 1 := by have := hB2'.size; simp at this; omega)
    | fail)
  refine wp_region_ex (by kernel_rfl) (by kernel_rfl) ?_
  repeat (go_big_quiet_step (fail))
  refine wpQuiet_nil ?_
  intro _ hw'
  obtain ⟨g3, hw''⟩ := hw'
  subst hw''
  have hq3 := g3.h
  have hB3' := bt hB2' hq3
  have hC3 := bt hC2 hq3
  have kC3 := kC2.below' hq3
  have c0 := kC3.cell 0 (.int .i64 P) rfl
  have c1 := kC3.cell 1 (.int .i64 S) rfl
  have c2 := kC3.cell 2 (.slice (some ⟨b, o, none⟩) l.length c) rfl
  have c3 := kC3.cell 3 (.int .i64 2) rfl
  have c4 := kC3.cell 4 (.int .i64 n) rfl
  have c5 := kC3.cell 5 (.int .i64 lt) rfl
  have c6 := kC3.cell 6 (.int .i64 wi) rfl
  have c7 := kC3.cell 7 (.int .i64 g.k) rfl
  have c8 := kC3.cell 8 (.int .i64 g.st) rfl
  have c9 := kC3.cell 9 (.int .i64 g.lt) rfl
  have c10 := kC3.cell 10 (.int .i64 g.wi) rfl
  have lC := kC3.lt
  generalize g3.w = w3 at *
  clear hq3
  go_wp2_with (first
    | (go_at_call 18; refine (HBK.out _ hB3').mono ?_; rintro e w4 ⟨rfl, hB4⟩
       have hB4' := ba (bt hB3' hB4) (.cells #[.int .i64 1, .int .i64 n, .int .i64 lt, .int .i64 0] 24)
       have hC4 := ba (bt hC3 hB4) (.cells #[.int .i64 1, .int .i64 n, .int .i64 lt, .int .i64 0] 24)
       have kC4 := (kC3.below' hB4).alloc (.cells #[.int .i64 1, .int .i64 n, .int .i64 lt, .int .i64 0] 24)
       have c0 := kC4.cell 0 (.int .i64 P) rfl
       have c1 := kC4.cell 1 (.int .i64 S) rfl
       have c2 := kC4.cell 2 (.slice (some ⟨b, o, none⟩) l.length c) rfl
       have c3 := kC4.cell 3 (.int .i64 2) rfl
       have c4 := kC4.cell 4 (.int .i64 n) rfl
       have c5 := kC4.cell 5 (.int .i64 lt) rfl
       have c6 := kC4.cell 6 (.int .i64 wi) rfl
       have c7 := kC4.cell 7 (.int .i64 g.k) rfl
       have c8 := kC4.cell 8 (.int .i64 g.st) rfl
       have c9 := kC4.cell 9 (.int .i64 g.lt) rfl
       have c10 := kC4.cell 10 (.int .i64 g.wi) rfl
       have lC := kC4.lt
       have hr4 := (hr1.below' hC4 (Nat.le_refl _)).more hC4.size)
    | (go_at_call 11; refine (HQ.out _ A1 c1' _ hr4 (Nat.le_refl _)).mono ?_; rintro e w5 ⟨A5, q5, rfl, hr5, hB5⟩
       have hB5' := bt hB4' hB5
       have kC5 := kC4.below' hB5
       have c0 := kC5.cell 0 (.int .i64 P) rfl
       have c1 := kC5.cell 1 (.int .i64 S) rfl
       have c2 := kC5.cell 2 (.slice (some ⟨b, o, none⟩) l.length c) rfl
       have c3 := kC5.cell 3 (.int .i64 2) rfl
       have c4 := kC5.cell 4 (.int .i64 n) rfl
       have c5 := kC5.cell 5 (.int .i64 lt) rfl
       have c6 := kC5.cell 6 (.int .i64 wi) rfl
       have c7 := kC5.cell 7 (.int .i64 g.k) rfl
       have c8 := kC5.cell 8 (.int .i64 g.st) rfl
       have c9 := kC5.cell 9 (.int .i64 g.lt) rfl
       have c10 := kC5.cell 10 (.int .i64 g.wi) rfl
       have lC := kC5.lt
       have hrA := (hr0.out.below' hB5' hH).more (Nat.le_trans hH hB5'.size))
    | (go_at_call 13; refine (samesteps_eq A5 _ l q5 c w5 _ (by omega) hr5 hrA (Nat.le_refl _)).mono ?_; rintro e w6 ⟨rfl, hB6⟩
       have hB6' := bt hB5' hB6
       have kC6 := kC5.below' hB6
       have c0 := kC6.cell 0 (.int .i64 P) rfl
       have c1 := kC6.cell 1 (.int .i64 S) rfl
       have c2 := kC6.cell 2 (.slice (some ⟨b, o, none⟩) l.length c) rfl
       have c3 := kC6.cell 3 (.int .i64 2) rfl
       have c4 := kC6.cell 4 (.int .i64 n) rfl
       have c5 := kC6.cell 5 (.int .i64 lt) rfl
       have c6 := kC6.cell 6 (.int .i64 wi) rfl
       have c7 := kC6.cell 7 (.int .i64 g.k) rfl
       have c8 := kC6.cell 8 (.int .i64 g.st) rfl
       have c9 := kC6.cell 9 (.int .i64 g.lt) rfl
       have c10 := kC6.cell 10 (.int .i64 g.wi) rfl
       have lC := kC6.lt)
    | (go_at_call 10; refine (awake_any _).mono ?_; rintro e w9 ⟨rfl, hB9⟩)
    | fail)
  go_ret
  exact Ret.val rfl (bt hB6' hB9)

set_option maxRecDepth 100000 in
set_option maxHeartbeats 8000000 in
theorem lawBack3 (P S : Int) (A : Option Addr) (l : List Tri) (c : Nat) (n : Nat) (lt wi : Int) (g : Flt) (w : World) (H : Nat) (hr : RdT w H A l) (hH : H ≤ w.heap.size)
    (hw : ∀ (k : Nat) (hk : k < l.length), l[k].s.size ≤ 9223372036854775807) (hl : l.length ≤ 100) (hok : PutOk P S l ⟨3, n, lt, wi⟩) :
    Calls Try.prog 5 #[.agg #[.int .i64 P, .int .i64 S, .slice A l.length c, .int .i64 3, .int .i64 n, .int .i64 lt, .int .i64 wi, .int .i64 g.k, .int .i64 g.st, .int .i64 g.lt, .int .i64 g.wi]] w (Ret (.bool true) w) := by
  have hBB : Below w.heap.size w (w.alloc (.cells #[.int .i64 P, .int .i64 S, .slice A l.length c, .int .i64 3, .int .i64 n, .int .i64 lt, .int .i64 wi, .int .i64 g.k, .int .i64 g.st, .int .i64 g.lt, .int .i64 g.wi] 26)) := by (repeat' first | exact Below.refl _ _ | apply Below.drew | (refine Below.setCells ?_ _ _ ?_) | (refine Below.setCell ?_ ?_ _) | (refine Below.alloc ?_ ?_ _) | (simp; done) | (simp; omega))
  have kC := Blk.new w 26 #[.int .i64 P, .int .i64 S, .slice A l.length c, .int .i64 3, .int .i64 n, .int .i64 lt, .int .i64 wi, .int .i64 g.k, .int .i64 g.st, .int .i64 g.lt, .int .i64 g.wi]
  have hst := fits_step hok.fit
  have hn : n < l.length := by simpa using hst.2.1
  have hins := ins_ok hok.ok
  have hml := putF_len l ⟨3, n, lt, wi⟩
  have HP := Lib.hid (fun (w' : World) (hB : Below w.heap.size w w') => fput_any P S A l c ⟨3, n, lt, wi⟩ w' H (hr.below' hB hH) (Nat.le_trans hH hB.size) hw (by omega))
  rw [hok.val] at HP
  have HS := Lib.hid (fun (w' : World) (hB : Below w.heap.size w w') => rsheet_any P S A l c w' H (hr.below' hB hH) (Nat.le_trans hH hB.size) hw (by omega))
  unfold SheetPost at HS
  rw [hok.ok] at HS
  have HBK := Lib.hid (fun (w' : World) (hB : Below w.heap.size w w') => back0_any A l c 3 n lt wi w' (by omega))
  have hbp := back_put hok (by simp)
  have ebf : backF l ⟨3, n, lt, wi⟩ = ⟨3, n, lt, wi⟩ := by unfold backF; simp
  rw [ebf] at hbp
  have HQ := Lib.hid (fun (w' : World) (A' : Option Addr) (c' H' : Nat) (hr' : RdT w' H' A' (putF l ⟨3, n, lt, wi⟩)) (hH' : H' ≤ w'.heap.size) => fput_any P S A' (putF l ⟨3, n, lt, wi⟩) c' ⟨3, n, lt, wi⟩ w' H' hr' hH' (put_words hins.w) (by omega))
  rw [hbp] at HQ
  unfold PutRet at HQ
  unfold PutRet at HP
  generalize putF l ⟨3, n, lt, wi⟩ = M at *
  generalize (sheetR P S l).1 = x1 at *
  generalize (sheetR P S l).2.1 = x2 at *
  generalize (sheetR P S l).2.2.1 = x3 at *
  have hl' : ¬ (100 : Int) < (l.length : Int) := by omega
  obtain ⟨b, o, rfl, hb0, g0, g1, g2⟩ := hr.tri hn
  have lb := lt_of_cell g0
  have n0 : (0 : Int) ≤ (n : Int) := by omega
  have n1 : (n : Int) < (l.length : Int) := by omega
  have d1 : decide ((n : Int) < 0) = false := decide_eq_false (by omega)
  have d2 : decide (l.length ≤ n) = false := decide_eq_false (by omega)
  have d3 : decide ((l.length : Int) ≤ (n : Int)) = false := decide_eq_false (by omega)
  have hr0 := Lib.hid hr
  clear hok hst hins hw hr hbp ebf
  have tk1 : True := trivial
  have kl := kC.lt
  have c0 := kC.cell 0 (.int .i64 P) rfl
  have c1 := kC.cell 1 (.int .i64 S) rfl
  have c2 := kC.cell 2 (.slice (some ⟨b, o, none⟩) l.length c) rfl
  have c3 := kC.cell 3 (.int .i64 3) rfl
  have c4 := kC.cell 4 (.int .i64 n) rfl
  have c5 := kC.cell 5 (.int .i64 lt) rfl
  have c6 := kC.cell 6 (.int .i64 wi) rfl
  have c7 := kC.cell 7 (.int .i64 g.k) rfl
  have c8 := kC.cell 8 (.int .i64 g.st) rfl
  have c9 := kC.cell 9 (.int .i64 g.lt) rfl
  have c10 := kC.cell 10 (.int .i64 g.wi) rfl
  have lC := kC.lt
  go_enter Try.func5, Try.ntmps5
  go_wp2_with (first
    | (go_at_call 11; have := tk1; refine (HP.out _ hBB).mono ?_; rintro e w1 ⟨A1, c1', rfl, hr1, hB1⟩; clear tk1
       have hB1' := bt hBB hB1
       have kC1 := kC.below' hB1
       have c0 := kC1.cell 0 (.int .i64 P) rfl
       have c1 := kC1.cell 1 (.int .i64 S) rfl
       have c2 := kC1.cell 2 (.slice (some ⟨b, o, none⟩) l.length c) rfl
       have c3 := kC1.cell 3 (.int .i64 3) rfl
       have c4 := kC1.cell 4 (.int .i64 n) rfl
       have c5 := kC1.cell 5 (.int .i64 lt) rfl
       have c6 := kC1.cell 6 (.int .i64 wi) rfl
       have c7 := kC1.cell 7 (.int .i64 g.k) rfl
       have c8 := kC1.cell 8 (.int .i64 g.st) rfl
       have c9 := kC1.cell 9 (.int .i64 g.lt) rfl
       have c10 := kC1.cell 10 (.int .i64 g.wi) rfl
       have lC := kC1.lt)
    | (go_at_call 15; refine (HS.out _ hB1').mono ?_; rintro e w2 ⟨v2, rfl, hown2, hB2⟩
       obtain ⟨A2, c2', rfl, _, _⟩ := Own.rd tri_len hown2
       have hB2' := ba (bt hB1' hB2) (.cells #[.int .i64 x1, .slice A2 x2.length c2'] 38)
       have hC2 := ba hB2 (.cells #[.int .i64 x1, .slice A2 x2.length c2'] 38)
       have kC2 := (kC1.below' hB2).alloc (.cells #[.int .i64 x1, .slice A2 x2.length c2'] 38)
       have c0 := kC2.cell 0 (.int .i64 P) rfl
       have c1 := kC2.cell 1 (.int .i64 S) rfl
       have c2 := kC2.cell 2 (.slice (some ⟨b, o, none⟩) l.length c) rfl
       have c3 := kC2.cell 3 (.int .i64 3) rfl
       have c4 := kC2.cell 4 (.int .i64 n) rfl
       have c5 := kC2.cell 5 (.int .i64 lt) rfl
       have c6 := kC2.cell 6 (.int .i64 wi) rfl
       have c7 := kC2.cell 7 (.int .i64 g.k) rfl
       have c8 := kC2.cell 8 (.int .i64 g.st) rfl
       have c9 := kC2.cell 9 (.int .i64 g.lt) rfl
       have c10 := kC2.cell 10 (.int .i64 g.wi) rfl
       have lC := kC2.lt
       have e0 := (hB2'.cell (p := ⟨b, _, none⟩) lb).trans g0
       have e1 := (hB2'.cell (p := ⟨b, _, none⟩) lb).trans g1
       have e2 := (hB2'.cell (p := ⟨b, _, none⟩) lb).trans g2
       have lC2 : w.heap.size < w2.heap.size + 1 := by simpa using lC
       have lb2 : b < w2.heap.size + 1 := by have := hB2'.size; simp at this; omega)
    | fail)
  refine wp_region_ex (by kernel_rfl) (by kernel_rfl) ?_
  repeat (go_big_quiet_step (fail))
  refine wpQuiet_nil ?_
  intro _ hw'
  obtain ⟨g3, hw''⟩ := hw'
  subst hw''
  have hq3 := g3.h
  have hB3' := bt hB2' hq3
  have hC3 := bt hC2 hq3
  have kC3 := kC2.below' hq3
  have c0 := kC3.cell 0 (.int .i64 P) rfl
  have c1 := kC3.cell 1 (.int .i64 S) rfl
  have c2 := kC3.cell 2 (.slice (some ⟨b, o, none⟩) l.length c) rfl
  have c3 := kC3.cell 3 (.int .i64 3) rfl
  have c4 := kC3.cell 4 (.int .i64 n) rfl
  have c5 := kC3.cell 5 (.int .i64 lt) rfl
  have c6 := kC3.cell 6 (.int .i64 wi) rfl
  have c7 := kC3.cell 7 (.int .i64 g.k) rfl
  have c8 := kC3.cell 8 (.int .i64 g.st) rfl
  have c9 := kC3.cell 9 (.int .i64 g.lt) rfl
  have c10 := kC3.cell 10 (.int .i64 g.wi) rfl
  have lC := kC3.lt
  generalize g3.w = w3 at *
  clear hq3
  go_wp2_with (first
    | (go_at_call 18; refine (HBK.out _ hB3').mono ?_; rintro e w4 ⟨rfl, hB4⟩
       have hB4' := ba (bt hB3' hB4) (.cells #[.int .i64 3, .int .i64 n, .int .i64 lt, .int .i64 wi] 24)
       have hC4 := ba (bt hC3 hB4) (.cells #[.int .i64 3, .int .i64 n, .int .i64 lt, .int .i64 wi] 24)
       have kC4 := (kC3.below' hB4).alloc (.cells #[.int .i64 3, .int .i64 n, .int .i64 lt, .int .i64 wi] 24)
       have c0 := kC4.cell 0 (.int .i64 P) rfl
       have c1 := kC4.cell 1 (.int .i64 S) rfl
       have c2 := kC4.cell 2 (.slice (some ⟨b, o, none⟩) l.length c) rfl
       have c3 := kC4.cell 3 (.int .i64 3) rfl
       have c4 := kC4.cell 4 (.int .i64 n) rfl
       have c5 := kC4.cell 5 (.int .i64 lt) rfl
       have c6 := kC4.cell 6 (.int .i64 wi) rfl
       have c7 := kC4.cell 7 (.int .i64 g.k) rfl
       have c8 := kC4.cell 8 (.int .i64 g.st) rfl
       have c9 := kC4.cell 9 (.int .i64 g.lt) rfl
       have c10 := kC4.cell 10 (.int .i64 g.wi) rfl
       have lC := kC4.lt
       have hr4 := (hr1.below' hC4 (Nat.le_refl _)).more hC4.size)
    | (go_at_call 11; refine (HQ.out _ A1 c1' _ hr4 (Nat.le_refl _)).mono ?_; rintro e w5 ⟨A5, q5, rfl, hr5, hB5⟩
       have hB5' := bt hB4' hB5
       have kC5 := kC4.below' hB5
       have c0 := kC5.cell 0 (.int .i64 P) rfl
       have c1 := kC5.cell 1 (.int .i64 S) rfl
       have c2 := kC5.cell 2 (.slice (some ⟨b, o, none⟩) l.length c) rfl
       have c3 := kC5.cell 3 (.int .i64 3) rfl
       have c4 := kC5.cell 4 (.int .i64 n) rfl
       have c5 := kC5.cell 5 (.int .i64 lt) rfl
       have c6 := kC5.cell 6 (.int .i64 wi) rfl
       have c7 := kC5.cell 7 (.int .i64 g.k) rfl
       have c8 := kC5.cell 8 (.int .i64 g.st) rfl
       have c9 := kC5.cell 9 (.int .i64 g.lt) rfl
       have c10 := kC5.cell 10 (.int .i64 g.wi) rfl
       have lC := kC5.lt
       have hrA := (hr0.out.below' hB5' hH).more (Nat.le_trans hH hB5'.size))
    | (go_at_call 13; refine (samesteps_eq A5 _ l q5 c w5 _ (by omega) hr5 hrA (Nat.le_refl _)).mono ?_; rintro e w6 ⟨rfl, hB6⟩
       have hB6' := bt hB5' hB6
       have kC6 := kC5.below' hB6
       have c0 := kC6.cell 0 (.int .i64 P) rfl
       have c1 := kC6.cell 1 (.int .i64 S) rfl
       have c2 := kC6.cell 2 (.slice (some ⟨b, o, none⟩) l.length c) rfl
       have c3 := kC6.cell 3 (.int .i64 3) rfl
       have c4 := kC6.cell 4 (.int .i64 n) rfl
       have c5 := kC6.cell 5 (.int .i64 lt) rfl
       have c6 := kC6.cell 6 (.int .i64 wi) rfl
       have c7 := kC6.cell 7 (.int .i64 g.k) rfl
       have c8 := kC6.cell 8 (.int .i64 g.st) rfl
       have c9 := kC6.cell 9 (.int .i64 g.lt) rfl
       have c10 := kC6.cell 10 (.int .i64 g.wi) rfl
       have lC := kC6.lt)
    | (go_at_call 10; refine (awake_any _).mono ?_; rintro e w9 ⟨rfl, hB9⟩)
    | fail)
  go_ret
  exact Ret.val rfl (bt hB6' hB9)

set_option maxRecDepth 100000 in
set_option maxHeartbeats 8000000 in
theorem lawBack4 (P S : Int) (A : Option Addr) (l : List Tri) (c : Nat) (n : Nat) (lt wi : Int) (g : Flt) (w : World) (H : Nat) (hr : RdT w H A l) (hH : H ≤ w.heap.size)
    (hw : ∀ (k : Nat) (hk : k < l.length), l[k].s.size ≤ 9223372036854775807) (hl : l.length ≤ 100) (hok : PutOk P S l ⟨4, n, lt, wi⟩) :
    Calls Try.prog 5 #[.agg #[.int .i64 P, .int .i64 S, .slice A l.length c, .int .i64 4, .int .i64 n, .int .i64 lt, .int .i64 wi, .int .i64 g.k, .int .i64 g.st, .int .i64 g.lt, .int .i64 g.wi]] w (Ret (.bool true) w) := by
  have hBB : Below w.heap.size w (w.alloc (.cells #[.int .i64 P, .int .i64 S, .slice A l.length c, .int .i64 4, .int .i64 n, .int .i64 lt, .int .i64 wi, .int .i64 g.k, .int .i64 g.st, .int .i64 g.lt, .int .i64 g.wi] 26)) := by (repeat' first | exact Below.refl _ _ | apply Below.drew | (refine Below.setCells ?_ _ _ ?_) | (refine Below.setCell ?_ ?_ _) | (refine Below.alloc ?_ ?_ _) | (simp; done) | (simp; omega))
  have kC := Blk.new w 26 #[.int .i64 P, .int .i64 S, .slice A l.length c, .int .i64 4, .int .i64 n, .int .i64 lt, .int .i64 wi, .int .i64 g.k, .int .i64 g.st, .int .i64 g.lt, .int .i64 g.wi]
  have hst := fits_step hok.fit
  have hn : n < l.length := by simpa using hst.2.1
  have hins := ins_ok hok.ok
  have hml := putF_len l ⟨4, n, lt, wi⟩
  have HP := Lib.hid (fun (w' : World) (hB : Below w.heap.size w w') => fput_any P S A l c ⟨4, n, lt, wi⟩ w' H (hr.below' hB hH) (Nat.le_trans hH hB.size) hw (by omega))
  rw [hok.val] at HP
  have HS := Lib.hid (fun (w' : World) (hB : Below w.heap.size w w') => rsheet_any P S A l c w' H (hr.below' hB hH) (Nat.le_trans hH hB.size) hw (by omega))
  unfold SheetPost at HS
  rw [hok.ok] at HS
  have HBK := Lib.hid (fun (w' : World) (hB : Below w.heap.size w w') => back0_any A l c 4 n lt wi w' (by omega))
  have hlen : Hid ((putF l ⟨4, n, lt, wi⟩).length = l.length - 1) := Lib.hid (by rw [putF_skip, List.length_eraseIdx, if_pos hn])
  unfold PutRet at HP
  generalize putF l ⟨4, n, lt, wi⟩ = M at *
  generalize (sheetR P S l).1 = x1 at *
  generalize (sheetR P S l).2.1 = x2 at *
  generalize (sheetR P S l).2.2.1 = x3 at *
  have hl' : ¬ (100 : Int) < (l.length : Int) := by omega
  obtain ⟨b, o, rfl, hb0, g0, g1, g2⟩ := hr.tri hn
  have lb := lt_of_cell g0
  have n0 : (0 : Int) ≤ (n : Int) := by omega
  have n1 : (n : Int) < (l.length : Int) := by omega
  have d1 : decide ((n : Int) < 0) = false := decide_eq_false (by omega)
  have d2 : decide (l.length ≤ n) = false := decide_eq_false (by omega)
  have d3 : decide ((l.length : Int) ≤ (n : Int)) = false := decide_eq_false (by omega)
  have h4 : ((M.length : Int) == (l.length : Int) - 1) = true := by have := hlen.out; simp; omega
  clear hok hst hins hw hr
  have tk1 : True := trivial
  have kl := kC.lt
  have c0 := kC.cell 0 (.int .i64 P) rfl
  have c1 := kC.cell 1 (.int .i64 S) rfl
  have c2 := kC.cell 2 (.slice (some ⟨b, o, none⟩) l.length c) rfl
  have c3 := kC.cell 3 (.int .i64 4) rfl
  have c4 := kC.cell 4 (.int .i64 n) rfl
  have c5 := kC.cell 5 (.int .i64 lt) rfl
  have c6 := kC.cell 6 (.int .i64 wi) rfl
  have c7 := kC.cell 7 (.int .i64 g.k) rfl
  have c8 := kC.cell 8 (.int .i64 g.st) rfl
  have c9 := kC.cell 9 (.int .i64 g.lt) rfl
  have c10 := kC.cell 10 (.int .i64 g.wi) rfl
  have lC := kC.lt
  go_enter Try.func5, Try.ntmps5
  go_wp2_with (first
    | (go_at_call 11; have := tk1; refine (HP.out _ hBB).mono ?_; rintro e w1 ⟨A1, c1', rfl, hr1, hB1⟩; clear tk1
       have hB1' := bt hBB hB1
       have kC1 := kC.below' hB1
       have c0 := kC1.cell 0 (.int .i64 P) rfl
       have c1 := kC1.cell 1 (.int .i64 S) rfl
       have c2 := kC1.cell 2 (.slice (some ⟨b, o, none⟩) l.length c) rfl
       have c3 := kC1.cell 3 (.int .i64 4) rfl
       have c4 := kC1.cell 4 (.int .i64 n) rfl
       have c5 := kC1.cell 5 (.int .i64 lt) rfl
       have c6 := kC1.cell 6 (.int .i64 wi) rfl
       have c7 := kC1.cell 7 (.int .i64 g.k) rfl
       have c8 := kC1.cell 8 (.int .i64 g.st) rfl
       have c9 := kC1.cell 9 (.int .i64 g.lt) rfl
       have c10 := kC1.cell 10 (.int .i64 g.wi) rfl
       have lC := kC1.lt)
    | (go_at_call 15; refine (HS.out _ hB1').mono ?_; rintro e w2 ⟨v2, rfl, hown2, hB2⟩
       obtain ⟨A2, c2', rfl, _, _⟩ := Own.rd tri_len hown2
       have hB2' := ba (bt hB1' hB2) (.cells #[.int .i64 x1, .slice A2 x2.length c2'] 38)
       have hC2 := ba hB2 (.cells #[.int .i64 x1, .slice A2 x2.length c2'] 38)
       have kC2 := (kC1.below' hB2).alloc (.cells #[.int .i64 x1, .slice A2 x2.length c2'] 38)
       have c0 := kC2.cell 0 (.int .i64 P) rfl
       have c1 := kC2.cell 1 (.int .i64 S) rfl
       have c2 := kC2.cell 2 (.slice (some ⟨b, o, none⟩) l.length c) rfl
       have c3 := kC2.cell 3 (.int .i64 4) rfl
       have c4 := kC2.cell 4 (.int .i64 n) rfl
       have c5 := kC2.cell 5 (.int .i64 lt) rfl
       have c6 := kC2.cell 6 (.int .i64 wi) rfl
       have c7 := kC2.cell 7 (.int .i64 g.k) rfl
       have c8 := kC2.cell 8 (.int .i64 g.st) rfl
       have c9 := kC2.cell 9 (.int .i64 g.lt) rfl
       have c10 := kC2.cell 10 (.int .i64 g.wi) rfl
       have lC := kC2.lt
       have e0 := (hB2'.cell (p := ⟨b, _, none⟩) lb).trans g0
       have e1 := (hB2'.cell (p := ⟨b, _, none⟩) lb).trans g1
       have e2 := (hB2'.cell (p := ⟨b, _, none⟩) lb).trans g2
       have lC2 : w.heap.size < w2.heap.size + 1 := by simpa using lC
       have lb2 : b < w2.heap.size + 1 := by have := hB2'.size; simp at this; omega)
    | fail)
  refine wp_region_ex (by kernel_rfl) (by kernel_rfl) ?_
  repeat (go_big_quiet_step (fail))
  refine wpQuiet_nil ?_
  intro _ hw'
  obtain ⟨g3, hw''⟩ := hw'
  subst hw''
  have hq3 := g3.h
  have hB3' := bt hB2' hq3
  have hC3 := bt hC2 hq3
  have kC3 := kC2.below' hq3
  have c0 := kC3.cell 0 (.int .i64 P) rfl
  have c1 := kC3.cell 1 (.int .i64 S) rfl
  have c2 := kC3.cell 2 (.slice (some ⟨b, o, none⟩) l.length c) rfl
  have c3 := kC3.cell 3 (.int .i64 4) rfl
  have c4 := kC3.cell 4 (.int .i64 n) rfl
  have c5 := kC3.cell 5 (.int .i64 lt) rfl
  have c6 := kC3.cell 6 (.int .i64 wi) rfl
  have c7 := kC3.cell 7 (.int .i64 g.k) rfl
  have c8 := kC3.cell 8 (.int .i64 g.st) rfl
  have c9 := kC3.cell 9 (.int .i64 g.lt) rfl
  have c10 := kC3.cell 10 (.int .i64 g.wi) rfl
  have lC := kC3.lt
  generalize g3.w = w3 at *
  clear hq3
  go_wp2_with (first
    | (go_at_call 18; refine (HBK.out _ hB3').mono ?_; rintro e w4 ⟨rfl, hB4⟩
       have hB4' := ba (bt hB3' hB4) (.cells #[.int .i64 4, .int .i64 n, .int .i64 lt, .int .i64 wi] 24)
       have hC4 := ba (bt hC3 hB4) (.cells #[.int .i64 4, .int .i64 n, .int .i64 lt, .int .i64 wi] 24)
       have kC4 := (kC3.below' hB4).alloc (.cells #[.int .i64 4, .int .i64 n, .int .i64 lt, .int .i64 wi] 24)
       have c0 := kC4.cell 0 (.int .i64 P) rfl
       have c1 := kC4.cell 1 (.int .i64 S) rfl
       have c2 := kC4.cell 2 (.slice (some ⟨b, o, none⟩) l.length c) rfl
       have c3 := kC4.cell 3 (.int .i64 4) rfl
       have c4 := kC4.cell 4 (.int .i64 n) rfl
       have c5 := kC4.cell 5 (.int .i64 lt) rfl
       have c6 := kC4.cell 6 (.int .i64 wi) rfl
       have c7 := kC4.cell 7 (.int .i64 g.k) rfl
       have c8 := kC4.cell 8 (.int .i64 g.st) rfl
       have c9 := kC4.cell 9 (.int .i64 g.lt) rfl
       have c10 := kC4.cell 10 (.int .i64 g.wi) rfl
       have lC := kC4.lt
       have hr4 := (hr1.below' hC4 (Nat.le_refl _)).more hC4.size)
    | (go_at_call 10; refine (awake_any _).mono ?_; rintro e w9 ⟨rfl, hB9⟩)
    | fail)
  go_ret
  exact Ret.val rfl (bt hB4' hB9)

set_option maxRecDepth 100000 in
set_option maxHeartbeats 8000000 in
theorem lawBack5 (P S : Int) (A : Option Addr) (l : List Tri) (c : Nat) (n : Nat) (lt wi : Int) (g : Flt) (w : World) (H : Nat) (hr : RdT w H A l) (hH : H ≤ w.heap.size)
    (hw : ∀ (k : Nat) (hk : k < l.length), l[k].s.size ≤ 9223372036854775807) (hl : l.length ≤ 100) (hok : PutOk P S l ⟨5, n, lt, wi⟩) :
    Calls Try.prog 5 #[.agg #[.int .i64 P, .int .i64 S, .slice A l.length c, .int .i64 5, .int .i64 n, .int .i64 lt, .int .i64 wi, .int .i64 g.k, .int .i64 g.st, .int .i64 g.lt, .int .i64 g.wi]] w (Ret (.bool true) w) := by
  have hBB : Below w.heap.size w (w.alloc (.cells #[.int .i64 P, .int .i64 S, .slice A l.length c, .int .i64 5, .int .i64 n, .int .i64 lt, .int .i64 wi, .int .i64 g.k, .int .i64 g.st, .int .i64 g.lt, .int .i64 g.wi] 26)) := by (repeat' first | exact Below.refl _ _ | apply Below.drew | (refine Below.setCells ?_ _ _ ?_) | (refine Below.setCell ?_ ?_ _) | (refine Below.alloc ?_ ?_ _) | (simp; done) | (simp; omega))
  have kC := Blk.new w 26 #[.int .i64 P, .int .i64 S, .slice A l.length c, .int .i64 5, .int .i64 n, .int .i64 lt, .int .i64 wi, .int .i64 g.k, .int .i64 g.st, .int .i64 g.lt, .int .i64 g.wi]
  have hst := fits_step hok.fit
  have hn : n < l.length := by simpa using hst.2.1
  have hins := ins_ok hok.ok
  have hml := putF_len l ⟨5, n, lt, wi⟩
  have HP := Lib.hid (fun (w' : World) (hB : Below w.heap.size w w') => fput_any P S A l c ⟨5, n, lt, wi⟩ w' H (hr.below' hB hH) (Nat.le_trans hH hB.size) hw (by omega))
  rw [hok.val] at HP
  have HS := Lib.hid (fun (w' : World) (hB : Below w.heap.size w w') => rsheet_any P S A l c w' H (hr.below' hB hH) (Nat.le_trans hH hB.size) hw (by omega))
  unfold SheetPost at HS
  rw [hok.ok] at HS
  have HBK := Lib.hid (fun (w' : World) (hB : Below w.heap.size w w') => back5_any A l c n lt wi w' (by have := hok.sh; unfold shapedF at this; simp at this; exact this.2))
  have hbp := back_put hok (by simp)
  have ebf : backF l ⟨5, n, lt, wi⟩ = ⟨5, n, 0, -wi⟩ := by unfold backF; simp
  rw [ebf] at hbp
  have HQ := Lib.hid (fun (w' : World) (A' : Option Addr) (c' H' : Nat) (hr' : RdT w' H' A' (putF l ⟨5, n, lt, wi⟩)) (hH' : H' ≤ w'.heap.size) => fput_any P S A' (putF l ⟨5, n, lt, wi⟩) c' ⟨5, n, 0, -wi⟩ w' H' hr' hH' (put_words hins.w) (by omega))
  rw [hbp] at HQ
  unfold PutRet at HQ
  unfold PutRet at HP
  generalize putF l ⟨5, n, lt, wi⟩ = M at *
  generalize (sheetR P S l).1 = x1 at *
  generalize (sheetR P S l).2.1 = x2 at *
  generalize (sheetR P S l).2.2.1 = x3 at *
  have hl' : ¬ (100 : Int) < (l.length : Int) := by omega
  obtain ⟨b, o, rfl, hb0, g0, g1, g2⟩ := hr.tri hn
  have lb := lt_of_cell g0
  have n0 : (0 : Int) ≤ (n : Int) := by omega
  have n1 : (n : Int) < (l.length : Int) := by omega
  have d1 : decide ((n : Int) < 0) = false := decide_eq_false (by omega)
  have d2 : decide (l.length ≤ n) = false := decide_eq_false (by omega)
  have d3 : decide ((l.length : Int) ≤ (n : Int)) = false := decide_eq_false (by omega)
  have hr0 := Lib.hid hr
  clear hok hst hins hw hr hbp ebf
  have tk1 : True := trivial
  have kl := kC.lt
  have c0 := kC.cell 0 (.int .i64 P) rfl
  have c1 := kC.cell 1 (.int .i64 S) rfl
  have c2 := kC.cell 2 (.slice (some ⟨b, o, none⟩) l.length c) rfl
  have c3 := kC.cell 3 (.int .i64 5) rfl
  have c4 := kC.cell 4 (.int .i64 n) rfl
  have c5 := kC.cell 5 (.int .i64 lt) rfl
  have c6 := kC.cell 6 (.int .i64 wi) rfl
  have c7 := kC.cell 7 (.int .i64 g.k) rfl
  have c8 := kC.cell 8 (.int .i64 g.st) rfl
  have c9 := kC.cell 9 (.int .i64 g.lt) rfl
  have c10 := kC.cell 10 (.int .i64 g.wi) rfl
  have lC := kC.lt
  go_enter Try.func5, Try.ntmps5
  go_wp2_with (first
    | (go_at_call 11; have := tk1; refine (HP.out _ hBB).mono ?_; rintro e w1 ⟨A1, c1', rfl, hr1, hB1⟩; clear tk1
       have hB1' := bt hBB hB1
       have kC1 := kC.below' hB1
       have c0 := kC1.cell 0 (.int .i64 P) rfl
       have c1 := kC1.cell 1 (.int .i64 S) rfl
       have c2 := kC1.cell 2 (.slice (some ⟨b, o, none⟩) l.length c) rfl
       have c3 := kC1.cell 3 (.int .i64 5) rfl
       have c4 := kC1.cell 4 (.int .i64 n) rfl
       have c5 := kC1.cell 5 (.int .i64 lt) rfl
       have c6 := kC1.cell 6 (.int .i64 wi) rfl
       have c7 := kC1.cell 7 (.int .i64 g.k) rfl
       have c8 := kC1.cell 8 (.int .i64 g.st) rfl
       have c9 := kC1.cell 9 (.int .i64 g.lt) rfl
       have c10 := kC1.cell 10 (.int .i64 g.wi) rfl
       have lC := kC1.lt)
    | (go_at_call 15; refine (HS.out _ hB1').mono ?_; rintro e w2 ⟨v2, rfl, hown2, hB2⟩
       obtain ⟨A2, c2', rfl, _, _⟩ := Own.rd tri_len hown2
       have hB2' := ba (bt hB1' hB2) (.cells #[.int .i64 x1, .slice A2 x2.length c2'] 38)
       have hC2 := ba hB2 (.cells #[.int .i64 x1, .slice A2 x2.length c2'] 38)
       have kC2 := (kC1.below' hB2).alloc (.cells #[.int .i64 x1, .slice A2 x2.length c2'] 38)
       have c0 := kC2.cell 0 (.int .i64 P) rfl
       have c1 := kC2.cell 1 (.int .i64 S) rfl
       have c2 := kC2.cell 2 (.slice (some ⟨b, o, none⟩) l.length c) rfl
       have c3 := kC2.cell 3 (.int .i64 5) rfl
       have c4 := kC2.cell 4 (.int .i64 n) rfl
       have c5 := kC2.cell 5 (.int .i64 lt) rfl
       have c6 := kC2.cell 6 (.int .i64 wi) rfl
       have c7 := kC2.cell 7 (.int .i64 g.k) rfl
       have c8 := kC2.cell 8 (.int .i64 g.st) rfl
       have c9 := kC2.cell 9 (.int .i64 g.lt) rfl
       have c10 := kC2.cell 10 (.int .i64 g.wi) rfl
       have lC := kC2.lt
       have e0 := (hB2'.cell (p := ⟨b, _, none⟩) lb).trans g0
       have e1 := (hB2'.cell (p := ⟨b, _, none⟩) lb).trans g1
       have e2 := (hB2'.cell (p := ⟨b, _, none⟩) lb).trans g2
       have lC2 : w.heap.size < w2.heap.size + 1 := by simpa using lC
       have lb2 : b < w2.heap.size + 1 := by have := hB2'.size; simp at this; omega)
    | fail)
  refine wp_region_ex (by kernel_rfl) (by kernel_rfl) ?_
  repeat (go_big_quiet_step (fail))
  refine wpQuiet_nil ?_
  intro _ hw'
  obtain ⟨g3, hw''⟩ := hw'
  subst hw''
  have hq3 := g3.h
  have hB3' := bt hB2' hq3
  have hC3 := bt hC2 hq3
  have kC3 := kC2.below' hq3
  have c0 := kC3.cell 0 (.int .i64 P) rfl
  have c1 := kC3.cell 1 (.int .i64 S) rfl
  have c2 := kC3.cell 2 (.slice (some ⟨b, o, none⟩) l.length c) rfl
  have c3 := kC3.cell 3 (.int .i64 5) rfl
  have c4 := kC3.cell 4 (.int .i64 n) rfl
  have c5 := kC3.cell 5 (.int .i64 lt) rfl
  have c6 := kC3.cell 6 (.int .i64 wi) rfl
  have c7 := kC3.cell 7 (.int .i64 g.k) rfl
  have c8 := kC3.cell 8 (.int .i64 g.st) rfl
  have c9 := kC3.cell 9 (.int .i64 g.lt) rfl
  have c10 := kC3.cell 10 (.int .i64 g.wi) rfl
  have lC := kC3.lt
  generalize g3.w = w3 at *
  clear hq3
  go_wp2_with (first
    | (go_at_call 18; refine (HBK.out _ hB3').mono ?_; rintro e w4 ⟨rfl, hB4⟩
       have hB4' := ba (bt hB3' hB4) (.cells #[.int .i64 5, .int .i64 n, .int .i64 0, .int .i64 (-wi)] 24)
       have hC4 := ba (bt hC3 hB4) (.cells #[.int .i64 5, .int .i64 n, .int .i64 0, .int .i64 (-wi)] 24)
       have kC4 := (kC3.below' hB4).alloc (.cells #[.int .i64 5, .int .i64 n, .int .i64 0, .int .i64 (-wi)] 24)
       have c0 := kC4.cell 0 (.int .i64 P) rfl
       have c1 := kC4.cell 1 (.int .i64 S) rfl
       have c2 := kC4.cell 2 (.slice (some ⟨b, o, none⟩) l.length c) rfl
       have c3 := kC4.cell 3 (.int .i64 5) rfl
       have c4 := kC4.cell 4 (.int .i64 n) rfl
       have c5 := kC4.cell 5 (.int .i64 lt) rfl
       have c6 := kC4.cell 6 (.int .i64 wi) rfl
       have c7 := kC4.cell 7 (.int .i64 g.k) rfl
       have c8 := kC4.cell 8 (.int .i64 g.st) rfl
       have c9 := kC4.cell 9 (.int .i64 g.lt) rfl
       have c10 := kC4.cell 10 (.int .i64 g.wi) rfl
       have lC := kC4.lt
       have hr4 := (hr1.below' hC4 (Nat.le_refl _)).more hC4.size)
    | (go_at_call 11; refine (HQ.out _ A1 c1' _ hr4 (Nat.le_refl _)).mono ?_; rintro e w5 ⟨A5, q5, rfl, hr5, hB5⟩
       have hB5' := bt hB4' hB5
       have kC5 := kC4.below' hB5
       have c0 := kC5.cell 0 (.int .i64 P) rfl
       have c1 := kC5.cell 1 (.int .i64 S) rfl
       have c2 := kC5.cell 2 (.slice (some ⟨b, o, none⟩) l.length c) rfl
       have c3 := kC5.cell 3 (.int .i64 5) rfl
       have c4 := kC5.cell 4 (.int .i64 n) rfl
       have c5 := kC5.cell 5 (.int .i64 lt) rfl
       have c6 := kC5.cell 6 (.int .i64 wi) rfl
       have c7 := kC5.cell 7 (.int .i64 g.k) rfl
       have c8 := kC5.cell 8 (.int .i64 g.st) rfl
       have c9 := kC5.cell 9 (.int .i64 g.lt) rfl
       have c10 := kC5.cell 10 (.int .i64 g.wi) rfl
       have lC := kC5.lt
       have hrA := (hr0.out.below' hB5' hH).more (Nat.le_trans hH hB5'.size))
    | (go_at_call 13; refine (samesteps_eq A5 _ l q5 c w5 _ (by omega) hr5 hrA (Nat.le_refl _)).mono ?_; rintro e w6 ⟨rfl, hB6⟩
       have hB6' := bt hB5' hB6
       have kC6 := kC5.below' hB6
       have c0 := kC6.cell 0 (.int .i64 P) rfl
       have c1 := kC6.cell 1 (.int .i64 S) rfl
       have c2 := kC6.cell 2 (.slice (some ⟨b, o, none⟩) l.length c) rfl
       have c3 := kC6.cell 3 (.int .i64 5) rfl
       have c4 := kC6.cell 4 (.int .i64 n) rfl
       have c5 := kC6.cell 5 (.int .i64 lt) rfl
       have c6 := kC6.cell 6 (.int .i64 wi) rfl
       have c7 := kC6.cell 7 (.int .i64 g.k) rfl
       have c8 := kC6.cell 8 (.int .i64 g.st) rfl
       have c9 := kC6.cell 9 (.int .i64 g.lt) rfl
       have c10 := kC6.cell 10 (.int .i64 g.wi) rfl
       have lC := kC6.lt)
    | (go_at_call 10; refine (awake_any _).mono ?_; rintro e w9 ⟨rfl, hB9⟩)
    | fail)
  go_ret
  exact Ret.val rfl (bt hB6' hB9)

end Go.Proofs.Ytblifdchofihoaa
