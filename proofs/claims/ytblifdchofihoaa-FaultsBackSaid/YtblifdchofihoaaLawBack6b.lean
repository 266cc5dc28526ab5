/- The law FaultsBack, walked at an exchange. -/
import Derived.Test.YtblifdchofihoaaLawBack
set_option linter.unusedSimpArgs false
set_option linter.unusedVariables false
namespace Go.Proofs.Ytblifdchofihoaa
open Go Go.RowKit Tor

set_option maxRecDepth 100000 in
set_option maxHeartbeats 400000000 in
theorem lawBack6b (P S : Int) (A : Option Addr) (l : List Tri) (c : Nat) (n : Nat) (lt wi : Int) (g : Flt) (w : World) (H : Nat) (hr : RdT w H A l) (hH : H ≤ w.heap.size)
    (hw : ∀ (k : Nat) (hk : k < l.length), l[k].s.size ≤ 9223372036854775807) (hl : l.length ≤ 100) (hok : PutOk P S l ⟨6, n, lt, wi⟩) (hxc : (((xAt l n).a == 2) = true ∧ (redW (xAt l n).s).toList.isEmpty = false)) :
    Calls Try.prog 5 #[.agg #[.int .i64 P, .int .i64 S, .slice A l.length c, .int .i64 6, .int .i64 n, .int .i64 lt, .int .i64 wi, .int .i64 g.k, .int .i64 g.st, .int .i64 g.lt, .int .i64 g.wi]] w (Ret (.bool true) w) := by
  have hBB : Below w.heap.size w (w.alloc (.cells #[.int .i64 P, .int .i64 S, .slice A l.length c, .int .i64 6, .int .i64 n, .int .i64 lt, .int .i64 wi, .int .i64 g.k, .int .i64 g.st, .int .i64 g.lt, .int .i64 g.wi] 26)) := by (repeat' first | exact Below.refl _ _ | apply Below.drew | (refine Below.setCells ?_ _ _ ?_) | (refine Below.setCell ?_ ?_ _) | (refine Below.alloc ?_ ?_ _) | (simp; done) | (simp; omega))
  have kC := Blk.new w 26 #[.int .i64 P, .int .i64 S, .slice A l.length c, .int .i64 6, .int .i64 n, .int .i64 lt, .int .i64 wi, .int .i64 g.k, .int .i64 g.st, .int .i64 g.lt, .int .i64 g.wi]
  have hst := fits_step hok.fit
  have hn : n < l.length := by simpa using hst.2.1
  have hins := ins_ok hok.ok
  have hml := putF_len l ⟨6, n, lt, wi⟩
  have HP := Lib.hid (fun (w' : World) (hB : Below w.heap.size w w') => fput_any P S A l c ⟨6, n, lt, wi⟩ w' H (hr.below' hB hH) (Nat.le_trans hH hB.size) hw (by omega))
  rw [hok.val] at HP
  have HS := Lib.hid (fun (w' : World) (hB : Below w.heap.size w w') => rsheet_any P S A l c w' H (hr.below' hB hH) (Nat.le_trans hH hB.size) hw (by omega))
  unfold SheetPost at HS
  rw [hok.ok] at HS
  have HBK := Lib.hid (fun (w' : World) (hB : Below w.heap.size w w') => back0_any A l c 6 n lt wi w' (by omega))
  have hbp := back_put hok (by simp)
  have ebf : backF l ⟨6, n, lt, wi⟩ = ⟨6, n, lt, wi⟩ := by unfold backF; simp
  rw [ebf] at hbp
  have HQ := Lib.hid (fun (w' : World) (A' : Option Addr) (c' H' : Nat) (hr' : RdT w' H' A' (putF l ⟨6, n, lt, wi⟩)) (hH' : H' ≤ w'.heap.size) => fput_any P S A' (putF l ⟨6, n, lt, wi⟩) c' ⟨6, n, lt, wi⟩ w' H' hr' hH' (put_words hins.w) (by omega))
  rw [hbp] at HQ
  unfold PutRet at HQ
  obtain ⟨hsw, hn1⟩ := swap_seen hok rfl
  simp only [Int.toNat_natCast] at hsw hn1
  have HSN := Lib.hid (fun (w' : World) (hB : Below w.heap.size w w') => fseen_any P S A l c ⟨6, n, lt, wi⟩ w' H (hr.below' hB hH) (Nat.le_trans hH hB.size) hw (by omega) (by omega))
  rw [hsw] at HSN
  rw [xAt_of hn, xAt_of hn1] at HSN
  have HRX := Lib.hid (fun (w' : World) => rred_any l[n].s w' (hins.w n hn))
  have HRY := Lib.hid (fun (w' : World) => rred_any l[n + 1].s w' (hins.w (n + 1) hn1))
  obtain ⟨RX, hRX⟩ : ∃ RX, Hid (redW l[n].s = RX) := ⟨_, Lib.hid rfl⟩
  obtain ⟨RY, hRY⟩ : ∃ RY, Hid (redW l[n + 1].s = RY) := ⟨_, Lib.hid rfl⟩
  have hSSd : Hid (swapSeen l[n] l[n + 1] = !((l[n].a == 2) && RX.toList.isEmpty || (l[n + 1].a == 2) && RY.toList.isEmpty || (decide (1 < l[n].b - l[n + 1].b) || decide (1 < l[n + 1].b - l[n].b)) || decide ((⟨l[n].a, l[n].b, RX⟩ : Tri) = ⟨l[n + 1].a, l[n + 1].b, RY⟩))) := by
    have e1 : (!touchB l[n].b l[n + 1].b) = (decide (1 < l[n].b - l[n + 1].b) || decide (1 < l[n + 1].b - l[n].b)) := by
      unfold touchB; rw [Bool.eq_iff_iff]; simp [Classical.not_and_iff_not_or_not]; try omega
    rw [Hid]; unfold swapSeen noneS redS; rw [hRX.out, hRY.out, e1, bempt, bempt]; rfl
  rw [xAt_of hn] at hxc
  rw [hRX.out] at hxc
  have hx := hxc
  clear hxc
  have hy : ((l[n + 1].a == 2) = false ∧ True) ∨ ((l[n + 1].a == 2) = true ∧ RY.toList.isEmpty = false) ∨ ((l[n + 1].a == 2) = true ∧ RY.toList.isEmpty = true) := by
    cases (l[n + 1].a == 2) <;> cases RY.toList.isEmpty <;> simp
  have HX := Lib.hid hx
  have HY := Lib.hid hy
  clear hx hy
  obtain ⟨SS, hSS⟩ : ∃ SS, Hid (swapSeen l[n] l[n + 1] = SS) := ⟨_, Lib.hid rfl⟩
  rw [hSS.out] at HSN hSSd
  rw [hRX.out] at HRX
  rw [hRY.out] at HRY
  have hbx := hins.b n hn
  have hby := hins.b (n + 1) hn1
  have hp24 := hins.p24
  unfold PutRet at HP
  generalize putF l ⟨6, n, lt, wi⟩ = M at *
  generalize (sheetR P S l).1 = x1 at *
  generalize (sheetR P S l).2.1 = x2 at *
  generalize (sheetR P S l).2.2.1 = x3 at *
  have hl' : ¬ (100 : Int) < (l.length : Int) := by omega
  obtain ⟨b, o, rfl, hb0, g0, g1, g2⟩ := hr.tri hn
  have lb := lt_of_cell g0
  obtain ⟨_, k0, k1, k2⟩ := hr.triAt hn1
  have n2 : (n : Int) + 1 < (l.length : Int) := by omega
  have n3 : (0 : Int) ≤ (n : Int) + 1 := by omega
  have m0 : IntKind.i64.wrap ((n : Int) + 1) = (n : Int) + 1 := IntWalk.i64_in _ (by omega)
  have m1 : ((n : Int) + 1).toNat = n + 1 := by omega
  have n0 : (0 : Int) ≤ (n : Int) := by omega
  have n1 : (n : Int) < (l.length : Int) := by omega
  have d1 : decide ((n : Int) < 0) = false := decide_eq_false (by omega)
  have d2 : decide (l.length ≤ n) = false := decide_eq_false (by omega)
  have d3 : decide ((l.length : Int) ≤ (n : Int)) = false := decide_eq_false (by omega)
  have hr0 := Lib.hid hr
  clear hok hst hins hw hr hbp ebf
  have tk1 : True := trivial
  have kl := kC.lt
  have c0 := kC.cell 0 (.int .i64 P) rfl
  have c1 := kC.cell 1 (.int .i64 S) rfl
  have c2 := kC.cell 2 (.slice (some ⟨b, o, none⟩) l.length c) rfl
  have c3 := kC.cell 3 (.int .i64 6) rfl
  have c4 := kC.cell 4 (.int .i64 n) rfl
  have c5 := kC.cell 5 (.int .i64 lt) rfl
  have c6 := kC.cell 6 (.int .i64 wi) rfl
  have c7 := kC.cell 7 (.int .i64 g.k) rfl
  have c8 := kC.cell 8 (.int .i64 g.st) rfl
  have c9 := kC.cell 9 (.int .i64 g.lt) rfl
  have c10 := kC.cell 10 (.int .i64 g.wi) rfl
  have lC := kC.lt
  go_enter Try.func5, Try.ntmps5
  go_wp2_with (first
    | (go_at_call 11; have := tk1; refine (HP.out _ hBB).mono ?_; rintro e w1 ⟨A1, c1', rfl, hr1, hB1⟩; clear tk1
       have hB1' := bt hBB hB1
       have kC1 := kC.below' hB1
       have c0 := kC1.cell 0 (.int .i64 P) rfl
       have c1 := kC1.cell 1 (.int .i64 S) rfl
       have c2 := kC1.cell 2 (.slice (some ⟨b, o, none⟩) l.length c) rfl
       have c3 := kC1.cell 3 (.int .i64 6) rfl
       have c4 := kC1.cell 4 (.int .i64 n) rfl
       have c5 := kC1.cell 5 (.int .i64 lt) rfl
       have c6 := kC1.cell 6 (.int .i64 wi) rfl
       have c7 := kC1.cell 7 (.int .i64 g.k) rfl
       have c8 := kC1.cell 8 (.int .i64 g.st) rfl
       have c9 := kC1.cell 9 (.int .i64 g.lt) rfl
       have c10 := kC1.cell 10 (.int .i64 g.wi) rfl
       have lC := kC1.lt)
    | (go_at_call 15; refine (HS.out _ hB1').mono ?_; rintro e w2 ⟨v2, rfl, hown2, hB2⟩
       obtain ⟨A2, c2', rfl, _, _⟩ := Own.rd tri_len hown2
       have hB2' := ba (bt hB1' hB2) (.cells #[.int .i64 x1, .slice A2 x2.length c2'] 38)
       have hC2 := ba hB2 (.cells #[.int .i64 x1, .slice A2 x2.length c2'] 38)
       have kC2 := (kC1.below' hB2).alloc (.cells #[.int .i64 x1, .slice A2 x2.length c2'] 38)
       have c0 := kC2.cell 0 (.int .i64 P) rfl
       have c1 := kC2.cell 1 (.int .i64 S) rfl
       have c2 := kC2.cell 2 (.slice (some ⟨b, o, none⟩) l.length c) rfl
       have c3 := kC2.cell 3 (.int .i64 6) rfl
       have c4 := kC2.cell 4 (.int .i64 n) rfl
       have c5 := kC2.cell 5 (.int .i64 lt) rfl
       have c6 := kC2.cell 6 (.int .i64 wi) rfl
       have c7 := kC2.cell 7 (.int .i64 g.k) rfl
       have c8 := kC2.cell 8 (.int .i64 g.st) rfl
       have c9 := kC2.cell 9 (.int .i64 g.lt) rfl
       have c10 := kC2.cell 10 (.int .i64 g.wi) rfl
       have lC := kC2.lt
       have e0 := (hB2'.cell (p := ⟨b, _, none⟩) lb).trans g0
       have e1 := (hB2'.cell (p := ⟨b, _, none⟩) lb).trans g1
       have e2 := (hB2'.cell (p := ⟨b, _, none⟩) lb).trans g2
       have lC2 : w.heap.size < w2.heap.size + 1 := by simpa using lC
       have lb2 : b < w2.heap.size + 1 := by have := hB2'.size; simp at this; omega)
    | fail)
  refine wp_region_ex (by kernel_rfl) (by kernel_rfl) ?_
  repeat (go_big_quiet_step (fail))
  refine wpQuiet_nil ?_
  intro _ hw'
  obtain ⟨g3, hw''⟩ := hw'
  subst hw''
  have hq3 := g3.h
  have hB3' := bt hB2' hq3
  have hC3 := bt hC2 hq3
  have kC3 := kC2.below' hq3
  have c0 := kC3.cell 0 (.int .i64 P) rfl
  have c1 := kC3.cell 1 (.int .i64 S) rfl
  have c2 := kC3.cell 2 (.slice (some ⟨b, o, none⟩) l.length c) rfl
  have c3 := kC3.cell 3 (.int .i64 6) rfl
  have c4 := kC3.cell 4 (.int .i64 n) rfl
  have c5 := kC3.cell 5 (.int .i64 lt) rfl
  have c6 := kC3.cell 6 (.int .i64 wi) rfl
  have c7 := kC3.cell 7 (.int .i64 g.k) rfl
  have c8 := kC3.cell 8 (.int .i64 g.st) rfl
  have c9 := kC3.cell 9 (.int .i64 g.lt) rfl
  have c10 := kC3.cell 10 (.int .i64 g.wi) rfl
  have lC := kC3.lt
  generalize g3.w = w3 at *
  clear hq3
  go_wp2_with (first
    | (go_at_call 18; refine (HBK.out _ hB3').mono ?_; rintro e w4 ⟨rfl, hB4⟩
       have hB4' := ba (bt hB3' hB4) (.cells #[.int .i64 6, .int .i64 n, .int .i64 lt, .int .i64 wi] 24)
       have hC4 := ba (bt hC3 hB4) (.cells #[.int .i64 6, .int .i64 n, .int .i64 lt, .int .i64 wi] 24)
       have kC4 := (kC3.below' hB4).alloc (.cells #[.int .i64 6, .int .i64 n, .int .i64 lt, .int .i64 wi] 24)
       have c0 := kC4.cell 0 (.int .i64 P) rfl
       have c1 := kC4.cell 1 (.int .i64 S) rfl
       have c2 := kC4.cell 2 (.slice (some ⟨b, o, none⟩) l.length c) rfl
       have c3 := kC4.cell 3 (.int .i64 6) rfl
       have c4 := kC4.cell 4 (.int .i64 n) rfl
       have c5 := kC4.cell 5 (.int .i64 lt) rfl
       have c6 := kC4.cell 6 (.int .i64 wi) rfl
       have c7 := kC4.cell 7 (.int .i64 g.k) rfl
       have c8 := kC4.cell 8 (.int .i64 g.st) rfl
       have c9 := kC4.cell 9 (.int .i64 g.lt) rfl
       have c10 := kC4.cell 10 (.int .i64 g.wi) rfl
       have lC := kC4.lt
       have hr4 := (hr1.below' hC4 (Nat.le_refl _)).more hC4.size)
    | (go_at_call 11; refine (HQ.out _ A1 c1' _ hr4 (Nat.le_refl _)).mono ?_; rintro e w5 ⟨A5, q5, rfl, hr5, hB5⟩
       have hB5' := bt hB4' hB5
       have kC5 := kC4.below' hB5
       have c0 := kC5.cell 0 (.int .i64 P) rfl
       have c1 := kC5.cell 1 (.int .i64 S) rfl
       have c2 := kC5.cell 2 (.slice (some ⟨b, o, none⟩) l.length c) rfl
       have c3 := kC5.cell 3 (.int .i64 6) rfl
       have c4 := kC5.cell 4 (.int .i64 n) rfl
       have c5 := kC5.cell 5 (.int .i64 lt) rfl
       have c6 := kC5.cell 6 (.int .i64 wi) rfl
       have c7 := kC5.cell 7 (.int .i64 g.k) rfl
       have c8 := kC5.cell 8 (.int .i64 g.st) rfl
       have c9 := kC5.cell 9 (.int .i64 g.lt) rfl
       have c10 := kC5.cell 10 (.int .i64 g.wi) rfl
       have lC := kC5.lt
       have hrA := (hr0.out.below' hB5' hH).more (Nat.le_trans hH hB5'.size))
    | (go_at_call 13; refine (samesteps_eq A5 _ l q5 c w5 _ (by omega) hr5 hrA (Nat.le_refl _)).mono ?_; rintro e w6 ⟨rfl, hB6⟩
       have hB6' := bt hB5' hB6
       have kC6 := kC5.below' hB6
       have c0 := kC6.cell 0 (.int .i64 P) rfl
       have c1 := kC6.cell 1 (.int .i64 S) rfl
       have c2 := kC6.cell 2 (.slice (some ⟨b, o, none⟩) l.length c) rfl
       have c3 := kC6.cell 3 (.int .i64 6) rfl
       have c4 := kC6.cell 4 (.int .i64 n) rfl
       have c5 := kC6.cell 5 (.int .i64 lt) rfl
       have c6 := kC6.cell 6 (.int .i64 wi) rfl
       have c7 := kC6.cell 7 (.int .i64 g.k) rfl
       have c8 := kC6.cell 8 (.int .i64 g.st) rfl
       have c9 := kC6.cell 9 (.int .i64 g.lt) rfl
       have c10 := kC6.cell 10 (.int .i64 g.wi) rfl
       have lC := kC6.lt)
    | (go_at_call 10; refine (awake_any _).mono ?_; rintro e w9 ⟨rfl, hB9⟩)
    | fail)
  have f0 := (hB6'.cell (p := ⟨b, _, none⟩) lb).trans g0
  have f1 := (hB6'.cell (p := ⟨b, _, none⟩) lb).trans g1
  have f2 := (hB6'.cell (p := ⟨b, _, none⟩) lb).trans g2
  have f3 := (hB6'.cell (p := ⟨b, _, none⟩) lb).trans k0
  have f4 := (hB6'.cell (p := ⟨b, _, none⟩) lb).trans k1
  have f5 := (hB6'.cell (p := ⟨b, _, none⟩) lb).trans k2
  refine wp_region_J (SwS w.heap.size b o n c l.length l[n] l[n + 1]) (fun _ => True) (fun _ => false) (by kernel_rfl) ?_
  have hS1 : SwS w.heap.size b o n c l.length l[n] l[n + 1] w6.drew := ⟨c2, c4, f0, f1, f2, f3, f4, f5⟩
  refine wpAnyJ_take1 0 rfl (by kernel_rfl) (by kernel_rfl) rfl (by kernel_rfl) (fun _ _ _ h => h) (by rfl) hS1 (fun w' hSw => (by obtain ⟨z1, z2, z3, z4, z5, z6, z7, z8⟩ := hSw; go_simp; try (with_reducible rfl))) ?_
  try simp only [Act.put, List.getElem_toArray, List.getElem_cons_succ, List.getElem_cons_zero, List.setIfInBounds_toArray, List.set_cons_zero, List.set_cons_succ]
  refine wpAnyJ_take1 1 rfl (by kernel_rfl) (by kernel_rfl) rfl (by kernel_rfl) (fun _ _ _ h => h) (by rfl) hS1 (fun w' hSw => (by obtain ⟨z1, z2, z3, z4, z5, z6, z7, z8⟩ := hSw; go_simp; try (with_reducible rfl))) ?_
  try simp only [Act.put, List.getElem_toArray, List.getElem_cons_succ, List.getElem_cons_zero, List.setIfInBounds_toArray, List.set_cons_zero, List.set_cons_succ]
  refine wpAnyJ_take1 2 rfl (by kernel_rfl) (by kernel_rfl) rfl (by kernel_rfl) (fun _ _ _ h => h) (by rfl) hS1 (fun w' hSw => (by obtain ⟨z1, z2, z3, z4, z5, z6, z7, z8⟩ := hSw; go_simp; try (with_reducible rfl))) ?_
  try simp only [Act.put, List.getElem_toArray, List.getElem_cons_succ, List.getElem_cons_zero, List.setIfInBounds_toArray, List.set_cons_zero, List.set_cons_succ]
  refine wpAnyJ_take1 3 rfl (by kernel_rfl) (by kernel_rfl) rfl (by kernel_rfl) (fun _ _ _ h => h) (by rfl) hS1 (fun w' hSw => (by obtain ⟨z1, z2, z3, z4, z5, z6, z7, z8⟩ := hSw; go_simp; try (with_reducible rfl))) ?_
  try simp only [Act.put, List.getElem_toArray, List.getElem_cons_succ, List.getElem_cons_zero, List.setIfInBounds_toArray, List.set_cons_zero, List.set_cons_succ]
  refine wpAnyJ_take1 4 rfl (by kernel_rfl) (by kernel_rfl) rfl (by kernel_rfl) (fun _ _ _ h => h) (by rfl) hS1 (fun w' hSw => (by obtain ⟨z1, z2, z3, z4, z5, z6, z7, z8⟩ := hSw; go_simp; try (with_reducible rfl))) ?_
  try simp only [Act.put, List.getElem_toArray, List.getElem_cons_succ, List.getElem_cons_zero, List.setIfInBounds_toArray, List.set_cons_zero, List.set_cons_succ]
  refine wpAnyJ_take1 5 rfl (by kernel_rfl) (by kernel_rfl) rfl (by kernel_rfl) (fun _ _ _ h => h) (by rfl) hS1 (fun w' hSw => (by obtain ⟨z1, z2, z3, z4, z5, z6, z7, z8⟩ := hSw; go_simp; try (with_reducible rfl))) ?_
  try simp only [Act.put, List.getElem_toArray, List.getElem_cons_succ, List.getElem_cons_zero, List.setIfInBounds_toArray, List.set_cons_zero, List.set_cons_succ]
  refine wpAnyJ_take1 6 rfl (by kernel_rfl) (by kernel_rfl) rfl (by kernel_rfl) (fun _ _ _ h => h) (by rfl) hS1 (fun w' hSw => (by obtain ⟨z1, z2, z3, z4, z5, z6, z7, z8⟩ := hSw; go_simp; try (with_reducible rfl))) ?_
  try simp only [Act.put, List.getElem_toArray, List.getElem_cons_succ, List.getElem_cons_zero, List.setIfInBounds_toArray, List.set_cons_zero, List.set_cons_succ]
  refine wpAnyJ_take1 7 rfl (by kernel_rfl) (by kernel_rfl) rfl (by kernel_rfl) (fun _ _ _ h => h) (by rfl) hS1 (fun w' hSw => (by obtain ⟨z1, z2, z3, z4, z5, z6, z7, z8⟩ := hSw; go_simp; try (with_reducible rfl))) ?_
  try simp only [Act.put, List.getElem_toArray, List.getElem_cons_succ, List.getElem_cons_zero, List.setIfInBounds_toArray, List.set_cons_zero, List.set_cons_succ]
  refine wpAnyJ_take1 8 rfl (by kernel_rfl) (by kernel_rfl) rfl (by kernel_rfl) (fun _ _ _ h => h) (by rfl) hS1 (fun w' hSw => (by obtain ⟨z1, z2, z3, z4, z5, z6, z7, z8⟩ := hSw; go_simp; try (with_reducible rfl))) ?_
  try simp only [Act.put, List.getElem_toArray, List.getElem_cons_succ, List.getElem_cons_zero, List.setIfInBounds_toArray, List.set_cons_zero, List.set_cons_succ]
  refine wpAnyJ_take1 9 rfl (by kernel_rfl) (by kernel_rfl) rfl (by kernel_rfl) (fun _ _ _ h => h) (by rfl) hS1 (fun w' hSw => (by obtain ⟨z1, z2, z3, z4, z5, z6, z7, z8⟩ := hSw; go_simp; try (with_reducible rfl))) ?_
  try simp only [Act.put, List.getElem_toArray, List.getElem_cons_succ, List.getElem_cons_zero, List.setIfInBounds_toArray, List.set_cons_zero, List.set_cons_succ]
  refine wpAnyJ_take1 10 rfl (by kernel_rfl) (by kernel_rfl) rfl (by kernel_rfl) (fun _ _ _ h => h) (by rfl) hS1 (fun w' hSw => (by obtain ⟨z1, z2, z3, z4, z5, z6, z7, z8⟩ := hSw; go_simp; try (with_reducible rfl))) ?_
  try simp only [Act.put, List.getElem_toArray, List.getElem_cons_succ, List.getElem_cons_zero, List.setIfInBounds_toArray, List.set_cons_zero, List.set_cons_succ]
  refine wpAnyJ_take1 11 rfl (by kernel_rfl) (by kernel_rfl) rfl (by kernel_rfl) (fun _ _ _ h => h) (by rfl) hS1 (fun w' hSw => (by obtain ⟨z1, z2, z3, z4, z5, z6, z7, z8⟩ := hSw; go_simp; try (with_reducible rfl))) ?_
  try simp only [Act.put, List.getElem_toArray, List.getElem_cons_succ, List.getElem_cons_zero, List.setIfInBounds_toArray, List.set_cons_zero, List.set_cons_succ]
  refine wpAnyJ_take1 12 rfl (by kernel_rfl) (by kernel_rfl) rfl (by kernel_rfl) (fun _ _ _ h => h) (by rfl) hS1 (fun w' hSw => (by obtain ⟨z1, z2, z3, z4, z5, z6, z7, z8⟩ := hSw; go_simp; try (with_reducible rfl))) ?_
  try simp only [Act.put, List.getElem_toArray, List.getElem_cons_succ, List.getElem_cons_zero, List.setIfInBounds_toArray, List.set_cons_zero, List.set_cons_succ]
  refine wpAnyJ_take1 13 rfl (by kernel_rfl) (by kernel_rfl) rfl (by kernel_rfl) (fun _ _ _ h => h) (by rfl) hS1 (fun w' hSw => (by obtain ⟨z1, z2, z3, z4, z5, z6, z7, z8⟩ := hSw; go_simp; try (with_reducible rfl))) ?_
  try simp only [Act.put, List.getElem_toArray, List.getElem_cons_succ, List.getElem_cons_zero, List.setIfInBounds_toArray, List.set_cons_zero, List.set_cons_succ]
  refine wpAnyJ_take1 14 rfl (by kernel_rfl) (by kernel_rfl) rfl (by kernel_rfl) (fun _ _ _ h => h) (by rfl) hS1 (fun w' hSw => (by obtain ⟨z1, z2, z3, z4, z5, z6, z7, z8⟩ := hSw; go_simp; try (with_reducible rfl))) ?_
  try simp only [Act.put, List.getElem_toArray, List.getElem_cons_succ, List.getElem_cons_zero, List.setIfInBounds_toArray, List.set_cons_zero, List.set_cons_succ]
  refine wpAnyJ_ready [15, 16] (by kernel_rfl) (by simp) (NextJ.cons rfl (fun K hK => ?_) (NextJ.cons rfl (fun K hK => ?_) NextJ.nil))
  · go_simp
    refine hK.out _ _ (hS1.alloc _) (fun h => absurd h (by decide)) ?_
    clear hK K
    try simp only [Act.put, List.getElem_toArray, List.getElem_cons_succ, List.getElem_cons_zero, List.setIfInBounds_toArray, List.set_cons_zero, List.set_cons_succ]
    refine wpAnyJ_ready [16] (by kernel_rfl) (by simp) (NextJ.cons rfl (fun K hK => ?_) NextJ.nil)
    go_simp
    refine hK.out _ _ ((hS1.alloc _).alloc _) (fun h => absurd h (by decide)) ?_
    clear hK K
    try simp only [Act.put, List.getElem_toArray, List.getElem_cons_succ, List.getElem_cons_zero, List.setIfInBounds_toArray, List.set_cons_zero, List.set_cons_succ]
    refine wpAnyJ_ready [17] (by kernel_rfl) (by simp) (NextJ.cons rfl (fun K hK => ?_) NextJ.nil)
    go_simp
    refine hK.out _ _ ((hS1.alloc _).alloc _) (fun h => absurd h (by decide)) ?_
    clear hK K
    try simp only [Act.put, List.getElem_toArray, List.getElem_cons_succ, List.getElem_cons_zero, List.setIfInBounds_toArray, List.set_cons_zero, List.set_cons_succ]
    refine wpAnyJ_ready [18] (by kernel_rfl) (by simp) (NextJ.cons rfl (fun K hK => ?_) NextJ.nil)
    go_simp
    refine hK.out _ _ ((hS1.alloc _).alloc _) (fun h => absurd h (by decide)) ?_
    clear hK K
    try simp only [Act.put, List.getElem_toArray, List.getElem_cons_succ, List.getElem_cons_zero, List.setIfInBounds_toArray, List.set_cons_zero, List.set_cons_succ]
    refine wpAnyJ_done (by kernel_rfl) ?_ _
    clear hS1
    obtain ⟨Wz, hWz⟩ : ∃ Wz, Hid (Wz = ((w6.alloc (.cells #[.int .i64 l[n].a, .int .i64 l[n].b, .string l[n].s] 46)).alloc (.cells #[.int .i64 l[n + 1].a, .int .i64 l[n + 1].b, .string l[n + 1].s] 46)).drew) := ⟨_, Lib.hid rfl⟩
    have kP : Blk Wz w6.heap.size 46 #[.int .i64 l[n].a, .int .i64 l[n].b, .string l[n].s] := by rw [hWz.out]; exact ((Blk.new w6 46 #[.int .i64 l[n].a, .int .i64 l[n].b, .string l[n].s]).alloc (.cells #[.int .i64 l[n + 1].a, .int .i64 l[n + 1].b, .string l[n + 1].s] 46)).drew
    have kQ : Blk Wz (w6.heap.size + 1) 46 #[.int .i64 l[n + 1].a, .int .i64 l[n + 1].b, .string l[n + 1].s] := by
      have := Blk.new (w6.alloc (.cells #[.int .i64 l[n].a, .int .i64 l[n].b, .string l[n].s] 46)) 46 #[.int .i64 l[n + 1].a, .int .i64 l[n + 1].b, .string l[n + 1].s]
      rw [World.size_alloc] at this
      rw [hWz.out]; exact this.drew
    have kC7 : Blk Wz w.heap.size 26 #[.int .i64 P, .int .i64 S, .slice (some ⟨b, o, none⟩) l.length c, .int .i64 6, .int .i64 n, .int .i64 lt, .int .i64 wi, .int .i64 g.k, .int .i64 g.st, .int .i64 g.lt, .int .i64 g.wi] := by rw [hWz.out]; exact ((kC6.alloc (.cells #[.int .i64 l[n].a, .int .i64 l[n].b, .string l[n].s] 46)).alloc (.cells #[.int .i64 l[n + 1].a, .int .i64 l[n + 1].b, .string l[n + 1].s] 46)).drew
    have hB7' : Below w.heap.size w Wz := by rw [hWz.out]; exact (ba (ba hB6' (.cells #[.int .i64 l[n].a, .int .i64 l[n].b, .string l[n].s] 46)) (.cells #[.int .i64 l[n + 1].a, .int .i64 l[n + 1].b, .string l[n + 1].s] 46)).drew
    have hne : w6.heap.size ≠ w6.heap.size + 1 := by omega
    have hne2 : w6.heap.size + 1 ≠ w6.heap.size := by omega
    have hneC : w.heap.size ≠ w6.heap.size := by have := kC6.lt; omega
    have hneC2 : w.heap.size ≠ w6.heap.size + 1 := by have := kC6.lt; omega
    have hle1 : w.heap.size ≤ w6.heap.size := by have := kC6.lt; omega
    have hle2 : w.heap.size ≤ w6.heap.size + 1 := by have := kC6.lt; omega
    rw [← hWz.out]
    clear hWz hB6 hB6' kC6 hr5 hrA hB5 hB5' c0 c1 c2 c3 c4 c5 c6 c7 c8 c9 c10 lC f0 f1 f2 f3 f4 f5 kl lC2
    generalize w6.heap.size + 1 = p2 at *
    generalize w6.heap.size = p1 at *
    have kX := kP
    have kY := kQ
    clear kP kQ
    have x0 := kX.cell 0 (.int .i64 l[n].a) rfl
    have x1' := kX.cell 1 (.int .i64 l[n].b) rfl
    have x2' := kX.cell 2 (.string l[n].s) rfl
    have lX := kX.lt
    have lY := kY.lt
    have tk5 : True := trivial
    go_wp2_with fail
    refine (HRX.out _).mono ?_
    rintro e w7 ⟨rfl, hB7⟩
    have kX7 := kX.below' hB7
    have kY7 := (kY.below' hB7).far (p := ⟨p1, 2, none⟩) hne2 (.string RX)
    have kX8 := kX7.set_ 2 (.string RX)
    have hB8' := (bt hB7' hB7).setCell (p := ⟨p1, 2, none⟩) (by omega) (.string RX)
    have kC8 := (kC7.below' hB7).far (p := ⟨p1, 2, none⟩) hneC (.string RX)
    have fx2 := kX7.frozen 2
    have gx2 := kX7.cell 2 (.string l[n].s) rfl
    have y0 := kY7.cell 0 (.int .i64 l[n + 1].a) rfl
    have y1 := kY7.cell 1 (.int .i64 l[n + 1].b) rfl
    have y2 := kY7.cell 2 (.string l[n + 1].s) rfl
    have lX7 := kX7.lt
    go_wp2_with fail
    refine (HRY.out _).mono ?_
    rintro e w8 ⟨rfl, hB8⟩
    have kX9 := (kX8.below' hB8).far (p := ⟨p2, 2, none⟩) hne (.string RY)
    have kY8 := kY7.below' hB8
    have kY9 := kY8.set_ 2 (.string RY)
    have hB9' := (bt hB8' hB8).setCell (p := ⟨p2, 2, none⟩) (by omega) (.string RY)
    have kC9 := (kC8.below' hB8).far (p := ⟨p2, 2, none⟩) hneC2 (.string RY)
    have fy2 := kY8.frozen 2
    have gy2 := kY8.cell 2 (.string l[n + 1].s) rfl
    have z0 := kX9.cell 0 (.int .i64 l[n].a) rfl
    have z1 := kX9.cell 1 (.int .i64 l[n].b) rfl
    have z2 := kX9.cell 2 (.string RX) rfl
    have v0 := kY9.cell 0 (.int .i64 l[n + 1].a) rfl
    have v1 := kY9.cell 1 (.int .i64 l[n + 1].b) rfl
    have v2 := kY9.cell 2 (.string RY) rfl
    have c0 := kC9.cell 0 (.int .i64 P) rfl
    have c1 := kC9.cell 1 (.int .i64 S) rfl
    have c2 := kC9.cell 2 (.slice (some ⟨b, o, none⟩) l.length c) rfl
    have c3 := kC9.cell 3 (.int .i64 6) rfl
    have c4 := kC9.cell 4 (.int .i64 n) rfl
    have c5 := kC9.cell 5 (.int .i64 lt) rfl
    have c6 := kC9.cell 6 (.int .i64 wi) rfl
    have c7 := kC9.cell 7 (.int .i64 g.k) rfl
    have c8 := kC9.cell 8 (.int .i64 g.st) rfl
    have c9 := kC9.cell 9 (.int .i64 g.lt) rfl
    have c10 := kC9.cell 10 (.int .i64 g.wi) rfl
    have lC := kC9.lt
    obtain ⟨xa, xr⟩ := HX.out
    rcases HY.out with ⟨ya, yr⟩ | ⟨ya, yr⟩ | ⟨ya, yr⟩
    · skip
      by_cases fa0 : 1 < l[n].b - l[n + 1].b
      · have fa : decide (1 < l[n].b - l[n + 1].b) = true := decide_eq_true fa0
        have hv := hSSd.out
        simp only [xa, xr, ya, fa, Bool.false_and, Bool.true_and, Bool.or_false, Bool.false_or, Bool.true_or, Bool.or_true, Bool.not_true, Bool.not_false] at hv
        subst hv
        clear hSSd hSS HX HY
        go_wp2_with (first
          | (go_at_call 14; refine (HSN.out _ hB9').mono ?_; rintro e w9 ⟨rfl, hB10⟩
             have hB10' := bt hB9' hB10
             have kX10 := kX9.below' hB10
             have kY10 := kY9.below' hB10
             have z0 := kX10.cell 0 (.int .i64 l[n].a) rfl
             have z1 := kX10.cell 1 (.int .i64 l[n].b) rfl
             have z2 := kX10.cell 2 (.string RX) rfl
             have v0 := kY10.cell 0 (.int .i64 l[n + 1].a) rfl
             have v1 := kY10.cell 1 (.int .i64 l[n + 1].b) rfl
             have v2 := kY10.cell 2 (.string RY) rfl)
          | (go_at_call 10; refine (awake_any _).mono ?_; rintro e w11 ⟨rfl, hB11⟩)
          | fail)
        go_ret
        exact Ret.val rfl (bt hB10' hB11)
      have fa : decide (1 < l[n].b - l[n + 1].b) = false := decide_eq_false fa0
      by_cases fb0 : 1 < l[n + 1].b - l[n].b
      · have fb : decide (1 < l[n + 1].b - l[n].b) = true := decide_eq_true fb0
        have hv := hSSd.out
        simp only [xa, xr, ya, fa, fb, Bool.false_and, Bool.true_and, Bool.or_false, Bool.false_or, Bool.true_or, Bool.or_true, Bool.not_true, Bool.not_false] at hv
        subst hv
        clear hSSd hSS HX HY
        go_wp2_with (first
          | (go_at_call 14; refine (HSN.out _ hB9').mono ?_; rintro e w9 ⟨rfl, hB10⟩
             have hB10' := bt hB9' hB10
             have kX10 := kX9.below' hB10
             have kY10 := kY9.below' hB10
             have z0 := kX10.cell 0 (.int .i64 l[n].a) rfl
             have z1 := kX10.cell 1 (.int .i64 l[n].b) rfl
             have z2 := kX10.cell 2 (.string RX) rfl
             have v0 := kY10.cell 0 (.int .i64 l[n + 1].a) rfl
             have v1 := kY10.cell 1 (.int .i64 l[n + 1].b) rfl
             have v2 := kY10.cell 2 (.string RY) rfl)
          | (go_at_call 10; refine (awake_any _).mono ?_; rintro e w11 ⟨rfl, hB11⟩)
          | fail)
        go_ret
        exact Ret.val rfl (bt hB10' hB11)
      have fb : decide (1 < l[n + 1].b - l[n].b) = false := decide_eq_false fb0
      by_cases ea : l[n].a = l[n + 1].a
      rotate_left
      · have fe : decide ((⟨l[n].a, l[n].b, RX⟩ : Tri) = ⟨l[n + 1].a, l[n + 1].b, RY⟩) = false := decide_eq_false (fun h => ea (Tri.mk.inj h).1)
        have hv := hSSd.out
        simp only [xa, xr, ya, fa, fb, fe, Bool.false_and, Bool.true_and, Bool.or_false, Bool.false_or, Bool.true_or, Bool.or_true, Bool.not_true, Bool.not_false] at hv
        subst hv
        clear hSSd hSS HX HY
        go_wp2_with (first
          | (go_at_call 14; refine (HSN.out _ hB9').mono ?_; rintro e w9 ⟨rfl, hB10⟩
             have hB10' := bt hB9' hB10
             have kX10 := kX9.below' hB10
             have kY10 := kY9.below' hB10
             have z0 := kX10.cell 0 (.int .i64 l[n].a) rfl
             have z1 := kX10.cell 1 (.int .i64 l[n].b) rfl
             have z2 := kX10.cell 2 (.string RX) rfl
             have v0 := kY10.cell 0 (.int .i64 l[n + 1].a) rfl
             have v1 := kY10.cell 1 (.int .i64 l[n + 1].b) rfl
             have v2 := kY10.cell 2 (.string RY) rfl)
          | (go_at_call 10; refine (awake_any _).mono ?_; rintro e w11 ⟨rfl, hB11⟩)
          | fail)
        go_ret
        exact Ret.val rfl (bt hB10' hB11)
      by_cases eb : l[n].b = l[n + 1].b
      rotate_left
      · have fe : decide ((⟨l[n].a, l[n].b, RX⟩ : Tri) = ⟨l[n + 1].a, l[n + 1].b, RY⟩) = false := decide_eq_false (fun h => eb (Tri.mk.inj h).2.1)
        have hv := hSSd.out
        simp only [xa, xr, ya, fa, fb, fe, Bool.false_and, Bool.true_and, Bool.or_false, Bool.false_or, Bool.true_or, Bool.or_true, Bool.not_true, Bool.not_false] at hv
        subst hv
        clear hSSd hSS HX HY
        go_wp2_with (first
          | (go_at_call 14; refine (HSN.out _ hB9').mono ?_; rintro e w9 ⟨rfl, hB10⟩
             have hB10' := bt hB9' hB10
             have kX10 := kX9.below' hB10
             have kY10 := kY9.below' hB10
             have z0 := kX10.cell 0 (.int .i64 l[n].a) rfl
             have z1 := kX10.cell 1 (.int .i64 l[n].b) rfl
             have z2 := kX10.cell 2 (.string RX) rfl
             have v0 := kY10.cell 0 (.int .i64 l[n + 1].a) rfl
             have v1 := kY10.cell 1 (.int .i64 l[n + 1].b) rfl
             have v2 := kY10.cell 2 (.string RY) rfl)
          | (go_at_call 10; refine (awake_any _).mono ?_; rintro e w11 ⟨rfl, hB11⟩)
          | fail)
        go_ret
        exact Ret.val rfl (bt hB10' hB11)
      by_cases er : RX.toList = RY.toList
      rotate_left
      · have fe : decide ((⟨l[n].a, l[n].b, RX⟩ : Tri) = ⟨l[n + 1].a, l[n + 1].b, RY⟩) = false := decide_eq_false (fun h => er (by rw [(Tri.mk.inj h).2.2]))
        have hv := hSSd.out
        simp only [xa, xr, ya, fa, fb, fe, Bool.false_and, Bool.true_and, Bool.or_false, Bool.false_or, Bool.true_or, Bool.or_true, Bool.not_true, Bool.not_false] at hv
        subst hv
        clear hSSd hSS HX HY
        go_wp2_with (first
          | (go_at_call 14; refine (HSN.out _ hB9').mono ?_; rintro e w9 ⟨rfl, hB10⟩
             have hB10' := bt hB9' hB10
             have kX10 := kX9.below' hB10
             have kY10 := kY9.below' hB10
             have z0 := kX10.cell 0 (.int .i64 l[n].a) rfl
             have z1 := kX10.cell 1 (.int .i64 l[n].b) rfl
             have z2 := kX10.cell 2 (.string RX) rfl
             have v0 := kY10.cell 0 (.int .i64 l[n + 1].a) rfl
             have v1 := kY10.cell 1 (.int .i64 l[n + 1].b) rfl
             have v2 := kY10.cell 2 (.string RY) rfl)
          | (go_at_call 10; refine (awake_any _).mono ?_; rintro e w11 ⟨rfl, hB11⟩)
          | fail)
        go_ret
        exact Ret.val rfl (bt hB10' hB11)
      have fe : decide ((⟨l[n].a, l[n].b, RX⟩ : Tri) = ⟨l[n + 1].a, l[n + 1].b, RY⟩) = true := decide_eq_true (by rw [ea, eb, toList_inj er])
      have hv := hSSd.out
      simp only [xa, xr, ya, fa, fb, fe, Bool.false_and, Bool.true_and, Bool.or_false, Bool.false_or, Bool.true_or, Bool.or_true, Bool.not_true, Bool.not_false] at hv
      subst hv
      clear hSSd hSS HX HY
      go_wp2_with (first
        | (go_at_call 14; refine (HSN.out _ hB9').mono ?_; rintro e w9 ⟨rfl, hB10⟩
           have hB10' := bt hB9' hB10
           have kX10 := kX9.below' hB10
           have kY10 := kY9.below' hB10
           have z0 := kX10.cell 0 (.int .i64 l[n].a) rfl
           have z1 := kX10.cell 1 (.int .i64 l[n].b) rfl
           have z2 := kX10.cell 2 (.string RX) rfl
           have v0 := kY10.cell 0 (.int .i64 l[n + 1].a) rfl
           have v1 := kY10.cell 1 (.int .i64 l[n + 1].b) rfl
           have v2 := kY10.cell 2 (.string RY) rfl)
        | (go_at_call 10; refine (awake_any _).mono ?_; rintro e w11 ⟨rfl, hB11⟩)
        | fail)
      go_ret
      exact Ret.val rfl (bt hB10' hB11)
    · skip
      by_cases fa0 : 1 < l[n].b - l[n + 1].b
      · have fa : decide (1 < l[n].b - l[n + 1].b) = true := decide_eq_true fa0
        have hv := hSSd.out
        simp only [xa, xr, ya, yr, fa, Bool.false_and, Bool.true_and, Bool.or_false, Bool.false_or, Bool.true_or, Bool.or_true, Bool.not_true, Bool.not_false] at hv
        subst hv
        clear hSSd hSS HX HY
        go_wp2_with (first
          | (go_at_call 14; refine (HSN.out _ hB9').mono ?_; rintro e w9 ⟨rfl, hB10⟩
             have hB10' := bt hB9' hB10
             have kX10 := kX9.below' hB10
             have kY10 := kY9.below' hB10
             have z0 := kX10.cell 0 (.int .i64 l[n].a) rfl
             have z1 := kX10.cell 1 (.int .i64 l[n].b) rfl
             have z2 := kX10.cell 2 (.string RX) rfl
             have v0 := kY10.cell 0 (.int .i64 l[n + 1].a) rfl
             have v1 := kY10.cell 1 (.int .i64 l[n + 1].b) rfl
             have v2 := kY10.cell 2 (.string RY) rfl)
          | (go_at_call 10; refine (awake_any _).mono ?_; rintro e w11 ⟨rfl, hB11⟩)
          | fail)
        go_ret
        exact Ret.val rfl (bt hB10' hB11)
      have fa : decide (1 < l[n].b - l[n + 1].b) = false := decide_eq_false fa0
      by_cases fb0 : 1 < l[n + 1].b - l[n].b
      · have fb : decide (1 < l[n + 1].b - l[n].b) = true := decide_eq_true fb0
        have hv := hSSd.out
        simp only [xa, xr, ya, yr, fa, fb, Bool.false_and, Bool.true_and, Bool.or_false, Bool.false_or, Bool.true_or, Bool.or_true, Bool.not_true, Bool.not_false] at hv
        subst hv
        clear hSSd hSS HX HY
        go_wp2_with (first
          | (go_at_call 14; refine (HSN.out _ hB9').mono ?_; rintro e w9 ⟨rfl, hB10⟩
             have hB10' := bt hB9' hB10
             have kX10 := kX9.below' hB10
             have kY10 := kY9.below' hB10
             have z0 := kX10.cell 0 (.int .i64 l[n].a) rfl
             have z1 := kX10.cell 1 (.int .i64 l[n].b) rfl
             have z2 := kX10.cell 2 (.string RX) rfl
             have v0 := kY10.cell 0 (.int .i64 l[n + 1].a) rfl
             have v1 := kY10.cell 1 (.int .i64 l[n + 1].b) rfl
             have v2 := kY10.cell 2 (.string RY) rfl)
          | (go_at_call 10; refine (awake_any _).mono ?_; rintro e w11 ⟨rfl, hB11⟩)
          | fail)
        go_ret
        exact Ret.val rfl (bt hB10' hB11)
      have fb : decide (1 < l[n + 1].b - l[n].b) = false := decide_eq_false fb0
      by_cases ea : l[n].a = l[n + 1].a
      rotate_left
      · have fe : decide ((⟨l[n].a, l[n].b, RX⟩ : Tri) = ⟨l[n + 1].a, l[n + 1].b, RY⟩) = false := decide_eq_false (fun h => ea (Tri.mk.inj h).1)
        have hv := hSSd.out
        simp only [xa, xr, ya, yr, fa, fb, fe, Bool.false_and, Bool.true_and, Bool.or_false, Bool.false_or, Bool.true_or, Bool.or_true, Bool.not_true, Bool.not_false] at hv
        subst hv
        clear hSSd hSS HX HY
        go_wp2_with (first
          | (go_at_call 14; refine (HSN.out _ hB9').mono ?_; rintro e w9 ⟨rfl, hB10⟩
             have hB10' := bt hB9' hB10
             have kX10 := kX9.below' hB10
             have kY10 := kY9.below' hB10
             have z0 := kX10.cell 0 (.int .i64 l[n].a) rfl
             have z1 := kX10.cell 1 (.int .i64 l[n].b) rfl
             have z2 := kX10.cell 2 (.string RX) rfl
             have v0 := kY10.cell 0 (.int .i64 l[n + 1].a) rfl
             have v1 := kY10.cell 1 (.int .i64 l[n + 1].b) rfl
             have v2 := kY10.cell 2 (.string RY) rfl)
          | (go_at_call 10; refine (awake_any _).mono ?_; rintro e w11 ⟨rfl, hB11⟩)
          | fail)
        go_ret
        exact Ret.val rfl (bt hB10' hB11)
      by_cases eb : l[n].b = l[n + 1].b
      rotate_left
      · have fe : decide ((⟨l[n].a, l[n].b, RX⟩ : Tri) = ⟨l[n + 1].a, l[n + 1].b, RY⟩) = false := decide_eq_false (fun h => eb (Tri.mk.inj h).2.1)
        have hv := hSSd.out
        simp only [xa, xr, ya, yr, fa, fb, fe, Bool.false_and, Bool.true_and, Bool.or_false, Bool.false_or, Bool.true_or, Bool.or_true, Bool.not_true, Bool.not_false] at hv
        subst hv
        clear hSSd hSS HX HY
        go_wp2_with (first
          | (go_at_call 14; refine (HSN.out _ hB9').mono ?_; rintro e w9 ⟨rfl, hB10⟩
             have hB10' := bt hB9' hB10
             have kX10 := kX9.below' hB10
             have kY10 := kY9.below' hB10
             have z0 := kX10.cell 0 (.int .i64 l[n].a) rfl
             have z1 := kX10.cell 1 (.int .i64 l[n].b) rfl
             have z2 := kX10.cell 2 (.string RX) rfl
             have v0 := kY10.cell 0 (.int .i64 l[n + 1].a) rfl
             have v1 := kY10.cell 1 (.int .i64 l[n + 1].b) rfl
             have v2 := kY10.cell 2 (.string RY) rfl)
          | (go_at_call 10; refine (awake_any _).mono ?_; rintro e w11 ⟨rfl, hB11⟩)
          | fail)
        go_ret
        exact Ret.val rfl (bt hB10' hB11)
      by_cases er : RX.toList = RY.toList
      rotate_left
      · have fe : decide ((⟨l[n].a, l[n].b, RX⟩ : Tri) = ⟨l[n + 1].a, l[n + 1].b, RY⟩) = false := decide_eq_false (fun h => er (by rw [(Tri.mk.inj h).2.2]))
        have hv := hSSd.out
        simp only [xa, xr, ya, yr, fa, fb, fe, Bool.false_and, Bool.true_and, Bool.or_false, Bool.false_or, Bool.true_or, Bool.or_true, Bool.not_true, Bool.not_false] at hv
        subst hv
        clear hSSd hSS HX HY
        go_wp2_with (first
          | (go_at_call 14; refine (HSN.out _ hB9').mono ?_; rintro e w9 ⟨rfl, hB10⟩
             have hB10' := bt hB9' hB10
             have kX10 := kX9.below' hB10
             have kY10 := kY9.below' hB10
             have z0 := kX10.cell 0 (.int .i64 l[n].a) rfl
             have z1 := kX10.cell 1 (.int .i64 l[n].b) rfl
             have z2 := kX10.cell 2 (.string RX) rfl
             have v0 := kY10.cell 0 (.int .i64 l[n + 1].a) rfl
             have v1 := kY10.cell 1 (.int .i64 l[n + 1].b) rfl
             have v2 := kY10.cell 2 (.string RY) rfl)
          | (go_at_call 10; refine (awake_any _).mono ?_; rintro e w11 ⟨rfl, hB11⟩)
          | fail)
        go_ret
        exact Ret.val rfl (bt hB10' hB11)
      have fe : decide ((⟨l[n].a, l[n].b, RX⟩ : Tri) = ⟨l[n + 1].a, l[n + 1].b, RY⟩) = true := decide_eq_true (by rw [ea, eb, toList_inj er])
      have hv := hSSd.out
      simp only [xa, xr, ya, yr, fa, fb, fe, Bool.false_and, Bool.true_and, Bool.or_false, Bool.false_or, Bool.true_or, Bool.or_true, Bool.not_true, Bool.not_false] at hv
      subst hv
      clear hSSd hSS HX HY
      go_wp2_with (first
        | (go_at_call 14; refine (HSN.out _ hB9').mono ?_; rintro e w9 ⟨rfl, hB10⟩
           have hB10' := bt hB9' hB10
           have kX10 := kX9.below' hB10
           have kY10 := kY9.below' hB10
           have z0 := kX10.cell 0 (.int .i64 l[n].a) rfl
           have z1 := kX10.cell 1 (.int .i64 l[n].b) rfl
           have z2 := kX10.cell 2 (.string RX) rfl
           have v0 := kY10.cell 0 (.int .i64 l[n + 1].a) rfl
           have v1 := kY10.cell 1 (.int .i64 l[n + 1].b) rfl
           have v2 := kY10.cell 2 (.string RY) rfl)
        | (go_at_call 10; refine (awake_any _).mono ?_; rintro e w11 ⟨rfl, hB11⟩)
        | fail)
      go_ret
      exact Ret.val rfl (bt hB10' hB11)
    · skip
      by_cases fa0 : 1 < l[n].b - l[n + 1].b
      · have fa : decide (1 < l[n].b - l[n + 1].b) = true := decide_eq_true fa0
        have hv := hSSd.out
        simp only [xa, xr, ya, yr, fa, Bool.false_and, Bool.true_and, Bool.or_false, Bool.false_or, Bool.true_or, Bool.or_true, Bool.not_true, Bool.not_false] at hv
        subst hv
        clear hSSd hSS HX HY
        go_wp2_with (first
          | (go_at_call 14; refine (HSN.out _ hB9').mono ?_; rintro e w9 ⟨rfl, hB10⟩
             have hB10' := bt hB9' hB10
             have kX10 := kX9.below' hB10
             have kY10 := kY9.below' hB10
             have z0 := kX10.cell 0 (.int .i64 l[n].a) rfl
             have z1 := kX10.cell 1 (.int .i64 l[n].b) rfl
             have z2 := kX10.cell 2 (.string RX) rfl
             have v0 := kY10.cell 0 (.int .i64 l[n + 1].a) rfl
             have v1 := kY10.cell 1 (.int .i64 l[n + 1].b) rfl
             have v2 := kY10.cell 2 (.string RY) rfl)
          | (go_at_call 10; refine (awake_any _).mono ?_; rintro e w11 ⟨rfl, hB11⟩)
          | fail)
        go_ret
        exact Ret.val rfl (bt hB10' hB11)
      have fa : decide (1 < l[n].b - l[n + 1].b) = false := decide_eq_false fa0
      by_cases fb0 : 1 < l[n + 1].b - l[n].b
      · have fb : decide (1 < l[n + 1].b - l[n].b) = true := decide_eq_true fb0
        have hv := hSSd.out
        simp only [xa, xr, ya, yr, fa, fb, Bool.false_and, Bool.true_and, Bool.or_false, Bool.false_or, Bool.true_or, Bool.or_true, Bool.not_true, Bool.not_false] at hv
        subst hv
        clear hSSd hSS HX HY
        go_wp2_with (first
          | (go_at_call 14; refine (HSN.out _ hB9').mono ?_; rintro e w9 ⟨rfl, hB10⟩
             have hB10' := bt hB9' hB10
             have kX10 := kX9.below' hB10
             have kY10 := kY9.below' hB10
             have z0 := kX10.cell 0 (.int .i64 l[n].a) rfl
             have z1 := kX10.cell 1 (.int .i64 l[n].b) rfl
             have z2 := kX10.cell 2 (.string RX) rfl
             have v0 := kY10.cell 0 (.int .i64 l[n + 1].a) rfl
             have v1 := kY10.cell 1 (.int .i64 l[n + 1].b) rfl
             have v2 := kY10.cell 2 (.string RY) rfl)
          | (go_at_call 10; refine (awake_any _).mono ?_; rintro e w11 ⟨rfl, hB11⟩)
          | fail)
        go_ret
        exact Ret.val rfl (bt hB10' hB11)
      have fb : decide (1 < l[n + 1].b - l[n].b) = false := decide_eq_false fb0
      have hv := hSSd.out
      simp only [xa, xr, ya, yr, fa, fb, Bool.false_and, Bool.true_and, Bool.or_false, Bool.false_or, Bool.true_or, Bool.or_true, Bool.not_true, Bool.not_false] at hv
      subst hv
      clear hSSd hSS HX HY
      go_wp2_with (first
        | (go_at_call 14; refine (HSN.out _ hB9').mono ?_; rintro e w9 ⟨rfl, hB10⟩
           have hB10' := bt hB9' hB10
           have kX10 := kX9.below' hB10
           have kY10 := kY9.below' hB10
           have z0 := kX10.cell 0 (.int .i64 l[n].a) rfl
           have z1 := kX10.cell 1 (.int .i64 l[n].b) rfl
           have z2 := kX10.cell 2 (.string RX) rfl
           have v0 := kY10.cell 0 (.int .i64 l[n + 1].a) rfl
           have v1 := kY10.cell 1 (.int .i64 l[n + 1].b) rfl
           have v2 := kY10.cell 2 (.string RY) rfl)
        | (go_at_call 10; refine (awake_any _).mono ?_; rintro e w11 ⟨rfl, hB11⟩)
        | fail)
      go_ret
      exact Ret.val rfl (bt hB10' hB11)
  · go_simp
    refine hK.out _ _ (hS1.alloc _) (fun h => absurd h (by decide)) ?_
    clear hK K
    try simp only [Act.put, List.getElem_toArray, List.getElem_cons_succ, List.getElem_cons_zero, List.setIfInBounds_toArray, List.set_cons_zero, List.set_cons_succ]
    refine wpAnyJ_ready [15] (by kernel_rfl) (by simp) (NextJ.cons rfl (fun K hK => ?_) NextJ.nil)
    go_simp
    refine hK.out _ _ ((hS1.alloc _).alloc _) (fun h => absurd h (by decide)) ?_
    clear hK K
    try simp only [Act.put, List.getElem_toArray, List.getElem_cons_succ, List.getElem_cons_zero, List.setIfInBounds_toArray, List.set_cons_zero, List.set_cons_succ]
    refine wpAnyJ_ready [17] (by kernel_rfl) (by simp) (NextJ.cons rfl (fun K hK => ?_) NextJ.nil)
    go_simp
    refine hK.out _ _ ((hS1.alloc _).alloc _) (fun h => absurd h (by decide)) ?_
    clear hK K
    try simp only [Act.put, List.getElem_toArray, List.getElem_cons_succ, List.getElem_cons_zero, List.setIfInBounds_toArray, List.set_cons_zero, List.set_cons_succ]
    refine wpAnyJ_ready [18] (by kernel_rfl) (by simp) (NextJ.cons rfl (fun K hK => ?_) NextJ.nil)
    go_simp
    refine hK.out _ _ ((hS1.alloc _).alloc _) (fun h => absurd h (by decide)) ?_
    clear hK K
    try simp only [Act.put, List.getElem_toArray, List.getElem_cons_succ, List.getElem_cons_zero, List.setIfInBounds_toArray, List.set_cons_zero, List.set_cons_succ]
    refine wpAnyJ_done (by kernel_rfl) ?_ _
    clear hS1
    obtain ⟨Wz, hWz⟩ : ∃ Wz, Hid (Wz = ((w6.alloc (.cells #[.int .i64 l[n + 1].a, .int .i64 l[n + 1].b, .string l[n + 1].s] 46)).alloc (.cells #[.int .i64 l[n].a, .int .i64 l[n].b, .string l[n].s] 46)).drew) := ⟨_, Lib.hid rfl⟩
    have kP : Blk Wz w6.heap.size 46 #[.int .i64 l[n + 1].a, .int .i64 l[n + 1].b, .string l[n + 1].s] := by rw [hWz.out]; exact ((Blk.new w6 46 #[.int .i64 l[n + 1].a, .int .i64 l[n + 1].b, .string l[n + 1].s]).alloc (.cells #[.int .i64 l[n].a, .int .i64 l[n].b, .string l[n].s] 46)).drew
    have kQ : Blk Wz (w6.heap.size + 1) 46 #[.int .i64 l[n].a, .int .i64 l[n].b, .string l[n].s] := by
      have := Blk.new (w6.alloc (.cells #[.int .i64 l[n + 1].a, .int .i64 l[n + 1].b, .string l[n + 1].s] 46)) 46 #[.int .i64 l[n].a, .int .i64 l[n].b, .string l[n].s]
      rw [World.size_alloc] at this
      rw [hWz.out]; exact this.drew
    have kC7 : Blk Wz w.heap.size 26 #[.int .i64 P, .int .i64 S, .slice (some ⟨b, o, none⟩) l.length c, .int .i64 6, .int .i64 n, .int .i64 lt, .int .i64 wi, .int .i64 g.k, .int .i64 g.st, .int .i64 g.lt, .int .i64 g.wi] := by rw [hWz.out]; exact ((kC6.alloc (.cells #[.int .i64 l[n + 1].a, .int .i64 l[n + 1].b, .string l[n + 1].s] 46)).alloc (.cells #[.int .i64 l[n].a, .int .i64 l[n].b, .string l[n].s] 46)).drew
    have hB7' : Below w.heap.size w Wz := by rw [hWz.out]; exact (ba (ba hB6' (.cells #[.int .i64 l[n + 1].a, .int .i64 l[n + 1].b, .string l[n + 1].s] 46)) (.cells #[.int .i64 l[n].a, .int .i64 l[n].b, .string l[n].s] 46)).drew
    have hne : w6.heap.size ≠ w6.heap.size + 1 := by omega
    have hne2 : w6.heap.size + 1 ≠ w6.heap.size := by omega
    have hneC : w.heap.size ≠ w6.heap.size := by have := kC6.lt; omega
    have hneC2 : w.heap.size ≠ w6.heap.size + 1 := by have := kC6.lt; omega
    have hle1 : w.heap.size ≤ w6.heap.size := by have := kC6.lt; omega
    have hle2 : w.heap.size ≤ w6.heap.size + 1 := by have := kC6.lt; omega
    rw [← hWz.out]
    clear hWz hB6 hB6' kC6 hr5 hrA hB5 hB5' c0 c1 c2 c3 c4 c5 c6 c7 c8 c9 c10 lC f0 f1 f2 f3 f4 f5 kl lC2
    generalize w6.heap.size + 1 = p2 at *
    generalize w6.heap.size = p1 at *
    have kX := kQ
    have kY := kP
    clear kP kQ
    have x0 := kX.cell 0 (.int .i64 l[n].a) rfl
    have x1' := kX.cell 1 (.int .i64 l[n].b) rfl
    have x2' := kX.cell 2 (.string l[n].s) rfl
    have lX := kX.lt
    have lY := kY.lt
    have tk5 : True := trivial
    go_wp2_with fail
    refine (HRX.out _).mono ?_
    rintro e w7 ⟨rfl, hB7⟩
    have kX7 := kX.below' hB7
    have kY7 := (kY.below' hB7).far (p := ⟨p2, 2, none⟩) hne (.string RX)
    have kX8 := kX7.set_ 2 (.string RX)
    have hB8' := (bt hB7' hB7).setCell (p := ⟨p2, 2, none⟩) (by omega) (.string RX)
    have kC8 := (kC7.below' hB7).far (p := ⟨p2, 2, none⟩) hneC2 (.string RX)
    have fx2 := kX7.frozen 2
    have gx2 := kX7.cell 2 (.string l[n].s) rfl
    have y0 := kY7.cell 0 (.int .i64 l[n + 1].a) rfl
    have y1 := kY7.cell 1 (.int .i64 l[n + 1].b) rfl
    have y2 := kY7.cell 2 (.string l[n + 1].s) rfl
    have lX7 := kX7.lt
    go_wp2_with fail
    refine (HRY.out _).mono ?_
    rintro e w8 ⟨rfl, hB8⟩
    have kX9 := (kX8.below' hB8).far (p := ⟨p1, 2, none⟩) hne2 (.string RY)
    have kY8 := kY7.below' hB8
    have kY9 := kY8.set_ 2 (.string RY)
    have hB9' := (bt hB8' hB8).setCell (p := ⟨p1, 2, none⟩) (by omega) (.string RY)
    have kC9 := (kC8.below' hB8).far (p := ⟨p1, 2, none⟩) hneC (.string RY)
    have fy2 := kY8.frozen 2
    have gy2 := kY8.cell 2 (.string l[n + 1].s) rfl
    have z0 := kX9.cell 0 (.int .i64 l[n].a) rfl
    have z1 := kX9.cell 1 (.int .i64 l[n].b) rfl
    have z2 := kX9.cell 2 (.string RX) rfl
    have v0 := kY9.cell 0 (.int .i64 l[n + 1].a) rfl
    have v1 := kY9.cell 1 (.int .i64 l[n + 1].b) rfl
    have v2 := kY9.cell 2 (.string RY) rfl
    have c0 := kC9.cell 0 (.int .i64 P) rfl
    have c1 := kC9.cell 1 (.int .i64 S) rfl
    have c2 := kC9.cell 2 (.slice (some ⟨b, o, none⟩) l.length c) rfl
    have c3 := kC9.cell 3 (.int .i64 6) rfl
    have c4 := kC9.cell 4 (.int .i64 n) rfl
    have c5 := kC9.cell 5 (.int .i64 lt) rfl
    have c6 := kC9.cell 6 (.int .i64 wi) rfl
    have c7 := kC9.cell 7 (.int .i64 g.k) rfl
    have c8 := kC9.cell 8 (.int .i64 g.st) rfl
    have c9 := kC9.cell 9 (.int .i64 g.lt) rfl
    have c10 := kC9.cell 10 (.int .i64 g.wi) rfl
    have lC := kC9.lt
    obtain ⟨xa, xr⟩ := HX.out
    rcases HY.out with ⟨ya, yr⟩ | ⟨ya, yr⟩ | ⟨ya, yr⟩
    · skip
      by_cases fa0 : 1 < l[n].b - l[n + 1].b
      · have fa : decide (1 < l[n].b - l[n + 1].b) = true := decide_eq_true fa0
        have hv := hSSd.out
        simp only [xa, xr, ya, fa, Bool.false_and, Bool.true_and, Bool.or_false, Bool.false_or, Bool.true_or, Bool.or_true, Bool.not_true, Bool.not_false] at hv
        subst hv
        clear hSSd hSS HX HY
        go_wp2_with (first
          | (go_at_call 14; refine (HSN.out _ hB9').mono ?_; rintro e w9 ⟨rfl, hB10⟩
             have hB10' := bt hB9' hB10
             have kX10 := kX9.below' hB10
             have kY10 := kY9.below' hB10
             have z0 := kX10.cell 0 (.int .i64 l[n].a) rfl
             have z1 := kX10.cell 1 (.int .i64 l[n].b) rfl
             have z2 := kX10.cell 2 (.string RX) rfl
             have v0 := kY10.cell 0 (.int .i64 l[n + 1].a) rfl
             have v1 := kY10.cell 1 (.int .i64 l[n + 1].b) rfl
             have v2 := kY10.cell 2 (.string RY) rfl)
          | (go_at_call 10; refine (awake_any _).mono ?_; rintro e w11 ⟨rfl, hB11⟩)
          | fail)
        go_ret
        exact Ret.val rfl (bt hB10' hB11)
      have fa : decide (1 < l[n].b - l[n + 1].b) = false := decide_eq_false fa0
      by_cases fb0 : 1 < l[n + 1].b - l[n].b
      · have fb : decide (1 < l[n + 1].b - l[n].b) = true := decide_eq_true fb0
        have hv := hSSd.out
        simp only [xa, xr, ya, fa, fb, Bool.false_and, Bool.true_and, Bool.or_false, Bool.false_or, Bool.true_or, Bool.or_true, Bool.not_true, Bool.not_false] at hv
        subst hv
        clear hSSd hSS HX HY
        go_wp2_with (first
          | (go_at_call 14; refine (HSN.out _ hB9').mono ?_; rintro e w9 ⟨rfl, hB10⟩
             have hB10' := bt hB9' hB10
             have kX10 := kX9.below' hB10
             have kY10 := kY9.below' hB10
             have z0 := kX10.cell 0 (.int .i64 l[n].a) rfl
             have z1 := kX10.cell 1 (.int .i64 l[n].b) rfl
             have z2 := kX10.cell 2 (.string RX) rfl
             have v0 := kY10.cell 0 (.int .i64 l[n + 1].a) rfl
             have v1 := kY10.cell 1 (.int .i64 l[n + 1].b) rfl
             have v2 := kY10.cell 2 (.string RY) rfl)
          | (go_at_call 10; refine (awake_any _).mono ?_; rintro e w11 ⟨rfl, hB11⟩)
          | fail)
        go_ret
        exact Ret.val rfl (bt hB10' hB11)
      have fb : decide (1 < l[n + 1].b - l[n].b) = false := decide_eq_false fb0
      by_cases ea : l[n].a = l[n + 1].a
      rotate_left
      · have fe : decide ((⟨l[n].a, l[n].b, RX⟩ : Tri) = ⟨l[n + 1].a, l[n + 1].b, RY⟩) = false := decide_eq_false (fun h => ea (Tri.mk.inj h).1)
        have hv := hSSd.out
        simp only [xa, xr, ya, fa, fb, fe, Bool.false_and, Bool.true_and, Bool.or_false, Bool.false_or, Bool.true_or, Bool.or_true, Bool.not_true, Bool.not_false] at hv
        subst hv
        clear hSSd hSS HX HY
        go_wp2_with (first
          | (go_at_call 14; refine (HSN.out _ hB9').mono ?_; rintro e w9 ⟨rfl, hB10⟩
             have hB10' := bt hB9' hB10
             have kX10 := kX9.below' hB10
             have kY10 := kY9.below' hB10
             have z0 := kX10.cell 0 (.int .i64 l[n].a) rfl
             have z1 := kX10.cell 1 (.int .i64 l[n].b) rfl
             have z2 := kX10.cell 2 (.string RX) rfl
             have v0 := kY10.cell 0 (.int .i64 l[n + 1].a) rfl
             have v1 := kY10.cell 1 (.int .i64 l[n + 1].b) rfl
             have v2 := kY10.cell 2 (.string RY) rfl)
          | (go_at_call 10; refine (awake_any _).mono ?_; rintro e w11 ⟨rfl, hB11⟩)
          | fail)
        go_ret
        exact Ret.val rfl (bt hB10' hB11)
      by_cases eb : l[n].b = l[n + 1].b
      rotate_left
      · have fe : decide ((⟨l[n].a, l[n].b, RX⟩ : Tri) = ⟨l[n + 1].a, l[n + 1].b, RY⟩) = false := decide_eq_false (fun h => eb (Tri.mk.inj h).2.1)
        have hv := hSSd.out
        simp only [xa, xr, ya, fa, fb, fe, Bool.false_and, Bool.true_and, Bool.or_false, Bool.false_or, Bool.true_or, Bool.or_true, Bool.not_true, Bool.not_false] at hv
        subst hv
        clear hSSd hSS HX HY
        go_wp2_with (first
          | (go_at_call 14; refine (HSN.out _ hB9').mono ?_; rintro e w9 ⟨rfl, hB10⟩
             have hB10' := bt hB9' hB10
             have kX10 := kX9.below' hB10
             have kY10 := kY9.below' hB10
             have z0 := kX10.cell 0 (.int .i64 l[n].a) rfl
             have z1 := kX10.cell 1 (.int .i64 l[n].b) rfl
             have z2 := kX10.cell 2 (.string RX) rfl
             have v0 := kY10.cell 0 (.int .i64 l[n + 1].a) rfl
             have v1 := kY10.cell 1 (.int .i64 l[n + 1].b) rfl
             have v2 := kY10.cell 2 (.string RY) rfl)
          | (go_at_call 10; refine (awake_any _).mono ?_; rintro e w11 ⟨rfl, hB11⟩)
          | fail)
        go_ret
        exact Ret.val rfl (bt hB10' hB11)
      by_cases er : RX.toList = RY.toList
      rotate_left
      · have fe : decide ((⟨l[n].a, l[n].b, RX⟩ : Tri) = ⟨l[n + 1].a, l[n + 1].b, RY⟩) = false := decide_eq_false (fun h => er (by rw [(Tri.mk.inj h).2.2]))
        have hv := hSSd.out
        simp only [xa, xr, ya, fa, fb, fe, Bool.false_and, Bool.true_and, Bool.or_false, Bool.false_or, Bool.true_or, Bool.or_true, Bool.not_true, Bool.not_false] at hv
        subst hv
        clear hSSd hSS HX HY
        go_wp2_with (first
          | (go_at_call 14; refine (HSN.out _ hB9').mono ?_; rintro e w9 ⟨rfl, hB10⟩
             have hB10' := bt hB9' hB10
             have kX10 := kX9.below' hB10
             have kY10 := kY9.below' hB10
             have z0 := kX10.cell 0 (.int .i64 l[n].a) rfl
             have z1 := kX10.cell 1 (.int .i64 l[n].b) rfl
             have z2 := kX10.cell 2 (.string RX) rfl
             have v0 := kY10.cell 0 (.int .i64 l[n + 1].a) rfl
             have v1 := kY10.cell 1 (.int .i64 l[n + 1].b) rfl
             have v2 := kY10.cell 2 (.string RY) rfl)
          | (go_at_call 10; refine (awake_any _).mono ?_; rintro e w11 ⟨rfl, hB11⟩)
          | fail)
        go_ret
        exact Ret.val rfl (bt hB10' hB11)
      have fe : decide ((⟨l[n].a, l[n].b, RX⟩ : Tri) = ⟨l[n + 1].a, l[n + 1].b, RY⟩) = true := decide_eq_true (by rw [ea, eb, toList_inj er])
      have hv := hSSd.out
      simp only [xa, xr, ya, fa, fb, fe, Bool.false_and, Bool.true_and, Bool.or_false, Bool.false_or, Bool.true_or, Bool.or_true, Bool.not_true, Bool.not_false] at hv
      subst hv
      clear hSSd hSS HX HY
      go_wp2_with (first
        | (go_at_call 14; refine (HSN.out _ hB9').mono ?_; rintro e w9 ⟨rfl, hB10⟩
           have hB10' := bt hB9' hB10
           have kX10 := kX9.below' hB10
           have kY10 := kY9.below' hB10
           have z0 := kX10.cell 0 (.int .i64 l[n].a) rfl
           have z1 := kX10.cell 1 (.int .i64 l[n].b) rfl
           have z2 := kX10.cell 2 (.string RX) rfl
           have v0 := kY10.cell 0 (.int .i64 l[n + 1].a) rfl
           have v1 := kY10.cell 1 (.int .i64 l[n + 1].b) rfl
           have v2 := kY10.cell 2 (.string RY) rfl)
        | (go_at_call 10; refine (awake_any _).mono ?_; rintro e w11 ⟨rfl, hB11⟩)
        | fail)
      go_ret
      exact Ret.val rfl (bt hB10' hB11)
    · skip
      by_cases fa0 : 1 < l[n].b - l[n + 1].b
      · have fa : decide (1 < l[n].b - l[n + 1].b) = true := decide_eq_true fa0
        have hv := hSSd.out
        simp only [xa, xr, ya, yr, fa, Bool.false_and, Bool.true_and, Bool.or_false, Bool.false_or, Bool.true_or, Bool.or_true, Bool.not_true, Bool.not_false] at hv
        subst hv
        clear hSSd hSS HX HY
        go_wp2_with (first
          | (go_at_call 14; refine (HSN.out _ hB9').mono ?_; rintro e w9 ⟨rfl, hB10⟩
             have hB10' := bt hB9' hB10
             have kX10 := kX9.below' hB10
             have kY10 := kY9.below' hB10
             have z0 := kX10.cell 0 (.int .i64 l[n].a) rfl
             have z1 := kX10.cell 1 (.int .i64 l[n].b) rfl
             have z2 := kX10.cell 2 (.string RX) rfl
             have v0 := kY10.cell 0 (.int .i64 l[n + 1].a) rfl
             have v1 := kY10.cell 1 (.int .i64 l[n + 1].b) rfl
             have v2 := kY10.cell 2 (.string RY) rfl)
          | (go_at_call 10; refine (awake_any _).mono ?_; rintro e w11 ⟨rfl, hB11⟩)
          | fail)
        go_ret
        exact Ret.val rfl (bt hB10' hB11)
      have fa : decide (1 < l[n].b - l[n + 1].b) = false := decide_eq_false fa0
      by_cases fb0 : 1 < l[n + 1].b - l[n].b
      · have fb : decide (1 < l[n + 1].b - l[n].b) = true := decide_eq_true fb0
        have hv := hSSd.out
        simp only [xa, xr, ya, yr, fa, fb, Bool.false_and, Bool.true_and, Bool.or_false, Bool.false_or, Bool.true_or, Bool.or_true, Bool.not_true, Bool.not_false] at hv
        subst hv
        clear hSSd hSS HX HY
        go_wp2_with (first
          | (go_at_call 14; refine (HSN.out _ hB9').mono ?_; rintro e w9 ⟨rfl, hB10⟩
             have hB10' := bt hB9' hB10
             have kX10 := kX9.below' hB10
             have kY10 := kY9.below' hB10
             have z0 := kX10.cell 0 (.int .i64 l[n].a) rfl
             have z1 := kX10.cell 1 (.int .i64 l[n].b) rfl
             have z2 := kX10.cell 2 (.string RX) rfl
             have v0 := kY10.cell 0 (.int .i64 l[n + 1].a) rfl
             have v1 := kY10.cell 1 (.int .i64 l[n + 1].b) rfl
             have v2 := kY10.cell 2 (.string RY) rfl)
          | (go_at_call 10; refine (awake_any _).mono ?_; rintro e w11 ⟨rfl, hB11⟩)
          | fail)
        go_ret
        exact Ret.val rfl (bt hB10' hB11)
      have fb : decide (1 < l[n + 1].b - l[n].b) = false := decide_eq_false fb0
      by_cases ea : l[n].a = l[n + 1].a
      rotate_left
      · have fe : decide ((⟨l[n].a, l[n].b, RX⟩ : Tri) = ⟨l[n + 1].a, l[n + 1].b, RY⟩) = false := decide_eq_false (fun h => ea (Tri.mk.inj h).1)
        have hv := hSSd.out
        simp only [xa, xr, ya, yr, fa, fb, fe, Bool.false_and, Bool.true_and, Bool.or_false, Bool.false_or, Bool.true_or, Bool.or_true, Bool.not_true, Bool.not_false] at hv
        subst hv
        clear hSSd hSS HX HY
        go_wp2_with (first
          | (go_at_call 14; refine (HSN.out _ hB9').mono ?_; rintro e w9 ⟨rfl, hB10⟩
             have hB10' := bt hB9' hB10
             have kX10 := kX9.below' hB10
             have kY10 := kY9.below' hB10
             have z0 := kX10.cell 0 (.int .i64 l[n].a) rfl
             have z1 := kX10.cell 1 (.int .i64 l[n].b) rfl
             have z2 := kX10.cell 2 (.string RX) rfl
             have v0 := kY10.cell 0 (.int .i64 l[n + 1].a) rfl
             have v1 := kY10.cell 1 (.int .i64 l[n + 1].b) rfl
             have v2 := kY10.cell 2 (.string RY) rfl)
          | (go_at_call 10; refine (awake_any _).mono ?_; rintro e w11 ⟨rfl, hB11⟩)
          | fail)
        go_ret
        exact Ret.val rfl (bt hB10' hB11)
      by_cases eb : l[n].b = l[n + 1].b
      rotate_left
      · have fe : decide ((⟨l[n].a, l[n].b, RX⟩ : Tri) = ⟨l[n + 1].a, l[n + 1].b, RY⟩) = false := decide_eq_false (fun h => eb (Tri.mk.inj h).2.1)
        have hv := hSSd.out
        simp only [xa, xr, ya, yr, fa, fb, fe, Bool.false_and, Bool.true_and, Bool.or_false, Bool.false_or, Bool.true_or, Bool.or_true, Bool.not_true, Bool.not_false] at hv
        subst hv
        clear hSSd hSS HX HY
        go_wp2_with (first
          | (go_at_call 14; refine (HSN.out _ hB9').mono ?_; rintro e w9 ⟨rfl, hB10⟩
             have hB10' := bt hB9' hB10
             have kX10 := kX9.below' hB10
             have kY10 := kY9.below' hB10
             have z0 := kX10.cell 0 (.int .i64 l[n].a) rfl
             have z1 := kX10.cell 1 (.int .i64 l[n].b) rfl
             have z2 := kX10.cell 2 (.string RX) rfl
             have v0 := kY10.cell 0 (.int .i64 l[n + 1].a) rfl
             have v1 := kY10.cell 1 (.int .i64 l[n + 1].b) rfl
             have v2 := kY10.cell 2 (.string RY) rfl)
          | (go_at_call 10; refine (awake_any _).mono ?_; rintro e w11 ⟨rfl, hB11⟩)
          | fail)
        go_ret
        exact Ret.val rfl (bt hB10' hB11)
      by_cases er : RX.toList = RY.toList
      rotate_left
      · have fe : decide ((⟨l[n].a, l[n].b, RX⟩ : Tri) = ⟨l[n + 1].a, l[n + 1].b, RY⟩) = false := decide_eq_false (fun h => er (by rw [(Tri.mk.inj h).2.2]))
        have hv := hSSd.out
        simp only [xa, xr, ya, yr, fa, fb, fe, Bool.false_and, Bool.true_and, Bool.or_false, Bool.false_or, Bool.true_or, Bool.or_true, Bool.not_true, Bool.not_false] at hv
        subst hv
        clear hSSd hSS HX HY
        go_wp2_with (first
          | (go_at_call 14; refine (HSN.out _ hB9').mono ?_; rintro e w9 ⟨rfl, hB10⟩
             have hB10' := bt hB9' hB10
             have kX10 := kX9.below' hB10
             have kY10 := kY9.below' hB10
             have z0 := kX10.cell 0 (.int .i64 l[n].a) rfl
             have z1 := kX10.cell 1 (.int .i64 l[n].b) rfl
             have z2 := kX10.cell 2 (.string RX) rfl
             have v0 := kY10.cell 0 (.int .i64 l[n + 1].a) rfl
             have v1 := kY10.cell 1 (.int .i64 l[n + 1].b) rfl
             have v2 := kY10.cell 2 (.string RY) rfl)
          | (go_at_call 10; refine (awake_any _).mono ?_; rintro e w11 ⟨rfl, hB11⟩)
          | fail)
        go_ret
        exact Ret.val rfl (bt hB10' hB11)
      have fe : decide ((⟨l[n].a, l[n].b, RX⟩ : Tri) = ⟨l[n + 1].a, l[n + 1].b, RY⟩) = true := decide_eq_true (by rw [ea, eb, toList_inj er])
      have hv := hSSd.out
      simp only [xa, xr, ya, yr, fa, fb, fe, Bool.false_and, Bool.true_and, Bool.or_false, Bool.false_or, Bool.true_or, Bool.or_true, Bool.not_true, Bool.not_false] at hv
      subst hv
      clear hSSd hSS HX HY
      go_wp2_with (first
        | (go_at_call 14; refine (HSN.out _ hB9').mono ?_; rintro e w9 ⟨rfl, hB10⟩
           have hB10' := bt hB9' hB10
           have kX10 := kX9.below' hB10
           have kY10 := kY9.below' hB10
           have z0 := kX10.cell 0 (.int .i64 l[n].a) rfl
           have z1 := kX10.cell 1 (.int .i64 l[n].b) rfl
           have z2 := kX10.cell 2 (.string RX) rfl
           have v0 := kY10.cell 0 (.int .i64 l[n + 1].a) rfl
           have v1 := kY10.cell 1 (.int .i64 l[n + 1].b) rfl
           have v2 := kY10.cell 2 (.string RY) rfl)
        | (go_at_call 10; refine (awake_any _).mono ?_; rintro e w11 ⟨rfl, hB11⟩)
        | fail)
      go_ret
      exact Ret.val rfl (bt hB10' hB11)
    · skip
      by_cases fa0 : 1 < l[n].b - l[n + 1].b
      · have fa : decide (1 < l[n].b - l[n + 1].b) = true := decide_eq_true fa0
        have hv := hSSd.out
        simp only [xa, xr, ya, yr, fa, Bool.false_and, Bool.true_and, Bool.or_false, Bool.false_or, Bool.true_or, Bool.or_true, Bool.not_true, Bool.not_false] at hv
        subst hv
        clear hSSd hSS HX HY
        go_wp2_with (first
          | (go_at_call 14; refine (HSN.out _ hB9').mono ?_; rintro e w9 ⟨rfl, hB10⟩
             have hB10' := bt hB9' hB10
             have kX10 := kX9.below' hB10
             have kY10 := kY9.below' hB10
             have z0 := kX10.cell 0 (.int .i64 l[n].a) rfl
             have z1 := kX10.cell 1 (.int .i64 l[n].b) rfl
             have z2 := kX10.cell 2 (.string RX) rfl
             have v0 := kY10.cell 0 (.int .i64 l[n + 1].a) rfl
             have v1 := kY10.cell 1 (.int .i64 l[n + 1].b) rfl
             have v2 := kY10.cell 2 (.string RY) rfl)
          | (go_at_call 10; refine (awake_any _).mono ?_; rintro e w11 ⟨rfl, hB11⟩)
          | fail)
        go_ret
        exact Ret.val rfl (bt hB10' hB11)
      have fa : decide (1 < l[n].b - l[n + 1].b) = false := decide_eq_false fa0
      by_cases fb0 : 1 < l[n + 1].b - l[n].b
      · have fb : decide (1 < l[n + 1].b - l[n].b) = true := decide_eq_true fb0
        have hv := hSSd.out
        simp only [xa, xr, ya, yr, fa, fb, Bool.false_and, Bool.true_and, Bool.or_false, Bool.false_or, Bool.true_or, Bool.or_true, Bool.not_true, Bool.not_false] at hv
        subst hv
        clear hSSd hSS HX HY
        go_wp2_with (first
          | (go_at_call 14; refine (HSN.out _ hB9').mono ?_; rintro e w9 ⟨rfl, hB10⟩
             have hB10' := bt hB9' hB10
             have kX10 := kX9.below' hB10
             have kY10 := kY9.below' hB10
             have z0 := kX10.cell 0 (.int .i64 l[n].a) rfl
             have z1 := kX10.cell 1 (.int .i64 l[n].b) rfl
             have z2 := kX10.cell 2 (.string RX) rfl
             have v0 := kY10.cell 0 (.int .i64 l[n + 1].a) rfl
             have v1 := kY10.cell 1 (.int .i64 l[n + 1].b) rfl
             have v2 := kY10.cell 2 (.string RY) rfl)
          | (go_at_call 10; refine (awake_any _).mono ?_; rintro e w11 ⟨rfl, hB11⟩)
          | fail)
        go_ret
        exact Ret.val rfl (bt hB10' hB11)
      have fb : decide (1 < l[n + 1].b - l[n].b) = false := decide_eq_false fb0
      have hv := hSSd.out
      simp only [xa, xr, ya, yr, fa, fb, Bool.false_and, Bool.true_and, Bool.or_false, Bool.false_or, Bool.true_or, Bool.or_true, Bool.not_true, Bool.not_false] at hv
      subst hv
      clear hSSd hSS HX HY
      go_wp2_with (first
        | (go_at_call 14; refine (HSN.out _ hB9').mono ?_; rintro e w9 ⟨rfl, hB10⟩
           have hB10' := bt hB9' hB10
           have kX10 := kX9.below' hB10
           have kY10 := kY9.below' hB10
           have z0 := kX10.cell 0 (.int .i64 l[n].a) rfl
           have z1 := kX10.cell 1 (.int .i64 l[n].b) rfl
           have z2 := kX10.cell 2 (.string RX) rfl
           have v0 := kY10.cell 0 (.int .i64 l[n + 1].a) rfl
           have v1 := kY10.cell 1 (.int .i64 l[n + 1].b) rfl
           have v2 := kY10.cell 2 (.string RY) rfl)
        | (go_at_call 10; refine (awake_any _).mono ?_; rintro e w11 ⟨rfl, hB11⟩)
        | fail)
      go_ret
      exact Ret.val rfl (bt hB10' hB11)
end Go.Proofs.Ytblifdchofihoaa
