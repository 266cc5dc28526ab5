/- The law FaultsAlike, walked. -/
import Derived.Test.YtblifdchofihoaaLaw25
set_option linter.unusedSimpArgs false
set_option linter.unusedVariables false
namespace Go.Proofs.Ytblifdchofihoaa
open Go Go.RowKit Tor

theorem alike_iff {p s : Int} {l m : List Tri} (h1 : (sheetR p s l).2.2.2 = 0) (h2 : (sheetR p s m).2.2.2 = 0) (hl : l.length ≤ 400) (hm : m.length ≤ 400) :
    alikeR p s l m = true ↔ TrEq (plainL (sheetR p s l).2.1) (plainL (sheetR p s m).2.1) := by
  obtain ⟨p1, e1, k1⟩ := sheetR_sheet h1 hl
  obtain ⟨p2, e2, k2⟩ := sheetR_sheet h2 hm
  unfold alikeR
  rw [traceB_iff (fun k hk => (plain_wok k1 _ (List.getElem_mem hk)).b0), p1, p2]
  simp
theorem bool_iff {a b : Bool} (h : a = true ↔ b = true) : a = b := by cases a <;> cases b <;> simp_all

set_option maxRecDepth 100000 in
set_option maxHeartbeats 4000000 in
theorem lawAlike_any (P S : Int) (A : Option Addr) (l : List Tri) (c : Nat) (f g : Flt) (w : World) (H : Nat) (hr : RdT w H A l) (hH : H ≤ w.heap.size)
    (hw : ∀ (k : Nat) (hk : k < l.length), l[k].s.size ≤ 9223372036854775807) (hl : l.length ≤ 9223372036854775807) :
    Calls Try.prog 6 #[.agg #[.int .i64 P, .int .i64 S, .slice A l.length c, .int .i64 f.k, .int .i64 f.st, .int .i64 f.lt, .int .i64 f.wi, .int .i64 g.k, .int .i64 g.st, .int .i64 g.lt, .int .i64 g.wi]] w (Ret (.bool true) w) := by
  have hBB : Below w.heap.size w (w.alloc (.cells #[.int .i64 P, .int .i64 S, .slice A l.length c, .int .i64 f.k, .int .i64 f.st, .int .i64 f.lt, .int .i64 f.wi, .int .i64 g.k, .int .i64 g.st, .int .i64 g.lt, .int .i64 g.wi] 26)) := by (repeat' first | exact Below.refl _ _ | apply Below.drew | (refine Below.setCells ?_ _ _ ?_) | (refine Below.setCell ?_ ?_ _) | (refine Below.alloc ?_ ?_ _) | (simp; done) | (simp; omega))
  have kC := Blk.new w 26 #[.int .i64 P, .int .i64 S, .slice A l.length c, .int .i64 f.k, .int .i64 f.st, .int .i64 f.lt, .int .i64 f.wi, .int .i64 g.k, .int .i64 g.st, .int .i64 g.lt, .int .i64 g.wi]
  by_cases h80 : 80 < l.length
  · have h80' : (80 : Int) < (l.length : Int) := by omega
    have c2 := kC.cell 2 (.slice A l.length c) rfl
    clear h80
    go_enter Try.func6, Try.ntmps6
    go_wp2_with (first | (go_at_call 10; refine (awake_any _).mono ?_; rintro e w1 ⟨rfl, hB1⟩) | fail)
    go_ret
    exact Ret.val rfl (hBB.trans (hB1.mono hBB.size))
  have h80' : ¬ (80 : Int) < (l.length : Int) := by omega
  have HF := Lib.hid (fun (w' : World) (hB : Below w.heap.size w w') => fseen_any P S A l c f w' H (hr.below' hB hH) (Nat.le_trans hH hB.size) hw (by omega) (by omega))
  have HG := Lib.hid (fun (w' : World) (hB : Below w.heap.size w w') => fseen_any P S A l c g w' H (hr.below' hB hH) (Nat.le_trans hH hB.size) hw (by omega) (by omega))
  obtain ⟨e1, he1⟩ : ∃ e, Hid ((seenR P S l f).2 = e) := ⟨_, Lib.hid rfl⟩
  obtain ⟨e2, he2⟩ : ∃ e, Hid ((seenR P S l g).2 = e) := ⟨_, Lib.hid rfl⟩
  by_cases hz : e1 = 0 ∧ e2 = 0
  rotate_left
  · rw [he1.out] at HF
    rw [he2.out] at HG
    generalize (seenR P S l f).1 = x at *
    generalize (seenR P S l g).1 = y at *
    clear h80
    rcases (show ¬ e1 = 0 ∨ (e1 = 0 ∧ ¬ e2 = 0) by omega) with h1 | ⟨h1, h2⟩
    · have y2 : (e1 != 0) = true := by simpa using h1
      have y1 : (e1 == 0) = false := by simpa using h1
      clear h1 hz
      have kl := kC.lt
      have c0 := kC.cell 0 (.int .i64 P) rfl
      have c1 := kC.cell 1 (.int .i64 S) rfl
      have c2 := kC.cell 2 (.slice A l.length c) rfl
      have c3 := kC.cell 3 (.int .i64 f.k) rfl
      have c4 := kC.cell 4 (.int .i64 f.st) rfl
      have c5 := kC.cell 5 (.int .i64 f.lt) rfl
      have c6 := kC.cell 6 (.int .i64 f.wi) rfl
      have c7 := kC.cell 7 (.int .i64 g.k) rfl
      have c8 := kC.cell 8 (.int .i64 g.st) rfl
      have c9 := kC.cell 9 (.int .i64 g.lt) rfl
      have c10 := kC.cell 10 (.int .i64 g.wi) rfl
      go_enter Try.func6, Try.ntmps6
      go_wp2_with (first
        | (go_at_call 14; refine (HF.out _ hBB).mono ?_; rintro e w1 ⟨rfl, hB1⟩; clear HF
           have hB1' := hBB.trans (hB1.mono hBB.size)
           have kC1 := kC.below' hB1
           have c0 := kC1.cell 0 (.int .i64 P) rfl
           have c1 := kC1.cell 1 (.int .i64 S) rfl
           have c2 := kC1.cell 2 (.slice A l.length c) rfl
           have c3 := kC1.cell 3 (.int .i64 f.k) rfl
           have c4 := kC1.cell 4 (.int .i64 f.st) rfl
           have c5 := kC1.cell 5 (.int .i64 f.lt) rfl
           have c6 := kC1.cell 6 (.int .i64 f.wi) rfl
           have c7 := kC1.cell 7 (.int .i64 g.k) rfl
           have c8 := kC1.cell 8 (.int .i64 g.st) rfl
           have c9 := kC1.cell 9 (.int .i64 g.lt) rfl
           have c10 := kC1.cell 10 (.int .i64 g.wi) rfl)
        | (go_at_call 14; refine (HG.out _ hB1').mono ?_; rintro e w2 ⟨rfl, hB2⟩; clear HG
           have hB2' := hB1'.trans (hB2.mono hB1'.size)
           have kC2 := kC1.below' hB2
           have c0 := kC2.cell 0 (.int .i64 P) rfl
           have c1 := kC2.cell 1 (.int .i64 S) rfl
           have c2 := kC2.cell 2 (.slice A l.length c) rfl
           have c3 := kC2.cell 3 (.int .i64 f.k) rfl
           have c4 := kC2.cell 4 (.int .i64 f.st) rfl
           have c5 := kC2.cell 5 (.int .i64 f.lt) rfl
           have c6 := kC2.cell 6 (.int .i64 f.wi) rfl
           have c7 := kC2.cell 7 (.int .i64 g.k) rfl
           have c8 := kC2.cell 8 (.int .i64 g.st) rfl
           have c9 := kC2.cell 9 (.int .i64 g.lt) rfl
           have c10 := kC2.cell 10 (.int .i64 g.wi) rfl)
        | (go_at_call 10; refine (awake_any _).mono ?_; rintro e w9 ⟨rfl, hB9⟩)
        | fail)
      go_ret
      exact Ret.val rfl (hB2'.trans (hB9.mono hB2'.size))
    · have y2 : (e1 != 0) = false := by simpa using h1
      have y1 : (e1 == 0) = true := by simpa using h1
      have y4 : (e2 != 0) = true := by simpa using h2
      have y3 : (e2 == 0) = false := by simpa using h2
      clear h1 h2 hz
      have kl := kC.lt
      have c0 := kC.cell 0 (.int .i64 P) rfl
      have c1 := kC.cell 1 (.int .i64 S) rfl
      have c2 := kC.cell 2 (.slice A l.length c) rfl
      have c3 := kC.cell 3 (.int .i64 f.k) rfl
      have c4 := kC.cell 4 (.int .i64 f.st) rfl
      have c5 := kC.cell 5 (.int .i64 f.lt) rfl
      have c6 := kC.cell 6 (.int .i64 f.wi) rfl
      have c7 := kC.cell 7 (.int .i64 g.k) rfl
      have c8 := kC.cell 8 (.int .i64 g.st) rfl
      have c9 := kC.cell 9 (.int .i64 g.lt) rfl
      have c10 := kC.cell 10 (.int .i64 g.wi) rfl
      go_enter Try.func6, Try.ntmps6
      go_wp2_with (first
        | (go_at_call 14; refine (HF.out _ hBB).mono ?_; rintro e w1 ⟨rfl, hB1⟩; clear HF
           have hB1' := hBB.trans (hB1.mono hBB.size)
           have kC1 := kC.below' hB1
           have c0 := kC1.cell 0 (.int .i64 P) rfl
           have c1 := kC1.cell 1 (.int .i64 S) rfl
           have c2 := kC1.cell 2 (.slice A l.length c) rfl
           have c3 := kC1.cell 3 (.int .i64 f.k) rfl
           have c4 := kC1.cell 4 (.int .i64 f.st) rfl
           have c5 := kC1.cell 5 (.int .i64 f.lt) rfl
           have c6 := kC1.cell 6 (.int .i64 f.wi) rfl
           have c7 := kC1.cell 7 (.int .i64 g.k) rfl
           have c8 := kC1.cell 8 (.int .i64 g.st) rfl
           have c9 := kC1.cell 9 (.int .i64 g.lt) rfl
           have c10 := kC1.cell 10 (.int .i64 g.wi) rfl)
        | (go_at_call 14; refine (HG.out _ hB1').mono ?_; rintro e w2 ⟨rfl, hB2⟩; clear HG
           have hB2' := hB1'.trans (hB2.mono hB1'.size)
           have kC2 := kC1.below' hB2
           have c0 := kC2.cell 0 (.int .i64 P) rfl
           have c1 := kC2.cell 1 (.int .i64 S) rfl
           have c2 := kC2.cell 2 (.slice A l.length c) rfl
           have c3 := kC2.cell 3 (.int .i64 f.k) rfl
           have c4 := kC2.cell 4 (.int .i64 f.st) rfl
           have c5 := kC2.cell 5 (.int .i64 f.lt) rfl
           have c6 := kC2.cell 6 (.int .i64 f.wi) rfl
           have c7 := kC2.cell 7 (.int .i64 g.k) rfl
           have c8 := kC2.cell 8 (.int .i64 g.st) rfl
           have c9 := kC2.cell 9 (.int .i64 g.lt) rfl
           have c10 := kC2.cell 10 (.int .i64 g.wi) rfl)
        | (go_at_call 10; refine (awake_any _).mono ?_; rintro e w9 ⟨rfl, hB9⟩)
        | fail)
      go_ret
      exact Ret.val rfl (hB2'.trans (hB9.mono hB2'.size))
  · obtain ⟨z1, z2⟩ := hz
    have sOk : ∀ {q : Flt} (h : (seenR P S l q).2 = 0), PutOk P S l q ∧ seenR P S l q = (!alikeR P S l (putF l q), 0) := fun {q} h => by
      have h9 : (putR P S l q).2 = 0 := by
        unfold seenR at h
        split at h
        · rename_i h8; exact absurd h h8
        · rename_i h8; simpa using h8
      refine ⟨put_ok h9, ?_⟩
      unfold seenR; rw [if_neg (by simpa using h9), (put_ok h9).val]
    obtain ⟨o1, s1⟩ := sOk (he1.out.trans z1)
    obtain ⟨o2, s2⟩ := sOk (he2.out.trans z2)
    have hl400 : l.length ≤ 400 := by omega
    have hf1 := Nat.le_trans (putF_len l f) hl400
    have hg1 := Nat.le_trans (putF_len l g) hl400
    have E1 := alike_iff o1.ok o1.ok2 hl400 hf1
    have E2 := alike_iff o2.ok o2.ok2 hl400 hg1
    have E3 := alike_iff o1.ok2 o2.ok2 hf1 hg1
    have E4 := alike_iff o2.ok2 o1.ok2 hg1 hf1
    have E5 := alike_iff o1.ok2 o1.ok2 hf1 hf1
    have q1 : sameR P S l f g = (alikeR P S (putF l f) (putF l g), 0) := by unfold sameR; rw [o1.val, o2.val]; rfl
    have q2 : sameR P S l g f = (alikeR P S (putF l g) (putF l f), 0) := by unfold sameR; rw [o1.val, o2.val]; rfl
    have q3 : sameR P S l f f = (true, 0) := by unfold sameR; rw [o1.val]; simp only [ne_eq, not_true, if_false]; rw [E5.2 (TrEq.refl _)]
    have hsym : alikeR P S (putF l g) (putF l f) = alikeR P S (putF l f) (putF l g) := bool_iff (by rw [E3, E4]; exact ⟨TrEq.symm, TrEq.symm⟩)
    rw [hsym] at q2
    have t1 : alikeR P S l (putF l f) = true → alikeR P S l (putF l g) = true → alikeR P S (putF l f) (putF l g) = true := fun a b => E3.2 ((E1.1 a).euclid (E2.1 b))
    have t2 : alikeR P S l (putF l f) = true → alikeR P S (putF l f) (putF l g) = true → alikeR P S l (putF l g) = true := fun a b => E2.2 ((E1.1 a).trans (E3.1 b))
    have t3 : alikeR P S l (putF l g) = true → alikeR P S (putF l f) (putF l g) = true → alikeR P S l (putF l f) = true := fun a b => E1.2 ((E2.1 a).trans (E3.1 b).symm)
    rw [s1] at HF
    rw [s2] at HG
    have K1 := Lib.hid (fun (w' : World) (hB : Below w.heap.size w w') => (by have := fsame_any P S A l c f g w' H (hr.below' hB hH) (Nat.le_trans hH hB.size) hw (by omega) (by omega); rw [q1] at this; exact this : Calls Try.prog 20 #[.int .i64 P, .int .i64 S, .slice A l.length c, .agg #[.int .i64 f.k, .int .i64 f.st, .int .i64 f.lt, .int .i64 f.wi], .agg #[.int .i64 g.k, .int .i64 g.st, .int .i64 g.lt, .int .i64 g.wi]] w' (Ret (.tuple #[.bool (alikeR P S (putF l f) (putF l g)), .int .i64 0]) w')))
    have K2 := Lib.hid (fun (w' : World) (hB : Below w.heap.size w w') => (by have := fsame_any P S A l c g f w' H (hr.below' hB hH) (Nat.le_trans hH hB.size) hw (by omega) (by omega); rw [q2] at this; exact this : Calls Try.prog 20 #[.int .i64 P, .int .i64 S, .slice A l.length c, .agg #[.int .i64 g.k, .int .i64 g.st, .int .i64 g.lt, .int .i64 g.wi], .agg #[.int .i64 f.k, .int .i64 f.st, .int .i64 f.lt, .int .i64 f.wi]] w' (Ret (.tuple #[.bool (alikeR P S (putF l f) (putF l g)), .int .i64 0]) w')))
    have K3 := Lib.hid (fun (w' : World) (hB : Below w.heap.size w w') => (by have := fsame_any P S A l c f f w' H (hr.below' hB hH) (Nat.le_trans hH hB.size) hw (by omega) (by omega); rw [q3] at this; exact this : Calls Try.prog 20 #[.int .i64 P, .int .i64 S, .slice A l.length c, .agg #[.int .i64 f.k, .int .i64 f.st, .int .i64 f.lt, .int .i64 f.wi], .agg #[.int .i64 f.k, .int .i64 f.st, .int .i64 f.lt, .int .i64 f.wi]] w' (Ret (.tuple #[.bool true, .int .i64 0]) w')))
    clear s1 s2 o1 o2 E1 E2 E3 E4 E5 q1 q2 q3 hsym he1 he2 z1 z2 sOk hf1 hg1 h80 hl400
    generalize alikeR P S l (putF l f) = x at *
    generalize alikeR P S l (putF l g) = y at *
    generalize alikeR P S (putF l f) (putF l g) = z at *
    rcases (show (x = true ∧ y = true ∧ z = true) ∨ (x = true ∧ y = false ∧ z = false) ∨ (x = false ∧ y = true ∧ z = false) ∨ (x = false ∧ y = false ∧ z = true) ∨ (x = false ∧ y = false ∧ z = false) by cases x <;> cases y <;> cases z <;> simp_all) with ⟨rfl, rfl, rfl⟩ | ⟨rfl, rfl, rfl⟩ | ⟨rfl, rfl, rfl⟩ | ⟨rfl, rfl, rfl⟩ | ⟨rfl, rfl, rfl⟩
    · skip
      have kl := kC.lt
      have c0 := kC.cell 0 (.int .i64 P) rfl
      have c1 := kC.cell 1 (.int .i64 S) rfl
      have c2 := kC.cell 2 (.slice A l.length c) rfl
      have c3 := kC.cell 3 (.int .i64 f.k) rfl
      have c4 := kC.cell 4 (.int .i64 f.st) rfl
      have c5 := kC.cell 5 (.int .i64 f.lt) rfl
      have c6 := kC.cell 6 (.int .i64 f.wi) rfl
      have c7 := kC.cell 7 (.int .i64 g.k) rfl
      have c8 := kC.cell 8 (.int .i64 g.st) rfl
      have c9 := kC.cell 9 (.int .i64 g.lt) rfl
      have c10 := kC.cell 10 (.int .i64 g.wi) rfl
      go_enter Try.func6, Try.ntmps6
      go_wp2_with (first
        | (go_at_call 14; refine (HF.out _ hBB).mono ?_; rintro e w1 ⟨rfl, hB1⟩; clear HF
           have hB1' := hBB.trans (hB1.mono hBB.size)
           have kC1 := kC.below' hB1
           have c0 := kC1.cell 0 (.int .i64 P) rfl
           have c1 := kC1.cell 1 (.int .i64 S) rfl
           have c2 := kC1.cell 2 (.slice A l.length c) rfl
           have c3 := kC1.cell 3 (.int .i64 f.k) rfl
           have c4 := kC1.cell 4 (.int .i64 f.st) rfl
           have c5 := kC1.cell 5 (.int .i64 f.lt) rfl
           have c6 := kC1.cell 6 (.int .i64 f.wi) rfl
           have c7 := kC1.cell 7 (.int .i64 g.k) rfl
           have c8 := kC1.cell 8 (.int .i64 g.st) rfl
           have c9 := kC1.cell 9 (.int .i64 g.lt) rfl
           have c10 := kC1.cell 10 (.int .i64 g.wi) rfl)
        | (go_at_call 14; refine (HG.out _ hB1').mono ?_; rintro e w2 ⟨rfl, hB2⟩; clear HG
           have hB2' := hB1'.trans (hB2.mono hB1'.size)
           have kC2 := kC1.below' hB2
           have c0 := kC2.cell 0 (.int .i64 P) rfl
           have c1 := kC2.cell 1 (.int .i64 S) rfl
           have c2 := kC2.cell 2 (.slice A l.length c) rfl
           have c3 := kC2.cell 3 (.int .i64 f.k) rfl
           have c4 := kC2.cell 4 (.int .i64 f.st) rfl
           have c5 := kC2.cell 5 (.int .i64 f.lt) rfl
           have c6 := kC2.cell 6 (.int .i64 f.wi) rfl
           have c7 := kC2.cell 7 (.int .i64 g.k) rfl
           have c8 := kC2.cell 8 (.int .i64 g.st) rfl
           have c9 := kC2.cell 9 (.int .i64 g.lt) rfl
           have c10 := kC2.cell 10 (.int .i64 g.wi) rfl)
        | (go_at_call 20; refine (K1.out _ hB2').mono ?_; rintro e w3 ⟨rfl, hB3⟩; clear K1
           have hB3' := hB2'.trans (hB3.mono hB2'.size)
           have kC3 := kC2.below' hB3
           have c0 := kC3.cell 0 (.int .i64 P) rfl
           have c1 := kC3.cell 1 (.int .i64 S) rfl
           have c2 := kC3.cell 2 (.slice A l.length c) rfl
           have c3 := kC3.cell 3 (.int .i64 f.k) rfl
           have c4 := kC3.cell 4 (.int .i64 f.st) rfl
           have c5 := kC3.cell 5 (.int .i64 f.lt) rfl
           have c6 := kC3.cell 6 (.int .i64 f.wi) rfl
           have c7 := kC3.cell 7 (.int .i64 g.k) rfl
           have c8 := kC3.cell 8 (.int .i64 g.st) rfl
           have c9 := kC3.cell 9 (.int .i64 g.lt) rfl
           have c10 := kC3.cell 10 (.int .i64 g.wi) rfl)
        | (go_at_call 20; refine (K2.out _ hB3').mono ?_; rintro e w4 ⟨rfl, hB4⟩; clear K2
           have hB4' := hB3'.trans (hB4.mono hB3'.size)
           have kC4 := kC3.below' hB4
           have c0 := kC4.cell 0 (.int .i64 P) rfl
           have c1 := kC4.cell 1 (.int .i64 S) rfl
           have c2 := kC4.cell 2 (.slice A l.length c) rfl
           have c3 := kC4.cell 3 (.int .i64 f.k) rfl
           have c4 := kC4.cell 4 (.int .i64 f.st) rfl
           have c5 := kC4.cell 5 (.int .i64 f.lt) rfl
           have c6 := kC4.cell 6 (.int .i64 f.wi) rfl
           have c7 := kC4.cell 7 (.int .i64 g.k) rfl
           have c8 := kC4.cell 8 (.int .i64 g.st) rfl
           have c9 := kC4.cell 9 (.int .i64 g.lt) rfl
           have c10 := kC4.cell 10 (.int .i64 g.wi) rfl)
        | (go_at_call 20; refine (K3.out _ hB4').mono ?_; rintro e w5 ⟨rfl, hB5⟩; clear K3
           have hB5' := hB4'.trans (hB5.mono hB4'.size)
           have kC5 := kC4.below' hB5
           have c0 := kC5.cell 0 (.int .i64 P) rfl
           have c1 := kC5.cell 1 (.int .i64 S) rfl
           have c2 := kC5.cell 2 (.slice A l.length c) rfl
           have c3 := kC5.cell 3 (.int .i64 f.k) rfl
           have c4 := kC5.cell 4 (.int .i64 f.st) rfl
           have c5 := kC5.cell 5 (.int .i64 f.lt) rfl
           have c6 := kC5.cell 6 (.int .i64 f.wi) rfl
           have c7 := kC5.cell 7 (.int .i64 g.k) rfl
           have c8 := kC5.cell 8 (.int .i64 g.st) rfl
           have c9 := kC5.cell 9 (.int .i64 g.lt) rfl
           have c10 := kC5.cell 10 (.int .i64 g.wi) rfl)
        | (go_at_call 10; refine (awake_any _).mono ?_; rintro e w9 ⟨rfl, hB9⟩)
        | fail)
      go_ret
      exact Ret.val rfl (hB5'.trans (hB9.mono hB5'.size))
    · skip
      have kl := kC.lt
      have c0 := kC.cell 0 (.int .i64 P) rfl
      have c1 := kC.cell 1 (.int .i64 S) rfl
      have c2 := kC.cell 2 (.slice A l.length c) rfl
      have c3 := kC.cell 3 (.int .i64 f.k) rfl
      have c4 := kC.cell 4 (.int .i64 f.st) rfl
      have c5 := kC.cell 5 (.int .i64 f.lt) rfl
      have c6 := kC.cell 6 (.int .i64 f.wi) rfl
      have c7 := kC.cell 7 (.int .i64 g.k) rfl
      have c8 := kC.cell 8 (.int .i64 g.st) rfl
      have c9 := kC.cell 9 (.int .i64 g.lt) rfl
      have c10 := kC.cell 10 (.int .i64 g.wi) rfl
      go_enter Try.func6, Try.ntmps6
      go_wp2_with (first
        | (go_at_call 14; refine (HF.out _ hBB).mono ?_; rintro e w1 ⟨rfl, hB1⟩; clear HF
           have hB1' := hBB.trans (hB1.mono hBB.size)
           have kC1 := kC.below' hB1
           have c0 := kC1.cell 0 (.int .i64 P) rfl
           have c1 := kC1.cell 1 (.int .i64 S) rfl
           have c2 := kC1.cell 2 (.slice A l.length c) rfl
           have c3 := kC1.cell 3 (.int .i64 f.k) rfl
           have c4 := kC1.cell 4 (.int .i64 f.st) rfl
           have c5 := kC1.cell 5 (.int .i64 f.lt) rfl
           have c6 := kC1.cell 6 (.int .i64 f.wi) rfl
           have c7 := kC1.cell 7 (.int .i64 g.k) rfl
           have c8 := kC1.cell 8 (.int .i64 g.st) rfl
           have c9 := kC1.cell 9 (.int .i64 g.lt) rfl
           have c10 := kC1.cell 10 (.int .i64 g.wi) rfl)
        | (go_at_call 14; refine (HG.out _ hB1').mono ?_; rintro e w2 ⟨rfl, hB2⟩; clear HG
           have hB2' := hB1'.trans (hB2.mono hB1'.size)
           have kC2 := kC1.below' hB2
           have c0 := kC2.cell 0 (.int .i64 P) rfl
           have c1 := kC2.cell 1 (.int .i64 S) rfl
           have c2 := kC2.cell 2 (.slice A l.length c) rfl
           have c3 := kC2.cell 3 (.int .i64 f.k) rfl
           have c4 := kC2.cell 4 (.int .i64 f.st) rfl
           have c5 := kC2.cell 5 (.int .i64 f.lt) rfl
           have c6 := kC2.cell 6 (.int .i64 f.wi) rfl
           have c7 := kC2.cell 7 (.int .i64 g.k) rfl
           have c8 := kC2.cell 8 (.int .i64 g.st) rfl
           have c9 := kC2.cell 9 (.int .i64 g.lt) rfl
           have c10 := kC2.cell 10 (.int .i64 g.wi) rfl)
        | (go_at_call 20; refine (K1.out _ hB2').mono ?_; rintro e w3 ⟨rfl, hB3⟩; clear K1
           have hB3' := hB2'.trans (hB3.mono hB2'.size)
           have kC3 := kC2.below' hB3
           have c0 := kC3.cell 0 (.int .i64 P) rfl
           have c1 := kC3.cell 1 (.int .i64 S) rfl
           have c2 := kC3.cell 2 (.slice A l.length c) rfl
           have c3 := kC3.cell 3 (.int .i64 f.k) rfl
           have c4 := kC3.cell 4 (.int .i64 f.st) rfl
           have c5 := kC3.cell 5 (.int .i64 f.lt) rfl
           have c6 := kC3.cell 6 (.int .i64 f.wi) rfl
           have c7 := kC3.cell 7 (.int .i64 g.k) rfl
           have c8 := kC3.cell 8 (.int .i64 g.st) rfl
           have c9 := kC3.cell 9 (.int .i64 g.lt) rfl
           have c10 := kC3.cell 10 (.int .i64 g.wi) rfl)
        | (go_at_call 20; refine (K2.out _ hB3').mono ?_; rintro e w4 ⟨rfl, hB4⟩; clear K2
           have hB4' := hB3'.trans (hB4.mono hB3'.size)
           have kC4 := kC3.below' hB4
           have c0 := kC4.cell 0 (.int .i64 P) rfl
           have c1 := kC4.cell 1 (.int .i64 S) rfl
           have c2 := kC4.cell 2 (.slice A l.length c) rfl
           have c3 := kC4.cell 3 (.int .i64 f.k) rfl
           have c4 := kC4.cell 4 (.int .i64 f.st) rfl
           have c5 := kC4.cell 5 (.int .i64 f.lt) rfl
           have c6 := kC4.cell 6 (.int .i64 f.wi) rfl
           have c7 := kC4.cell 7 (.int .i64 g.k) rfl
           have c8 := kC4.cell 8 (.int .i64 g.st) rfl
           have c9 := kC4.cell 9 (.int .i64 g.lt) rfl
           have c10 := kC4.cell 10 (.int .i64 g.wi) rfl)
        | (go_at_call 20; refine (K3.out _ hB4').mono ?_; rintro e w5 ⟨rfl, hB5⟩; clear K3
           have hB5' := hB4'.trans (hB5.mono hB4'.size)
           have kC5 := kC4.below' hB5
           have c0 := kC5.cell 0 (.int .i64 P) rfl
           have c1 := kC5.cell 1 (.int .i64 S) rfl
           have c2 := kC5.cell 2 (.slice A l.length c) rfl
           have c3 := kC5.cell 3 (.int .i64 f.k) rfl
           have c4 := kC5.cell 4 (.int .i64 f.st) rfl
           have c5 := kC5.cell 5 (.int .i64 f.lt) rfl
           have c6 := kC5.cell 6 (.int .i64 f.wi) rfl
           have c7 := kC5.cell 7 (.int .i64 g.k) rfl
           have c8 := kC5.cell 8 (.int .i64 g.st) rfl
           have c9 := kC5.cell 9 (.int .i64 g.lt) rfl
           have c10 := kC5.cell 10 (.int .i64 g.wi) rfl)
        | (go_at_call 10; refine (awake_any _).mono ?_; rintro e w9 ⟨rfl, hB9⟩)
        | fail)
      go_ret
      exact Ret.val rfl (hB5'.trans (hB9.mono hB5'.size))
    · skip
      have kl := kC.lt
      have c0 := kC.cell 0 (.int .i64 P) rfl
      have c1 := kC.cell 1 (.int .i64 S) rfl
      have c2 := kC.cell 2 (.slice A l.length c) rfl
      have c3 := kC.cell 3 (.int .i64 f.k) rfl
      have c4 := kC.cell 4 (.int .i64 f.st) rfl
      have c5 := kC.cell 5 (.int .i64 f.lt) rfl
      have c6 := kC.cell 6 (.int .i64 f.wi) rfl
      have c7 := kC.cell 7 (.int .i64 g.k) rfl
      have c8 := kC.cell 8 (.int .i64 g.st) rfl
      have c9 := kC.cell 9 (.int .i64 g.lt) rfl
      have c10 := kC.cell 10 (.int .i64 g.wi) rfl
      go_enter Try.func6, Try.ntmps6
      go_wp2_with (first
        | (go_at_call 14; refine (HF.out _ hBB).mono ?_; rintro e w1 ⟨rfl, hB1⟩; clear HF
           have hB1' := hBB.trans (hB1.mono hBB.size)
           have kC1 := kC.below' hB1
           have c0 := kC1.cell 0 (.int .i64 P) rfl
           have c1 := kC1.cell 1 (.int .i64 S) rfl
           have c2 := kC1.cell 2 (.slice A l.length c) rfl
           have c3 := kC1.cell 3 (.int .i64 f.k) rfl
           have c4 := kC1.cell 4 (.int .i64 f.st) rfl
           have c5 := kC1.cell 5 (.int .i64 f.lt) rfl
           have c6 := kC1.cell 6 (.int .i64 f.wi) rfl
           have c7 := kC1.cell 7 (.int .i64 g.k) rfl
           have c8 := kC1.cell 8 (.int .i64 g.st) rfl
           have c9 := kC1.cell 9 (.int .i64 g.lt) rfl
           have c10 := kC1.cell 10 (.int .i64 g.wi) rfl)
        | (go_at_call 14; refine (HG.out _ hB1').mono ?_; rintro e w2 ⟨rfl, hB2⟩; clear HG
           have hB2' := hB1'.trans (hB2.mono hB1'.size)
           have kC2 := kC1.below' hB2
           have c0 := kC2.cell 0 (.int .i64 P) rfl
           have c1 := kC2.cell 1 (.int .i64 S) rfl
           have c2 := kC2.cell 2 (.slice A l.length c) rfl
           have c3 := kC2.cell 3 (.int .i64 f.k) rfl
           have c4 := kC2.cell 4 (.int .i64 f.st) rfl
           have c5 := kC2.cell 5 (.int .i64 f.lt) rfl
           have c6 := kC2.cell 6 (.int .i64 f.wi) rfl
           have c7 := kC2.cell 7 (.int .i64 g.k) rfl
           have c8 := kC2.cell 8 (.int .i64 g.st) rfl
           have c9 := kC2.cell 9 (.int .i64 g.lt) rfl
           have c10 := kC2.cell 10 (.int .i64 g.wi) rfl)
        | (go_at_call 20; refine (K1.out _ hB2').mono ?_; rintro e w3 ⟨rfl, hB3⟩; clear K1
           have hB3' := hB2'.trans (hB3.mono hB2'.size)
           have kC3 := kC2.below' hB3
           have c0 := kC3.cell 0 (.int .i64 P) rfl
           have c1 := kC3.cell 1 (.int .i64 S) rfl
           have c2 := kC3.cell 2 (.slice A l.length c) rfl
           have c3 := kC3.cell 3 (.int .i64 f.k) rfl
           have c4 := kC3.cell 4 (.int .i64 f.st) rfl
           have c5 := kC3.cell 5 (.int .i64 f.lt) rfl
           have c6 := kC3.cell 6 (.int .i64 f.wi) rfl
           have c7 := kC3.cell 7 (.int .i64 g.k) rfl
           have c8 := kC3.cell 8 (.int .i64 g.st) rfl
           have c9 := kC3.cell 9 (.int .i64 g.lt) rfl
           have c10 := kC3.cell 10 (.int .i64 g.wi) rfl)
        | (go_at_call 20; refine (K2.out _ hB3').mono ?_; rintro e w4 ⟨rfl, hB4⟩; clear K2
           have hB4' := hB3'.trans (hB4.mono hB3'.size)
           have kC4 := kC3.below' hB4
           have c0 := kC4.cell 0 (.int .i64 P) rfl
           have c1 := kC4.cell 1 (.int .i64 S) rfl
           have c2 := kC4.cell 2 (.slice A l.length c) rfl
           have c3 := kC4.cell 3 (.int .i64 f.k) rfl
           have c4 := kC4.cell 4 (.int .i64 f.st) rfl
           have c5 := kC4.cell 5 (.int .i64 f.lt) rfl
           have c6 := kC4.cell 6 (.int .i64 f.wi) rfl
           have c7 := kC4.cell 7 (.int .i64 g.k) rfl
           have c8 := kC4.cell 8 (.int .i64 g.st) rfl
           have c9 := kC4.cell 9 (.int .i64 g.lt) rfl
           have c10 := kC4.cell 10 (.int .i64 g.wi) rfl)
        | (go_at_call 20; refine (K3.out _ hB4').mono ?_; rintro e w5 ⟨rfl, hB5⟩; clear K3
           have hB5' := hB4'.trans (hB5.mono hB4'.size)
           have kC5 := kC4.below' hB5
           have c0 := kC5.cell 0 (.int .i64 P) rfl
           have c1 := kC5.cell 1 (.int .i64 S) rfl
           have c2 := kC5.cell 2 (.slice A l.length c) rfl
           have c3 := kC5.cell 3 (.int .i64 f.k) rfl
           have c4 := kC5.cell 4 (.int .i64 f.st) rfl
           have c5 := kC5.cell 5 (.int .i64 f.lt) rfl
           have c6 := kC5.cell 6 (.int .i64 f.wi) rfl
           have c7 := kC5.cell 7 (.int .i64 g.k) rfl
           have c8 := kC5.cell 8 (.int .i64 g.st) rfl
           have c9 := kC5.cell 9 (.int .i64 g.lt) rfl
           have c10 := kC5.cell 10 (.int .i64 g.wi) rfl)
        | (go_at_call 10; refine (awake_any _).mono ?_; rintro e w9 ⟨rfl, hB9⟩)
        | fail)
      go_ret
      exact Ret.val rfl (hB5'.trans (hB9.mono hB5'.size))
    · skip
      have kl := kC.lt
      have c0 := kC.cell 0 (.int .i64 P) rfl
      have c1 := kC.cell 1 (.int .i64 S) rfl
      have c2 := kC.cell 2 (.slice A l.length c) rfl
      have c3 := kC.cell 3 (.int .i64 f.k) rfl
      have c4 := kC.cell 4 (.int .i64 f.st) rfl
      have c5 := kC.cell 5 (.int .i64 f.lt) rfl
      have c6 := kC.cell 6 (.int .i64 f.wi) rfl
      have c7 := kC.cell 7 (.int .i64 g.k) rfl
      have c8 := kC.cell 8 (.int .i64 g.st) rfl
      have c9 := kC.cell 9 (.int .i64 g.lt) rfl
      have c10 := kC.cell 10 (.int .i64 g.wi) rfl
      go_enter Try.func6, Try.ntmps6
      go_wp2_with (first
        | (go_at_call 14; refine (HF.out _ hBB).mono ?_; rintro e w1 ⟨rfl, hB1⟩; clear HF
           have hB1' := hBB.trans (hB1.mono hBB.size)
           have kC1 := kC.below' hB1
           have c0 := kC1.cell 0 (.int .i64 P) rfl
           have c1 := kC1.cell 1 (.int .i64 S) rfl
           have c2 := kC1.cell 2 (.slice A l.length c) rfl
           have c3 := kC1.cell 3 (.int .i64 f.k) rfl
           have c4 := kC1.cell 4 (.int .i64 f.st) rfl
           have c5 := kC1.cell 5 (.int .i64 f.lt) rfl
           have c6 := kC1.cell 6 (.int .i64 f.wi) rfl
           have c7 := kC1.cell 7 (.int .i64 g.k) rfl
           have c8 := kC1.cell 8 (.int .i64 g.st) rfl
           have c9 := kC1.cell 9 (.int .i64 g.lt) rfl
           have c10 := kC1.cell 10 (.int .i64 g.wi) rfl)
        | (go_at_call 14; refine (HG.out _ hB1').mono ?_; rintro e w2 ⟨rfl, hB2⟩; clear HG
           have hB2' := hB1'.trans (hB2.mono hB1'.size)
           have kC2 := kC1.below' hB2
           have c0 := kC2.cell 0 (.int .i64 P) rfl
           have c1 := kC2.cell 1 (.int .i64 S) rfl
           have c2 := kC2.cell 2 (.slice A l.length c) rfl
           have c3 := kC2.cell 3 (.int .i64 f.k) rfl
           have c4 := kC2.cell 4 (.int .i64 f.st) rfl
           have c5 := kC2.cell 5 (.int .i64 f.lt) rfl
           have c6 := kC2.cell 6 (.int .i64 f.wi) rfl
           have c7 := kC2.cell 7 (.int .i64 g.k) rfl
           have c8 := kC2.cell 8 (.int .i64 g.st) rfl
           have c9 := kC2.cell 9 (.int .i64 g.lt) rfl
           have c10 := kC2.cell 10 (.int .i64 g.wi) rfl)
        | (go_at_call 20; refine (K1.out _ hB2').mono ?_; rintro e w3 ⟨rfl, hB3⟩; clear K1
           have hB3' := hB2'.trans (hB3.mono hB2'.size)
           have kC3 := kC2.below' hB3
           have c0 := kC3.cell 0 (.int .i64 P) rfl
           have c1 := kC3.cell 1 (.int .i64 S) rfl
           have c2 := kC3.cell 2 (.slice A l.length c) rfl
           have c3 := kC3.cell 3 (.int .i64 f.k) rfl
           have c4 := kC3.cell 4 (.int .i64 f.st) rfl
           have c5 := kC3.cell 5 (.int .i64 f.lt) rfl
           have c6 := kC3.cell 6 (.int .i64 f.wi) rfl
           have c7 := kC3.cell 7 (.int .i64 g.k) rfl
           have c8 := kC3.cell 8 (.int .i64 g.st) rfl
           have c9 := kC3.cell 9 (.int .i64 g.lt) rfl
           have c10 := kC3.cell 10 (.int .i64 g.wi) rfl)
        | (go_at_call 20; refine (K2.out _ hB3').mono ?_; rintro e w4 ⟨rfl, hB4⟩; clear K2
           have hB4' := hB3'.trans (hB4.mono hB3'.size)
           have kC4 := kC3.below' hB4
           have c0 := kC4.cell 0 (.int .i64 P) rfl
           have c1 := kC4.cell 1 (.int .i64 S) rfl
           have c2 := kC4.cell 2 (.slice A l.length c) rfl
           have c3 := kC4.cell 3 (.int .i64 f.k) rfl
           have c4 := kC4.cell 4 (.int .i64 f.st) rfl
           have c5 := kC4.cell 5 (.int .i64 f.lt) rfl
           have c6 := kC4.cell 6 (.int .i64 f.wi) rfl
           have c7 := kC4.cell 7 (.int .i64 g.k) rfl
           have c8 := kC4.cell 8 (.int .i64 g.st) rfl
           have c9 := kC4.cell 9 (.int .i64 g.lt) rfl
           have c10 := kC4.cell 10 (.int .i64 g.wi) rfl)
        | (go_at_call 20; refine (K3.out _ hB4').mono ?_; rintro e w5 ⟨rfl, hB5⟩; clear K3
           have hB5' := hB4'.trans (hB5.mono hB4'.size)
           have kC5 := kC4.below' hB5
           have c0 := kC5.cell 0 (.int .i64 P) rfl
           have c1 := kC5.cell 1 (.int .i64 S) rfl
           have c2 := kC5.cell 2 (.slice A l.length c) rfl
           have c3 := kC5.cell 3 (.int .i64 f.k) rfl
           have c4 := kC5.cell 4 (.int .i64 f.st) rfl
           have c5 := kC5.cell 5 (.int .i64 f.lt) rfl
           have c6 := kC5.cell 6 (.int .i64 f.wi) rfl
           have c7 := kC5.cell 7 (.int .i64 g.k) rfl
           have c8 := kC5.cell 8 (.int .i64 g.st) rfl
           have c9 := kC5.cell 9 (.int .i64 g.lt) rfl
           have c10 := kC5.cell 10 (.int .i64 g.wi) rfl)
        | (go_at_call 10; refine (awake_any _).mono ?_; rintro e w9 ⟨rfl, hB9⟩)
        | fail)
      go_ret
      exact Ret.val rfl (hB5'.trans (hB9.mono hB5'.size))
    · skip
      have kl := kC.lt
      have c0 := kC.cell 0 (.int .i64 P) rfl
      have c1 := kC.cell 1 (.int .i64 S) rfl
      have c2 := kC.cell 2 (.slice A l.length c) rfl
      have c3 := kC.cell 3 (.int .i64 f.k) rfl
      have c4 := kC.cell 4 (.int .i64 f.st) rfl
      have c5 := kC.cell 5 (.int .i64 f.lt) rfl
      have c6 := kC.cell 6 (.int .i64 f.wi) rfl
      have c7 := kC.cell 7 (.int .i64 g.k) rfl
      have c8 := kC.cell 8 (.int .i64 g.st) rfl
      have c9 := kC.cell 9 (.int .i64 g.lt) rfl
      have c10 := kC.cell 10 (.int .i64 g.wi) rfl
      go_enter Try.func6, Try.ntmps6
      go_wp2_with (first
        | (go_at_call 14; refine (HF.out _ hBB).mono ?_; rintro e w1 ⟨rfl, hB1⟩; clear HF
           have hB1' := hBB.trans (hB1.mono hBB.size)
           have kC1 := kC.below' hB1
           have c0 := kC1.cell 0 (.int .i64 P) rfl
           have c1 := kC1.cell 1 (.int .i64 S) rfl
           have c2 := kC1.cell 2 (.slice A l.length c) rfl
           have c3 := kC1.cell 3 (.int .i64 f.k) rfl
           have c4 := kC1.cell 4 (.int .i64 f.st) rfl
           have c5 := kC1.cell 5 (.int .i64 f.lt) rfl
           have c6 := kC1.cell 6 (.int .i64 f.wi) rfl
           have c7 := kC1.cell 7 (.int .i64 g.k) rfl
           have c8 := kC1.cell 8 (.int .i64 g.st) rfl
           have c9 := kC1.cell 9 (.int .i64 g.lt) rfl
           have c10 := kC1.cell 10 (.int .i64 g.wi) rfl)
        | (go_at_call 14; refine (HG.out _ hB1').mono ?_; rintro e w2 ⟨rfl, hB2⟩; clear HG
           have hB2' := hB1'.trans (hB2.mono hB1'.size)
           have kC2 := kC1.below' hB2
           have c0 := kC2.cell 0 (.int .i64 P) rfl
           have c1 := kC2.cell 1 (.int .i64 S) rfl
           have c2 := kC2.cell 2 (.slice A l.length c) rfl
           have c3 := kC2.cell 3 (.int .i64 f.k) rfl
           have c4 := kC2.cell 4 (.int .i64 f.st) rfl
           have c5 := kC2.cell 5 (.int .i64 f.lt) rfl
           have c6 := kC2.cell 6 (.int .i64 f.wi) rfl
           have c7 := kC2.cell 7 (.int .i64 g.k) rfl
           have c8 := kC2.cell 8 (.int .i64 g.st) rfl
           have c9 := kC2.cell 9 (.int .i64 g.lt) rfl
           have c10 := kC2.cell 10 (.int .i64 g.wi) rfl)
        | (go_at_call 20; refine (K1.out _ hB2').mono ?_; rintro e w3 ⟨rfl, hB3⟩; clear K1
           have hB3' := hB2'.trans (hB3.mono hB2'.size)
           have kC3 := kC2.below' hB3
           have c0 := kC3.cell 0 (.int .i64 P) rfl
           have c1 := kC3.cell 1 (.int .i64 S) rfl
           have c2 := kC3.cell 2 (.slice A l.length c) rfl
           have c3 := kC3.cell 3 (.int .i64 f.k) rfl
           have c4 := kC3.cell 4 (.int .i64 f.st) rfl
           have c5 := kC3.cell 5 (.int .i64 f.lt) rfl
           have c6 := kC3.cell 6 (.int .i64 f.wi) rfl
           have c7 := kC3.cell 7 (.int .i64 g.k) rfl
           have c8 := kC3.cell 8 (.int .i64 g.st) rfl
           have c9 := kC3.cell 9 (.int .i64 g.lt) rfl
           have c10 := kC3.cell 10 (.int .i64 g.wi) rfl)
        | (go_at_call 20; refine (K2.out _ hB3').mono ?_; rintro e w4 ⟨rfl, hB4⟩; clear K2
           have hB4' := hB3'.trans (hB4.mono hB3'.size)
           have kC4 := kC3.below' hB4
           have c0 := kC4.cell 0 (.int .i64 P) rfl
           have c1 := kC4.cell 1 (.int .i64 S) rfl
           have c2 := kC4.cell 2 (.slice A l.length c) rfl
           have c3 := kC4.cell 3 (.int .i64 f.k) rfl
           have c4 := kC4.cell 4 (.int .i64 f.st) rfl
           have c5 := kC4.cell 5 (.int .i64 f.lt) rfl
           have c6 := kC4.cell 6 (.int .i64 f.wi) rfl
           have c7 := kC4.cell 7 (.int .i64 g.k) rfl
           have c8 := kC4.cell 8 (.int .i64 g.st) rfl
           have c9 := kC4.cell 9 (.int .i64 g.lt) rfl
           have c10 := kC4.cell 10 (.int .i64 g.wi) rfl)
        | (go_at_call 20; refine (K3.out _ hB4').mono ?_; rintro e w5 ⟨rfl, hB5⟩; clear K3
           have hB5' := hB4'.trans (hB5.mono hB4'.size)
           have kC5 := kC4.below' hB5
           have c0 := kC5.cell 0 (.int .i64 P) rfl
           have c1 := kC5.cell 1 (.int .i64 S) rfl
           have c2 := kC5.cell 2 (.slice A l.length c) rfl
           have c3 := kC5.cell 3 (.int .i64 f.k) rfl
           have c4 := kC5.cell 4 (.int .i64 f.st) rfl
           have c5 := kC5.cell 5 (.int .i64 f.lt) rfl
           have c6 := kC5.cell 6 (.int .i64 f.wi) rfl
           have c7 := kC5.cell 7 (.int .i64 g.k) rfl
           have c8 := kC5.cell 8 (.int .i64 g.st) rfl
           have c9 := kC5.cell 9 (.int .i64 g.lt) rfl
           have c10 := kC5.cell 10 (.int .i64 g.wi) rfl)
        | (go_at_call 10; refine (awake_any _).mono ?_; rintro e w9 ⟨rfl, hB9⟩)
        | fail)
      go_ret
      exact Ret.val rfl (hB5'.trans (hB9.mono hB5'.size))
end Go.Proofs.Ytblifdchofihoaa
