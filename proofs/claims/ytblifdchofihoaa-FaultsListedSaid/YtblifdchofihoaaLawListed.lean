/- The law FaultsListed, walked. -/
import Derived.Test.YtblifdchofihoaaLawAll
import Derived.Test.YtblifdchofihoaaListP
set_option linter.unusedSimpArgs false
set_option linter.unusedVariables false
namespace Go.Proofs.Ytblifdchofihoaa
open Go Go.RowKit Tor

theorem put_words {l : List Tri} {f : Flt} (h : ∀ (k : Nat) (hk : k < l.length), wordE l[k].s = 0) : ∀ (k : Nat) (hk : k < (putF l f).length), (putF l f)[k].s.size ≤ 9223372036854775807 := fun k hk => by
  have := putF_words (f := f) (fun x hx => by obtain ⟨k, hk, rfl⟩ := List.getElem_of_mem hx; exact wordE_size (h k hk)) _ (List.getElem_mem hk)
  omega
theorem wordK_any (f : Flt) (w : World) : Calls Try.prog 24 #[.agg #[.int .i64 f.k, .int .i64 f.st, .int .i64 f.lt, .int .i64 f.wi]] w (Ret (.bool (wordK f)) w) := by
  have hBB : Below w.heap.size w (w.alloc (.cells #[.int .i64 f.k, .int .i64 f.st, .int .i64 f.lt, .int .i64 f.wi] 24)) := by (repeat' first | exact Below.refl _ _ | apply Below.drew | (refine Below.setCells ?_ _ _ ?_) | (refine Below.setCell ?_ ?_ _) | (refine Below.alloc ?_ ?_ _) | (simp; done) | (simp; omega))
  have hv : Hid (wordK f = (decide (f.k = 1) || decide (f.k = 2) || decide (f.k = 3))) := by rw [Hid]; unfold wordK; simp only [Bool.decide_or, Bool.or_assoc]
  rw [hv.out]
  by_cases h1 : f.k = 1
  · have b1 : (f.k == 1) = true := by simpa using h1
    have e1 : decide (f.k = 1) = true := by simpa using h1
    rw [e1]
    clear h1 e1
    go_enter Try.func24, Try.ntmps24
    go_wp2_with fail
    go_ret
    exact Ret.val (by simp) hBB
  have b1 : (f.k == 1) = false := by simpa using h1
  have e1 : decide (f.k = 1) = false := by simpa using h1
  by_cases h2 : f.k = 2
  · have b2 : (f.k == 2) = true := by simpa using h2
    have e2 : decide (f.k = 2) = true := by simpa using h2
    rw [e1, e2]
    clear h1 e1 h2 e2
    go_enter Try.func24, Try.ntmps24
    go_wp2_with fail
    go_ret
    exact Ret.val (by simp) hBB
  have b2 : (f.k == 2) = false := by simpa using h2
  have e2 : decide (f.k = 2) = false := by simpa using h2
  by_cases h3 : f.k = 3
  · have b3 : (f.k == 3) = true := by simpa using h3
    have e3 : decide (f.k = 3) = true := by simpa using h3
    rw [e1, e2, e3]
    clear h1 e1 h2 e2 h3 e3
    go_enter Try.func24, Try.ntmps24
    go_wp2_with fail
    go_ret
    exact Ret.val (by simp) hBB
  · have b3 : (f.k == 3) = false := by simpa using h3
    have e3 : decide (f.k = 3) = false := by simpa using h3
    rw [e1, e2, e3]
    clear h1 e1 h2 e2 h3 e3
    go_enter Try.func24, Try.ntmps24
    go_wp2_with fail
    go_ret
    exact Ret.val (by simp) hBB
theorem allR_ok {p s : Int} {l : List Tri} (h : (allR p s l).2 = 0) : (sheetR p s l).2.2.2 = 0 ∧ allR p s l = (allF p s l, 0) ∧ (allF p s l).length ≤ 20000 := by
  unfold allR at h ⊢
  by_cases h1 : (sheetR p s l).2.2.2 = 0
  · refine ⟨h1, ?_⟩
    rw [if_neg (by simpa using h1)] at h ⊢
    split at h
    · cases h
    · rename_i hh
      rw [if_neg hh]
      exact ⟨rfl, by omega⟩
  · rw [if_pos h1] at h
    exact absurd h h1
theorem putR_len {p s : Int} {l : List Tri} {f : Flt} : (putR p s l f).1.length ≤ l.length := by
  unfold putR accF
  have := putF_len l f
  (repeat' split) <;> simp <;> omega

set_option maxRecDepth 100000 in
set_option maxHeartbeats 8000000 in
theorem lawListed_any (P S : Int) (A : Option Addr) (l : List Tri) (c : Nat) (f g : Flt) (w : World) (H : Nat) (hr : RdT w H A l) (hH : H ≤ w.heap.size)
    (hw : ∀ (k : Nat) (hk : k < l.length), l[k].s.size ≤ 9223372036854775807) (hl : l.length ≤ 9223372036854775807) (hlc : l.length ≤ c) :
    Calls Try.prog 8 #[.agg #[.int .i64 P, .int .i64 S, .slice A l.length c, .int .i64 f.k, .int .i64 f.st, .int .i64 f.lt, .int .i64 f.wi, .int .i64 g.k, .int .i64 g.st, .int .i64 g.lt, .int .i64 g.wi]] w (Ret (.bool true) w) := by
  have hBB : Below w.heap.size w (w.alloc (.cells #[.int .i64 P, .int .i64 S, .slice A l.length c, .int .i64 f.k, .int .i64 f.st, .int .i64 f.lt, .int .i64 f.wi, .int .i64 g.k, .int .i64 g.st, .int .i64 g.lt, .int .i64 g.wi] 26)) := by (repeat' first | exact Below.refl _ _ | apply Below.drew | (refine Below.setCells ?_ _ _ ?_) | (refine Below.setCell ?_ ?_ _) | (refine Below.alloc ?_ ?_ _) | (simp; done) | (simp; omega))
  have kC := Blk.new w 26 #[.int .i64 P, .int .i64 S, .slice A l.length c, .int .i64 f.k, .int .i64 f.st, .int .i64 f.lt, .int .i64 f.wi, .int .i64 g.k, .int .i64 g.st, .int .i64 g.lt, .int .i64 g.wi]
  by_cases h40 : 40 < l.length
  · have e40 : (40 : Int) < (l.length : Int) := by omega
    go_enter Try.func8, Try.ntmps8
    go_wp2_with (first
      | (go_at_call 10; refine (awake_any _).mono ?_; rintro e w2 ⟨rfl, hB2⟩)
      | fail)
    go_ret
    exact Ret.val rfl (hBB.trans (hB2.mono hBB.size))
  have e40 : ¬ (40 : Int) < (l.length : Int) := by omega
  have hl2 : l.length ≤ 40 := by omega
  have HA := Lib.hid (fun (w' : World) (hB : Below w.heap.size w w') => fall_any P S A l c w' H (hr.below' hB hH) (Nat.le_trans hH hB.size) hw (by omega))
  unfold FltRet at HA
  by_cases hz : (allR P S l).2 = 0
  rotate_left
  · obtain ⟨E, hE⟩ : ∃ E, Hid ((allR P S l).2 = E) := ⟨_, Lib.hid rfl⟩
    rw [hE.out] at HA hz
    have y1 : (E == 0) = false := by simpa using hz
    have y2 : (E != 0) = true := by simpa using hz
    clear hz
    go_enter Try.func8, Try.ntmps8
    go_wp2_with (first
      | (go_at_call 21; refine (HA.out _ hBB).mono ?_; rintro e w1 ⟨v1, rfl, hown1, hB1⟩
         obtain ⟨A1, c1, rfl, _, _⟩ := Own.rd flt_len hown1)
      | (go_at_call 10; refine (awake_any _).mono ?_; rintro e w2 ⟨rfl, hB2⟩)
      | fail)
    go_ret
    have hB3 := hBB.trans (hB1.mono hBB.size)
    exact Ret.val rfl (hB3.trans (hB2.mono hB3.size))
  obtain ⟨hsh, hal, hLl⟩ := allR_ok hz
  rw [hal] at HA
  have HSH := Lib.hid hsh
  have hok := Lib.hid (ins_ok hsh)
  clear hal hz hsh
  have HP := Lib.hid (fun (w' : World) (hB : Below w.heap.size w w') => fput_any P S A l c f w' H (hr.below' hB hH) (Nat.le_trans hH hB.size) hw (by omega))
  have HQ := Lib.hid (fun (w' : World) (hB : Below w.heap.size w w') => fput_any P S A l c g w' H (hr.below' hB hH) (Nat.le_trans hH hB.size) hw (by omega))
  have epf : ∀ f, putR P S l f = accF P S l f := fun f => by unfold putR; rw [if_neg (by simpa using HSH.out)]
  have HF := Lib.hid (epf f)
  have HG := Lib.hid (epf g)
  unfold PutRet at HP HQ
  have hmem := Lib.hid (mem_allF (p := P) (s := S) (l := l) (f := f))
  obtain ⟨ef, hef⟩ : ∃ E, Hid ((putR P S l f).2 = E) := ⟨_, Lib.hid rfl⟩
  obtain ⟨eg, heg⟩ : ∃ E, Hid ((putR P S l g).2 = E) := ⟨_, Lib.hid rfl⟩
  have hokf : okF P S l f = decide (ef = 0) := by unfold okF; rw [← HF.out, hef.out]
  have hokg : okF P S l g = decide (eg = 0) := by unfold okF; rw [← HG.out, heg.out]
  have HOF := Lib.hid hokf
  have HOG := Lib.hid hokg
  clear hokf hokg epf
  obtain ⟨M, hM⟩ : ∃ L, Hid ((putR P S l f).1 = L) := ⟨_, Lib.hid rfl⟩
  obtain ⟨N, hN⟩ : ∃ L, Hid ((putR P S l g).1 = L) := ⟨_, Lib.hid rfl⟩
  have hMl : M.length ≤ l.length := by rw [← hM.out]; exact putR_len
  have hNl : N.length ≤ l.length := by rw [← hN.out]; exact putR_len
  rw [hef.out, hM.out] at HP
  rw [heg.out, hN.out] at HQ
  obtain ⟨L, hL⟩ : ∃ L, Hid (allF P S l = L) := ⟨_, Lib.hid rfl⟩
  rw [hL.out] at HA hmem hLl
  have tk1 : True := trivial
  go_enter Try.func8, Try.ntmps8
  go_wp2_with (first
    | (go_at_call 21; refine (HA.out _ hBB).mono ?_; rintro e w1 ⟨v1, rfl, hown1, hB1⟩
       obtain ⟨A1, c1, rfl, _, hr1⟩ := Own.rd flt_len hown1
       have hB1' := hBB.trans (hB1.mono hBB.size)
       have kC1 := kC.below' hB1
       have c0 := kC1.cell 0 (.int .i64 P) rfl
       have c1 := kC1.cell 1 (.int .i64 S) rfl
       have c2 := kC1.cell 2 (.slice A l.length c) rfl
       have c3 := kC1.cell 3 (.int .i64 f.k) rfl
       have c4 := kC1.cell 4 (.int .i64 f.st) rfl
       have c5 := kC1.cell 5 (.int .i64 f.lt) rfl
       have c6 := kC1.cell 6 (.int .i64 f.wi) rfl
       have c7 := kC1.cell 7 (.int .i64 g.k) rfl
       have c8 := kC1.cell 8 (.int .i64 g.st) rfl
       have c9 := kC1.cell 9 (.int .i64 g.lt) rfl
       have c10 := kC1.cell 10 (.int .i64 g.wi) rfl)
    | (go_at_call 11; have := tk1; refine (HP.out _ hB1').mono ?_; rintro e w2 ⟨A2, c2', rfl, hr2, hB2⟩; clear tk1
       have hB2' := hB1'.trans (hB2.mono hB1'.size)
       have kC2 := kC1.below' hB2
       have c0 := kC2.cell 0 (.int .i64 P) rfl
       have c1 := kC2.cell 1 (.int .i64 S) rfl
       have c2 := kC2.cell 2 (.slice A l.length c) rfl
       have c3 := kC2.cell 3 (.int .i64 f.k) rfl
       have c4 := kC2.cell 4 (.int .i64 f.st) rfl
       have c5 := kC2.cell 5 (.int .i64 f.lt) rfl
       have c6 := kC2.cell 6 (.int .i64 f.wi) rfl
       have c7 := kC2.cell 7 (.int .i64 g.k) rfl
       have c8 := kC2.cell 8 (.int .i64 g.st) rfl
       have c9 := kC2.cell 9 (.int .i64 g.lt) rfl
       have c10 := kC2.cell 10 (.int .i64 g.wi) rfl)
    | (go_at_call 11; refine (HQ.out _ hB2').mono ?_; rintro e w3 ⟨A3, c3', rfl, hr3, hB3⟩; clear HQ
       have hB3' := hB2'.trans (hB3.mono hB2'.size)
       have kC3 := kC2.below' hB3)
    | fail)
  have hr1' := (hr1.below' hB2 (Nat.le_refl _)).more hB2.size
  have hr1'' := (hr1'.below' hB3 (Nat.le_refl _)).more hB3.size
  have hr2' := (hr2.below' hB3 (Nat.le_refl _)).more hB3.size
  clear c0 c1 c2 c3 c4 c5 c6 c7 c8 c9 c10 kC kC1 kC2 hr1 hr1' hr2 hB1 hB2 hB3 hB1' hB2' hBB hown1
  obtain ⟨w4, rfl⟩ : ∃ wo : World, wo = w3 := ⟨_, rfl⟩
  go_loopw [9, 10] (fun v i wr => ∃ k : Nat, k ≤ L.length ∧ i = .int .i64 k ∧ v = .bool (decide (f ∈ L.take k)) ∧ Below w4.heap.size w4 wr) (fun _ i _ => L.length - (intOf i).toNat)
  case atStart => exact ⟨0, Nat.zero_le _, rfl, by simp, Below.refl _ _⟩
  case round =>
    obtain ⟨k, hk, rfl, rfl, hB⟩ := hrel
    have kC4 := kC3.below' hB
    have c0 := kC4.cell 0 (.int .i64 P) rfl
    have c1 := kC4.cell 1 (.int .i64 S) rfl
    have c2 := kC4.cell 2 (.slice A l.length c) rfl
    have c3 := kC4.cell 3 (.int .i64 f.k) rfl
    have c4 := kC4.cell 4 (.int .i64 f.st) rfl
    have c5 := kC4.cell 5 (.int .i64 f.lt) rfl
    have c6 := kC4.cell 6 (.int .i64 f.wi) rfl
    have c7 := kC4.cell 7 (.int .i64 g.k) rfl
    have c8 := kC4.cell 8 (.int .i64 g.st) rfl
    have c9 := kC4.cell 9 (.int .i64 g.lt) rfl
    have c10 := kC4.cell 10 (.int .i64 g.wi) rfl
    by_cases hlt : k < L.length
    · obtain ⟨bL, oL, rfl, hbL, h0, h1, h2, h3⟩ := Rd.flt (hr1''.below' hB (Nat.le_refl _)) hlt
      have htk : L.take (k + 1) = L.take k ++ [L[k]] := by rw [List.take_append_getElem hlt]
      have HTK := Lib.hid htk
      clear htk
      cases hB9 : decide (f ∈ L.take k)
      · by_cases heq : L[k] = f
        · have d9 : decide (f ∈ L.take (k + 1)) = true := decide_eq_true (by rw [HTK.out]; exact List.mem_append.2 (.inr (List.mem_singleton.2 heq.symm)))
          have D9 := Lib.hid d9
          rw [heq] at h0 h1 h2 h3
          clear d9 heq hB9
          go_wp2
          go_quiet (fail)
          go_wp2
          go_roundw
          case rel => exact ⟨k + 1, by omega, by go_num, by rw [D9.out], hB.drewN nq⟩
          case measure => simp [intOf]; omega
        · have d9 : decide (f ∈ L.take (k + 1)) = false := decide_eq_false (by
            rw [HTK.out]
            intro hc
            rcases List.mem_append.1 hc with hc | hc
            · exact of_decide_eq_false hB9 hc
            · exact heq (List.mem_singleton.1 hc).symm)
          have D9 := Lib.hid d9
          have hne : ¬ (L[k].k = f.k ∧ L[k].st = f.st ∧ L[k].lt = f.lt ∧ L[k].wi = f.wi) := fun ⟨q1, q2, q3, q4⟩ => heq (by cases hx : L[k]; cases f; rw [hx] at q1 q2 q3 q4; simp only at q1 q2 q3 q4; subst q1; subst q2; subst q3; subst q4; rfl)
          clear d9 heq hB9
          by_cases q1 : L[k].k = f.k
          · rw [q1] at h0
            by_cases q2 : L[k].st = f.st
            · rw [q2] at h1
              by_cases q3 : L[k].lt = f.lt
              · rw [q3] at h2
                have q4 : ¬ L[k].wi = f.wi := fun q4 => hne ⟨q1, q2, q3, q4⟩
                clear hne q1 q2 q3
                go_wp2
                go_quiet (fail)
                go_wp2
                go_roundw
                case rel => exact ⟨k + 1, by omega, by go_num, by rw [D9.out], hB.drewN nq⟩
                case measure => simp [intOf]; omega
              · clear hne q1 q2
                go_wp2
                go_quiet (fail)
                go_wp2
                go_roundw
                case rel => exact ⟨k + 1, by omega, by go_num, by rw [D9.out], hB.drewN nq⟩
                case measure => simp [intOf]; omega
            · clear hne q1
              go_wp2
              go_quiet (fail)
              go_wp2
              go_roundw
              case rel => exact ⟨k + 1, by omega, by go_num, by rw [D9.out], hB.drewN nq⟩
              case measure => simp [intOf]; omega
          · clear hne
            go_wp2
            go_quiet (fail)
            go_wp2
            go_roundw
            case rel => exact ⟨k + 1, by omega, by go_num, by rw [D9.out], hB.drewN nq⟩
            case measure => simp [intOf]; omega
      · have d9 : decide (f ∈ L.take (k + 1)) = true := decide_eq_true (by rw [HTK.out]; exact List.mem_append.2 (.inl (of_decide_eq_true hB9)))
        have D9 := Lib.hid d9
        clear d9 hB9
        go_wp2
        go_quiet (fail)
        go_wp2
        go_roundw
        case rel => exact ⟨k + 1, by omega, by go_num, by rw [D9.out], hB.drewN nq⟩
        case measure => simp [intOf]; omega
    · have ek : k = L.length := by omega
      subst ek
      have hfd : decide (f ∈ L) = decide (ef = 0) := by
        rw [← HOF.out]
        cases ho : okF P S l f
        · exact decide_eq_false (fun hc => by rw [hmem.out.1 hc] at ho; cases ho)
        · exact decide_eq_true (hmem.out.2 ho)
      rw [List.take_length, hfd]
      have hBr := hB3'.trans (hB.mono hB3'.size)
      clear hfd
      by_cases hz : ef = 0
      rotate_left
      · have y0 : decide (ef = 0) = false := decide_eq_false hz
        have y1 : (ef == 0) = false := by simpa using hz
        have y2 : (ef != 0) = true := by simpa using hz
        rw [y0]
        clear hz y0
        go_wp2_with (first
          | (go_at_call 10; refine (awake_any _).mono ?_; rintro e w9 ⟨rfl, hB9⟩)
          | fail)
        go_ret
        exact Ret.val rfl (hBr.trans (hB9.mono hBr.size))
      have hoF : okF P S l f = true := by rw [HOF.out]; exact decide_eq_true hz
      have HMF : Hid (M = putF l f) := by
        obtain ⟨o1, o2, o3, o4⟩ := okF_parts hoF
        have := accF_of o1 o2 o3 o4
        rw [Hid, ← hM.out, HF.out, this]
      subst hz
      have hoF := Lib.hid hoF
      by_cases hy : eg = 0
      rotate_left
      · have y1 : (eg == 0) = false := by simpa using hy
        have y2 : (eg != 0) = true := by simpa using hy
        clear hy
        go_wp2_with (first
          | (go_at_call 10; refine (awake_any _).mono ?_; rintro e w9 ⟨rfl, hB9⟩)
          | fail)
        go_ret
        exact Ret.val rfl (hBr.trans (hB9.mono hBr.size))
      have hoG : okF P S l g = true := by rw [HOG.out]; exact decide_eq_true hy
      have HMG : Hid (N = putF l g) := by
        obtain ⟨o1, o2, o3, o4⟩ := okF_parts hoG
        have := accF_of o1 o2 o3 o4
        rw [Hid, ← hN.out, HG.out, this]
      subst hy
      have hoG := Lib.hid hoG
      by_cases hst : f.st = g.st
      · have y1 : (f.st == g.st) = true := by simpa using hst
        have HST := Lib.hid hst
        clear hst
        go_wp2_with (first
          | (go_at_call 10; refine (awake_any _).mono ?_; rintro e w9 ⟨rfl, hB9⟩)
          | fail)
        go_ret
        exact Ret.val rfl (hBr.trans (hB9.mono hBr.size))
      have y1 : (f.st == g.st) = false := by simpa using hst
      have HST := Lib.hid hst
      clear hst
      have HW1 := Lib.hid (fun (w' : World) => wordK_any f w')
      have HW2 := Lib.hid (fun (w' : World) => wordK_any g w')
      have tk1 : True := trivial
      have tk2 : True := trivial
      cases hwf : wordK f
      · rw [hwf] at HW1
        clear hwf
        go_wp2_with (first
          | (go_at_call 24; have := tk1; refine (HW1.out _).mono ?_; rintro e w6 ⟨rfl, hB6⟩; clear tk1
             have hB6' := hBr.trans (hB6.mono hBr.size))
          | (go_at_call 10; refine (awake_any _).mono ?_; rintro e w9 ⟨rfl, hB9⟩)
          | fail)
        go_ret
        exact Ret.val rfl (hB6'.trans (hB9.mono hB6'.size))
      rw [hwf] at HW1
      have HWF := Lib.hid hwf
      clear hwf
      cases hwg : wordK g
      · rw [hwg] at HW2
        clear hwg
        go_wp2_with (first
          | (go_at_call 24; have := tk1; refine (HW1.out _).mono ?_; rintro e w6 ⟨rfl, hB6⟩; clear tk1
             have hB6' := hBr.trans (hB6.mono hBr.size)
             have kC6 := kC4.below' hB6
             have c0 := kC6.cell 0 (.int .i64 P) rfl
             have c1 := kC6.cell 1 (.int .i64 S) rfl
             have c2 := kC6.cell 2 (.slice A l.length c) rfl
             have c3 := kC6.cell 3 (.int .i64 f.k) rfl
             have c4 := kC6.cell 4 (.int .i64 f.st) rfl
             have c5 := kC6.cell 5 (.int .i64 f.lt) rfl
             have c6 := kC6.cell 6 (.int .i64 f.wi) rfl
             have c7 := kC6.cell 7 (.int .i64 g.k) rfl
             have c8 := kC6.cell 8 (.int .i64 g.st) rfl
             have c9 := kC6.cell 9 (.int .i64 g.lt) rfl
             have c10 := kC6.cell 10 (.int .i64 g.wi) rfl)
          | (go_at_call 24; have := tk2; refine (HW2.out _).mono ?_; rintro e w7 ⟨rfl, hB7⟩; clear tk2
             have hB7' := hB6'.trans (hB7.mono hB6'.size))
          | (go_at_call 10; refine (awake_any _).mono ?_; rintro e w9 ⟨rfl, hB9⟩)
          | fail)
        go_ret
        exact Ret.val rfl (hB7'.trans (hB9.mono hB7'.size))
      rw [hwg] at HW2
      have HWG := Lib.hid hwg
      clear hwg
      obtain ⟨MM, hm1, hm2⟩ := put_either hoF.out hoG.out HWF.out HWG.out HST.out
      have hMMl : MM.length ≤ 100000 := by
        have h1 : MM.length ≤ (putF l f).length := by have := putR_len (p := P) (s := S) (l := putF l f) (f := g); rw [hm1] at this; exact this
        have h2 := putF_len l f
        omega
      have HQ1 := Lib.hid (fun (w' : World) (A' : Option Addr) (c' H' : Nat) (hr' : RdT w' H' A' M) (hH' : H' ≤ w'.heap.size) => fput_any P S A' M c' g w' H' hr' hH' (by rw [HMF.out]; exact put_words hok.out.w) (by omega))
      have HQ2 := Lib.hid (fun (w' : World) (A' : Option Addr) (c' H' : Nat) (hr' : RdT w' H' A' N) (hH' : H' ≤ w'.heap.size) => fput_any P S A' N c' f w' H' hr' hH' (by rw [HMG.out]; exact put_words hok.out.w) (by omega))
      unfold PutRet at HQ1 HQ2
      have hm1' : putR P S M g = (MM, 0) := by rw [HMF.out]; exact hm1
      have hm2' : putR P S N f = (MM, 0) := by rw [HMG.out]; exact hm2
      rw [hm1'] at HQ1
      rw [hm2'] at HQ2
      clear hm1 hm2 hm1' hm2'
      have tk3 : True := trivial
      go_wp2_with (first
        | (go_at_call 24; have := tk1; refine (HW1.out _).mono ?_; rintro e w6 ⟨rfl, hB6⟩; clear tk1
           have hB6' := hBr.trans (hB6.mono hBr.size)
           have kC6 := kC4.below' hB6
           have c0 := kC6.cell 0 (.int .i64 P) rfl
           have c1 := kC6.cell 1 (.int .i64 S) rfl
           have c2 := kC6.cell 2 (.slice A l.length c) rfl
           have c3 := kC6.cell 3 (.int .i64 f.k) rfl
           have c4 := kC6.cell 4 (.int .i64 f.st) rfl
           have c5 := kC6.cell 5 (.int .i64 f.lt) rfl
           have c6 := kC6.cell 6 (.int .i64 f.wi) rfl
           have c7 := kC6.cell 7 (.int .i64 g.k) rfl
           have c8 := kC6.cell 8 (.int .i64 g.st) rfl
           have c9 := kC6.cell 9 (.int .i64 g.lt) rfl
           have c10 := kC6.cell 10 (.int .i64 g.wi) rfl)
        | (go_at_call 24; have := tk2; refine (HW2.out _).mono ?_; rintro e w7 ⟨rfl, hB7⟩; clear tk2
           have hB7' := hB6'.trans (hB7.mono hB6'.size)
           have hB7s : Below w4.heap.size w4 w7 := hB.trans ((hB6.trans (hB7.mono hB6.size)).mono hB.size)
           have kC7 := kC6.below' hB7
           have c0 := kC7.cell 0 (.int .i64 P) rfl
           have c1 := kC7.cell 1 (.int .i64 S) rfl
           have c2 := kC7.cell 2 (.slice A l.length c) rfl
           have c3 := kC7.cell 3 (.int .i64 f.k) rfl
           have c4 := kC7.cell 4 (.int .i64 f.st) rfl
           have c5 := kC7.cell 5 (.int .i64 f.lt) rfl
           have c6 := kC7.cell 6 (.int .i64 f.wi) rfl
           have c7 := kC7.cell 7 (.int .i64 g.k) rfl
           have c8 := kC7.cell 8 (.int .i64 g.st) rfl
           have c9 := kC7.cell 9 (.int .i64 g.lt) rfl
           have c10 := kC7.cell 10 (.int .i64 g.wi) rfl)
        | (go_at_call 11; have := tk3; refine (HQ1.out w7 A2 c2' w4.heap.size (hr2'.below' hB7s (Nat.le_refl _)) hB7s.size).mono ?_; rintro e wa ⟨Aa, ca, rfl, hra, hBa⟩; clear tk3
           have hBa' := hB7'.trans (hBa.mono hB7'.size)
           have hBas := hB7s.trans (hBa.mono hB7s.size)
           have kCa := kC7.below' hBa
           have c0 := kCa.cell 0 (.int .i64 P) rfl
           have c1 := kCa.cell 1 (.int .i64 S) rfl
           have c2 := kCa.cell 2 (.slice A l.length c) rfl
           have c3 := kCa.cell 3 (.int .i64 f.k) rfl
           have c4 := kCa.cell 4 (.int .i64 f.st) rfl
           have c5 := kCa.cell 5 (.int .i64 f.lt) rfl
           have c6 := kCa.cell 6 (.int .i64 f.wi) rfl
           have c7 := kCa.cell 7 (.int .i64 g.k) rfl
           have c8 := kCa.cell 8 (.int .i64 g.st) rfl
           have c9 := kCa.cell 9 (.int .i64 g.lt) rfl
           have c10 := kCa.cell 10 (.int .i64 g.wi) rfl)
        | (go_at_call 11; refine (HQ2.out wa A3 c3' w4.heap.size (hr3.below' hBas (Nat.le_refl _)) hBas.size).mono ?_; rintro e wb ⟨Ab, cb, rfl, hrb, hBb⟩; clear HQ2
           have hBb' := hBa'.trans (hBb.mono hBa'.size)
           have hra' := (hra.below' hBb (Nat.le_refl _)).more hBb.size)
        | (go_at_call 13; refine (samesteps_eq Aa Ab MM _ _ _ _ hMMl hra' hrb (Nat.le_refl _)).mono ?_; rintro e wc ⟨rfl, hBc⟩
           have hBc' := hBb'.trans (hBc.mono hBb'.size))
        | (go_at_call 10; refine (awake_any _).mono ?_; rintro e w9 ⟨rfl, hB9⟩)
        | fail)
      go_ret
      exact Ret.val rfl (hBc'.trans (hB9.mono hBc'.size))
end Go.Proofs.Ytblifdchofihoaa
