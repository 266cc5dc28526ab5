/- torchonref25: accepted, Put. -/
import Derived.Test.YtblifdchofihoaaRef25c
import Derived.Test.YtblifdchofihoaaPut3
set_option linter.unusedSimpArgs false
set_option linter.unusedVariables false
namespace Go.Proofs.Ytblifdchofihoaa
open Go Go.RowKit Tor

theorem rput_any (A : Option Addr) (l : List Tri) (c : Nat) (f : Flt) (w : World) (H : Nat) (hr : RdT w H A l) (hH : H ≤ w.heap.size) (hl : l.length ≤ 2000) (hsh : shapedF f = true) (hfit : fitsF l f = true)
    (hw : ∀ x ∈ l, wordE x.s = 0) (hb : ∀ x ∈ l, 0 ≤ x.b ∧ x.b ≤ 100) (hlc : l.length ≤ c) :
    Calls Try.prog 65 #[.slice A l.length c, .agg #[.int .i64 f.k, .int .i64 f.st, .int .i64 f.lt, .int .i64 f.wi]] w (NewSteps w (putF l f)) := by
  have hst := fits_step hfit
  obtain ⟨k, st, lt, wi⟩ := f
  simp only at hst ⊢
  obtain ⟨n, rfl⟩ : ∃ n : Nat, st = n := ⟨st.toNat, by omega⟩
  rw [Int.toNat_natCast] at hst
  have hn := hst.2.1
  have hx : xAt l n = l[n] := xAt_of hn
  have hwn := hw _ (List.getElem_mem hn)
  have hbn := hb _ (List.getElem_mem hn)
  rw [← hx] at hwn hbn
  have h16 := wordE_size hwn
  have hk : 1 ≤ k ∧ k ≤ 6 := by
    unfold shapedF at hsh
    simp only at hsh
    apply Classical.byContradiction; intro h
    rw [if_neg (by omega), if_neg (by omega), if_neg (by omega), if_neg (by omega)] at hsh; cases hsh
  unfold shapedF at hsh
  unfold fitsF at hfit
  simp only [Int.toNat_natCast, Bool.and_eq_true] at hsh hfit
  rcases (show k = 1 ∨ k = 2 ∨ k = 3 ∨ k = 4 ∨ k = 5 ∨ k = 6 by omega) with rfl | rfl | rfl | rfl | rfl | rfl
  · rw [if_pos rfl] at hfit
    have hlt := of_decide_eq_true hfit.2
    obtain ⟨m, rfl⟩ : ∃ m : Nat, lt = m := ⟨lt.toNat, by omega⟩
    rw [putF_miss]
    exact put1_any A l c n m wi (by omega) w H hr hH hl hn (by omega)
  · rw [if_neg (by omega), if_neg (by omega), if_pos rfl, Bool.and_eq_true] at hfit
    have hlt := of_decide_eq_true hfit.2.2
    obtain ⟨m, rfl⟩ : ∃ m : Nat, lt = m := ⟨lt.toNat, by omega⟩
    rw [putF_extra]
    rw [if_neg (by omega), if_pos rfl] at hsh
    exact put2_any A l c n m wi (by omega) (of_decide_eq_true hsh) w H hr hH hl hn (by omega)
  · rw [if_neg (by omega), if_pos rfl, Bool.and_eq_true] at hfit
    have hlt := of_decide_eq_true hfit.2.1
    obtain ⟨m, rfl⟩ : ∃ m : Nat, lt = m := ⟨lt.toNat, by omega⟩
    rw [putF_turn]
    have hm : m < (xAt l n).s.size := by omega
    refine put3_any A l c n m wi hm ?_ w H hr hH hl hn (by omega)
    rw [byteAt_nat _ hm]
    have := List.all_eq_true.1 (wordE_letters hwn).2 (xAt l n).s[m] (by rw [← bgetL _ m hm]; exact List.getElem_mem _)
    exact this
  · rw [putF_skip]
    exact put4_any A l c n lt wi hlc w H hr hH hl hn (by omega)
  · rw [putF_place]
    rw [if_neg (by omega), if_neg (by omega), if_neg (by omega), if_pos rfl] at hsh
    have hwi := of_decide_eq_true hsh
    exact put5_any A l c n lt wi (IntWalk.i64_in _ (by omega)) w H hr hH hl hn (by omega)
  · rw [if_neg (by omega), if_neg (by omega), if_neg (by omega), if_pos rfl] at hfit
    have hfit := hfit.2
    unfold workF at hfit
    simp only [Bool.and_eq_true, decide_eq_true_eq] at hfit
    rw [putF_swap]
    exact put6_any A l c n lt wi (by omega) w H hr hH hl hn (by omega)

theorem putF_step {l : List Tri} {f : Flt} (hk : f.k = 2) (hfit : fitsF l f = true) : ∃ h : f.st.toNat < (putF l f).length, (putF l f)[f.st.toNat].s.size = (xAt l f.st.toNat).s.size + 1 := by
  have hst := fits_step hfit
  obtain ⟨k, st, lt, wi⟩ := f
  simp only at hst hk ⊢
  subst hk
  obtain ⟨n, rfl⟩ : ∃ n : Nat, st = n := ⟨st.toNat, by omega⟩
  rw [Int.toNat_natCast] at hst ⊢
  unfold fitsF at hfit
  simp only [Int.toNat_natCast, Bool.and_eq_true] at hfit
  rw [if_neg (by omega), if_neg (by omega), if_pos trivial, Bool.and_eq_true] at hfit
  have hlt := of_decide_eq_true hfit.2.2
  obtain ⟨m, rfl⟩ : ∃ m : Nat, lt = m := ⟨lt.toNat, by omega⟩
  have e1 : ((xAt l n).s.extract 0 m).size = m := by rw [ByteArray.size_extract]; omega
  have e2 : ((xAt l n).s.extract (m + 0) (xAt l n).s.size).size = (xAt l n).s.size - m := by rw [ByteArray.size_extract]; omega
  refine ⟨by rw [putF_extra]; unfold setW; simpa using hst.2.1, ?_⟩
  simp only [putF_extra, setW, List.getElem_set_self]
  unfold cutW
  rw [ByteArray.size_append, ByteArray.size_append, e1, e2]
  show m + 1 + ((xAt l n).s.size - m) = _
  omega

set_option maxRecDepth 100000 in
set_option maxHeartbeats 4000000 in
theorem racc_any (p s : Int) (A : Option Addr) (l : List Tri) (c : Nat) (f : Flt) (w : World) (H : Nat) (hr : RdT w H A l) (hH : H ≤ w.heap.size) (hok : InsOk p s l) (hlc : l.length ≤ c) :
    Calls Try.prog 29 #[.int .i64 p, .int .i64 s, .slice A l.length c, .agg #[.int .i64 f.k, .int .i64 f.st, .int .i64 f.lt, .int .i64 f.wi]] w (PutRet w (accF p s l f).1 (accF p s l f).2) := by
  have hl1 := hok.len
  have hwm : ∀ x ∈ l, wordE x.s = 0 := fun x hx => by obtain ⟨k, hk, rfl⟩ := List.getElem_of_mem hx; exact hok.w k hk
  have hw16 : ∀ x ∈ l, x.s.size ≤ 16 := fun x hx => wordE_size (hwm x hx)
  have hbm : ∀ x ∈ l, 0 ≤ x.b ∧ x.b ≤ 100 := fun x hx => by obtain ⟨k, hk, rfl⟩ := List.getElem_of_mem hx; have := hok.b k hk; have := hok.p24; omega
  have hBB : Below w.heap.size w (w.alloc (.cells #[.int .i64 f.k, .int .i64 f.st, .int .i64 f.lt, .int .i64 f.wi] 24)) := by (repeat' first | exact Below.refl _ _ | apply Below.drew | (refine Below.setCells ?_ _ _ ?_) | (refine Below.setCell ?_ ?_ _) | (refine Below.alloc ?_ ?_ _) | (simp; done) | (simp; omega))
  have kF := Blk.new w 24 #[.int .i64 f.k, .int .i64 f.st, .int .i64 f.lt, .int .i64 f.wi]
  have HSH := Lib.hid (fun (w' : World) => shaped_any25 f w')
  have HFT := Lib.hid (fun (w' : World) (hB : Below w.heap.size w w') => fits_any25 A l c f w' H (hr.below' hB hH) (Nat.le_trans hH hB.size) (by omega) (fun k hk => by have := hw16 _ (List.getElem_mem hk); omega))
  cases hsh : shapedF f
  · have hA : Hid (accF p s l f = ([], 2)) := by unfold accF; rw [if_pos hsh]; exact Lib.hid rfl
    rw [hA.out]
    rw [hsh] at HSH
    clear hsh hA
    go_enter Try.func29, Try.ntmps29
    go_wp2_with (first | (go_at_call 47; refine (HSH.out _).mono ?_; rintro e w1 ⟨rfl, hB1⟩) | fail)
    go_ret2
    exact PutRet.nil (hBB.trans (hB1.mono hBB.size))
  rw [hsh] at HSH
  cases hfit : fitsF l f
  · have hA : Hid (accF p s l f = ([], 4)) := by unfold accF; rw [if_neg (by simp [hsh]), if_pos hfit]; exact Lib.hid rfl
    rw [hA.out]
    rw [hfit] at HFT
    clear hsh hA hfit
    go_enter Try.func29, Try.ntmps29
    go_wp2_with (first
      | (go_at_call 47; refine (HSH.out _).mono ?_; rintro e w1 ⟨rfl, hB1⟩
         have hB2 := hBB.trans (hB1.mono hBB.size)
         have kF1 := kF.below' hB1
         have p0 := kF1.cell 0 (.int .i64 f.k) rfl
         have p1 := kF1.cell 1 (.int .i64 f.st) rfl
         have p2 := kF1.cell 2 (.int .i64 f.lt) rfl
         have p3 := kF1.cell 3 (.int .i64 f.wi) rfl)
      | (go_at_call 48; refine (HFT.out _ hB2).mono ?_; rintro e w3 ⟨rfl, hB3⟩)
      | fail)
    go_ret2
    exact PutRet.nil (hB2.trans (hB3.mono hB2.size))
  rw [hfit] at HFT
  have HPT := Lib.hid (fun (w' : World) (hB : Below w.heap.size w w') => rput_any A l c f w' H (hr.below' hB hH) (Nat.le_trans hH hB.size) (by omega) hsh hfit hwm hbm hlc)
  have hpw := putF_words (f := f) hw16
  have hpl := putF_len l f
  have HRS := Lib.hid (fun (A' : Option Addr) (c' : Nat) (w' : World) (H' : Nat) (hr' : RdT w' H' A' (putF l f)) (hH' : H' ≤ w'.heap.size) => rsheet_any p s A' (putF l f) c' w' H' hr' hH' (fun k hk => by have := hpw _ (List.getElem_mem hk); omega) (by omega))
  unfold SheetPost at HRS
  unfold NewSteps at HPT
  obtain ⟨E, hE⟩ : ∃ E, Hid ((sheetR p s (putF l f)).2.2.2 = E) := ⟨_, Lib.hid rfl⟩
  have hst := fits_step hfit
  obtain ⟨n, hn⟩ : ∃ n : Nat, f.st = n := ⟨f.st.toNat, by omega⟩
  have harm : True := trivial
  by_cases hk2 : f.k = 2
  · obtain ⟨hq1, hq2⟩ := putF_step hk2 hfit
    by_cases h16 : (xAt l f.st.toNat).s.size = 16
    · have hA : Hid (accF p s l f = ([], 3)) := by unfold accF; rw [if_neg (by simp [hsh]), if_neg (by simp [hfit]), if_pos ⟨hk2, h16⟩]; exact Lib.hid rfl
      rw [hA.out]
      have b2 : (f.k == 2) = true := by simpa using hk2
      rw [hn, Int.toNat_natCast] at hq1
      simp only [hn, Int.toNat_natCast] at hq2 h16
      have hq3 : (16 : Int) < ((putF l f)[n].s.size : Int) := by omega
      have hq4 : (n : Int) < ((putF l f).length : Int) := by omega
      rw [hn] at HSH HFT HPT kF hBB ⊢
      clear hsh hA hfit hk2 h16 hq2 hst hn
      generalize putF l f = L at *
      go_enter Try.func29, Try.ntmps29
      go_wp2_with (first
        | (go_at_call 47; refine (HSH.out _).mono ?_; rintro e w1 ⟨rfl, hB1⟩
           have hB2 := hBB.trans (hB1.mono hBB.size)
           have kF1 := kF.below' hB1
           have p0 := kF1.cell 0 (.int .i64 f.k) rfl
           have p1 := kF1.cell 1 (.int .i64 n) rfl
           have p2 := kF1.cell 2 (.int .i64 f.lt) rfl
           have p3 := kF1.cell 3 (.int .i64 f.wi) rfl)
        | (go_at_call 48; refine (HFT.out _ hB2).mono ?_; rintro e w3 ⟨rfl, hB3⟩
           have hB4 := hB2.trans (hB3.mono hB2.size)
           have kF3 := kF1.below' hB3
           have p0 := kF3.cell 0 (.int .i64 f.k) rfl
           have p1 := kF3.cell 1 (.int .i64 n) rfl
           have p2 := kF3.cell 2 (.int .i64 f.lt) rfl
           have p3 := kF3.cell 3 (.int .i64 f.wi) rfl)
        | (go_at_call 65; refine (HPT.out _ hB4).mono ?_; rintro e w5 ⟨A5, c5, rfl, hr5, hB5⟩
           have hB6 := hB4.trans (hB5.mono hB4.size)
           have kF5 := kF3.below' hB5
           have p0 := kF5.cell 0 (.int .i64 f.k) rfl
           have p1 := kF5.cell 1 (.int .i64 n) rfl
           obtain ⟨b5, o5, rfl, hb5, g0, g1, g2⟩ := hr5.tri hq1)
        | fail)
      go_ret2
      exact PutRet.nil hB6
    · have hA1 : accF p s l f = (if (sheetR p s (putF l f)).2.2.2 ≠ 0 then ([], 9) else (putF l f, 0)) := by unfold accF; rw [if_neg (by simp [hsh]), if_neg (by simp [hfit]), if_neg (by simp [h16])]
      have hm := hw16 (xAt l f.st.toNat) (by rw [xAt_of hst.2.1]; exact List.getElem_mem _)
      have b2 : (f.k == 2) = true := by simpa using hk2
      rw [hn, Int.toNat_natCast] at hq1
      simp only [hn, Int.toNat_natCast] at hq2 h16 hm
      have hq3 : ¬ (16 : Int) < ((putF l f)[n].s.size : Int) := by omega
      have hq4 : (n : Int) < ((putF l f).length : Int) := by omega
      rw [hE.out] at hA1
      have hA := Lib.hid hA1
      rw [hA.out]
      rw [hE.out] at HRS
      rw [hn] at HSH HFT HPT kF hBB ⊢
      clear hsh hA1 hA hfit hk2 h16 hq2 hst hn hm hE
      generalize (sheetR p s (putF l f)).1 = x1 at *
      generalize (sheetR p s (putF l f)).2.1 = x2 at *
      generalize (sheetR p s (putF l f)).2.2.1 = x3 at *
      generalize putF l f = L at *
      by_cases hz : E = 0
      · rw [if_neg (by simpa using hz)]
        have y1 : (E == 0) = true := by simpa using hz
        have y2 : (E != 0) = false := by simpa using hz
        clear hz
        go_enter Try.func29, Try.ntmps29
        go_wp2_with (first
          | (go_at_call 47; refine (HSH.out _).mono ?_; rintro e w1 ⟨rfl, hB1⟩
             have hB2 := hBB.trans (hB1.mono hBB.size)
             have kF1 := kF.below' hB1
             have p0 := kF1.cell 0 (.int .i64 f.k) rfl
             have p1 := kF1.cell 1 (.int .i64 n) rfl
             have p2 := kF1.cell 2 (.int .i64 f.lt) rfl
             have p3 := kF1.cell 3 (.int .i64 f.wi) rfl)
          | (go_at_call 48; refine (HFT.out _ hB2).mono ?_; rintro e w3 ⟨rfl, hB3⟩
             have hB4 := hB2.trans (hB3.mono hB2.size)
             have kF3 := kF1.below' hB3
             have p0 := kF3.cell 0 (.int .i64 f.k) rfl
             have p1 := kF3.cell 1 (.int .i64 n) rfl
             have p2 := kF3.cell 2 (.int .i64 f.lt) rfl
             have p3 := kF3.cell 3 (.int .i64 f.wi) rfl)
          | (go_at_call 65; refine (HPT.out _ hB4).mono ?_; rintro e w5 ⟨A5, c5, rfl, hr5, hB5⟩
             have hB6 := hB4.trans (hB5.mono hB4.size)
             have kF5 := kF3.below' hB5
             have p0 := kF5.cell 0 (.int .i64 f.k) rfl
             have p1 := kF5.cell 1 (.int .i64 n) rfl
             obtain ⟨b5, o5, rfl, hb5, g0, g1, g2⟩ := hr5.tri hq1)
          | (go_at_call 15; refine (HRS.out _ c5 _ _ hr5 (Nat.le_refl _)).mono ?_; rintro e w7 ⟨v7, rfl, hown7, hB7⟩
             obtain ⟨A7, c7, rfl, _, _⟩ := Own.rd tri_len hown7)
          | fail)
        go_ret2
        have hB8 := hB6.trans (hB7.mono hB6.size)
        have hR8 := (hr5.below' hB7 (Nat.le_refl _))
        have hB9 := (Below.refl w7.heap.size w7).alloc (Nat.le_refl _) (.cells #[.int .i64 x1, .slice A7 x2.length c7] 38)
        exact ⟨_, c5, rfl, ((hR8.more hB7.size).below' hB9 (Nat.le_refl _)).more hB9.size, hB8.alloc hB8.size _⟩
      · rw [if_pos hz]
        have y1 : (E == 0) = false := by simpa using hz
        have y2 : (E != 0) = true := by simpa using hz
        clear hz
        go_enter Try.func29, Try.ntmps29
        go_wp2_with (first
          | (go_at_call 47; refine (HSH.out _).mono ?_; rintro e w1 ⟨rfl, hB1⟩
             have hB2 := hBB.trans (hB1.mono hBB.size)
             have kF1 := kF.below' hB1
             have p0 := kF1.cell 0 (.int .i64 f.k) rfl
             have p1 := kF1.cell 1 (.int .i64 n) rfl
             have p2 := kF1.cell 2 (.int .i64 f.lt) rfl
             have p3 := kF1.cell 3 (.int .i64 f.wi) rfl)
          | (go_at_call 48; refine (HFT.out _ hB2).mono ?_; rintro e w3 ⟨rfl, hB3⟩
             have hB4 := hB2.trans (hB3.mono hB2.size)
             have kF3 := kF1.below' hB3
             have p0 := kF3.cell 0 (.int .i64 f.k) rfl
             have p1 := kF3.cell 1 (.int .i64 n) rfl
             have p2 := kF3.cell 2 (.int .i64 f.lt) rfl
             have p3 := kF3.cell 3 (.int .i64 f.wi) rfl)
          | (go_at_call 65; refine (HPT.out _ hB4).mono ?_; rintro e w5 ⟨A5, c5, rfl, hr5, hB5⟩
             have hB6 := hB4.trans (hB5.mono hB4.size)
             have kF5 := kF3.below' hB5
             have p0 := kF5.cell 0 (.int .i64 f.k) rfl
             have p1 := kF5.cell 1 (.int .i64 n) rfl
             obtain ⟨b5, o5, rfl, hb5, g0, g1, g2⟩ := hr5.tri hq1)
          | (go_at_call 15; refine (HRS.out _ c5 _ _ hr5 (Nat.le_refl _)).mono ?_; rintro e w7 ⟨v7, rfl, hown7, hB7⟩
             obtain ⟨A7, c7, rfl, _, _⟩ := Own.rd tri_len hown7)
          | fail)
        go_ret2
        have hB8 := hB6.trans (hB7.mono hB6.size)
        exact PutRet.nil (hB8.alloc hB8.size _)
  · have hA1 : accF p s l f = (if (sheetR p s (putF l f)).2.2.2 ≠ 0 then ([], 9) else (putF l f, 0)) := by unfold accF; rw [if_neg (by simp [hsh]), if_neg (by simp [hfit]), if_neg (by simp [hk2])]
    have b2 : (f.k == 2) = false := by simpa using hk2
    rw [hE.out] at hA1
    have hA := Lib.hid hA1
    rw [hA.out]
    rw [hE.out] at HRS
    clear hsh hA1 hA hfit hk2 hst hn hE
    generalize (sheetR p s (putF l f)).1 = x1 at *
    generalize (sheetR p s (putF l f)).2.1 = x2 at *
    generalize (sheetR p s (putF l f)).2.2.1 = x3 at *
    generalize putF l f = L at *
    by_cases hz : E = 0
    · rw [if_neg (by simpa using hz)]
      have y1 : (E == 0) = true := by simpa using hz
      have y2 : (E != 0) = false := by simpa using hz
      clear hz
      go_enter Try.func29, Try.ntmps29
      go_wp2_with (first
        | (go_at_call 47; refine (HSH.out _).mono ?_; rintro e w1 ⟨rfl, hB1⟩
           have hB2 := hBB.trans (hB1.mono hBB.size)
           have kF1 := kF.below' hB1
           have p0 := kF1.cell 0 (.int .i64 f.k) rfl
           have p1 := kF1.cell 1 (.int .i64 f.st) rfl
           have p2 := kF1.cell 2 (.int .i64 f.lt) rfl
           have p3 := kF1.cell 3 (.int .i64 f.wi) rfl)
        | (go_at_call 48; refine (HFT.out _ hB2).mono ?_; rintro e w3 ⟨rfl, hB3⟩
           have hB4 := hB2.trans (hB3.mono hB2.size)
           have kF3 := kF1.below' hB3
           have p0 := kF3.cell 0 (.int .i64 f.k) rfl
           have p1 := kF3.cell 1 (.int .i64 f.st) rfl
           have p2 := kF3.cell 2 (.int .i64 f.lt) rfl
           have p3 := kF3.cell 3 (.int .i64 f.wi) rfl)
        | (go_at_call 65; refine (HPT.out _ hB4).mono ?_; rintro e w5 ⟨A5, c5, rfl, hr5, hB5⟩
           have hB6 := hB4.trans (hB5.mono hB4.size)
           have kF5 := kF3.below' hB5
           have p0 := kF5.cell 0 (.int .i64 f.k) rfl)
        | (go_at_call 15; refine (HRS.out _ c5 _ _ hr5 (Nat.le_refl _)).mono ?_; rintro e w7 ⟨v7, rfl, hown7, hB7⟩
           obtain ⟨A7, c7, rfl, _, _⟩ := Own.rd tri_len hown7)
        | fail)
      go_ret2
      have hB8 := hB6.trans (hB7.mono hB6.size)
      have hR8 := (hr5.below' hB7 (Nat.le_refl _))
      have hB9 := (Below.refl w7.heap.size w7).alloc (Nat.le_refl _) (.cells #[.int .i64 x1, .slice A7 x2.length c7] 38)
      exact ⟨_, c5, rfl, ((hR8.more hB7.size).below' hB9 (Nat.le_refl _)).more hB9.size, hB8.alloc hB8.size _⟩
    · rw [if_pos hz]
      have y1 : (E == 0) = false := by simpa using hz
      have y2 : (E != 0) = true := by simpa using hz
      clear hz
      go_enter Try.func29, Try.ntmps29
      go_wp2_with (first
        | (go_at_call 47; refine (HSH.out _).mono ?_; rintro e w1 ⟨rfl, hB1⟩
           have hB2 := hBB.trans (hB1.mono hBB.size)
           have kF1 := kF.below' hB1
           have p0 := kF1.cell 0 (.int .i64 f.k) rfl
           have p1 := kF1.cell 1 (.int .i64 f.st) rfl
           have p2 := kF1.cell 2 (.int .i64 f.lt) rfl
           have p3 := kF1.cell 3 (.int .i64 f.wi) rfl)
        | (go_at_call 48; refine (HFT.out _ hB2).mono ?_; rintro e w3 ⟨rfl, hB3⟩
           have hB4 := hB2.trans (hB3.mono hB2.size)
           have kF3 := kF1.below' hB3
           have p0 := kF3.cell 0 (.int .i64 f.k) rfl
           have p1 := kF3.cell 1 (.int .i64 f.st) rfl
           have p2 := kF3.cell 2 (.int .i64 f.lt) rfl
           have p3 := kF3.cell 3 (.int .i64 f.wi) rfl)
        | (go_at_call 65; refine (HPT.out _ hB4).mono ?_; rintro e w5 ⟨A5, c5, rfl, hr5, hB5⟩
           have hB6 := hB4.trans (hB5.mono hB4.size)
           have kF5 := kF3.below' hB5
           have p0 := kF5.cell 0 (.int .i64 f.k) rfl)
        | (go_at_call 15; refine (HRS.out _ c5 _ _ hr5 (Nat.le_refl _)).mono ?_; rintro e w7 ⟨v7, rfl, hown7, hB7⟩
           obtain ⟨A7, c7, rfl, _, _⟩ := Own.rd tri_len hown7)
        | fail)
      go_ret2
      have hB8 := hB6.trans (hB7.mono hB6.size)
      exact PutRet.nil (hB8.alloc hB8.size _)

set_option maxRecDepth 100000 in
set_option maxHeartbeats 4000000 in
theorem rPut_any (p s : Int) (A : Option Addr) (l : List Tri) (c : Nat) (f : Flt) (w : World) (H : Nat) (hr : RdT w H A l) (hH : H ≤ w.heap.size)
    (hw : ∀ (k : Nat) (hk : k < l.length), l[k].s.size ≤ 9223372036854775807) (hl : l.length ≤ 100000) (hlc : l.length ≤ c) :
    Calls Try.prog 12 #[.int .i64 p, .int .i64 s, .slice A l.length c, .agg #[.int .i64 f.k, .int .i64 f.st, .int .i64 f.lt, .int .i64 f.wi]] w (PutRet w (putR p s l f).1 (putR p s l f).2) := by
  have hBB : Below w.heap.size w (w.alloc (.cells #[.int .i64 f.k, .int .i64 f.st, .int .i64 f.lt, .int .i64 f.wi] 24)) := by (repeat' first | exact Below.refl _ _ | apply Below.drew | (refine Below.setCells ?_ _ _ ?_) | (refine Below.setCell ?_ ?_ _) | (refine Below.alloc ?_ ?_ _) | (simp; done) | (simp; omega))
  have kF := Blk.new w 24 #[.int .i64 f.k, .int .i64 f.st, .int .i64 f.lt, .int .i64 f.wi]
  have fl := kF.lt
  have HC := Lib.hid (rsheet_any p s A l c _ H (hr.below' hBB hH) (Nat.le_trans hH hBB.size) hw hl)
  unfold SheetPost at HC
  by_cases hz : (sheetR p s l).2.2.2 = 0
  rotate_left
  · have hA : Hid (putR p s l f = ([], (sheetR p s l).2.2.2)) := by unfold putR; rw [if_pos hz]; exact Lib.hid rfl
    rw [hA.out]
    obtain ⟨e, he⟩ : ∃ e, Hid ((sheetR p s l).2.2.2 = e) := ⟨_, Lib.hid rfl⟩
    rw [he.out] at HC hz ⊢
    clear hA
    generalize (sheetR p s l).1 = x1 at *
    generalize (sheetR p s l).2.1 = x2 at *
    generalize (sheetR p s l).2.2.1 = x3 at *
    have y1 : (e == 0) = false := by simpa using hz
    have y2 : (e != 0) = true := by simpa using hz
    clear hz he
    go_enter Try.func12, Try.ntmps12
    go_wp2_with (first | (go_at_call 15; refine HC.out.mono ?_; rintro e w1 ⟨v1, rfl, hown1, hB1⟩
                          obtain ⟨A1, c1, rfl, _, _⟩ := Own.rd tri_len hown1) | fail)
    go_ret2
    exact PutRet.nil ((hBB.trans (hB1.mono hBB.size)).alloc (hBB.trans (hB1.mono hBB.size)).size _)
  · have hA : Hid (putR p s l f = accF p s l f) := by unfold putR; rw [if_neg (by simpa using hz)]; exact Lib.hid rfl
    have hok := Lib.hid (ins_ok hz)
    rw [hA.out]
    rw [hz] at HC
    clear hA hz
    obtain ⟨L, hL⟩ : ∃ L, Hid (accF p s l f = L) := ⟨_, Lib.hid rfl⟩
    have HP := Lib.hid (fun (w' : World) (hB : Below w.heap.size w w') => racc_any p s A l c f w' H (hr.below' hB hH) (Nat.le_trans hH hB.size) hok.out hlc)
    rw [hL.out] at HP ⊢
    unfold PutRet at HP
    generalize (sheetR p s l).1 = x1 at *
    generalize (sheetR p s l).2.1 = x2 at *
    generalize (sheetR p s l).2.2.1 = x3 at *
    go_enter Try.func12, Try.ntmps12
    go_wp2_with (first
      | (go_at_call 15; refine HC.out.mono ?_; rintro e w1 ⟨v1, rfl, hown1, hB1⟩
         obtain ⟨A1, c1, rfl, _, _⟩ := Own.rd tri_len hown1
         have hB2 := hBB.trans (hB1.mono hBB.size)
         have hB3 := hB2.alloc hB2.size (.cells #[.int .i64 x1, .slice A1 x2.length c1] 38)
         have kF1 := (kF.below' hB1).alloc (.cells #[.int .i64 x1, .slice A1 x2.length c1] 38)
         have p0 := kF1.cell 0 (.int .i64 f.k) rfl
         have p1 := kF1.cell 1 (.int .i64 f.st) rfl
         have p2 := kF1.cell 2 (.int .i64 f.lt) rfl
         have p3 := kF1.cell 3 (.int .i64 f.wi) rfl)
      | (go_at_call 29; refine (HP.out _ hB3).mono ?_; rintro e w5 ⟨A5, c5, rfl, hr5, hB5⟩)
      | fail)
    go_ret2
    exact ⟨A5, c5, rfl, hr5, hB3.trans (hB5.mono hB3.size)⟩
end Go.Proofs.Ytblifdchofihoaa
