/- faults: Seen, Same. -/
import Derived.Test.YtblifdchofihoaaGreatDoorSeen
set_option linter.unusedSimpArgs false
set_option linter.unusedVariables false
namespace Go.Proofs.YtblifdchofihoaaGreatDoor
open Go Go.RowKit Tor

/-- a put that is accepted -/
structure PutOk (p s : Int) (l : List Tri) (f : Flt) : Prop where
  ok : (sheetR p s l).2.2.2 = 0
  sh : shapedF f = true
  fit : fitsF l f = true
  full : ¬ (f.k = 2 ∧ (xAt l f.st.toNat).s.size = 16)
  ok2 : (sheetR p s (putF l f)).2.2.2 = 0
  val : putR p s l f = (putF l f, 0)
theorem put_ok {p s : Int} {l : List Tri} {f : Flt} (h : (putR p s l f).2 = 0) : PutOk p s l f := by
  have h0 := h
  unfold putR at h
  split at h
  · rename_i h1; exact absurd h h1
  · rename_i h1
    unfold accF at h
    split at h
    · cases h
    · split at h
      · cases h
      · split at h
        · cases h
        · split at h
          · cases h
          · rename_i a1 a2 a3 a4
            refine ⟨by simpa using h1, by simpa using a1, by simpa using a2, a3, by simpa using a4, ?_⟩
            unfold putR accF
            rw [if_neg h1, if_neg a1, if_neg a2, if_neg a3, if_neg a4]
theorem ok_len {p s : Int} {l : List Tri} (h : (sheetR p s l).2.2.2 = 0) (hl : l.length ≤ 400 ∨ 1000 < l.length) : l.length ≤ 400 := by
  have := (ins_ok h).len; omega

set_option maxRecDepth 100000 in
set_option maxHeartbeats 4000000 in
theorem fseen_any (p s : Int) (A : Option Addr) (l : List Tri) (c : Nat) (f : Flt) (w : World) (H : Nat) (hr : RdT w H A l) (hH : H ≤ w.heap.size)
    (hw : ∀ (k : Nat) (hk : k < l.length), l[k].s.size ≤ 9223372036854775807) (hl : l.length ≤ 100000) (hl4 : l.length ≤ 400 ∨ 1000 < l.length) :
    Calls Tryz.prog 13 #[.int .i64 p, .int .i64 s, .slice A l.length c, .agg #[.int .i64 f.k, .int .i64 f.st, .int .i64 f.lt, .int .i64 f.wi]] w (Ret (.tuple #[.bool (seenR p s l f).1, .int .i64 (seenR p s l f).2]) w) := by
  have hBB : Below w.heap.size w (w.alloc (.cells #[.int .i64 f.k, .int .i64 f.st, .int .i64 f.lt, .int .i64 f.wi] 23)) := by (repeat' first | exact Below.refl _ _ | apply Below.drew | (refine Below.setCells ?_ _ _ ?_) | (refine Below.setCell ?_ ?_ _) | (refine Below.alloc ?_ ?_ _) | (simp; done) | (simp; omega))
  have HP := Lib.hid (fput_any p s A l c f _ H (hr.below' hBB hH) (Nat.le_trans hH hBB.size) hw hl)
  have kF := Blk.new w 23 #[.int .i64 f.k, .int .i64 f.st, .int .i64 f.lt, .int .i64 f.wi]
  have p0 := kF.cell 0 (.int .i64 f.k) rfl
  have p1 := kF.cell 1 (.int .i64 f.st) rfl
  have p2 := kF.cell 2 (.int .i64 f.lt) rfl
  have p3 := kF.cell 3 (.int .i64 f.wi) rfl
  unfold PutRet at HP
  by_cases hz : (putR p s l f).2 = 0
  rotate_left
  · have hA : Hid (seenR p s l f = (false, (putR p s l f).2)) := by unfold seenR; rw [if_pos hz]; exact Lib.hid rfl
    rw [hA.out]
    clear hA
    generalize (putR p s l f).1 = L at *
    generalize (putR p s l f).2 = e at *
    have y1 : (e == 0) = false := by simpa using hz
    have y2 : (e != 0) = true := by simpa using hz
    clear hz
    go_enter Tryz.func13, Tryz.ntmps13
    go_wp2_with (first | (go_at_call 10; refine HP.out.mono ?_; rintro e w1 ⟨A1, c1, rfl, hr1, hB1⟩) | fail)
    go_ret2
    exact Ret.val rfl (hBB.trans (hB1.mono hBB.size))
  · have hok := put_ok hz
    have hA : Hid (seenR p s l f = (!alikeR p s l (putF l f), 0)) := by unfold seenR; rw [if_neg (by simpa using hz), hok.val]; exact Lib.hid rfl
    rw [hA.out]
    rw [hok.val] at HP
    have hl2 := putF_len l f
    have HK := Lib.hid (fun (w' : World) (B : Option Addr) (d H' : Nat) (hr1 : RdT w' H' A l) (hr2 : RdT w' H' B (putF l f)) (hH' : H' ≤ w'.heap.size) =>
      alike_any p s A B l (putF l f) c d w' H' hr1 hr2 hH' hok.ok hok.ok2 (ok_len hok.ok hl4) (Nat.le_trans hl2 (ok_len hok.ok hl4)))
    clear hA hz hok
    generalize putF l f = L at *
    generalize alikeR p s l L = T at *
    go_enter Tryz.func13, Tryz.ntmps13
    go_wp2_with (first
      | (go_at_call 10; refine HP.out.mono ?_; rintro e w1 ⟨A1, c1, rfl, hr1, hB1⟩
         have hB2 := hBB.trans (hB1.mono hBB.size)
         have hrl := (hr.below' hB2 hH).more (Nat.le_trans hH hB2.size))
      | (go_at_call 28; refine (HK.out _ A1 c1 _ hrl hr1 (Nat.le_refl _)).mono ?_; rintro e w3 ⟨rfl, hB3⟩)
      | fail)
    go_ret2
    exact Ret.val rfl (hB2.trans (hB3.mono hB2.size))

set_option maxRecDepth 100000 in
set_option maxHeartbeats 4000000 in
theorem fsame_any (p s : Int) (A : Option Addr) (l : List Tri) (c : Nat) (f g : Flt) (w : World) (H : Nat) (hr : RdT w H A l) (hH : H ≤ w.heap.size)
    (hw : ∀ (k : Nat) (hk : k < l.length), l[k].s.size ≤ 9223372036854775807) (hl : l.length ≤ 100000) (hl4 : l.length ≤ 400 ∨ 1000 < l.length) :
    Calls Tryz.prog 12 #[.int .i64 p, .int .i64 s, .slice A l.length c, .agg #[.int .i64 f.k, .int .i64 f.st, .int .i64 f.lt, .int .i64 f.wi], .agg #[.int .i64 g.k, .int .i64 g.st, .int .i64 g.lt, .int .i64 g.wi]] w (Ret (.tuple #[.bool (sameR p s l f g).1, .int .i64 (sameR p s l f g).2]) w) := by
  have hBB : Below w.heap.size w ((w.alloc (.cells #[.int .i64 f.k, .int .i64 f.st, .int .i64 f.lt, .int .i64 f.wi] 23)).alloc (.cells #[.int .i64 g.k, .int .i64 g.st, .int .i64 g.lt, .int .i64 g.wi] 23)) := by (repeat' first | exact Below.refl _ _ | apply Below.drew | (refine Below.setCells ?_ _ _ ?_) | (refine Below.setCell ?_ ?_ _) | (refine Below.alloc ?_ ?_ _) | (simp; done) | (simp; omega))
  have kF := (Blk.new w 23 #[.int .i64 f.k, .int .i64 f.st, .int .i64 f.lt, .int .i64 f.wi]).alloc (.cells #[.int .i64 g.k, .int .i64 g.st, .int .i64 g.lt, .int .i64 g.wi] 23)
  have kG := Blk.new (w.alloc (.cells #[.int .i64 f.k, .int .i64 f.st, .int .i64 f.lt, .int .i64 f.wi] 23)) 23 #[.int .i64 g.k, .int .i64 g.st, .int .i64 g.lt, .int .i64 g.wi]
  rw [World.size_alloc] at kG
  have HP := Lib.hid (fput_any p s A l c f _ H (hr.below' hBB hH) (Nat.le_trans hH hBB.size) hw hl)
  have HG := Lib.hid (fun (w' : World) (hB : Below w.heap.size w w') => fput_any p s A l c g w' H (hr.below' hB hH) (Nat.le_trans hH hB.size) hw hl)
  have p0 := kF.cell 0 (.int .i64 f.k) rfl
  have p1 := kF.cell 1 (.int .i64 f.st) rfl
  have p2 := kF.cell 2 (.int .i64 f.lt) rfl
  have p3 := kF.cell 3 (.int .i64 f.wi) rfl
  unfold PutRet at HP HG
  obtain ⟨e1, he1⟩ : ∃ e, Hid ((putR p s l f).2 = e) := ⟨_, Lib.hid rfl⟩
  obtain ⟨e2, he2⟩ : ∃ e, Hid ((putR p s l g).2 = e) := ⟨_, Lib.hid rfl⟩
  by_cases hz : orE e1 e2 = 0
  rotate_left
  · have hA : Hid (sameR p s l f g = (false, orE e1 e2)) := by
      unfold sameR
      rw [he1.out, he2.out]
      unfold orE at hz ⊢
      by_cases h1 : e1 = 0
      · rw [if_neg (by simpa using h1)] at hz
        simp [Hid, h1, hz]
      · rw [if_pos h1, if_pos h1]; exact Lib.hid rfl
    rw [hA.out]
    rw [he1.out] at HP
    rw [he2.out] at HG
    clear hA
    generalize (putR p s l f).1 = L at *
    generalize (putR p s l g).1 = M at *
    have HO : Hid (∀ (g c : Nat) (w : World) (h0 : w.cell? ⟨g, 0, none⟩ = some (.int .i64 e1)) (h1 : w.cell? ⟨g, 1, none⟩ = some (.int .i64 e2)), Calls Tryz.prog 27 #[.slice (some ⟨g, 0, none⟩) 2 c] w (Ret (.int .i64 (orE e1 e2)) w)) := Lib.hid (fun g c w h0 h1 => or_any g c e1 e2 w h0 h1)
    generalize orE e1 e2 = e at *
    have y1 : (e == 0) = false := by simpa using hz
    have y2 : (e != 0) = true := by simpa using hz
    clear hz
    go_enter Tryz.func12, Tryz.ntmps12
    go_wp2_with (first
      | (go_at_call 10; refine HP.out.mono ?_; rintro e w1 ⟨A1, c1, rfl, hr1, hB1⟩
         clear HP
         have hB2 := hBB.trans (hB1.mono hBB.size)
         have kG1 := kG.below' hB1
         have q0 := kG1.cell 0 (.int .i64 g.k) rfl
         have q1 := kG1.cell 1 (.int .i64 g.st) rfl
         have q2 := kG1.cell 2 (.int .i64 g.lt) rfl
         have q3 := kG1.cell 3 (.int .i64 g.wi) rfl)
      | (go_at_call 10; refine (HG.out _ hB2).mono ?_; rintro e w3 ⟨A3, c3, rfl, hr3, hB3⟩
         have hB4 := hB2.trans (hB3.mono hB2.size))
      | (go_at_call 27; refine (HO.out _ _ _ (alloc_at rfl rfl) (alloc_at rfl rfl)).mono ?_; rintro e w5 ⟨rfl, hB5⟩)
      | fail)
    go_ret2
    exact Ret.val rfl ((hB4.alloc hB4.size _).trans (hB5.mono (Nat.le_trans hB4.size (by simp))))
  · obtain ⟨z1, z2⟩ := orE_zero hz
    have hok := put_ok (he1.out.trans z1)
    have hok2 := put_ok (he2.out.trans z2)
    have hA : Hid (sameR p s l f g = (alikeR p s (putF l f) (putF l g), 0)) := by
      unfold sameR
      rw [hok.val, hok2.val]; exact Lib.hid rfl
    rw [hA.out]
    rw [hok.val] at HP
    rw [hok2.val] at HG
    have hl1 := putF_len l f
    have hl2 := putF_len l g
    have HK := Lib.hid (fun (w' : World) (B D : Option Addr) (b d H' : Nat) (hr1 : RdT w' H' B (putF l f)) (hr2 : RdT w' H' D (putF l g)) (hH' : H' ≤ w'.heap.size) =>
      alike_any p s B D (putF l f) (putF l g) b d w' H' hr1 hr2 hH' hok.ok2 hok2.ok2 (Nat.le_trans hl1 (ok_len hok.ok hl4)) (Nat.le_trans hl2 (ok_len hok.ok hl4)))
    have HO : Hid (∀ (g c : Nat) (w : World) (h0 : w.cell? ⟨g, 0, none⟩ = some (.int .i64 0)) (h1 : w.cell? ⟨g, 1, none⟩ = some (.int .i64 0)), Calls Tryz.prog 27 #[.slice (some ⟨g, 0, none⟩) 2 c] w (Ret (.int .i64 0) w)) := Lib.hid (fun g c w h0 h1 => or_any g c 0 0 w h0 h1)
    clear hA hz hok hok2 he1 he2 z1 z2
    generalize putF l f = L at *
    generalize putF l g = M at *
    generalize alikeR p s L M = T at *
    go_enter Tryz.func12, Tryz.ntmps12
    go_wp2_with (first
      | (go_at_call 10; refine HP.out.mono ?_; rintro e w1 ⟨A1, c1, rfl, hr1, hB1⟩
         clear HP
         have hB2 := hBB.trans (hB1.mono hBB.size)
         have kG1 := kG.below' hB1
         have q0 := kG1.cell 0 (.int .i64 g.k) rfl
         have q1 := kG1.cell 1 (.int .i64 g.st) rfl
         have q2 := kG1.cell 2 (.int .i64 g.lt) rfl
         have q3 := kG1.cell 3 (.int .i64 g.wi) rfl)
      | (go_at_call 10; refine (HG.out _ hB2).mono ?_; rintro e w3 ⟨A3, c3, rfl, hr3, hB3⟩
         have hB4 := hB2.trans (hB3.mono hB2.size))
      | (go_at_call 27; refine (HO.out _ _ _ (alloc_at rfl rfl) (alloc_at rfl rfl)).mono ?_; rintro e w5 ⟨rfl, hB5⟩
         have hB6 := (hB3.alloc hB3.size (.cells #[.int .i64 0, .int .i64 0] 25)).trans (hB5.mono (Nat.le_trans hB3.size (by simp)))
         have hr5 := (hr1.below' hB6 (Nat.le_refl _)).more hB6.size
         have hB7 := (Below.refl w3.heap.size w3).alloc (Nat.le_refl _) (.cells #[.int .i64 0, .int .i64 0] 25)
         have hB8 := hB7.trans (hB5.mono hB7.size)
         have hr7 := (hr3.below' hB8 (Nat.le_refl _)).more hB8.size)
      | (go_at_call 28; refine (HK.out _ A1 A3 c1 c3 _ hr5 hr7 (Nat.le_refl _)).mono ?_; rintro e w9 ⟨rfl, hB9⟩)
      | fail)
    go_ret2
    exact Ret.val rfl ((hB4.trans (hB8.mono hB4.size)).trans (hB9.mono (hB4.trans (hB8.mono hB4.size)).size))
end Go.Proofs.YtblifdchofihoaaGreatDoor
