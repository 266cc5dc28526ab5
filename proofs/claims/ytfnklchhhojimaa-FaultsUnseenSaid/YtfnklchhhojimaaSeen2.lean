/- faults: Seen, Same. -/
import Derived.Test.YtfnklchhhojimaaSeen
set_option linter.unusedSimpArgs false
set_option linter.unusedVariables false
namespace Go.Proofs.Ytfnklchhhojimaa
open Go Go.RowKit Tor

/-- a put that is accepted -/
structure PutOk (p s : Int) (l : List Tri) (f : Flt) : Prop where
  ok : (sheetR p s l).2.2.2 = 0
  sh : shapedF f = true
  fit : fitsF l f = true
  full : ¬ (f.k = 2 ∧ (xAt l f.st.toNat).s.size = 16)
  ok2 : (sheetR p s (putF l f)).2.2.2 = 0
  val : putR p s l f = (putF l f, 0)
theorem put_ok {p s : Int} {l : List Tri} {f : Flt} (h : (putR p s l f).2 = 0) : PutOk p s l f := by
  have h0 := h
  unfold putR at h
  split at h
  · rename_i h1; exact absurd h h1
  · rename_i h1
    unfold accF at h
    split at h
    · cases h
    · split at h
      · cases h
      · split at h
        · cases h
        · split at h
          · cases h
          · rename_i a1 a2 a3 a4
            refine ⟨by simpa using h1, by simpa using a1, by simpa using a2, a3, by simpa using a4, ?_⟩
            unfold putR accF
            rw [if_neg h1, if_neg a1, if_neg a2, if_neg a3, if_neg a4]
theorem ok_len {p s : Int} {l : List Tri} (h : (sheetR p s l).2.2.2 = 0) (hl : l.length ≤ 400 ∨ 1000 < l.length) : l.length ≤ 400 := by
  have := (ins_ok h).len; omega


set_option maxRecDepth 100000 in
set_option maxHeartbeats 4000000 in
theorem fseen_any (p s : Int) (A : Option Addr) (l : List Tri) (c : Nat) (f : Flt) (w : World) (H : Nat) (hr : RdT w H A l) (hH : H ≤ w.heap.size)
    (hw : ∀ (k : Nat) (hk : k < l.length), l[k].s.size ≤ 9223372036854775807) (hl : l.length ≤ 100000) (hl4 : l.length ≤ 400 ∨ 1000 < l.length) :
    Calls Try.prog 5 #[.int .i64 p, .int .i64 s, .slice A l.length c, .agg #[.int .i64 f.k, .int .i64 f.st, .int .i64 f.lt, .int .i64 f.wi]] w (Ret (.tuple #[.bool (seenR p s l f).1, .int .i64 (seenR p s l f).2]) w) := by
  have hBB : Below w.heap.size w (w.alloc (.cells #[.int .i64 f.k, .int .i64 f.st, .int .i64 f.lt, .int .i64 f.wi] 24)) := by (repeat' first | exact Below.refl _ _ | apply Below.drew | (refine Below.setCells ?_ _ _ ?_) | (refine Below.setCell ?_ ?_ _) | (refine Below.alloc ?_ ?_ _) | (simp; done) | (simp; omega))
  have HP := Lib.hid (fput_any p s A l c f _ H (hr.below' hBB hH) (Nat.le_trans hH hBB.size) hw hl)
  have kF := Blk.new w 24 #[.int .i64 f.k, .int .i64 f.st, .int .i64 f.lt, .int .i64 f.wi]
  have p0 := kF.cell 0 (.int .i64 f.k) rfl
  have p1 := kF.cell 1 (.int .i64 f.st) rfl
  have p2 := kF.cell 2 (.int .i64 f.lt) rfl
  have p3 := kF.cell 3 (.int .i64 f.wi) rfl
  unfold PutRet at HP
  by_cases hz : (putR p s l f).2 = 0
  rotate_left
  · have hA : Hid (seenR p s l f = (false, (putR p s l f).2)) := by unfold seenR; rw [if_pos hz]; exact Lib.hid rfl
    rw [hA.out]
    clear hA
    generalize (putR p s l f).1 = L at *
    generalize (putR p s l f).2 = e at *
    have y1 : (e == 0) = false := by simpa using hz
    have y2 : (e != 0) = true := by simpa using hz
    clear hz
    go_enter Try.func5, Try.ntmps5
    go_wp2_with (first | (go_at_call 6; refine HP.out.mono ?_; rintro e w1 ⟨A1, c1, rfl, hr1, hB1⟩) | fail)
    go_ret2
    exact Ret.val rfl (hBB.trans (hB1.mono hBB.size))
  · have hok := put_ok hz
    have hA : Hid (seenR p s l f = (!alikeR p s l (putF l f), 0)) := by unfold seenR; rw [if_neg (by simpa using hz), hok.val]; exact Lib.hid rfl
    rw [hA.out]
    rw [hok.val] at HP
    have hl2 := putF_len l f
    have HK := Lib.hid (fun (w' : World) (B : Option Addr) (d H' : Nat) (hr1 : RdT w' H' A l) (hr2 : RdT w' H' B (putF l f)) (hH' : H' ≤ w'.heap.size) =>
      alike_any p s A B l (putF l f) c d w' H' hr1 hr2 hH' hok.ok hok.ok2 (ok_len hok.ok hl4) (Nat.le_trans hl2 (ok_len hok.ok hl4)))
    clear hA hz hok
    generalize putF l f = L at *
    generalize alikeR p s l L = T at *
    go_enter Try.func5, Try.ntmps5
    go_wp2_with (first
      | (go_at_call 6; refine HP.out.mono ?_; rintro e w1 ⟨A1, c1, rfl, hr1, hB1⟩
         have hB2 := hBB.trans (hB1.mono hBB.size)
         have hrl := (hr.below' hB2 hH).more (Nat.le_trans hH hB2.size))
      | (go_at_call 11; refine (HK.out _ A1 c1 _ hrl hr1 (Nat.le_refl _)).mono ?_; rintro e w3 ⟨rfl, hB3⟩)
      | fail)
    go_ret2
    exact Ret.val rfl (hB2.trans (hB3.mono hB2.size))


end Go.Proofs.Ytfnklchhhojimaa
