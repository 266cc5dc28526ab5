/- The law FaultsBack: all cases. -/
import Derived.Test.YtblifdchofihoaaLawBack6a
import Derived.Test.YtblifdchofihoaaLawBack6b
import Derived.Test.YtblifdchofihoaaLawBack6c
set_option linter.unusedSimpArgs false
set_option linter.unusedVariables false
namespace Go.Proofs.Ytblifdchofihoaa
open Go Go.RowKit Tor

set_option maxRecDepth 100000 in
set_option maxHeartbeats 4000000 in
theorem lawBack_any (P S : Int) (A : Option Addr) (l : List Tri) (c : Nat) (f g : Flt) (w : World) (H : Nat) (hr : RdT w H A l) (hH : H ≤ w.heap.size)
    (hw : ∀ (k : Nat) (hk : k < l.length), l[k].s.size ≤ 9223372036854775807) (hl : l.length ≤ 9223372036854775807) :
    Calls Try.prog 5 #[.agg #[.int .i64 P, .int .i64 S, .slice A l.length c, .int .i64 f.k, .int .i64 f.st, .int .i64 f.lt, .int .i64 f.wi, .int .i64 g.k, .int .i64 g.st, .int .i64 g.lt, .int .i64 g.wi]] w (Ret (.bool true) w) := by
  have hBB : Below w.heap.size w (w.alloc (.cells #[.int .i64 P, .int .i64 S, .slice A l.length c, .int .i64 f.k, .int .i64 f.st, .int .i64 f.lt, .int .i64 f.wi, .int .i64 g.k, .int .i64 g.st, .int .i64 g.lt, .int .i64 g.wi] 26)) := by (repeat' first | exact Below.refl _ _ | apply Below.drew | (refine Below.setCells ?_ _ _ ?_) | (refine Below.setCell ?_ ?_ _) | (refine Below.alloc ?_ ?_ _) | (simp; done) | (simp; omega))
  have kC := Blk.new w 26 #[.int .i64 P, .int .i64 S, .slice A l.length c, .int .i64 f.k, .int .i64 f.st, .int .i64 f.lt, .int .i64 f.wi, .int .i64 g.k, .int .i64 g.st, .int .i64 g.lt, .int .i64 g.wi]
  by_cases h100 : 100 < l.length
  · have h100' : (100 : Int) < (l.length : Int) := by omega
    have c2 := kC.cell 2 (.slice A l.length c) rfl
    clear h100
    go_enter Try.func5, Try.ntmps5
    go_wp2_with (first | (go_at_call 10; refine (awake_any _).mono ?_; rintro e w1 ⟨rfl, hB1⟩) | fail)
    go_ret
    exact Ret.val rfl (hBB.trans (hB1.mono hBB.size))
  have h100' : ¬ (100 : Int) < (l.length : Int) := by omega
  obtain ⟨E, hE⟩ : ∃ E, Hid ((putR P S l f).2 = E) := ⟨_, Lib.hid rfl⟩
  by_cases hz : E = 0
  rotate_left
  · have HP := Lib.hid (fun (w' : World) (hB : Below w.heap.size w w') => fput_any P S A l c f w' H (hr.below' hB hH) (Nat.le_trans hH hB.size) hw (by omega))
    unfold PutRet at HP
    rw [hE.out] at HP
    generalize (putR P S l f).1 = L at *
    have y1 : (E == 0) = false := by simpa using hz
    have y2 : (E != 0) = true := by simpa using hz
    clear hz hE h100
    have kl := kC.lt
    have c0 := kC.cell 0 (.int .i64 P) rfl
    have c1 := kC.cell 1 (.int .i64 S) rfl
    have c2 := kC.cell 2 (.slice A l.length c) rfl
    have c3 := kC.cell 3 (.int .i64 f.k) rfl
    have c4 := kC.cell 4 (.int .i64 f.st) rfl
    have c5 := kC.cell 5 (.int .i64 f.lt) rfl
    have c6 := kC.cell 6 (.int .i64 f.wi) rfl
    have c7 := kC.cell 7 (.int .i64 g.k) rfl
    have c8 := kC.cell 8 (.int .i64 g.st) rfl
    have c9 := kC.cell 9 (.int .i64 g.lt) rfl
    have c10 := kC.cell 10 (.int .i64 g.wi) rfl
    go_enter Try.func5, Try.ntmps5
    go_wp2_with (first
      | (go_at_call 11; refine (HP.out _ hBB).mono ?_; rintro e w1 ⟨A1, c1', rfl, hr1, hB1⟩)
      | (go_at_call 10; refine (awake_any _).mono ?_; rintro e w2 ⟨rfl, hB2⟩)
      | fail)
    go_ret
    exact Ret.val rfl (bt (bt hBB hB1) hB2)
  have hok := put_ok (hE.out.trans hz)
  have hl2 : l.length ≤ 100 := by omega
  clear hBB kC hE hz h100 h100'
  have hst := fits_step hok.fit
  have hsh := hok.sh
  have hfit := hok.fit
  obtain ⟨k, st, lt, wi⟩ := f
  simp only at hst ⊢
  obtain ⟨n, rfl⟩ : ∃ n : Nat, st = n := ⟨st.toNat, by omega⟩
  have hk : 1 ≤ k ∧ k ≤ 6 := by
    unfold shapedF at hsh
    simp only at hsh
    apply Classical.byContradiction; intro h
    rw [if_neg (by omega), if_neg (by omega), if_neg (by omega), if_neg (by omega)] at hsh; cases hsh
  rcases (show k = 1 ∨ k = 2 ∨ k = 3 ∨ k = 4 ∨ k = 5 ∨ k = 6 by omega) with rfl | rfl | rfl | rfl | rfl | rfl
  · have h0 : 0 ≤ lt := by
      unfold fitsF at hfit
      simp at hfit
      omega
    obtain ⟨m, rfl⟩ : ∃ m : Nat, lt = m := ⟨lt.toNat, by omega⟩
    exact lawBack1 P S A l c n m wi g w H hr hH hw hl2 hok
  · exact lawBack2 P S A l c n lt wi g w H hr hH hw hl2 hok
  · exact lawBack3 P S A l c n lt wi g w H hr hH hw hl2 hok
  · exact lawBack4 P S A l c n lt wi g w H hr hH hw hl2 hok
  · exact lawBack5 P S A l c n lt wi g w H hr hH hw hl2 hok
  · cases h1 : ((xAt l n).a == 2)
    · exact lawBack6a P S A l c n lt wi g w H hr hH hw hl2 hok ⟨h1, trivial⟩
    · cases h2 : (redW (xAt l n).s).toList.isEmpty
      · exact lawBack6b P S A l c n lt wi g w H hr hH hw hl2 hok ⟨h1, h2⟩
      · exact lawBack6c P S A l c n lt wi g w H hr hH hw hl2 hok ⟨h1, h2⟩
end Go.Proofs.Ytblifdchofihoaa
