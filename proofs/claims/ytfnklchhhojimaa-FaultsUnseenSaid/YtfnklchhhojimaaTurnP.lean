/- faults: a letter is turned. -/
import Derived.Test.YtfnklchhhojimaaClos
import Derived.Test.YtfnklchhhojimaaInv1
set_option linter.unusedSimpArgs false
set_option linter.unusedVariables false
namespace Go.Proofs.Ytfnklchhhojimaa
open Go Go.RowKit Tor

theorem extract1 (s : ByteArray) (m : Nat) (h : m < s.size) : s.extract m (m + 1) = ⟨#[s[m]]⟩ := by
  apply ByteArray.ext
  apply Array.ext'
  rw [ByteArray.data_extract]
  simp
  have h2 : m < s.data.toList.length := by rw [bsize]; exact h
  rw [List.drop_eq_getElem_cons h2]
  simp
  rfl

theorem inv1_ex (c : UInt8) (w : World) (g : Ex w) (hc : isLetter c = true) :
    Calls Try.prog 37 #[.string ⟨#[c]⟩] g.w fun e w'' => e = .returned (.tuple #[.string ⟨#[undo c]⟩, .int .i64 0]) ∧ ∃ g' : Ex w, w'' = g'.w :=
  calls_ex (inv1_any c g.w hc)


set_option maxRecDepth 100000 in
set_option maxHeartbeats 4000000 in
theorem turnP_any (base g cap : Nat) (l : List Tri) (k wi : Int) (n m : Nat) (w : World) (hR : SRowT w base g cap l) (hbase : base ≤ w.heap.size) (hl : l.length ≤ 2000) (hn : n < l.length)
    (hs : (xAt l n).s.size ≤ 1000) (hm : m < (xAt l n).s.size) (hc : isLetter (xAt l n).s[m] = true) :
    Calls Try.prog 36 #[.slice (some ⟨g, 0, none⟩) l.length cap, .agg #[.int .i64 k, .int .i64 n, .int .i64 m, .int .i64 wi]] w (FPutPost base g (setW l n (cutW (xAt l n).s m 1 ⟨#[undo (xAt l n).s[m]]⟩)) w) := by
  have hb := hR.heap.1
  have gl := hR.lt
  obtain ⟨c, hcc⟩ : ∃ c, Hid ((xAt l n).s[m] = c) := ⟨_, Lib.hid rfl⟩
  rw [hcc.out] at hc ⊢
  have hR1 := hR.alloc (.cells #[.int .i64 k, .int .i64 n, .int .i64 m, .int .i64 wi] 24)
  have hBB : Below base w (w.alloc (.cells #[.int .i64 k, .int .i64 n, .int .i64 m, .int .i64 wi] 24)) := by (repeat' first | assumption | exact Below.refl _ _ | apply Below.drew | (refine Below.setCells ?_ _ _ ?_) | (refine Below.setCell ?_ ?_ _) | (refine Below.alloc ?_ ?_ _) | (simp; done) | (simp; omega))
  obtain ⟨c0, c1, c2⟩ := hR1.cells hn
  have kF := Blk.new w 24 #[.int .i64 k, .int .i64 n, .int .i64 m, .int .i64 wi]
  have f0 := kF.cell 0 (.int .i64 k) rfl
  have f1 := kF.cell 1 (.int .i64 n) rfl
  have f2 := kF.cell 2 (.int .i64 m) rfl
  have f3 := kF.cell 3 (.int .i64 wi) rfl
  have zl := hR1.lt
  have fl := kF.lt
  have n0 : (n : Int) < (l.length : Int) := by omega
  have m0 : IntKind.i64.wrap ((m : Int) + 1) = (m : Int) + 1 := IntWalk.i64_in _ (by omega)
  have m1 : ((m : Int) + 1).toNat = m + 1 := by omega
  have m4 : (m : Int) + 1 ≤ ((xAt l n).s.size : Int) := by omega
  have m5 : (m : Int) ≤ (m : Int) + 1 := by omega
  have m6 : (0 : Int) ≤ (m : Int) + 1 := by omega
  have HX : Hid ((xAt l n).s.extract m (m + 1) = ⟨#[c]⟩) := by rw [Hid, extract1 _ _ hm, hcc.out]
  have hcl := hc
  go_enter Try.func36, Try.ntmps36
  go_wp2_with fail
  generalize w.alloc (.cells #[.int .i64 k, .int .i64 n, .int .i64 m, .int .i64 wi] 24) = W at *
  refine wp_region_ex (by kernel_rfl) (by kernel_rfl) ?_
  repeat (go_big_quiet_step (first
    | (go_at_call 37; rw [HX.out]; refine (inv1_ex c _ _ hcl).mono ?_; rintro e w' ⟨rfl, hg⟩; exact ⟨rfl, hg⟩)
    | fail))
  refine wpQuiet_nil ?_
  intro _ hw'
  obtain ⟨g', hw''⟩ := hw'
  subst hw''
  have hq := g'.h
  have hR3 := hR1.below hq
  have kF3 := kF.below' hq
  have hB3 : Below base w g'.w := hBB.trans (hq.mono (Nat.le_trans hbase hBB.size))
  have d0 := kF3.cell 0 (.int .i64 k) rfl
  have d1 := kF3.cell 1 (.int .i64 n) rfl
  have d2 := kF3.cell 2 (.int .i64 m) rfl
  have d3 := kF3.cell 3 (.int .i64 wi) rfl
  have HW := Lib.hid (fword_any base g cap l k wi n m 1 ⟨#[undo c]⟩ _ hR3 (Nat.le_trans hbase hB3.size) hl hn hs (by omega) (by show 1 ≤ 1000; omega))
  go_wp2_with (first | (go_at_call 33; refine HW.out.mono ?_; rintro e w2 ⟨rfl, hR2, hB2⟩) | fail)
  go_ret
  exact ⟨cap, by simp [setW], hR2, hB3.trans hB2⟩
end Go.Proofs.Ytfnklchhhojimaa
