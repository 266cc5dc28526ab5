/- torchonref25: put. -/
import Derived.Test.YtblifdchofihoaaRef25b
import Derived.Test.YtblifdchofihoaaInv3
import Derived.Test.YtblifdchofihoaaPutM
import Derived.Test.YtblifdchofihoaaDel
import Derived.BigRegion
set_option linter.unusedSimpArgs false
set_option linter.unusedVariables false
namespace Go.Proofs.Ytblifdchofihoaa
open Go Go.RowKit Tor

/-- steps that are new -/
def NewSteps (w : World) (l' : List Tri) (e : Ending) (w' : World) : Prop := ∃ A c, e = .returned (.slice A l'.length c) ∧ RdT w' w'.heap.size A l' ∧ Below w.heap.size w w'
theorem NewSteps.of {w w' : World} {l' : List Tri} {T : TypeId} {base g cap n : Nat} (h : TRow T w' base g cap l') (hn : l'.length = n) (hB : Below w.heap.size w w') : NewSteps w l' (.returned (.slice (some ⟨g, 0, none⟩) n cap)) w' :=
  ⟨_, cap, by rw [hn], h.rd, hB⟩

set_option maxRecDepth 100000 in
set_option maxHeartbeats 4000000 in
theorem put1_any (A : Option Addr) (l : List Tri) (c : Nat) (n : Nat) (m : Nat) (wi : Int) (hm : m < (xAt l n).s.size) (w : World) (H : Nat) (hr : RdT w H A l) (hH : H ≤ w.heap.size) (hl : l.length ≤ 2000) (hn : n < l.length) (hs : (xAt l n).s.size ≤ 1000) :
    Calls Try.prog 65 #[.slice A l.length c, .agg #[.int .i64 1, .int .i64 n, .int .i64 m, .int .i64 wi]] w (NewSteps w (setW l n (cutW (xAt l n).s m 1 .empty))) := by
  obtain ⟨b, o, rfl, hb0, _, _, _⟩ := hr.tri hn
  obtain ⟨i0, hi0, hz0, hz1, hz2⟩ := info_parts infoStep'
  have hl0 : l ≠ [] := by intro e; subst e; simp at hn
  have A0 : Hid (∀ j u, (l.flatMap Tri.enc)[j]? = some u → w.cell? ⟨b, o + j, none⟩ = some u) := Lib.hid fun j u hj => by
    obtain ⟨k, x, i, h1, h2, h3⟩ := tflat_inv l j u hj
    obtain ⟨b', o', e, _, hc⟩ := hr hl0
    simp only [Option.some.injEq, Addr.mk.injEq, and_true] at e
    obtain ⟨rfl, rfl⟩ := e
    have := hc k x h1 i u h2
    rw [h3, ← Nat.add_assoc]; exact this
  have Q0 := Lib.hid hl0
  have hbw : b < w.heap.size := Nat.lt_of_lt_of_le hb0 hH
  obtain ⟨W, hW⟩ : ∃ W, Hid (W = w.alloc (.cells #[.int .i64 1, .int .i64 n, .int .i64 m, .int .i64 wi] 24)) := ⟨_, Lib.hid rfl⟩
  have hBB : Below w.heap.size w W := by rw [hW.out]; (repeat' first | exact Below.refl _ _ | apply Below.drew | (refine Below.setCells ?_ _ _ ?_) | (refine Below.setCell ?_ ?_ _) | (refine Below.alloc ?_ ?_ _) | (simp; done) | (simp; omega))
  have kF : Blk W w.heap.size 24 #[.int .i64 1, .int .i64 n, .int .i64 m, .int .i64 wi] := by rw [hW.out]; exact Blk.new w _ _
  have hWs : W.heap.size = w.heap.size + 1 := by rw [hW.out]; simp
  have hm0 : (W.alloc (.cells #[] 46)).ownsRow W.heap.size 46 3 (.slice (some ⟨w.heap.size + 1, 0, none⟩) 0 0) 0 [] := by rw [← hWs]; exact World.ownsRow_made W #[] 0 (Nat.le_refl _) (Nat.zero_le _) (by simp)
  have HWs := Lib.hid hWs
  clear hWs
  have n0 : (n : Int) < (l.length : Int) := by omega
  have n9 : (0 : Int) ≤ (n : Int) := by omega
  clear hr hl0
  obtain ⟨s, hS⟩ : ∃ s, Hid ((xAt l n).s = s) := ⟨_, Lib.hid rfl⟩
  rw [hS.out] at hs hm ⊢
  have e1 : (s.extract 0 m).size = m := by rw [ByteArray.size_extract]; omega
  have e2 : (s.extract (m + 1) s.size).size = s.size - (m + 1) := by rw [ByteArray.size_extract]; omega
  have m0 : IntKind.i64.wrap ((m : Int) + 1) = (m : Int) + 1 := IntWalk.i64_in _ (by omega)
  have m1 : ((m : Int) + 1).toNat = m + 1 := by omega
  have m2 : m ≤ s.size := by omega
  have m3 : (m : Int) ≤ s.size := by omega
  have m6 : (0 : Int) ≤ (m : Int) + 1 := by omega
  have m7 : (0 : Int) ≤ (m : Int) := by omega
  have m4 : (m : Int) + 1 ≤ (s.size : Int) := by omega
  have s2 : ¬ 9223372036854775807 < (s.extract 0 m).size + (s.extract (m + 1) s.size).size := by omega
  have hX : Hid (cutW s m 1 .empty = s.extract 0 m ++ s.extract (m + 1) s.size) := Lib.hid (by unfold cutW; rw [ByteArray.append_empty])
  rw [hX.out]
  unfold setW
  go_enter Try.func65, Try.ntmps65
  go_wp2_with (at_builtin; rw [← hW.out]; refine wpList_append_own _ rfl _ _ _ rfl W.heap.size _ i0 _ 3 32 Try.underlying22 hi0 hz0 hz1 hz2 rfl (by decide) _ _ _ rfl hm0 ⟨b, o, none⟩ l.length c (l.flatMap Tri.enc) rfl ?qc1 ?qc2 ?qc3 ?qc4 ?qc5 ?qc6 ?_)
  case qc1 => exact flat_tri_len l
  case qc2 =>
    intro j u hj
    have e : (⟨b, o, none⟩ : Addr).add j = ⟨b, o + j, none⟩ := by unfold Addr.add; split <;> simp_all
    rw [e]
    exact cell_old ((hBB.cell (p := ⟨b, _, none⟩) hbw).trans (A0.out j u hj))
  case qc3 =>
    intro u hu; obtain ⟨y, _, hy⟩ := List.mem_flatMap.1 hu; simp [Tri.enc] at hy; rcases hy with rfl | rfl | rfl <;> rfl
  case qc4 => unfold maxLen; omega
  case qc5 => omega
  case qc6 => simp
  intro v' w1 hown hgrow _
  have h7 : Own 3 Tri.enc w1 W.heap.size 46 v' l := by simpa [Own] using hown
  obtain ⟨g, cap, rfl, hR⟩ := TRow.of Q0.out h7
  have hB1 : Below W.heap.size W w1 := ((Below.refl _ W).alloc (Nat.le_refl _) _).grown hgrow (by simp) (by intro k hk; simp [Value.ownBlock] at hk; have := HWs.out; omega)
  clear hown hgrow h7
  have hb := hR.heap.1
  have hB2 : Below w.heap.size w w1 := hBB.trans (hB1.mono hBB.size)
  have kF1 := kF.below' hB1
  obtain ⟨c0, c1, c2⟩ := hR.cells hn
  have fz0 := hR.frozen (n * 3)
  have fz1 := hR.frozen (n * 3 + 1)
  have fz2 := hR.frozen (n * 3 + 2)
  have zl := hR.lt
  have fl := kF1.lt
  have p0 := kF1.cell 0 (.int .i64 1) rfl
  have p1 := kF1.cell 1 (.int .i64 n) rfl
  have p2 := kF1.cell 2 (.int .i64 m) rfl
  have p3 := kF1.cell 3 (.int .i64 wi) rfl
  rw [hS.out] at c2
  go_wp2_with fail
  go_region
  go_wp2_with fail
  go_ret
  refine NewSteps.of (T := 46) (base := W.heap.size) (hR.drew.set_ (j := 2) (y := ⟨(xAt l n).a, (xAt l n).b, s.extract 0 m ++ s.extract (m + 1) s.size⟩) (u := .string (s.extract 0 m ++ s.extract (m + 1) s.size)) hn (by decide) rfl) (by simp) ?_
  have hwg : w.heap.size ≤ g := by have := HWs.out; omega
  (repeat' first | assumption | exact Below.refl _ _ | apply Below.drew | (refine Below.setCells ?_ _ _ ?_) | (refine Below.setCell ?_ ?_ _) | (refine Below.alloc ?_ ?_ _) | (simp; done) | (simp; omega))

set_option maxRecDepth 100000 in
set_option maxHeartbeats 4000000 in
theorem put5_any (A : Option Addr) (l : List Tri) (c : Nat) (n : Nat) (lt wi : Int) (hw : IntKind.i64.wrap ((xAt l n).b + wi) = (xAt l n).b + wi) (w : World) (H : Nat) (hr : RdT w H A l) (hH : H ≤ w.heap.size) (hl : l.length ≤ 2000) (hn : n < l.length) (hs : (xAt l n).s.size ≤ 1000) :
    Calls Try.prog 65 #[.slice A l.length c, .agg #[.int .i64 5, .int .i64 n, .int .i64 lt, .int .i64 wi]] w (NewSteps w (l.set n ⟨(xAt l n).a, (xAt l n).b + wi, (xAt l n).s⟩)) := by
  obtain ⟨b, o, rfl, hb0, _, _, _⟩ := hr.tri hn
  obtain ⟨i0, hi0, hz0, hz1, hz2⟩ := info_parts infoStep'
  have hl0 : l ≠ [] := by intro e; subst e; simp at hn
  have A0 : Hid (∀ j u, (l.flatMap Tri.enc)[j]? = some u → w.cell? ⟨b, o + j, none⟩ = some u) := Lib.hid fun j u hj => by
    obtain ⟨k, x, i, h1, h2, h3⟩ := tflat_inv l j u hj
    obtain ⟨b', o', e, _, hc⟩ := hr hl0
    simp only [Option.some.injEq, Addr.mk.injEq, and_true] at e
    obtain ⟨rfl, rfl⟩ := e
    have := hc k x h1 i u h2
    rw [h3, ← Nat.add_assoc]; exact this
  have Q0 := Lib.hid hl0
  have hbw : b < w.heap.size := Nat.lt_of_lt_of_le hb0 hH
  obtain ⟨W, hW⟩ : ∃ W, Hid (W = w.alloc (.cells #[.int .i64 5, .int .i64 n, .int .i64 lt, .int .i64 wi] 24)) := ⟨_, Lib.hid rfl⟩
  have hBB : Below w.heap.size w W := by rw [hW.out]; (repeat' first | exact Below.refl _ _ | apply Below.drew | (refine Below.setCells ?_ _ _ ?_) | (refine Below.setCell ?_ ?_ _) | (refine Below.alloc ?_ ?_ _) | (simp; done) | (simp; omega))
  have kF : Blk W w.heap.size 24 #[.int .i64 5, .int .i64 n, .int .i64 lt, .int .i64 wi] := by rw [hW.out]; exact Blk.new w _ _
  have hWs : W.heap.size = w.heap.size + 1 := by rw [hW.out]; simp
  have hm0 : (W.alloc (.cells #[] 46)).ownsRow W.heap.size 46 3 (.slice (some ⟨w.heap.size + 1, 0, none⟩) 0 0) 0 [] := by rw [← hWs]; exact World.ownsRow_made W #[] 0 (Nat.le_refl _) (Nat.zero_le _) (by simp)
  have HWs := Lib.hid hWs
  clear hWs
  have n0 : (n : Int) < (l.length : Int) := by omega
  have n9 : (0 : Int) ≤ (n : Int) := by omega
  clear hr hl0
  go_enter Try.func65, Try.ntmps65
  go_wp2_with (at_builtin; rw [← hW.out]; refine wpList_append_own _ rfl _ _ _ rfl W.heap.size _ i0 _ 3 32 Try.underlying22 hi0 hz0 hz1 hz2 rfl (by decide) _ _ _ rfl hm0 ⟨b, o, none⟩ l.length c (l.flatMap Tri.enc) rfl ?qc1 ?qc2 ?qc3 ?qc4 ?qc5 ?qc6 ?_)
  case qc1 => exact flat_tri_len l
  case qc2 =>
    intro j u hj
    have e : (⟨b, o, none⟩ : Addr).add j = ⟨b, o + j, none⟩ := by unfold Addr.add; split <;> simp_all
    rw [e]
    exact cell_old ((hBB.cell (p := ⟨b, _, none⟩) hbw).trans (A0.out j u hj))
  case qc3 =>
    intro u hu; obtain ⟨y, _, hy⟩ := List.mem_flatMap.1 hu; simp [Tri.enc] at hy; rcases hy with rfl | rfl | rfl <;> rfl
  case qc4 => unfold maxLen; omega
  case qc5 => omega
  case qc6 => simp
  intro v' w1 hown hgrow _
  have h7 : Own 3 Tri.enc w1 W.heap.size 46 v' l := by simpa [Own] using hown
  obtain ⟨g, cap, rfl, hR⟩ := TRow.of Q0.out h7
  have hB1 : Below W.heap.size W w1 := ((Below.refl _ W).alloc (Nat.le_refl _) _).grown hgrow (by simp) (by intro k hk; simp [Value.ownBlock] at hk; have := HWs.out; omega)
  clear hown hgrow h7
  have hb := hR.heap.1
  have hB2 : Below w.heap.size w w1 := hBB.trans (hB1.mono hBB.size)
  have kF1 := kF.below' hB1
  obtain ⟨c0, c1, c2⟩ := hR.cells hn
  have fz0 := hR.frozen (n * 3)
  have fz1 := hR.frozen (n * 3 + 1)
  have fz2 := hR.frozen (n * 3 + 2)
  have zl := hR.lt
  have fl := kF1.lt
  have p0 := kF1.cell 0 (.int .i64 5) rfl
  have p1 := kF1.cell 1 (.int .i64 n) rfl
  have p2 := kF1.cell 2 (.int .i64 lt) rfl
  have p3 := kF1.cell 3 (.int .i64 wi) rfl
  go_wp2_with fail
  go_region
  go_wp2_with fail
  go_ret
  refine NewSteps.of (T := 46) (base := W.heap.size) (hR.drew.set_ (j := 1) (y := ⟨(xAt l n).a, (xAt l n).b + wi, (xAt l n).s⟩) (u := .int .i64 ((xAt l n).b + wi)) hn (by decide) rfl) (by simp) ?_
  have hwg : w.heap.size ≤ g := by have := HWs.out; omega
  (repeat' first | assumption | exact Below.refl _ _ | apply Below.drew | (refine Below.setCells ?_ _ _ ?_) | (refine Below.setCell ?_ ?_ _) | (refine Below.alloc ?_ ?_ _) | (simp; done) | (simp; omega))

set_option maxRecDepth 100000 in
set_option maxHeartbeats 4000000 in
theorem put6_any (A : Option Addr) (l : List Tri) (c : Nat) (n : Nat) (lt wi : Int) (hn1 : n + 1 < l.length) (w : World) (H : Nat) (hr : RdT w H A l) (hH : H ≤ w.heap.size) (hl : l.length ≤ 2000) (hn : n < l.length) (hs : (xAt l n).s.size ≤ 1000) :
    Calls Try.prog 65 #[.slice A l.length c, .agg #[.int .i64 6, .int .i64 n, .int .i64 lt, .int .i64 wi]] w (NewSteps w ((l.set n (xAt l (n + 1))).set (n + 1) (xAt l n))) := by
  obtain ⟨b, o, rfl, hb0, _, _, _⟩ := hr.tri hn
  obtain ⟨i0, hi0, hz0, hz1, hz2⟩ := info_parts infoStep'
  have hl0 : l ≠ [] := by intro e; subst e; simp at hn
  have A0 : Hid (∀ j u, (l.flatMap Tri.enc)[j]? = some u → w.cell? ⟨b, o + j, none⟩ = some u) := Lib.hid fun j u hj => by
    obtain ⟨k, x, i, h1, h2, h3⟩ := tflat_inv l j u hj
    obtain ⟨b', o', e, _, hc⟩ := hr hl0
    simp only [Option.some.injEq, Addr.mk.injEq, and_true] at e
    obtain ⟨rfl, rfl⟩ := e
    have := hc k x h1 i u h2
    rw [h3, ← Nat.add_assoc]; exact this
  have Q0 := Lib.hid hl0
  have hbw : b < w.heap.size := Nat.lt_of_lt_of_le hb0 hH
  obtain ⟨W, hW⟩ : ∃ W, Hid (W = w.alloc (.cells #[.int .i64 6, .int .i64 n, .int .i64 lt, .int .i64 wi] 24)) := ⟨_, Lib.hid rfl⟩
  have hBB : Below w.heap.size w W := by rw [hW.out]; (repeat' first | exact Below.refl _ _ | apply Below.drew | (refine Below.setCells ?_ _ _ ?_) | (refine Below.setCell ?_ ?_ _) | (refine Below.alloc ?_ ?_ _) | (simp; done) | (simp; omega))
  have kF : Blk W w.heap.size 24 #[.int .i64 6, .int .i64 n, .int .i64 lt, .int .i64 wi] := by rw [hW.out]; exact Blk.new w _ _
  have hWs : W.heap.size = w.heap.size + 1 := by rw [hW.out]; simp
  have hm0 : (W.alloc (.cells #[] 46)).ownsRow W.heap.size 46 3 (.slice (some ⟨w.heap.size + 1, 0, none⟩) 0 0) 0 [] := by rw [← hWs]; exact World.ownsRow_made W #[] 0 (Nat.le_refl _) (Nat.zero_le _) (by simp)
  have HWs := Lib.hid hWs
  clear hWs
  have n0 : (n : Int) < (l.length : Int) := by omega
  have n9 : (0 : Int) ≤ (n : Int) := by omega
  clear hr hl0
  go_enter Try.func65, Try.ntmps65
  go_wp2_with (at_builtin; rw [← hW.out]; refine wpList_append_own _ rfl _ _ _ rfl W.heap.size _ i0 _ 3 32 Try.underlying22 hi0 hz0 hz1 hz2 rfl (by decide) _ _ _ rfl hm0 ⟨b, o, none⟩ l.length c (l.flatMap Tri.enc) rfl ?qc1 ?qc2 ?qc3 ?qc4 ?qc5 ?qc6 ?_)
  case qc1 => exact flat_tri_len l
  case qc2 =>
    intro j u hj
    have e : (⟨b, o, none⟩ : Addr).add j = ⟨b, o + j, none⟩ := by unfold Addr.add; split <;> simp_all
    rw [e]
    exact cell_old ((hBB.cell (p := ⟨b, _, none⟩) hbw).trans (A0.out j u hj))
  case qc3 =>
    intro u hu; obtain ⟨y, _, hy⟩ := List.mem_flatMap.1 hu; simp [Tri.enc] at hy; rcases hy with rfl | rfl | rfl <;> rfl
  case qc4 => unfold maxLen; omega
  case qc5 => omega
  case qc6 => simp
  intro v' w1 hown hgrow _
  have h7 : Own 3 Tri.enc w1 W.heap.size 46 v' l := by simpa [Own] using hown
  obtain ⟨g, cap, rfl, hR⟩ := TRow.of Q0.out h7
  have hB1 : Below W.heap.size W w1 := ((Below.refl _ W).alloc (Nat.le_refl _) _).grown hgrow (by simp) (by intro k hk; simp [Value.ownBlock] at hk; have := HWs.out; omega)
  clear hown hgrow h7
  have hb := hR.heap.1
  have hB2 : Below w.heap.size w w1 := hBB.trans (hB1.mono hBB.size)
  have kF1 := kF.below' hB1
  obtain ⟨c0, c1, c2⟩ := hR.cells hn
  have fz0 := hR.frozen (n * 3)
  have fz1 := hR.frozen (n * 3 + 1)
  have fz2 := hR.frozen (n * 3 + 2)
  have zl := hR.lt
  have fl := kF1.lt
  have p0 := kF1.cell 0 (.int .i64 6) rfl
  have p1 := kF1.cell 1 (.int .i64 n) rfl
  have p2 := kF1.cell 2 (.int .i64 lt) rfl
  have p3 := kF1.cell 3 (.int .i64 wi) rfl
  obtain ⟨d0, d1, d2⟩ := hR.cells (i := n + 1) hn1
  have gz0 := hR.frozen ((n + 1) * 3)
  have gz1 := hR.frozen ((n + 1) * 3 + 1)
  have gz2 := hR.frozen ((n + 1) * 3 + 2)
  have n8 : (0 : Int) ≤ (n : Int) + 1 := by omega
  have n1 : (n : Int) + 1 < (l.length : Int) := by omega
  have m0 : IntKind.i64.wrap ((n : Int) + 1) = (n : Int) + 1 := IntWalk.i64_in _ (by omega)
  have m1 : ((n : Int) + 1).toNat = n + 1 := by omega
  have gne : g ≠ w.heap.size := by have := HWs.out; omega
  go_wp2_with fail
  go_region
  go_wp2_with fail
  go_ret
  refine NewSteps.of (T := 46) (base := W.heap.size) ((hR.put3 (i := n) (by omega) (xAt l (n + 1))).put3 (i := n + 1) (by rw [List.length_set]; omega) (xAt l n)).drew (by simp) ?_
  exact (below_put3 (below_put3 hB2 (by have := HWs.out; omega) (n * 3) (.int .i64 (xAt l (n + 1)).a) (.int .i64 (xAt l (n + 1)).b) (.string (xAt l (n + 1)).s)) (by have := HWs.out; omega) ((n + 1) * 3) (.int .i64 (xAt l n).a) (.int .i64 (xAt l n).b) (.string (xAt l n).s)).drew

set_option maxRecDepth 100000 in
set_option maxHeartbeats 4000000 in
theorem put2_any (A : Option Addr) (l : List Tri) (c : Nat) (n : Nat) (m : Nat) (wi : Int) (hm : m ≤ (xAt l n).s.size) (hwi : wi ∈ faultLetters) (w : World) (H : Nat) (hr : RdT w H A l) (hH : H ≤ w.heap.size) (hl : l.length ≤ 2000) (hn : n < l.length) (hs : (xAt l n).s.size ≤ 1000) :
    Calls Try.prog 65 #[.slice A l.length c, .agg #[.int .i64 2, .int .i64 n, .int .i64 m, .int .i64 wi]] w (NewSteps w (setW l n (cutW (xAt l n).s m 0 ⟨#[wi.toNat.toUInt8]⟩))) := by
  obtain ⟨b, o, rfl, hb0, _, _, _⟩ := hr.tri hn
  obtain ⟨i0, hi0, hz0, hz1, hz2⟩ := info_parts infoStep'
  have hl0 : l ≠ [] := by intro e; subst e; simp at hn
  have A0 : Hid (∀ j u, (l.flatMap Tri.enc)[j]? = some u → w.cell? ⟨b, o + j, none⟩ = some u) := Lib.hid fun j u hj => by
    obtain ⟨k, x, i, h1, h2, h3⟩ := tflat_inv l j u hj
    obtain ⟨b', o', e, _, hc⟩ := hr hl0
    simp only [Option.some.injEq, Addr.mk.injEq, and_true] at e
    obtain ⟨rfl, rfl⟩ := e
    have := hc k x h1 i u h2
    rw [h3, ← Nat.add_assoc]; exact this
  have Q0 := Lib.hid hl0
  have hbw : b < w.heap.size := Nat.lt_of_lt_of_le hb0 hH
  obtain ⟨W, hW⟩ : ∃ W, Hid (W = w.alloc (.cells #[.int .i64 2, .int .i64 n, .int .i64 m, .int .i64 wi] 24)) := ⟨_, Lib.hid rfl⟩
  have hBB : Below w.heap.size w W := by rw [hW.out]; (repeat' first | exact Below.refl _ _ | apply Below.drew | (refine Below.setCells ?_ _ _ ?_) | (refine Below.setCell ?_ ?_ _) | (refine Below.alloc ?_ ?_ _) | (simp; done) | (simp; omega))
  have kF : Blk W w.heap.size 24 #[.int .i64 2, .int .i64 n, .int .i64 m, .int .i64 wi] := by rw [hW.out]; exact Blk.new w _ _
  have hWs : W.heap.size = w.heap.size + 1 := by rw [hW.out]; simp
  have hm0 : (W.alloc (.cells #[] 46)).ownsRow W.heap.size 46 3 (.slice (some ⟨w.heap.size + 1, 0, none⟩) 0 0) 0 [] := by rw [← hWs]; exact World.ownsRow_made W #[] 0 (Nat.le_refl _) (Nat.zero_le _) (by simp)
  have HWs := Lib.hid hWs
  clear hWs
  have n0 : (n : Int) < (l.length : Int) := by omega
  have n9 : (0 : Int) ≤ (n : Int) := by omega
  clear hr hl0
  obtain ⟨q, hq, hq2⟩ : ∃ q : UInt8, wi = (q.toNat : Int) ∧ wi.toNat.toUInt8 = q := by
    simp only [faultLetters, List.mem_cons, List.not_mem_nil, or_false] at hwi
    rcases hwi with rfl | rfl | rfl | rfl | rfl | rfl | rfl | rfl | rfl
    all_goals exact ⟨_, by rfl, rfl⟩
  rw [hq2]
  subst hq
  clear hq2 hwi
  obtain ⟨s, hS⟩ : ∃ s, Hid ((xAt l n).s = s) := ⟨_, Lib.hid rfl⟩
  rw [hS.out] at hs hm ⊢
  have e1 : (s.extract 0 m).size = m := by rw [ByteArray.size_extract]; omega
  have e2 : (s.extract (m + 0) s.size).size = s.size - (m + 0) := by rw [ByteArray.size_extract]; omega
  have m0 : IntKind.i64.wrap ((m : Int) + 1) = (m : Int) + 1 := IntWalk.i64_in _ (by omega)
  have m1 : ((m : Int) + 1).toNat = m + 1 := by omega
  have m2 : m ≤ s.size := by omega
  have m3 : (m : Int) ≤ s.size := by omega
  have m6 : (0 : Int) ≤ (m : Int) + 1 := by omega
  have m7 : (0 : Int) ≤ (m : Int) := by omega
  simp only [Nat.add_zero] at e2
  have s2 : ¬ 9223372036854775807 < (s.extract 0 m).size + 1 := by omega
  have s1 : (s.extract 0 m ++ ⟨#[q]⟩).size = m + 1 := by rw [ByteArray.size_append, e1]; rfl
  have s3 : ¬ 9223372036854775807 < (s.extract 0 m ++ ⟨#[q]⟩).size + (s.extract m s.size).size := by omega
  have s5 : ¬ 9223372036854775807 < m + 1 := by omega
  have s6 : ¬ 9223372036854775807 < m + 1 + (s.size - m) := by omega
  have hqw : IntKind.u8.wrap (q.toNat : Int) = (q.toNat : Int) := by
    have := q.toNat_lt
    unfold IntKind.wrap
    simp [IntKind.bits, IntKind.signed]
    omega
  have hX : Hid (cutW s m 0 ⟨#[q]⟩ = s.extract 0 m ++ ⟨#[q]⟩ ++ s.extract m s.size) := Lib.hid (by unfold cutW; rfl)
  rw [hX.out]
  unfold setW
  go_enter Try.func65, Try.ntmps65
  go_wp2_with (at_builtin; rw [← hW.out]; refine wpList_append_own _ rfl _ _ _ rfl W.heap.size _ i0 _ 3 32 Try.underlying22 hi0 hz0 hz1 hz2 rfl (by decide) _ _ _ rfl hm0 ⟨b, o, none⟩ l.length c (l.flatMap Tri.enc) rfl ?qc1 ?qc2 ?qc3 ?qc4 ?qc5 ?qc6 ?_)
  case qc1 => exact flat_tri_len l
  case qc2 =>
    intro j u hj
    have e : (⟨b, o, none⟩ : Addr).add j = ⟨b, o + j, none⟩ := by unfold Addr.add; split <;> simp_all
    rw [e]
    exact cell_old ((hBB.cell (p := ⟨b, _, none⟩) hbw).trans (A0.out j u hj))
  case qc3 =>
    intro u hu; obtain ⟨y, _, hy⟩ := List.mem_flatMap.1 hu; simp [Tri.enc] at hy; rcases hy with rfl | rfl | rfl <;> rfl
  case qc4 => unfold maxLen; omega
  case qc5 => omega
  case qc6 => simp
  intro v' w1 hown hgrow _
  have h7 : Own 3 Tri.enc w1 W.heap.size 46 v' l := by simpa [Own] using hown
  obtain ⟨g, cap, rfl, hR⟩ := TRow.of Q0.out h7
  have hB1 : Below W.heap.size W w1 := ((Below.refl _ W).alloc (Nat.le_refl _) _).grown hgrow (by simp) (by intro k hk; simp [Value.ownBlock] at hk; have := HWs.out; omega)
  clear hown hgrow h7
  have hb := hR.heap.1
  have hB2 : Below w.heap.size w w1 := hBB.trans (hB1.mono hBB.size)
  have kF1 := kF.below' hB1
  obtain ⟨c0, c1, c2⟩ := hR.cells hn
  have fz0 := hR.frozen (n * 3)
  have fz1 := hR.frozen (n * 3 + 1)
  have fz2 := hR.frozen (n * 3 + 2)
  have zl := hR.lt
  have fl := kF1.lt
  have p0 := kF1.cell 0 (.int .i64 2) rfl
  have p1 := kF1.cell 1 (.int .i64 n) rfl
  have p2 := kF1.cell 2 (.int .i64 m) rfl
  have p3 := kF1.cell 3 (.int .i64 q.toNat) rfl
  rw [hS.out] at c2
  go_wp2_with fail
  refine wp_region_J (fun _ => True) (fun w' => w'.cell? ⟨w.heap.size, 3, none⟩ = some (.int .i64 q.toNat) ∧ w'.cell? ⟨g, n * 3 + 2, none⟩ = some (.string s)) (fun i => i != 22) (by kernel_rfl) ?_
  have hS2 : w1.drew.cell? ⟨w.heap.size, 3, none⟩ = some (.int .i64 q.toNat) ∧ w1.drew.cell? ⟨g, n * 3 + 2, none⟩ = some (.string s) := ⟨p3, c2⟩
  refine wpAnyJ_take2 0 rfl (by kernel_rfl) (by kernel_rfl) (by kernel_rfl) (by kernel_rfl) (fun _ _ _ h => h) (by rfl) trivial hS2 (fun w' hSw => (by obtain ⟨-, z0, z1⟩ := hSw; go_simp; try (with_reducible rfl))) ?_
  try simp only [Act.put, List.getElem_toArray, List.getElem_cons_succ, List.getElem_cons_zero, List.setIfInBounds_toArray, List.set_cons_zero, List.set_cons_succ]
  refine wpAnyJ_take2 1 rfl (by kernel_rfl) (by kernel_rfl) (by kernel_rfl) (by kernel_rfl) (fun _ _ _ h => h) (by rfl) trivial hS2 (fun w' hSw => (by obtain ⟨-, z0, z1⟩ := hSw; go_simp; try (with_reducible rfl))) ?_
  try simp only [Act.put, List.getElem_toArray, List.getElem_cons_succ, List.getElem_cons_zero, List.setIfInBounds_toArray, List.set_cons_zero, List.set_cons_succ]
  refine wpAnyJ_take2 2 rfl (by kernel_rfl) (by kernel_rfl) (by kernel_rfl) (by kernel_rfl) (fun _ _ _ h => h) (by rfl) trivial hS2 (fun w' hSw => (by obtain ⟨-, z0, z1⟩ := hSw; go_simp; try (with_reducible rfl))) ?_
  try simp only [Act.put, List.getElem_toArray, List.getElem_cons_succ, List.getElem_cons_zero, List.setIfInBounds_toArray, List.set_cons_zero, List.set_cons_succ]
  refine wpAnyJ_take2 3 rfl (by kernel_rfl) (by kernel_rfl) (by kernel_rfl) (by kernel_rfl) (fun _ _ _ h => h) (by rfl) trivial hS2 (fun w' hSw => (by obtain ⟨-, z0, z1⟩ := hSw; go_simp; try (with_reducible rfl))) ?_
  try simp only [Act.put, List.getElem_toArray, List.getElem_cons_succ, List.getElem_cons_zero, List.setIfInBounds_toArray, List.set_cons_zero, List.set_cons_succ]
  refine wpAnyJ_take2 4 rfl (by kernel_rfl) (by kernel_rfl) (by kernel_rfl) (by kernel_rfl) (fun _ _ _ h => h) (by rfl) trivial hS2 (fun w' hSw => (by obtain ⟨-, z0, z1⟩ := hSw; go_simp; try (with_reducible rfl))) ?_
  try simp only [Act.put, List.getElem_toArray, List.getElem_cons_succ, List.getElem_cons_zero, List.setIfInBounds_toArray, List.set_cons_zero, List.set_cons_succ]
  refine wpAnyJ_take2 5 rfl (by kernel_rfl) (by kernel_rfl) (by kernel_rfl) (by kernel_rfl) (fun _ _ _ h => h) (by rfl) trivial hS2 (fun w' hSw => (by obtain ⟨-, z0, z1⟩ := hSw; go_simp; try (with_reducible rfl))) ?_
  try simp only [Act.put, List.getElem_toArray, List.getElem_cons_succ, List.getElem_cons_zero, List.setIfInBounds_toArray, List.set_cons_zero, List.set_cons_succ]
  refine wpAnyJ_take2 6 rfl (by kernel_rfl) (by kernel_rfl) (by kernel_rfl) (by kernel_rfl) (fun _ _ _ h => h) (by rfl) trivial hS2 (fun w' hSw => (by obtain ⟨-, z0, z1⟩ := hSw; go_simp; try (with_reducible rfl))) ?_
  try simp only [Act.put, List.getElem_toArray, List.getElem_cons_succ, List.getElem_cons_zero, List.setIfInBounds_toArray, List.set_cons_zero, List.set_cons_succ]
  refine wpAnyJ_take2 7 rfl (by kernel_rfl) (by kernel_rfl) (by kernel_rfl) (by kernel_rfl) (fun _ _ _ h => h) (by rfl) trivial hS2 (fun w' hSw => (by obtain ⟨-, z0, z1⟩ := hSw; go_simp; try (with_reducible rfl))) ?_
  try simp only [Act.put, List.getElem_toArray, List.getElem_cons_succ, List.getElem_cons_zero, List.setIfInBounds_toArray, List.set_cons_zero, List.set_cons_succ]
  refine wpAnyJ_take2 8 rfl (by kernel_rfl) (by kernel_rfl) (by kernel_rfl) (by kernel_rfl) (fun _ _ _ h => h) (by rfl) trivial hS2 (fun w' hSw => (by obtain ⟨-, z0, z1⟩ := hSw; go_simp; try (with_reducible rfl))) ?_
  try simp only [Act.put, List.getElem_toArray, List.getElem_cons_succ, List.getElem_cons_zero, List.setIfInBounds_toArray, List.set_cons_zero, List.set_cons_succ]
  refine wpAnyJ_take2 9 rfl (by kernel_rfl) (by kernel_rfl) (by kernel_rfl) (by kernel_rfl) (fun _ _ _ h => h) (by rfl) trivial hS2 (fun w' hSw => (by obtain ⟨-, z0, z1⟩ := hSw; go_simp; try (with_reducible rfl))) ?_
  try simp only [Act.put, List.getElem_toArray, List.getElem_cons_succ, List.getElem_cons_zero, List.setIfInBounds_toArray, List.set_cons_zero, List.set_cons_succ]
  refine wpAnyJ_take2 13 rfl (by kernel_rfl) (by kernel_rfl) (by kernel_rfl) (by kernel_rfl) (fun _ _ _ h => h) (by rfl) trivial hS2 (fun w' hSw => (by obtain ⟨-, z0, z1⟩ := hSw; go_simp; try (with_reducible rfl))) ?_
  try simp only [Act.put, List.getElem_toArray, List.getElem_cons_succ, List.getElem_cons_zero, List.setIfInBounds_toArray, List.set_cons_zero, List.set_cons_succ]
  refine wpAnyJ_take2 14 rfl (by kernel_rfl) (by kernel_rfl) (by kernel_rfl) (by kernel_rfl) (fun _ _ _ h => h) (by rfl) trivial hS2 (fun w' hSw => (by obtain ⟨-, z0, z1⟩ := hSw; go_simp; try (with_reducible rfl))) ?_
  try simp only [Act.put, List.getElem_toArray, List.getElem_cons_succ, List.getElem_cons_zero, List.setIfInBounds_toArray, List.set_cons_zero, List.set_cons_succ]
  refine wpAnyJ_take2 15 rfl (by kernel_rfl) (by kernel_rfl) (by kernel_rfl) (by kernel_rfl) (fun _ _ _ h => h) (by rfl) trivial hS2 (fun w' hSw => (by obtain ⟨-, z0, z1⟩ := hSw; go_simp; try (with_reducible rfl))) ?_
  try simp only [Act.put, List.getElem_toArray, List.getElem_cons_succ, List.getElem_cons_zero, List.setIfInBounds_toArray, List.set_cons_zero, List.set_cons_succ]
  refine wpAnyJ_take2 16 rfl (by kernel_rfl) (by kernel_rfl) (by kernel_rfl) (by kernel_rfl) (fun _ _ _ h => h) (by rfl) trivial hS2 (fun w' hSw => (by obtain ⟨-, z0, z1⟩ := hSw; go_simp; try (with_reducible rfl))) ?_
  try simp only [Act.put, List.getElem_toArray, List.getElem_cons_succ, List.getElem_cons_zero, List.setIfInBounds_toArray, List.set_cons_zero, List.set_cons_succ]
  refine wpAnyJ_take2 17 rfl (by kernel_rfl) (by kernel_rfl) (by kernel_rfl) (by kernel_rfl) (fun _ _ _ h => h) (by rfl) trivial hS2 (fun w' hSw => (by obtain ⟨-, z0, z1⟩ := hSw; go_simp; try (with_reducible rfl))) ?_
  try simp only [Act.put, List.getElem_toArray, List.getElem_cons_succ, List.getElem_cons_zero, List.setIfInBounds_toArray, List.set_cons_zero, List.set_cons_succ]
  refine wpAnyJ_take2 18 rfl (by kernel_rfl) (by kernel_rfl) (by kernel_rfl) (by kernel_rfl) (fun _ _ _ h => h) (by rfl) trivial hS2 (fun w' hSw => (by obtain ⟨-, z0, z1⟩ := hSw; go_simp; try (with_reducible rfl))) ?_
  try simp only [Act.put, List.getElem_toArray, List.getElem_cons_succ, List.getElem_cons_zero, List.setIfInBounds_toArray, List.set_cons_zero, List.set_cons_succ]
  refine wpAnyJ_ready [10] (by kernel_rfl) (by simp) (NextJ.cons rfl (fun K hK => ?_) NextJ.nil)
  go_simp
  refine hK.out _ _ trivial (fun _ => ⟨cell_old hS2.1, cell_old hS2.2⟩) ?_
  clear hK K
  try simp only [Act.put, List.getElem_toArray, List.getElem_cons_succ, List.getElem_cons_zero, List.setIfInBounds_toArray, List.set_cons_zero, List.set_cons_succ]
  have hcb : (convert 122 9 (.slice (some ⟨w1.heap.size, 0, none⟩) 1 1)).run Try.prog (w1.alloc (.cells #[.int .u8 q.toNat] 5)).drew = .ok (.string ⟨#[q]⟩) _ := conv_back w1.heap.size 1 q _ rfl _ (cell_new rfl)
  have hS2b : (w1.alloc (.cells #[.int .u8 q.toNat] 5)).drew.cell? ⟨w.heap.size, 3, none⟩ = some (.int .i64 q.toNat) ∧ (w1.alloc (.cells #[.int .u8 q.toNat] 5)).drew.cell? ⟨g, n * 3 + 2, none⟩ = some (.string s) := ⟨cell_old hS2.1, cell_old hS2.2⟩
  refine wpAnyJ_ready [11] (by kernel_rfl) (by simp) (NextJ.cons rfl (fun K hK => ?_) NextJ.nil)
  go_simp
  refine hK.out _ _ trivial (fun _ => hS2b) ?_
  clear hK K
  try simp only [Act.put, List.getElem_toArray, List.getElem_cons_succ, List.getElem_cons_zero, List.setIfInBounds_toArray, List.set_cons_zero, List.set_cons_succ]
  refine wpAnyJ_take2 12 rfl (by kernel_rfl) (by kernel_rfl) (by kernel_rfl) (by kernel_rfl) (fun _ _ _ h => h) (by rfl) trivial hS2b (fun w' hSw => (by obtain ⟨-, z0, z1⟩ := hSw; go_simp; try (with_reducible rfl))) ?_
  try simp only [Act.put, List.getElem_toArray, List.getElem_cons_succ, List.getElem_cons_zero, List.setIfInBounds_toArray, List.set_cons_zero, List.set_cons_succ]
  refine wpAnyJ_take2 19 rfl (by kernel_rfl) (by kernel_rfl) (by kernel_rfl) (by kernel_rfl) (fun _ _ _ h => h) (by rfl) trivial hS2b (fun w' hSw => (by obtain ⟨-, z0, z1⟩ := hSw; go_simp; try (with_reducible rfl))) ?_
  try simp only [Act.put, List.getElem_toArray, List.getElem_cons_succ, List.getElem_cons_zero, List.setIfInBounds_toArray, List.set_cons_zero, List.set_cons_succ]
  refine wpAnyJ_ready [20] (by kernel_rfl) (by simp) (NextJ.cons rfl (fun K hK => ?_) NextJ.nil)
  go_simp
  refine hK.out _ _ trivial (fun _ => hS2b) ?_
  clear hK K
  try simp only [Act.put, List.getElem_toArray, List.getElem_cons_succ, List.getElem_cons_zero, List.setIfInBounds_toArray, List.set_cons_zero, List.set_cons_succ]
  refine wpAnyJ_ready [21] (by kernel_rfl) (by simp) (NextJ.cons rfl (fun K hK => ?_) NextJ.nil)
  go_simp
  refine hK.out _ _ trivial (fun _ => hS2b) ?_
  clear hK K
  try simp only [Act.put, List.getElem_toArray, List.getElem_cons_succ, List.getElem_cons_zero, List.setIfInBounds_toArray, List.set_cons_zero, List.set_cons_succ]
  refine wpAnyJ_ready [22] (by kernel_rfl) (by simp) (NextJ.cons rfl (fun K hK => ?_) NextJ.nil)
  go_simp
  refine hK.out _ _ trivial (fun h => absurd h (by decide)) ?_
  clear hK K
  try simp only [Act.put, List.getElem_toArray, List.getElem_cons_succ, List.getElem_cons_zero, List.setIfInBounds_toArray, List.set_cons_zero, List.set_cons_succ]
  refine wpAnyJ_done (by kernel_rfl) ?_ _
  go_wp2_with fail
  go_ret
  have hT0 : SRowT (w1.setCell ⟨g, n * 3 + 2, none⟩ (.string (s.extract 0 m ++ ⟨#[q]⟩ ++ s.extract m s.size))) W.heap.size g cap (l.set n ⟨(xAt l n).a, (xAt l n).b, s.extract 0 m ++ ⟨#[q]⟩ ++ s.extract m s.size⟩) := hR.set_ (j := 2) hn (by decide) rfl
  have hT := hT0.alloc (.cells #[.int .u8 q.toNat] 5)
  have hB9 : Below w.heap.size w ((w1.setCell ⟨g, n * 3 + 2, none⟩ (.string (s.extract 0 m ++ ⟨#[q]⟩ ++ s.extract m s.size))).alloc (.cells #[.int .u8 q.toNat] 5)).drew := by
    have hwg : w.heap.size ≤ g := by have := HWs.out; omega
    (repeat' first | assumption | exact Below.refl _ _ | apply Below.drew | (refine Below.setCells ?_ _ _ ?_) | (refine Below.setCell ?_ ?_ _) | (refine Below.alloc ?_ ?_ _) | (simp; done) | (simp; omega))
  have hZ := NewSteps.of (n := l.length) hT.drew (by simp) hB9
  exact hZ

set_option maxRecDepth 100000 in
set_option maxHeartbeats 4000000 in
theorem put3_any (A : Option Addr) (l : List Tri) (c : Nat) (n : Nat) (m : Nat) (wi : Int) (hm : m < (xAt l n).s.size) (hc : isLetter (byteAt (xAt l n).s m) = true) (w : World) (H : Nat) (hr : RdT w H A l) (hH : H ≤ w.heap.size) (hl : l.length ≤ 2000) (hn : n < l.length) (hs : (xAt l n).s.size ≤ 1000) :
    Calls Try.prog 65 #[.slice A l.length c, .agg #[.int .i64 3, .int .i64 n, .int .i64 m, .int .i64 wi]] w (NewSteps w (setW l n (cutW (xAt l n).s m 1 ⟨#[undo (byteAt (xAt l n).s m)]⟩))) := by
  obtain ⟨b, o, rfl, hb0, _, _, _⟩ := hr.tri hn
  obtain ⟨i0, hi0, hz0, hz1, hz2⟩ := info_parts infoStep'
  have hl0 : l ≠ [] := by intro e; subst e; simp at hn
  have A0 : Hid (∀ j u, (l.flatMap Tri.enc)[j]? = some u → w.cell? ⟨b, o + j, none⟩ = some u) := Lib.hid fun j u hj => by
    obtain ⟨k, x, i, h1, h2, h3⟩ := tflat_inv l j u hj
    obtain ⟨b', o', e, _, hc⟩ := hr hl0
    simp only [Option.some.injEq, Addr.mk.injEq, and_true] at e
    obtain ⟨rfl, rfl⟩ := e
    have := hc k x h1 i u h2
    rw [h3, ← Nat.add_assoc]; exact this
  have Q0 := Lib.hid hl0
  have hbw : b < w.heap.size := Nat.lt_of_lt_of_le hb0 hH
  obtain ⟨W, hW⟩ : ∃ W, Hid (W = w.alloc (.cells #[.int .i64 3, .int .i64 n, .int .i64 m, .int .i64 wi] 24)) := ⟨_, Lib.hid rfl⟩
  have hBB : Below w.heap.size w W := by rw [hW.out]; (repeat' first | exact Below.refl _ _ | apply Below.drew | (refine Below.setCells ?_ _ _ ?_) | (refine Below.setCell ?_ ?_ _) | (refine Below.alloc ?_ ?_ _) | (simp; done) | (simp; omega))
  have kF : Blk W w.heap.size 24 #[.int .i64 3, .int .i64 n, .int .i64 m, .int .i64 wi] := by rw [hW.out]; exact Blk.new w _ _
  have hWs : W.heap.size = w.heap.size + 1 := by rw [hW.out]; simp
  have hm0 : (W.alloc (.cells #[] 46)).ownsRow W.heap.size 46 3 (.slice (some ⟨w.heap.size + 1, 0, none⟩) 0 0) 0 [] := by rw [← hWs]; exact World.ownsRow_made W #[] 0 (Nat.le_refl _) (Nat.zero_le _) (by simp)
  have HWs := Lib.hid hWs
  clear hWs
  have n0 : (n : Int) < (l.length : Int) := by omega
  have n9 : (0 : Int) ≤ (n : Int) := by omega
  clear hr hl0
  obtain ⟨ch, hch⟩ : ∃ ch, Hid (byteAt (xAt l n).s m = ch) := ⟨_, Lib.hid rfl⟩
  rw [hch.out] at hc ⊢
  have HX : Hid ((xAt l n).s.extract m (m + 1) = ⟨#[ch]⟩) := by rw [Hid, extract1 _ _ hm, ← byteAt_nat _ hm, hch.out]
  obtain ⟨s, hS⟩ : ∃ s, Hid ((xAt l n).s = s) := ⟨_, Lib.hid rfl⟩
  rw [hS.out] at hs hm HX ⊢
  have e1 : (s.extract 0 m).size = m := by rw [ByteArray.size_extract]; omega
  have e2 : (s.extract (m + 1) s.size).size = s.size - (m + 1) := by rw [ByteArray.size_extract]; omega
  have m0 : IntKind.i64.wrap ((m : Int) + 1) = (m : Int) + 1 := IntWalk.i64_in _ (by omega)
  have m1 : ((m : Int) + 1).toNat = m + 1 := by omega
  have m2 : m ≤ s.size := by omega
  have m3 : (m : Int) ≤ s.size := by omega
  have m6 : (0 : Int) ≤ (m : Int) + 1 := by omega
  have m7 : (0 : Int) ≤ (m : Int) := by omega
  have m4 : (m : Int) + 1 ≤ (s.size : Int) := by omega
  have m5 : (m : Int) ≤ (m : Int) + 1 := by omega
  have s1 : (s.extract 0 m ++ ⟨#[undo ch]⟩).size = m + 1 := by rw [ByteArray.size_append, e1]; rfl
  have s2 : ¬ 9223372036854775807 < (s.extract 0 m).size + (⟨#[undo ch]⟩ : ByteArray).size := by show ¬ 9223372036854775807 < (s.extract 0 m).size + 1; omega
  have s4 : ¬ 9223372036854775807 < (s.extract 0 m).size + 1 := by omega
  have s3 : ¬ 9223372036854775807 < (s.extract 0 m ++ ⟨#[undo ch]⟩).size + (s.extract (m + 1) s.size).size := by omega
  have s5 : ¬ 9223372036854775807 < m + 1 := by omega
  have s6 : ¬ 9223372036854775807 < m + 1 + (s.size - (m + 1)) := by omega
  have hcl := hc
  have hX : Hid (cutW s m 1 ⟨#[undo ch]⟩ = s.extract 0 m ++ ⟨#[undo ch]⟩ ++ s.extract (m + 1) s.size) := Lib.hid (by unfold cutW; rfl)
  rw [hX.out]
  unfold setW
  go_enter Try.func65, Try.ntmps65
  go_wp2_with (at_builtin; rw [← hW.out]; refine wpList_append_own _ rfl _ _ _ rfl W.heap.size _ i0 _ 3 32 Try.underlying22 hi0 hz0 hz1 hz2 rfl (by decide) _ _ _ rfl hm0 ⟨b, o, none⟩ l.length c (l.flatMap Tri.enc) rfl ?qc1 ?qc2 ?qc3 ?qc4 ?qc5 ?qc6 ?_)
  case qc1 => exact flat_tri_len l
  case qc2 =>
    intro j u hj
    have e : (⟨b, o, none⟩ : Addr).add j = ⟨b, o + j, none⟩ := by unfold Addr.add; split <;> simp_all
    rw [e]
    exact cell_old ((hBB.cell (p := ⟨b, _, none⟩) hbw).trans (A0.out j u hj))
  case qc3 =>
    intro u hu; obtain ⟨y, _, hy⟩ := List.mem_flatMap.1 hu; simp [Tri.enc] at hy; rcases hy with rfl | rfl | rfl <;> rfl
  case qc4 => unfold maxLen; omega
  case qc5 => omega
  case qc6 => simp
  intro v' w1 hown hgrow _
  have h7 : Own 3 Tri.enc w1 W.heap.size 46 v' l := by simpa [Own] using hown
  obtain ⟨g, cap, rfl, hR⟩ := TRow.of Q0.out h7
  have hB1 : Below W.heap.size W w1 := ((Below.refl _ W).alloc (Nat.le_refl _) _).grown hgrow (by simp) (by intro k hk; simp [Value.ownBlock] at hk; have := HWs.out; omega)
  clear hown hgrow h7
  have hb := hR.heap.1
  have hB2 : Below w.heap.size w w1 := hBB.trans (hB1.mono hBB.size)
  have kF1 := kF.below' hB1
  obtain ⟨c0, c1, c2⟩ := hR.cells hn
  have fz0 := hR.frozen (n * 3)
  have fz1 := hR.frozen (n * 3 + 1)
  have fz2 := hR.frozen (n * 3 + 2)
  have zl := hR.lt
  have fl := kF1.lt
  have p0 := kF1.cell 0 (.int .i64 3) rfl
  have p1 := kF1.cell 1 (.int .i64 n) rfl
  have p2 := kF1.cell 2 (.int .i64 m) rfl
  have p3 := kF1.cell 3 (.int .i64 wi) rfl
  rw [hS.out] at c2
  go_wp2_with (first
    | (go_at_call 94; rw [HX.out]; refine (inv3_any ch _ hcl).mono ?_; rintro e w3 ⟨rfl, hB3⟩
       have hR3 := hR.below hB3
       have kF3 := kF1.below' hB3
       have hB4 : Below w.heap.size w w3 := hB2.trans (hB3.mono hB2.size)
       have q0 := kF3.cell 0 (.int .i64 3) rfl
       have q1 := kF3.cell 1 (.int .i64 n) rfl
       have q2 := kF3.cell 2 (.int .i64 m) rfl
       have q3 := kF3.cell 3 (.int .i64 wi) rfl
       obtain ⟨d0, d1, d2⟩ := hR3.cells hn
       rw [hS.out] at d2
       have gz2 := hR3.frozen (n * 3 + 2)
       have zl3 := hR3.lt
       have fl3 := kF3.lt)
    | fail)
  refine wp_region_J (fun _ => True) (fun w' => w'.cell? ⟨g, n * 3 + 2, none⟩ = some (.string s)) (fun i => i != 19) (by kernel_rfl) ?_
  have hS2 : w3.drew.cell? ⟨g, n * 3 + 2, none⟩ = some (.string s) := d2
  refine wpAnyJ_take2 0 rfl (by kernel_rfl) (by kernel_rfl) (by kernel_rfl) (by kernel_rfl) (fun _ _ _ h => h) (by rfl) trivial hS2 (fun w' hSw => (by obtain ⟨-, z1⟩ := hSw; go_simp; try (with_reducible rfl))) ?_
  try simp only [Act.put, List.getElem_toArray, List.getElem_cons_succ, List.getElem_cons_zero, List.setIfInBounds_toArray, List.set_cons_zero, List.set_cons_succ]
  refine wpAnyJ_take2 1 rfl (by kernel_rfl) (by kernel_rfl) (by kernel_rfl) (by kernel_rfl) (fun _ _ _ h => h) (by rfl) trivial hS2 (fun w' hSw => (by obtain ⟨-, z1⟩ := hSw; go_simp; try (with_reducible rfl))) ?_
  try simp only [Act.put, List.getElem_toArray, List.getElem_cons_succ, List.getElem_cons_zero, List.setIfInBounds_toArray, List.set_cons_zero, List.set_cons_succ]
  refine wpAnyJ_take2 2 rfl (by kernel_rfl) (by kernel_rfl) (by kernel_rfl) (by kernel_rfl) (fun _ _ _ h => h) (by rfl) trivial hS2 (fun w' hSw => (by obtain ⟨-, z1⟩ := hSw; go_simp; try (with_reducible rfl))) ?_
  try simp only [Act.put, List.getElem_toArray, List.getElem_cons_succ, List.getElem_cons_zero, List.setIfInBounds_toArray, List.set_cons_zero, List.set_cons_succ]
  refine wpAnyJ_take2 3 rfl (by kernel_rfl) (by kernel_rfl) (by kernel_rfl) (by kernel_rfl) (fun _ _ _ h => h) (by rfl) trivial hS2 (fun w' hSw => (by obtain ⟨-, z1⟩ := hSw; go_simp; try (with_reducible rfl))) ?_
  try simp only [Act.put, List.getElem_toArray, List.getElem_cons_succ, List.getElem_cons_zero, List.setIfInBounds_toArray, List.set_cons_zero, List.set_cons_succ]
  refine wpAnyJ_take2 4 rfl (by kernel_rfl) (by kernel_rfl) (by kernel_rfl) (by kernel_rfl) (fun _ _ _ h => h) (by rfl) trivial hS2 (fun w' hSw => (by obtain ⟨-, z1⟩ := hSw; go_simp; try (with_reducible rfl))) ?_
  try simp only [Act.put, List.getElem_toArray, List.getElem_cons_succ, List.getElem_cons_zero, List.setIfInBounds_toArray, List.set_cons_zero, List.set_cons_succ]
  refine wpAnyJ_take2 5 rfl (by kernel_rfl) (by kernel_rfl) (by kernel_rfl) (by kernel_rfl) (fun _ _ _ h => h) (by rfl) trivial hS2 (fun w' hSw => (by obtain ⟨-, z1⟩ := hSw; go_simp; try (with_reducible rfl))) ?_
  try simp only [Act.put, List.getElem_toArray, List.getElem_cons_succ, List.getElem_cons_zero, List.setIfInBounds_toArray, List.set_cons_zero, List.set_cons_succ]
  refine wpAnyJ_take2 6 rfl (by kernel_rfl) (by kernel_rfl) (by kernel_rfl) (by kernel_rfl) (fun _ _ _ h => h) (by rfl) trivial hS2 (fun w' hSw => (by obtain ⟨-, z1⟩ := hSw; go_simp; try (with_reducible rfl))) ?_
  try simp only [Act.put, List.getElem_toArray, List.getElem_cons_succ, List.getElem_cons_zero, List.setIfInBounds_toArray, List.set_cons_zero, List.set_cons_succ]
  refine wpAnyJ_take2 7 rfl (by kernel_rfl) (by kernel_rfl) (by kernel_rfl) (by kernel_rfl) (fun _ _ _ h => h) (by rfl) trivial hS2 (fun w' hSw => (by obtain ⟨-, z1⟩ := hSw; go_simp; try (with_reducible rfl))) ?_
  try simp only [Act.put, List.getElem_toArray, List.getElem_cons_succ, List.getElem_cons_zero, List.setIfInBounds_toArray, List.set_cons_zero, List.set_cons_succ]
  refine wpAnyJ_take2 8 rfl (by kernel_rfl) (by kernel_rfl) (by kernel_rfl) (by kernel_rfl) (fun _ _ _ h => h) (by rfl) trivial hS2 (fun w' hSw => (by obtain ⟨-, z1⟩ := hSw; go_simp; try (with_reducible rfl))) ?_
  try simp only [Act.put, List.getElem_toArray, List.getElem_cons_succ, List.getElem_cons_zero, List.setIfInBounds_toArray, List.set_cons_zero, List.set_cons_succ]
  refine wpAnyJ_take2 9 rfl (by kernel_rfl) (by kernel_rfl) (by kernel_rfl) (by kernel_rfl) (fun _ _ _ h => h) (by rfl) trivial hS2 (fun w' hSw => (by obtain ⟨-, z1⟩ := hSw; go_simp; try (with_reducible rfl))) ?_
  try simp only [Act.put, List.getElem_toArray, List.getElem_cons_succ, List.getElem_cons_zero, List.setIfInBounds_toArray, List.set_cons_zero, List.set_cons_succ]
  refine wpAnyJ_take2 10 rfl (by kernel_rfl) (by kernel_rfl) (by kernel_rfl) (by kernel_rfl) (fun _ _ _ h => h) (by rfl) trivial hS2 (fun w' hSw => (by obtain ⟨-, z1⟩ := hSw; go_simp; try (with_reducible rfl))) ?_
  try simp only [Act.put, List.getElem_toArray, List.getElem_cons_succ, List.getElem_cons_zero, List.setIfInBounds_toArray, List.set_cons_zero, List.set_cons_succ]
  refine wpAnyJ_take2 11 rfl (by kernel_rfl) (by kernel_rfl) (by kernel_rfl) (by kernel_rfl) (fun _ _ _ h => h) (by rfl) trivial hS2 (fun w' hSw => (by obtain ⟨-, z1⟩ := hSw; go_simp; try (with_reducible rfl))) ?_
  try simp only [Act.put, List.getElem_toArray, List.getElem_cons_succ, List.getElem_cons_zero, List.setIfInBounds_toArray, List.set_cons_zero, List.set_cons_succ]
  refine wpAnyJ_take2 12 rfl (by kernel_rfl) (by kernel_rfl) (by kernel_rfl) (by kernel_rfl) (fun _ _ _ h => h) (by rfl) trivial hS2 (fun w' hSw => (by obtain ⟨-, z1⟩ := hSw; go_simp; try (with_reducible rfl))) ?_
  try simp only [Act.put, List.getElem_toArray, List.getElem_cons_succ, List.getElem_cons_zero, List.setIfInBounds_toArray, List.set_cons_zero, List.set_cons_succ]
  refine wpAnyJ_take2 13 rfl (by kernel_rfl) (by kernel_rfl) (by kernel_rfl) (by kernel_rfl) (fun _ _ _ h => h) (by rfl) trivial hS2 (fun w' hSw => (by obtain ⟨-, z1⟩ := hSw; go_simp; try (with_reducible rfl))) ?_
  try simp only [Act.put, List.getElem_toArray, List.getElem_cons_succ, List.getElem_cons_zero, List.setIfInBounds_toArray, List.set_cons_zero, List.set_cons_succ]
  refine wpAnyJ_take2 14 rfl (by kernel_rfl) (by kernel_rfl) (by kernel_rfl) (by kernel_rfl) (fun _ _ _ h => h) (by rfl) trivial hS2 (fun w' hSw => (by obtain ⟨-, z1⟩ := hSw; go_simp; try (with_reducible rfl))) ?_
  try simp only [Act.put, List.getElem_toArray, List.getElem_cons_succ, List.getElem_cons_zero, List.setIfInBounds_toArray, List.set_cons_zero, List.set_cons_succ]
  refine wpAnyJ_take2 15 rfl (by kernel_rfl) (by kernel_rfl) (by kernel_rfl) (by kernel_rfl) (fun _ _ _ h => h) (by rfl) trivial hS2 (fun w' hSw => (by obtain ⟨-, z1⟩ := hSw; go_simp; try (with_reducible rfl))) ?_
  try simp only [Act.put, List.getElem_toArray, List.getElem_cons_succ, List.getElem_cons_zero, List.setIfInBounds_toArray, List.set_cons_zero, List.set_cons_succ]
  refine wpAnyJ_take2 16 rfl (by kernel_rfl) (by kernel_rfl) (by kernel_rfl) (by kernel_rfl) (fun _ _ _ h => h) (by rfl) trivial hS2 (fun w' hSw => (by obtain ⟨-, z1⟩ := hSw; go_simp; try (with_reducible rfl))) ?_
  try simp only [Act.put, List.getElem_toArray, List.getElem_cons_succ, List.getElem_cons_zero, List.setIfInBounds_toArray, List.set_cons_zero, List.set_cons_succ]
  refine wpAnyJ_ready [17] (by kernel_rfl) (by simp) (NextJ.cons rfl (fun K hK => ?_) NextJ.nil)
  go_simp
  refine hK.out _ _ trivial (fun _ => hS2) ?_
  clear hK K
  try simp only [Act.put, List.getElem_toArray, List.getElem_cons_succ, List.getElem_cons_zero, List.setIfInBounds_toArray, List.set_cons_zero, List.set_cons_succ]
  refine wpAnyJ_ready [18] (by kernel_rfl) (by simp) (NextJ.cons rfl (fun K hK => ?_) NextJ.nil)
  go_simp
  refine hK.out _ _ trivial (fun _ => hS2) ?_
  clear hK K
  try simp only [Act.put, List.getElem_toArray, List.getElem_cons_succ, List.getElem_cons_zero, List.setIfInBounds_toArray, List.set_cons_zero, List.set_cons_succ]
  refine wpAnyJ_ready [19] (by kernel_rfl) (by simp) (NextJ.cons rfl (fun K hK => ?_) NextJ.nil)
  go_simp
  refine hK.out _ _ trivial (fun h => absurd h (by decide)) ?_
  clear hK K
  try simp only [Act.put, List.getElem_toArray, List.getElem_cons_succ, List.getElem_cons_zero, List.setIfInBounds_toArray, List.set_cons_zero, List.set_cons_succ]
  refine wpAnyJ_done (by kernel_rfl) ?_ _
  go_wp2_with fail
  go_ret
  have hT : SRowT (w3.setCell ⟨g, n * 3 + 2, none⟩ (.string (s.extract 0 m ++ ⟨#[undo ch]⟩ ++ s.extract (m + 1) s.size))) W.heap.size g cap (l.set n ⟨(xAt l n).a, (xAt l n).b, s.extract 0 m ++ ⟨#[undo ch]⟩ ++ s.extract (m + 1) s.size⟩) := hR3.set_ (j := 2) hn (by decide) rfl
  have hB9 : Below w.heap.size w (w3.setCell ⟨g, n * 3 + 2, none⟩ (.string (s.extract 0 m ++ ⟨#[undo ch]⟩ ++ s.extract (m + 1) s.size))).drew := by
    have hwg : w.heap.size ≤ g := by have := HWs.out; omega
    (repeat' first | assumption | exact Below.refl _ _ | apply Below.drew | (refine Below.setCells ?_ _ _ ?_) | (refine Below.setCell ?_ ?_ _) | (refine Below.alloc ?_ ?_ _) | (simp; done) | (simp; omega))
  have hZ := NewSteps.of (n := l.length) hT.drew (by simp) hB9
  exact hZ

theorem step_append_l {P : Program} {ops : Array Oper} {o : Oper} {a : Act} {K : Act → World → Prop} {Q : Exit → Act → World → Prop} {E : Prop} {w : World} (hgd : o.guard = none) (s x : Operand) (t : TypeId)
    (ho : o.op = .call { callee := .builtin .append, args := #[s, x], argTypes := #[t, t] })
    (base : Nat) (e : TypeId) (i : TypeInfo) (z : Value) (ht : P.underlying t = some (.slice e)) (hi : P.info? e = some i) (hz : i.zero = some z)
    (hsize : i.size = 3) (hby : i.bytes = 32) (hzs : z.cells.size = 3)
    (v : Value) (l : List Tri) (hs : a.eval s = v) (hown : Own 3 Tri.enc w base e v l)
    (ad : Addr) (m : List Tri) (n c : Nat) (hx : a.eval x = .slice (some ad) n c) (hn : m.length = n)
    (hc : ∀ j u, (m.flatMap Tri.enc)[j]? = some u → w.cell? (ad.add j) = some u)
    (hlen : l.length ≤ 1000000) (hlen2 : n ≤ 1000000) (hbase : base ≤ w.heap.size)
    (h : ∀ v' w', Own 3 Tri.enc w' base e v' (l ++ m) → w.grownBy w' v.ownBlock → K (a.put o.dst v') w') :
    if Region.wanted o (yielded ops a.tmps) = true then Oper.wp P o a w K Q else E := by
  have hw : Region.wanted o (yielded ops a.tmps) = true := by simp [Region.wanted, hgd]
  rw [if_pos hw]
  subst hn
  obtain ⟨v', w', hr, h2, h3, h4, h5⟩ := run_append_own_at (P := P) w base t o.type e i z 3 32 ht hi hz hsize hby hzs (by omega) v l.length (l.flatMap Tri.enc) hown ad m.length c (m.flatMap Tri.enc) (flat_tri_len m)
    hc (fun u hu => by obtain ⟨y, _, hy⟩ := List.mem_flatMap.1 hu; simp [Tri.enc] at hy; rcases hy with rfl | rfl | rfl <;> rfl) (by unfold maxLen; omega) (by omega) hbase
  have hK := h v' w' (by unfold Own; rw [List.length_append, List.flatMap_append]; exact h2) h3
  unfold Oper.wp execOp
  simp only [ho, resolve, invoke, builtin, Sem.run_bind, Sem.run_pure, Result.andThen_ok, List.map_toArray, List.map_cons, List.map_nil, hs, hx, hr]
  exact hK

set_option maxRecDepth 100000 in
set_option maxHeartbeats 4000000 in
theorem put4_any (A : Option Addr) (l : List Tri) (c : Nat) (n : Nat) (lt wi : Int) (hlc : l.length ≤ c) (w : World) (H : Nat) (hr : RdT w H A l) (hH : H ≤ w.heap.size) (hl : l.length ≤ 2000) (hn : n < l.length) (hs : (xAt l n).s.size ≤ 1000) :
    Calls Try.prog 65 #[.slice A l.length c, .agg #[.int .i64 4, .int .i64 n, .int .i64 lt, .int .i64 wi]] w (NewSteps w (l.eraseIdx n)) := by
  obtain ⟨b, o, rfl, hb0, _, _, _⟩ := hr.tri hn
  obtain ⟨i0, hi0, hz0, hz1, hz2⟩ := info_parts infoStep'
  have hl0 : l ≠ [] := by intro e; subst e; simp at hn
  have A0 : Hid (∀ j u, (l.flatMap Tri.enc)[j]? = some u → w.cell? ⟨b, o + j, none⟩ = some u) := Lib.hid fun j u hj => by
    obtain ⟨k, x, i, h1, h2, h3⟩ := tflat_inv l j u hj
    obtain ⟨b', o', e, _, hc⟩ := hr hl0
    simp only [Option.some.injEq, Addr.mk.injEq, and_true] at e
    obtain ⟨rfl, rfl⟩ := e
    have := hc k x h1 i u h2
    rw [h3, ← Nat.add_assoc]; exact this
  have Q0 := Lib.hid hl0
  have hbw : b < w.heap.size := Nat.lt_of_lt_of_le hb0 hH
  obtain ⟨W, hW⟩ : ∃ W, Hid (W = w.alloc (.cells #[.int .i64 4, .int .i64 n, .int .i64 lt, .int .i64 wi] 24)) := ⟨_, Lib.hid rfl⟩
  have hBB : Below w.heap.size w W := by rw [hW.out]; (repeat' first | exact Below.refl _ _ | apply Below.drew | (refine Below.setCells ?_ _ _ ?_) | (refine Below.setCell ?_ ?_ _) | (refine Below.alloc ?_ ?_ _) | (simp; done) | (simp; omega))
  have kF : Blk W w.heap.size 24 #[.int .i64 4, .int .i64 n, .int .i64 lt, .int .i64 wi] := by rw [hW.out]; exact Blk.new w _ _
  have hWs : W.heap.size = w.heap.size + 1 := by rw [hW.out]; simp
  have hm0 : (W.alloc (.cells #[] 46)).ownsRow W.heap.size 46 3 (.slice (some ⟨w.heap.size + 1, 0, none⟩) 0 0) 0 [] := by rw [← hWs]; exact World.ownsRow_made W #[] 0 (Nat.le_refl _) (Nat.zero_le _) (by simp)
  have HWs := Lib.hid hWs
  clear hWs
  have n0 : (n : Int) < (l.length : Int) := by omega
  have n9 : (0 : Int) ≤ (n : Int) := by omega
  clear hr hl0
  have n8 : (0 : Int) ≤ (n : Int) + 1 := by omega
  have n7 : (n : Int) + 1 ≤ (l.length : Int) := by omega
  have n6 : (n : Int) ≤ (c : Int) := by omega
  have n5 : (l.length : Int) ≤ (c : Int) := by omega
  have n4 : n ≤ c := by omega
  have n3 : n + 1 ≤ c := by omega
  have m0 : IntKind.i64.wrap ((n : Int) + 1) = (n : Int) + 1 := IntWalk.i64_in _ (by omega)
  have m1 : ((n : Int) + 1).toNat = n + 1 := by omega
  obtain ⟨A9, hA9, hsrc⟩ : ∃ A : Addr, (if c = n + 1 then some (⟨b, o, none⟩ : Addr) else some ⟨b, o + (n + 1) * 3, none⟩) = some A ∧ Hid (∀ W', Below w.heap.size w W' → ∀ t u, ((l.drop (n + 1)).flatMap Tri.enc)[t]? = some u → W'.cell? (A.add t) = some u) := by
    by_cases h : c = n + 1
    · refine ⟨_, by rw [if_pos h], fun W' hB t u hu => ?_⟩
      have : l.drop (n + 1) = [] := List.drop_eq_nil_of_le (by omega)
      rw [this] at hu; simp at hu
    · refine ⟨_, by rw [if_neg h], fun W' hB t u hu => ?_⟩
      have e : (⟨b, o + (n + 1) * 3, none⟩ : Addr).add t = ⟨b, o + ((n + 1) * 3 + t), none⟩ := by unfold Addr.add; split <;> simp_all [Nat.add_assoc]
      have hu2 : (l.flatMap Tri.enc)[(n + 1) * 3 + t]? = some u := by
        rw [← flat_drop l (n + 1), List.getElem?_drop] at hu
        exact hu
      rw [e]
      exact (hB.cell (p := ⟨b, _, none⟩) hbw).trans (A0.out _ u hu2)
  have hsrc1 : Hid (∀ W', Below w.heap.size w W' → ∀ t u, ((l.take n).flatMap Tri.enc)[t]? = some u → W'.cell? ((⟨b, o, none⟩ : Addr).add t) = some u) := fun W' hB t u hu => by
    have e : (⟨b, o, none⟩ : Addr).add t = ⟨b, o + t, none⟩ := by unfold Addr.add; split <;> simp_all
    rw [← flat_take, List.getElem?_take] at hu
    split at hu
    · rw [e]
      exact (hB.cell (p := ⟨b, _, none⟩) hbw).trans (A0.out _ u hu)
    · cases hu
  have HT : Hid ((l.take n).length = n) := Lib.hid (by rw [List.length_take]; omega)
  have HD : Hid ((l.drop (n + 1)).length = l.length - (n + 1)) := Lib.hid (by rw [List.length_drop])
  go_enter Try.func65, Try.ntmps65
  go_wp2_with (at_builtin; rw [← hW.out]; refine wpList_append_own _ rfl _ _ _ rfl W.heap.size _ i0 _ 3 32 Try.underlying22 hi0 hz0 hz1 hz2 rfl (by decide) _ _ _ rfl hm0 ⟨b, o, none⟩ l.length c (l.flatMap Tri.enc) rfl ?qc1 ?qc2 ?qc3 ?qc4 ?qc5 ?qc6 ?_)
  case qc1 => exact flat_tri_len l
  case qc2 =>
    intro j u hj
    have e : (⟨b, o, none⟩ : Addr).add j = ⟨b, o + j, none⟩ := by unfold Addr.add; split <;> simp_all
    rw [e]
    exact cell_old ((hBB.cell (p := ⟨b, _, none⟩) hbw).trans (A0.out j u hj))
  case qc3 =>
    intro u hu; obtain ⟨y, _, hy⟩ := List.mem_flatMap.1 hu; simp [Tri.enc] at hy; rcases hy with rfl | rfl | rfl <;> rfl
  case qc4 => unfold maxLen; omega
  case qc5 => omega
  case qc6 => simp
  intro v' w1 hown hgrow _
  have h7 : Own 3 Tri.enc w1 W.heap.size 46 v' l := by simpa [Own] using hown
  obtain ⟨g, cap, rfl, hR⟩ := TRow.of Q0.out h7
  have hB1 : Below W.heap.size W w1 := ((Below.refl _ W).alloc (Nat.le_refl _) _).grown hgrow (by simp) (by intro k hk; simp [Value.ownBlock] at hk; have := HWs.out; omega)
  clear hown hgrow h7
  have hb := hR.heap.1
  have hB2 : Below w.heap.size w w1 := hBB.trans (hB1.mono hBB.size)
  have kF1 := kF.below' hB1
  obtain ⟨c0, c1, c2⟩ := hR.cells hn
  have fz0 := hR.frozen (n * 3)
  have fz1 := hR.frozen (n * 3 + 1)
  have fz2 := hR.frozen (n * 3 + 2)
  have zl := hR.lt
  have fl := kF1.lt
  have p0 := kF1.cell 0 (.int .i64 4) rfl
  have p1 := kF1.cell 1 (.int .i64 n) rfl
  have p2 := kF1.cell 2 (.int .i64 lt) rfl
  have p3 := kF1.cell 3 (.int .i64 wi) rfl
  go_wp2_with fail
  refine wp_region_J (fun w' => w'.cell? ⟨w.heap.size, 1, none⟩ = some (.int .i64 n)) (fun _ => True) (fun _ => false) (by kernel_rfl) ?_
  have hS1 : w1.drew.cell? ⟨w.heap.size, 1, none⟩ = some (.int .i64 n) := p1
  refine wpAnyJ_take1 1 rfl (by kernel_rfl) (by kernel_rfl) rfl (by kernel_rfl) (fun _ _ _ h => h) (by rfl) hS1 (fun w' hSw => (by have z1 := hSw; go_simp; try (with_reducible rfl))) ?_
  try simp only [Act.put, List.getElem_toArray, List.getElem_cons_succ, List.getElem_cons_zero, List.setIfInBounds_toArray, List.set_cons_zero, List.set_cons_succ]
  refine wpAnyJ_take1 2 rfl (by kernel_rfl) (by kernel_rfl) rfl (by kernel_rfl) (fun _ _ _ h => h) (by rfl) hS1 (fun w' hSw => (by have z1 := hSw; go_simp; try (with_reducible rfl))) ?_
  try simp only [Act.put, List.getElem_toArray, List.getElem_cons_succ, List.getElem_cons_zero, List.setIfInBounds_toArray, List.set_cons_zero, List.set_cons_succ]
  refine wpAnyJ_take1 3 rfl (by kernel_rfl) (by kernel_rfl) rfl (by kernel_rfl) (fun _ _ _ h => h) (by rfl) hS1 (fun w' hSw => (by have z1 := hSw; go_simp; try (with_reducible rfl))) ?_
  try simp only [Act.put, List.getElem_toArray, List.getElem_cons_succ, List.getElem_cons_zero, List.setIfInBounds_toArray, List.set_cons_zero, List.set_cons_succ]
  refine wpAnyJ_take1 4 rfl (by kernel_rfl) (by kernel_rfl) rfl (by kernel_rfl) (fun _ _ _ h => h) (by rfl) hS1 (fun w' hSw => (by have z1 := hSw; go_simp; try (with_reducible rfl))) ?_
  try simp only [Act.put, List.getElem_toArray, List.getElem_cons_succ, List.getElem_cons_zero, List.setIfInBounds_toArray, List.set_cons_zero, List.set_cons_succ]
  refine wpAnyJ_take1 6 rfl (by kernel_rfl) (by kernel_rfl) rfl (by kernel_rfl) (fun _ _ _ h => h) (by rfl) hS1 (fun w' hSw => (by have z1 := hSw; go_simp; try (with_reducible rfl))) ?_
  try simp only [Act.put, List.getElem_toArray, List.getElem_cons_succ, List.getElem_cons_zero, List.setIfInBounds_toArray, List.set_cons_zero, List.set_cons_succ]
  refine wpAnyJ_take1 7 rfl (by kernel_rfl) (by kernel_rfl) rfl (by kernel_rfl) (fun _ _ _ h => h) (by rfl) hS1 (fun w' hSw => (by have z1 := hSw; go_simp; try (with_reducible rfl))) ?_
  try simp only [Act.put, List.getElem_toArray, List.getElem_cons_succ, List.getElem_cons_zero, List.setIfInBounds_toArray, List.set_cons_zero, List.set_cons_succ]
  refine wpAnyJ_take1 8 rfl (by kernel_rfl) (by kernel_rfl) rfl (by kernel_rfl) (fun _ _ _ h => h) (by rfl) hS1 (fun w' hSw => (by have z1 := hSw; go_simp; try (with_reducible rfl))) ?_
  try simp only [Act.put, List.getElem_toArray, List.getElem_cons_succ, List.getElem_cons_zero, List.setIfInBounds_toArray, List.set_cons_zero, List.set_cons_succ]
  refine wpAnyJ_take1 9 rfl (by kernel_rfl) (by kernel_rfl) rfl (by kernel_rfl) (fun _ _ _ h => h) (by rfl) hS1 (fun w' hSw => (by have z1 := hSw; go_simp; try (with_reducible rfl))) ?_
  try simp only [Act.put, List.getElem_toArray, List.getElem_cons_succ, List.getElem_cons_zero, List.setIfInBounds_toArray, List.set_cons_zero, List.set_cons_succ]
  refine wpAnyJ_take1 10 rfl (by kernel_rfl) (by kernel_rfl) rfl (by kernel_rfl) (fun _ _ _ h => h) (by rfl) hS1 (fun w' hSw => (by have z1 := hSw; go_simp; try (with_reducible rfl))) ?_
  try simp only [Act.put, List.getElem_toArray, List.getElem_cons_succ, List.getElem_cons_zero, List.setIfInBounds_toArray, List.set_cons_zero, List.set_cons_succ]
  refine wpAnyJ_ready [0] (by kernel_rfl) (by simp) (NextJ.cons rfl (fun K hK => ?_) NextJ.nil)
  go_simp
  refine hK.out _ _ (cell_old hS1) (fun h => absurd h (by decide)) ?_
  clear hK K
  try simp only [Act.put, List.getElem_toArray, List.getElem_cons_succ, List.getElem_cons_zero, List.setIfInBounds_toArray, List.set_cons_zero, List.set_cons_succ]
  have hBa : Below w1.heap.size w1 (w1.alloc (.cells #[] 46)).drew := ((Below.refl _ _).alloc (Nat.le_refl _) _).drew
  have hma : Own 3 Tri.enc (w1.alloc (.cells #[] 46)).drew w1.heap.size 46 (.slice (some ⟨w1.heap.size, 0, none⟩) 0 0) [] := World.ownsRow_made w1 #[] 0 (Nat.le_refl _) (Nat.zero_le _) (by simp)
  refine wpAnyJ_ready [5] (by kernel_rfl) (by simp) (NextJ.cons rfl (fun K hK => ?_) NextJ.nil)
  refine step_append_l rfl _ _ _ rfl w1.heap.size _ i0 _ Try.underlying22 hi0 hz0 hz1 hz2 rfl _ [] rfl hma ⟨b, o, none⟩ (l.take n) n c rfl HT.out (hsrc1.out _ (hB2.trans (hBa.mono hB2.size))) (by simp) (by omega) (by simp) ?_
  intro v5 w5 hown5 hg5
  have hBb : Below w1.heap.size w1 w5 := hma.grown hBa hg5 (by simp)
  rw [List.nil_append] at hown5
  refine hK.out _ _ ((hBb.cell (p := ⟨w.heap.size, 1, none⟩) fl).trans p1) (fun h => absurd h (by decide)) ?_
  clear hK K
  try simp only [Act.put, List.getElem_toArray, List.getElem_cons_succ, List.getElem_cons_zero, List.setIfInBounds_toArray, List.set_cons_zero, List.set_cons_succ]
  refine wpAnyJ_ready [11] (by kernel_rfl) (by simp) (NextJ.cons rfl (fun K hK => ?_) NextJ.nil)
  refine step_append_l rfl _ _ _ rfl w1.heap.size _ i0 _ Try.underlying22 hi0 hz0 hz1 hz2 rfl _ (l.take n) rfl hown5 A9 (l.drop (n + 1)) (l.length - (n + 1)) (c - (n + 1)) (by simp [Act.eval]; first | exact hA9 | trace_state) HD.out (hsrc.out _ (hB2.trans (hBb.mono hB2.size))) (by rw [HT.out]; omega) (by omega) hBb.size ?_
  intro v7 w7 hown7 hg7
  have hBc : Below w1.heap.size w1 w7 := hown5.grown hBb hg7 hBb.size
  rw [show l.take n ++ l.drop (n + 1) = l.eraseIdx n from (List.eraseIdx_eq_take_drop_succ l n).symm] at hown7
  have hS7 := (hBc.cell (p := ⟨w.heap.size, 1, none⟩) fl).trans p1
  refine hK.out _ _ hS7 (fun h => absurd h (by decide)) ?_
  clear hK K
  try simp only [Act.put, List.getElem_toArray, List.getElem_cons_succ, List.getElem_cons_zero, List.setIfInBounds_toArray, List.set_cons_zero, List.set_cons_succ]
  refine wpAnyJ_take1 12 rfl (by kernel_rfl) (by kernel_rfl) rfl (by kernel_rfl) (fun _ _ _ h => h) (by rfl) hS7 (fun w' hSw => (by have z1 := hSw; go_simp; try (with_reducible rfl))) ?_
  try simp only [Act.put, List.getElem_toArray, List.getElem_cons_succ, List.getElem_cons_zero, List.setIfInBounds_toArray, List.set_cons_zero, List.set_cons_succ]
  refine wpAnyJ_done (by kernel_rfl) ?_ _
  go_wp2_with fail
  go_ret
  obtain ⟨A8, c8, rfl, _, hd8⟩ := Own.rd tri_len hown7
  exact ⟨A8, c8, rfl, hd8, hB2.trans (hBc.mono hB2.size)⟩

end Go.Proofs.Ytblifdchofihoaa
