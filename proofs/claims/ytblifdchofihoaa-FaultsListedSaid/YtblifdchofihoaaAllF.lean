/- faults: All. -/
import Derived.Test.YtblifdchofihoaaAllW
set_option linter.unusedSimpArgs false
set_option linter.unusedVariables false
namespace Go.Proofs.Ytblifdchofihoaa
open Go Go.RowKit Go.Shelf Tor
attribute [local go_sem] Oper.semAt_some

theorem faults_stops (n H g : Nat) (K : KAt) (A : Option Addr) (l : List Tri) (c b1 b2 : Nat) (hl : l.length ≤ 1000) (hs : ∀ (k : Nat) (hk : k < l.length), l[k].s.size ≤ 1000) (w : World) (hI : ItAt w H g K A l c b1 b2) :
    SeqStopsK Fence.wide n Try.prog 85 #[.pointer (some ⟨b1, 0, none⟩), .pointer (some ⟨b2, 0, none⟩)] (fun x : FtA l => #[.agg #[.int .i64 x.1.k, .int .i64 x.1.st, .int .i64 x.1.lt, .int .i64 x.1.wi]])
      (KpF H) (fun ys => ys.map (·.1) = fitA l) (fun pre => pre.map (·.1) <+: fitA l) (fitA l).length w := fun lp J Jx W hW hJ _ hY h0 =>
  faults1_in n lp H g K A l c b1 b2 J Jx hl hs (fun pre w w' h b => hJ pre w w' none h (Below.grows b) (fun r e => by cases e)) hY W (hI.on hW) h0

theorem all_results {tmps : Array Value} {w : World} {g1 g2 : Nat} {v1 : Value} {e : Int} (hp : tmps.getD 6 undef = .pointer (some ⟨g1, 0, none⟩)) (hq : tmps.getD 7 undef = .pointer (some ⟨g2, 0, none⟩))
    (h1 : Blk w g1 52 #[v1]) (h2 : Blk w g2 29 #[.int .i64 e]) : (results Try.f21 tmps).run Try.prog w = .ok (.tuple #[v1, .int .i64 e]) w := by
  have c1 := h1.cell 0 v1 rfl
  have c2 := h2.cell 0 _ rfl
  have hp' : tmps[6]?.getD undef = .pointer (some ⟨g1, 0, none⟩) := by simpa using hp
  have hq' : tmps[7]?.getD undef = .pointer (some ⟨g2, 0, none⟩) := by simpa using hq
  have hR : Try.f21.results = #[.cell 6 52, .cell 7 29] := rfl
  simp only [results, hR]
  simp [Sem.run_bind, Result.andThen, hp', hq']
  go_simp

theorem _root_.Tor.Own.grownRow {α : Type} {sz : Nat} {enc : α → List Value} {w w' : World} {base : Nat} {e : TypeId} {v : Value} {l : List α} (h : Tor.Own sz enc w base e v l) {row : Option Nat} (hg : w.grownBy w' row)
    (hr : ∀ r, row = some r → ∃ o : Obj, w.heap[r]? = some o ∧ o.isCells = false) : Tor.Own sz enc w' base e v l := by
  obtain ⟨h1, h2⟩ := h
  refine ⟨h1, ?_⟩
  rcases h2 with h2 | ⟨g, cap, cur, hv, hg0, hh, r⟩
  · exact Or.inl h2
  · refine Or.inr ⟨g, cap, cur, hv, hg0, ?_, r⟩
    rw [hg.block g (Array.getElem?_eq_some_iff.1 hh).1 (fun e => ?_)]
    · exact hh
    · obtain ⟨o, ho, hc⟩ := hr g e.symm
      rw [hh] at ho; cases ho; cases hc
theorem _root_.Tor.Own.cells {α : Type} {sz : Nat} {enc : α → List Value} {w : World} {base : Nat} {e : TypeId} {v : Value} {l : List α} (h : Tor.Own sz enc w base e v l) : ∀ (j : Nat) (o : Obj), v.ownBlock = some j → w.heap[j]? = some o → o.isCells = true := by
  intro j o hj ho
  obtain ⟨_, h2⟩ := h
  rcases h2 with ⟨rfl, _⟩ | ⟨g, cap, cur, rfl, _, hh, _⟩
  · simp [Value.ownBlock] at hj
  · simp only [Value.ownBlock, Option.some.injEq] at hj
    subst hj
    rw [hh] at ho; cases ho; rfl
theorem KeepsFrom.of_below {B : Nat} {W W' : World} (h : Below W.heap.size W W') : KeepsFrom B W W' := ⟨h.size, fun k o _ hk _ => (h.block k (Array.getElem?_eq_some_iff.1 hk).1).trans hk⟩
/-- a fault is appended, and the variable is stored -/
theorem appendedF {W w1 : World} {HH bo : Nat} {v v' : Value} {xs ys : List Flt} {tmp : Obj} (B : Nat) (hv : Blk W bo 52 #[v]) (ho : Tor.Own 4 fencL W HH 24 v xs) (hHH : HH ≤ bo) (hsz : HH ≤ W.heap.size)
    (ho' : Tor.Own 4 fencL w1 HH 24 v' ys) (hg : (W.alloc tmp).grownBy w1 v.ownBlock) :
    Blk w1 bo 52 #[v] ∧ Blk (w1.setCell ⟨bo, 0, none⟩ v') bo 52 #[v'] ∧ Tor.Own 4 fencL (w1.setCell ⟨bo, 0, none⟩ v') HH 24 v' ys ∧ KeepsFrom B W (w1.setCell ⟨bo, 0, none⟩ v') ∧ KpF HH W (w1.setCell ⟨bo, 0, none⟩ v') := by
  have hv1 : Blk w1 bo 52 #[v] := (hv.alloc tmp).grown hg ((ho.alloc tmp).ne_block (hv.alloc tmp) (by decide))
  have hw : w1.grownBy (w1.setCell ⟨bo, 0, none⟩ v') (some bo) := grownBy_setCell' w1 bo v'
  have hbl : Below HH W w1 := (ho.alloc tmp).grown ((Below.refl HH W).alloc hsz tmp) hg (by simp; omega)
  refine ⟨hv1, hv1.set_ 0 v', ?_, ?_, ?_, ?_⟩
  · obtain ⟨h1, h2⟩ := ho'
    refine ⟨h1, ?_⟩
    rcases h2 with h2 | ⟨g, cap, cur, he, hg0, hh, r⟩
    · exact Or.inl h2
    · refine Or.inr ⟨g, cap, cur, he, hg0, ?_, r⟩
      rw [hw.block g (Array.getElem?_eq_some_iff.1 hh).1 (fun e => ?_)]
      · exact hh
      · cases e
        rw [show w1.heap[bo]? = _ from hv1] at hh
        simp only [Option.some.injEq, Obj.cells.injEq] at hh
        exact absurd hh.2.1 (by decide)
  · refine KeepsFrom.trans (KeepsFrom.trans ((KeepsOthers.alloc W tmp).from B) ((KeepsOthers.of_grownBy hg (ho.alloc tmp).cells).from B)) ((KeepsOthers.setCell w1 ⟨bo, 0, none⟩ v').from B)
  · exact hbl.setCell hHH v'
  · intro b vs T h1 h2 hb
    have hb1 : Blk w1 b T vs := (hb.alloc tmp).grown hg ((ho.alloc tmp).ne_block (hb.alloc tmp) h1)
    refine hb1.far (fun e => ?_) v'
    simp only at e
    subst e
    have := (show w1.heap[b]? = _ from hb1).symm.trans hv1
    simp only [Option.some.injEq, Obj.cells.injEq] at this
    exact h2 this.2.1

theorem KindsAt.more {w : World} {H H' g : Nat} {K : KAt} (h : KindsAt w H g K) (hH : H ≤ H') : KindsAt w H' g K := ⟨Nat.lt_of_lt_of_le h.lt hH, h.blk, h.wa.more hH, h.wb.more hH, h.wp.more hH⟩
/-- those that are accepted of what has come -/
def okL (p s : Int) (l : List Tri) (pre : List (FtA l)) : List Flt := (pre.map (·.1)).filter (okF p s l)
theorem okL_hit {p s : Int} {l : List Tri} (pre : List (FtA l)) {x : FtA l} (h : okF p s l x.1 = true) : okL p s l (pre ++ [x]) = okL p s l pre ++ [x.1] := by simp [okL, h]
theorem okL_miss {p s : Int} {l : List Tri} (pre : List (FtA l)) {x : FtA l} (h : okF p s l x.1 = false) : okL p s l (pre ++ [x]) = okL p s l pre := by simp [okL, h]
theorem fitW_ok (p s : Int) (l : List Tri) (i : Nat) (k : Int) (n : Nat) : (fitN l i k n).filter (okF p s l) = proN p s l i k n := by
  unfold fitN fitW proN
  rw [List.filter_filter]
  refine List.filter_congr fun f _ => ?_
  cases h : okF p s l f
  · rfl
  · simp [(okF_parts h).2.1]
theorem fitA_ok (p s : Int) (l : List Tri) : (fitA l).filter (okF p s l) = allF p s l := by
  rw [allF_eq]
  unfold fitA fitI fitK proK
  simp only [List.filter_flatMap, fitW_ok]

set_option maxRecDepth 100000 in
set_option maxHeartbeats 8000000 in
theorem fall_any (p s : Int) (A : Option Addr) (l : List Tri) (c : Nat) (w : World) (H : Nat) (hr : RdT w H A l) (hH : H ≤ w.heap.size)
    (hw : ∀ (k : Nat) (hk : k < l.length), l[k].s.size ≤ 9223372036854775807) (hl : l.length ≤ 100000) :
    Calls Try.prog 21 #[.int .i64 p, .int .i64 s, .slice A l.length c] w (FltRet w (allR p s l).1 (allR p s l).2) := by
  obtain ⟨i0, hi0, hz0', hz1', hz2'⟩ := info_parts infoFlt
  obtain ⟨w0, hw0⟩ : ∃ w0, Hid (w0 = ((((w.alloc (.cells #[.int .i64 p] 3)).alloc (.cells #[.int .i64 s] 3)).alloc (.cells #[.slice A l.length c] 22)).alloc (.cells #[.slice none 0 0] 52)).alloc (.cells #[.int .i64 0] 29)) := ⟨_, Lib.hid rfl⟩
  have k0 : Blk w0 w.heap.size 3 #[.int .i64 p] := by rw [hw0.out]; exact ((((Blk.new w _ _).alloc _).alloc _).alloc _).alloc _
  have k1 : Blk w0 (w.heap.size + 1) 3 #[.int .i64 s] := by rw [hw0.out]; have := ((((Blk.new (w.alloc (.cells #[.int .i64 p] 3)) 3 #[.int .i64 s]).alloc (.cells #[.slice A l.length c] 22)).alloc (.cells #[.slice none 0 0] 52)).alloc (.cells #[.int .i64 0] 29)); rw [World.size_alloc] at this; exact this
  have k2 : Blk w0 (w.heap.size + 1 + 1) 22 #[.slice A l.length c] := by rw [hw0.out]; have := (((Blk.new ((w.alloc (.cells #[.int .i64 p] 3)).alloc (.cells #[.int .i64 s] 3)) 22 #[.slice A l.length c]).alloc (.cells #[.slice none 0 0] 52)).alloc (.cells #[.int .i64 0] 29)); rw [World.size_alloc, World.size_alloc] at this; exact this
  have k3 : Blk w0 (w.heap.size + 1 + 1 + 1) 52 #[.slice none 0 0] := by rw [hw0.out]; have := ((Blk.new (((w.alloc (.cells #[.int .i64 p] 3)).alloc (.cells #[.int .i64 s] 3)).alloc (.cells #[.slice A l.length c] 22)) 52 #[.slice none 0 0]).alloc (.cells #[.int .i64 0] 29)); rw [World.size_alloc, World.size_alloc, World.size_alloc] at this; exact this
  have k4 : Blk w0 (w.heap.size + 1 + 1 + 1 + 1) 29 #[.int .i64 0] := by rw [hw0.out]; have := (Blk.new ((((w.alloc (.cells #[.int .i64 p] 3)).alloc (.cells #[.int .i64 s] 3)).alloc (.cells #[.slice A l.length c] 22)).alloc (.cells #[.slice none 0 0] 52)) 29 #[.int .i64 0]); rw [World.size_alloc, World.size_alloc, World.size_alloc, World.size_alloc] at this; exact this
  have hB0 : Below w.heap.size w w0 := by rw [hw0.out]; (repeat' first | exact Below.refl _ _ | apply Below.drew | (refine Below.setCells ?_ _ _ ?_) | (refine Below.setCell ?_ ?_ _) | (refine Below.alloc ?_ ?_ _) | (simp; done) | (simp; omega))
  have hs0 : w0.heap.size = w.heap.size + 5 := by rw [hw0.out]; simp
  have HC := Lib.hid (fcheck_any p s A l c w0 H (hr.below' hB0 hH) (Nat.le_trans hH hB0.size) hw hl)
  by_cases hz : (sheetR p s l).2.2.2 = 0
  rotate_left
  · have hA : Hid (allR p s l = ([], (sheetR p s l).2.2.2)) := by unfold allR; rw [if_pos hz]; exact Lib.hid rfl
    rw [hA.out]
    obtain ⟨e, he⟩ : ∃ e, Hid ((sheetR p s l).2.2.2 = e) := ⟨_, Lib.hid rfl⟩
    rw [he.out] at HC hz ⊢
    clear hA
    have y1 : (e == 0) = false := by simpa using hz
    have y2 : (e != 0) = true := by simpa using hz
    clear hz
    have q0 := k0.cell 0 _ rfl
    have q1 := k1.cell 0 _ rfl
    have q2 := k2.cell 0 _ rfl
    have q3 := k3.cell 0 _ rfl
    have q4 := k4.cell 0 _ rfl
    refine (callsIn_wide (n := 9)).1 ?_
    refine callsIn_of_wp_marks Try.func21 rfl trivial ?_ rfl
    simp only [Try.ntmps21, List.size_toArray, List.length_cons, List.length_nil, Nat.reduceAdd, Nat.reduceSub, Array.replicate_succ, Array.replicate_zero, List.push_toArray, List.append_toArray, List.nil_append, List.cons_append]
    gi_wp2
    rw [← hw0.out]
    refine ⟨trivial, ?_⟩
    gi_at_call 26
    refine (callsIn_wide.2 HC.out).mono ?_
    rintro e1 w1 ⟨rfl, hB1⟩
    have q3' := (k3.below' hB1).cell 0 _ rfl
    have q4' := (k4.below' hB1).cell 0 _ rfl
    have z3 := (k3.below' hB1).lt
    have z4 := (k4.below' hB1).lt
    have z5 := (k3.below' hB1).frozen 0
    have z6 := (k4.below' hB1).frozen 0
    gi_wp2
    have hB2 := hB0.trans (hB1.mono hB0.size)
    refine ⟨_, all_results rfl rfl (((k3.below' hB1).set_ 0 _).far (by simp) _) (((k4.below' hB1).far (by simp) _).set_ 0 _), ⟨_, rfl, Tor.Own.nil _ _ _, ?_⟩⟩
    exact (hB2.setCell (p := ⟨w.heap.size + 1 + 1 + 1, 0, none⟩) (by simp; omega) _).setCell (p := ⟨w.heap.size + 1 + 1 + 1 + 1, 0, none⟩) (by simp; omega) _
  · have hok := Lib.hid (ins_ok hz)
    have HL := Lib.hid (show allR p s l = if 20000 < (allF p s l).length then ([], 5) else (allF p s l, 0) by unfold allR; rw [if_neg (by simpa using hz)])
    have HZ := Lib.hid hz
    have hl1 := hok.out.len
    have HS16 : Hid (∀ (k : Nat) (hk : k < l.length), l[k].s.size ≤ 16) := Lib.hid (fun k hk => wordE_size (hok.out.w k hk))
    rw [hz] at HC
    clear hz
    have q0 := k0.cell 0 _ rfl
    have q1 := k1.cell 0 _ rfl
    have q2 := k2.cell 0 _ rfl
    have q3 := k3.cell 0 _ rfl
    have q4 := k4.cell 0 _ rfl
    refine (callsIn_wide (n := 9)).1 ?_
    refine callsIn_of_wp_marks Try.func21 rfl trivial ?_ rfl
    simp only [Try.ntmps21, List.size_toArray, List.length_cons, List.length_nil, Nat.reduceAdd, Nat.reduceSub, Array.replicate_succ, Array.replicate_zero, List.push_toArray, List.append_toArray, List.nil_append, List.cons_append]
    gi_wp2
    rw [← hw0.out]
    refine ⟨trivial, ?_⟩
    gi_at_call 26
    refine (callsIn_wide.2 HC.out).mono ?_
    rintro e1 w1 ⟨rfl, hB1⟩
    have hB1' := hB0.trans (hB1.mono hB0.size)
    have hs1 := hB1.size
    gi_wp2_with (first
      | (refine ⟨trivial, ?_⟩
         gi_at_call 28
         refine (callsIn_wide.2 (kinds_any _)).mono ?_
         rintro e2 w2 ⟨g, K, rfl, hK, hB2⟩
         have hB2' := hB1'.trans (hB2.mono hB1'.size)
         have hs2 := hB2.size
         have k2' := (k2.below' hB1).below' hB2
         have q2' := ((k2'.alloc (.cells #[.slice (some ⟨g, 0, none⟩) 6 6] 61)).alloc (.cells #[.slice none 0 0] 52)).cell 0 _ rfl
         have z2' := k2'.lt)
      | (refine ⟨trivial, ?_⟩
         gi_at_call 46
         refine (callsIn_wide.2 (faults_any A l.length c g _)).mono ?_
         rintro e3 w3 ⟨rfl, rfl⟩)
      | fail)
    obtain ⟨wL, hwL⟩ : ∃ wL, Hid (((((w2.alloc (.cells #[.slice (some ⟨g, 0, none⟩) 6 6] 61)).alloc (.cells #[.slice none 0 0] 52)).alloc (.cells #[.slice (some ⟨g, 0, none⟩) 6 6] 61)).alloc (.cells #[.slice A l.length c] 22)) = wL) := ⟨_, Lib.hid rfl⟩
    have hsL : w2.heap.size + 4 ≤ wL.heap.size := by rw [← hwL.out]; simp
    have hBL : Below w2.heap.size w2 wL := by rw [← hwL.out]; (repeat' first | exact Below.refl _ _ | apply Below.drew | (refine Below.setCells ?_ _ _ ?_) | (refine Below.setCell ?_ ?_ _) | (refine Below.alloc ?_ ?_ _) | (simp; done) | (simp; omega))
    have c9 : Blk wL w2.heap.size 61 #[.slice (some ⟨g, 0, none⟩) 6 6] := by rw [← hwL.out]; exact (((Blk.new w2 _ _).alloc _).alloc _).alloc _
    have c10 : Blk wL (w2.heap.size + 1) 52 #[.slice none 0 0] := by
      rw [← hwL.out]
      have := ((Blk.new (w2.alloc (.cells #[.slice (some ⟨g, 0, none⟩) 6 6] 61)) 52 #[.slice none 0 0]).alloc (.cells #[.slice (some ⟨g, 0, none⟩) 6 6] 61)).alloc (.cells #[.slice A l.length c] 22)
      rw [World.size_alloc] at this; exact this
    have cb2 : Blk wL (w2.heap.size + 1 + 1) 61 #[.slice (some ⟨g, 0, none⟩) 6 6] := by
      rw [← hwL.out]
      have := (Blk.new ((w2.alloc (.cells #[.slice (some ⟨g, 0, none⟩) 6 6] 61)).alloc (.cells #[.slice none 0 0] 52)) 61 #[.slice (some ⟨g, 0, none⟩) 6 6]).alloc (.cells #[.slice A l.length c] 22)
      rw [World.size_alloc, World.size_alloc] at this; exact this
    have cb1 : Blk wL (w2.heap.size + 1 + 1 + 1) 22 #[.slice A l.length c] := by
      rw [← hwL.out]
      have := (Blk.new (((w2.alloc (.cells #[.slice (some ⟨g, 0, none⟩) 6 6] 61)).alloc (.cells #[.slice none 0 0] 52)).alloc (.cells #[.slice (some ⟨g, 0, none⟩) 6 6] 61)) 22 #[.slice A l.length c])
      rw [World.size_alloc, World.size_alloc, World.size_alloc] at this; exact this
    have m0 := ((k0.below' hB1).below' hB2).below' hBL
    have m1 := ((k1.below' hB1).below' hB2).below' hBL
    have m2 := ((k2.below' hB1).below' hB2).below' hBL
    have m3 := ((k3.below' hB1).below' hB2).below' hBL
    have m4 := ((k4.below' hB1).below' hB2).below' hBL
    have hBL' := hB2'.trans (hBL.mono hB2'.size)
    have hIL : ItAt wL (w2.heap.size + 1) g K A l c (w2.heap.size + 1 + 1 + 1) (w2.heap.size + 1 + 1) := ⟨by omega, (hr.below' hBL' hH).more (by omega), (hK.below hBL (Nat.le_refl _)).more (by omega), cb1, cb2⟩
    rw [hwL.out]
    clear k0 k1 k2 k3 k4 q0 q1 q2 q3 q4 q2' k2' z2' cb1 cb2 hw0 hwL HC
    have hs0' : w.heap.size + 5 ≤ w2.heap.size := by omega
    refine wpIn_rangeFunc_ownH rfl (by omega) (gf := 85) (lb := #[.pointer (some ⟨w2.heap.size + 1 + 1 + 1, 0, none⟩), .pointer (some ⟨w2.heap.size + 1 + 1, 0, none⟩)]) rfl trivial (enters_of Try.func85 (by kernel_rfl) rfl)
      (faults_stops _ (w2.heap.size + 1) g K A l c (w2.heap.size + 1 + 1 + 1) (w2.heap.size + 1 + 1) hl1 (fun k hk => by have := HS16.out k hk; omega) wL hIL) KpF.trans (KpF.put (by omega)) (Below.refl _ _) (fun _ => rfl)
      (fun pre W => (∃ v, Blk W (w2.heap.size + 1) 52 #[v] ∧ Tor.Own 4 fencL W (w2.heap.size + 1) 24 v (okL p s l pre)) ∧ (okL p s l pre).length ≤ 20000 ∧ Below (w2.heap.size + 1) wL W)
      (fun c pre W => c = .ret ∧ 20000 < (okL p s l pre).length ∧ Blk W (w.heap.size + 1 + 1 + 1) 52 #[.slice none 0 0] ∧ Blk W (w.heap.size + 1 + 1 + 1 + 1) 29 #[.int .i64 5] ∧ Below w.heap.size w W ∧ wL.heap.size ≤ W.heap.size)
      ?hI ?hIx ?h0
      (fun x a' W => ∃ Bx, wL.heap.size ≤ Bx ∧ Blk W Bx 24 #[.int .i64 x.1.k, .int .i64 x.1.st, .int .i64 x.1.lt, .int .i64 x.1.wi] ∧ a' = { tmps := #[.int .i64 p, .int .i64 s, .slice A l.length c, .pointer (some ⟨w.heap.size, 0, none⟩), .pointer (some ⟨w.heap.size + 1, 0, none⟩), .pointer (some ⟨w.heap.size + 1 + 1, 0, none⟩), .pointer (some ⟨w.heap.size + 1 + 1 + 1, 0, none⟩), .pointer (some ⟨w.heap.size + 1 + 1 + 1 + 1, 0, none⟩), .int .i64 0, .pointer (some ⟨w2.heap.size, 0, none⟩), .pointer (some ⟨w2.heap.size + 1, 0, none⟩), .pointer (some ⟨Bx, 0, none⟩), undef, undef, .int .i64 p, .int .i64 s, .slice A l.length c, .int .i64 0, .int .i64 0, .bool false, undef, .slice (some ⟨g, 0, none⟩) 6 6, .slice (some ⟨g, 0, none⟩) 6 6, .slice A l.length c, .func (.func 85) #[] #[.pointer (some ⟨w2.heap.size + 1 + 1 + 1, 0, none⟩), .pointer (some ⟨w2.heap.size + 1 + 1, 0, none⟩)], .agg #[.int .i64 x.1.k, .int .i64 x.1.st, .int .i64 x.1.lt, .int .i64 x.1.wi], undef, undef, undef, undef, undef, undef, undef, undef, undef, undef, undef, undef, undef, undef, undef, undef, undef, undef, undef, undef, undef, undef, undef, undef, undef, undef, undef, undef, undef, undef, undef, undef, undef, undef, undef, undef, undef, undef, undef, undef], defers := [] })
      ?hAx ?assign ?body ?done ?stop
    case hI =>
      rintro pre W W' row ⟨⟨v, hv, ho⟩, hle, hB⟩ hg hrw
      exact ⟨⟨v, hv.grown hg (fun e => by have := (hrw _ e.symm).1; omega), ho.grownRow hg (fun r e => (hrw r e).2)⟩, hle, hB.grown hg (by have := hB.size; omega) (fun k e => by have := (hrw k e).1; omega)⟩
    case hIx =>
      rintro c' pre W W' row ⟨e, h1, h2, h3, h4, h5⟩ hg hrw
      exact ⟨e, h1, h2.grown hg (fun e => by have := (hrw _ e.symm).1; omega), h3.grown hg (fun e => by have := (hrw _ e.symm).1; omega), h4.grown hg (by omega) (fun k e => by have := (hrw k e).1; omega), Nat.le_trans h5 hg.size⟩
    case h0 => exact ⟨⟨_, c10, by simpa [okL] using Tor.Own.nil _ _ _⟩, by simp [okL], Below.refl _ _⟩
    case hAx =>
      rintro x a' u W W' row ⟨Bx, h1, h2, h3⟩ hg hrw
      refine ⟨Bx, h1, h2.grown hg (fun e => ?_), h3⟩
      obtain ⟨o, ho, hc⟩ := (hrw _ e.symm).2
      rw [show W.heap[Bx]? = _ from h2] at ho
      cases ho; cases hc
    case assign =>
      rintro lp pre x W K' ⟨⟨v, hv, ho⟩, hle, hB⟩ hK'
      have hWs := hB.size
      gi_wp2
      refine hK' _ _ ((KeepsOthers.alloc _ _).from _) (KpF.below (by (repeat' first | exact Below.refl _ _ | apply Below.drew | (refine Below.setCells ?_ _ _ ?_) | (refine Below.setCell ?_ ?_ _) | (refine Below.alloc ?_ ?_ _) | (simp; done) | (simp; omega))) (by omega)) ⟨⟨v, hv.alloc _, ho.alloc _⟩, hle, hB.alloc (by omega) _⟩ ⟨W.heap.size, hWs, Blk.new _ _ _, rfl⟩
    case body =>
      rintro lp pre ⟨⟨k, st, lt, wi⟩, hsh, hfit⟩ a' W hlp ⟨rr, hrr⟩ ⟨⟨v, hv, ho⟩, hle, hB⟩ ⟨Bx, hBx, kX, rfl⟩ hlt
      simp only at kX
      have hst := fits_step hfit
      simp only at hst
      obtain ⟨n, rfl⟩ : ∃ n : Nat, st = n := ⟨st.toNat, by omega⟩
      rw [Int.toNat_natCast] at hst
      have hn := hst.2.1
      have hxa : xAt l n = l[n] := xAt_of hn
      have hWs := hB.size
      have n0 := m0.below hB (by omega)
      have n1 := m1.below hB (by omega)
      have n2 := m2.below hB (by omega)
      have n3 := m3.below hB (by omega)
      have n4 := m4.below hB (by omega)
      have n9 := c9.below hB (by omega)
      have hBW := hBL'.trans (hB.mono (by omega))
      obtain ⟨Av, cv, rfl, _, _⟩ := Tor.Own.rd flt_len ho
      have r0 := n0.cell 0 _ rfl
      have r1 := n1.cell 0 _ rfl
      have r2 := n2.cell 0 _ rfl
      have r9 := n9.cell 0 _ rfl
      have r10 := hv.cell 0 _ rfl
      have x0 := kX.cell 0 _ rfl
      have x1 := kX.cell 1 _ rfl
      have x2 := kX.cell 2 _ rfl
      have x3 := kX.cell 3 _ rfl
      have t3 := n3.lt
      have t4 := n4.lt
      have t5 := n3.frozen 0
      have t6 := n4.frozen 0
      have r3 := n3.cell 0 _ rfl
      have r4 := n4.cell 0 _ rfl
      have nn : (n : Int) < (l.length : Int) := by omega
      have hk16 : 1 ≤ k ∧ k ≤ 6 := by
        have := (shaped_withs hsh).2.1
        simp only [kindsR, List.mem_cons, List.not_mem_nil, or_false] at this
        omega
      have HSH := Lib.hid hsh
      have HFIT := Lib.hid hfit
      have HX := Lib.hid hxa
      have fin_full : ∀ W' : World, KeepsFrom wL.heap.size W W' → Below w.heap.size w W' → Blk W' (w.heap.size + 1 + 1 + 1) 52 #[.slice none 0 0] → Blk W' (w.heap.size + 1 + 1 + 1 + 1) 29 #[.int .i64 0] → (okL p s l pre).length = 20000 → okF p s l ⟨k, n, lt, wi⟩ = true →
          KeepsFrom wL.heap.size W ((W'.setCell ⟨w.heap.size + 1 + 1 + 1, 0, none⟩ (.slice none 0 0)).setCell ⟨w.heap.size + 1 + 1 + 1 + 1, 0, none⟩ (.int .i64 5)) ∧ 20000 < (okL p s l (pre ++ [⟨⟨k, n, lt, wi⟩, hsh, hfit⟩])).length ∧
          Blk ((W'.setCell ⟨w.heap.size + 1 + 1 + 1, 0, none⟩ (.slice none 0 0)).setCell ⟨w.heap.size + 1 + 1 + 1 + 1, 0, none⟩ (.int .i64 5)) (w.heap.size + 1 + 1 + 1) 52 #[.slice none 0 0] ∧
          Blk ((W'.setCell ⟨w.heap.size + 1 + 1 + 1, 0, none⟩ (.slice none 0 0)).setCell ⟨w.heap.size + 1 + 1 + 1 + 1, 0, none⟩ (.int .i64 5)) (w.heap.size + 1 + 1 + 1 + 1) 29 #[.int .i64 5] ∧
          Below w.heap.size w ((W'.setCell ⟨w.heap.size + 1 + 1 + 1, 0, none⟩ (.slice none 0 0)).setCell ⟨w.heap.size + 1 + 1 + 1 + 1, 0, none⟩ (.int .i64 5)) ∧
          wL.heap.size ≤ ((W'.setCell ⟨w.heap.size + 1 + 1 + 1, 0, none⟩ (.slice none 0 0)).setCell ⟨w.heap.size + 1 + 1 + 1 + 1, 0, none⟩ (.int .i64 5)).heap.size := fun W' hk hb h1 h2 h3 h4 => by
        refine ⟨hk.trans (((KeepsOthers.setCell _ _ _).trans (KeepsOthers.setCell _ _ _)).from _), ?_, (h1.set_ 0 _).far (by simp) _, (h2.far (by simp) _).set_ 0 _, (hb.setCell (p := ⟨w.heap.size + 1 + 1 + 1, 0, none⟩) (by simp; omega) _).setCell (p := ⟨w.heap.size + 1 + 1 + 1 + 1, 0, none⟩) (by simp; omega) _, ?_⟩
        · rw [okL_hit pre h4, List.length_append, h3]; simp
        · have := hk.size; simp; omega
      have FF := Lib.hid fin_full
      clear fin_full hxa
      by_cases k2 : k = 2
      · subst k2
        obtain ⟨b, o, rfl, hb, g0, g1, g2⟩ := (hr.below' hBW hH).tri hn
        by_cases h16 : (xAt l n).s.size = 16
        · have hno : okF p s l ⟨2, n, lt, wi⟩ = false := by
            cases h1 : okF p s l ⟨2, n, lt, wi⟩
            · rfl
            · exact absurd ⟨rfl, by simpa using h16⟩ (okF_parts h1).2.2.1
          rw [HX.out] at h16
          have e16 : (l[n].s.size : Int) = 16 := by omega
          have hnx := Lib.hid (okL_miss (x := ⟨⟨2, n, lt, wi⟩, hsh, hfit⟩) pre hno)
          clear hno h16
          gi_wp2
          exact ⟨KeepsFrom.refl _ _, KpF.refl _ _, ⟨_, hv, by rw [hnx.out]; exact ho⟩, by rw [hnx.out]; exact hle, hB⟩
        · have hyes : okF p s l ⟨2, n, lt, wi⟩ = true := by unfold okF; rw [acc_letters HZ.out hsh hfit (by show (2 : Int) ≤ 4; omega) (by simp only [Int.toNat_natCast]; omega)]; rfl
          rw [HX.out] at h16
          have e16 : ¬ (l[n].s.size : Int) = 16 := by omega
          clear h16
          by_cases h20 : (okL p s l pre).length = 20000
          · have e20 : ((okL p s l pre).length : Int) = 20000 := by omega
            have FFW := FF.out W (KeepsFrom.refl _ _) hBW n3 n4 h20 hyes
            have FFH := Lib.hid FFW
            clear FFW hyes h20
            gi_wp2
            obtain ⟨j1, j2, j3, j4, j5, j6⟩ := FFH.out
            exact ⟨j1, rfl, j2, j3, j4, j5, j6⟩
          · have e20 : ¬ ((okL p s l pre).length : Int) = 20000 := by omega
            have hnx := Lib.hid (okL_hit (x := ⟨⟨2, n, lt, wi⟩, hsh, hfit⟩) pre hyes)
            clear hyes
            gi_wp2_with (first
              | (gi_at_builtin
                 refine wpListIn_append_flt rfl (.tmp 61) (.tmp 63) _ rfl (w2.heap.size + 1) _ i0 _ Try.underlying52 hi0 hz0' hz1' hz2' rfl _ _ rfl (ho.alloc _) W.heap.size ⟨2, n, lt, wi⟩ rfl (World.cell?_alloc_new _ _ _ 0) (World.cell?_alloc_new _ _ _ 1) (World.cell?_alloc_new _ _ _ 2) (World.cell?_alloc_new _ _ _ 3) (by omega) (by simp; omega) ?_
                 intro v8 w8 hown8 hg8
                 obtain ⟨A8, c8, rfl, _, _⟩ := Tor.Own.rd flt_len hown8
                 simp only [List.length_append, List.length_singleton] at hown8
                 obtain ⟨u1, u2, u3, u4, u5⟩ := appendedF wL.heap.size hv ho (by omega) (by omega) hown8 hg8
                 have u6 := u1.cell 0 _ rfl
                 have u7 := u1.frozen 0
                 have u8 := u1.lt)
              | fail)
            exact ⟨u4, u5, ⟨_, u2, by rw [hnx.out]; exact u3⟩, by rw [hnx.out, List.length_append]; simp; omega, hB.trans u5.1⟩
      · have b2 : (k == 2) = false := by simpa using k2
        by_cases k56 : k = 5 ∨ k = 6
        · have hb56 : ((k == 5) = true) ∨ ((k == 5) = false ∧ (k == 6) = true) := by simp; omega
          have HP := Lib.hid (cput_any g K p s A l c ⟨k, n, lt, wi⟩ W (w2.heap.size + 1) (hIL.ks.below hB (Nat.le_refl _)) (hIL.rd.below' hB (Nat.le_refl _)) (by omega) hok.out)
          simp only at HP
          unfold PutRet at HP
          obtain ⟨E, hE⟩ : ∃ E, Hid ((accF p s l ⟨k, n, lt, wi⟩).2 = E) := ⟨_, Lib.hid rfl⟩
          obtain ⟨L5, hL5⟩ : ∃ L, Hid ((accF p s l ⟨k, n, lt, wi⟩).1 = L) := ⟨_, Lib.hid rfl⟩
          rw [hE.out, hL5.out] at HP
          clear k2 k56
          by_cases hz : E = 0
          · have hyes : okF p s l ⟨k, n, lt, wi⟩ = true := by unfold okF; rw [hE.out]; exact decide_eq_true hz
            subst hz
            have HYES := Lib.hid hyes
            clear hyes
            by_cases h20 : (okL p s l pre).length = 20000
            · have e20 : ((okL p s l pre).length : Int) = 20000 := by omega
              have FFH := Lib.hid (fun (w5 : World) (hB5 : Below W.heap.size W w5) => FF.out w5 (KeepsFrom.of_below hB5) (hBW.trans (hB5.mono hBW.size)) (n3.below' hB5) (n4.below' hB5) h20 HYES.out)
              clear h20
              rcases hb56 with b5 | ⟨b5, b6⟩
              all_goals
                gi_wp2
                refine ⟨trivial, ?_⟩
                gi_at_call 27
                refine (CallsIn.inRound lp (callsIn_wide.2 HP.out)).mono ?_
                rintro e5 w5 ⟨A5, c5, rfl, hr5, hB5⟩
                have kX5 := kX.below' hB5
                have hv5 := hv.below' hB5
                have ho5 := ho.below hB5
                have hs5 := hB5.size
                have n35 := n3.below' hB5
                have n45 := n4.below' hB5
                have x05 := kX5.cell 0 _ rfl
                have x15 := kX5.cell 1 _ rfl
                have x25 := kX5.cell 2 _ rfl
                have x35 := kX5.cell 3 _ rfl
                have r105 := hv5.cell 0 _ rfl
                have t35 := n35.lt
                have t45 := n45.lt
                have t55 := n35.frozen 0
                have t65 := n45.frozen 0
                have r35 := n35.cell 0 _ rfl
                have r45 := n45.cell 0 _ rfl
                gi_wp2
                obtain ⟨j1, j2, j3, j4, j5, j6⟩ := FFH.out w5 hB5
                exact ⟨j1, rfl, j2, j3, j4, j5, j6⟩
            · have e20 : ¬ ((okL p s l pre).length : Int) = 20000 := by omega
              have hnx := Lib.hid (okL_hit (x := ⟨⟨k, n, lt, wi⟩, hsh, hfit⟩) pre HYES.out)
              rcases hb56 with b5 | ⟨b5, b6⟩
              all_goals
                gi_wp2
                refine ⟨trivial, ?_⟩
                gi_at_call 27
                refine (CallsIn.inRound lp (callsIn_wide.2 HP.out)).mono ?_
                rintro e5 w5 ⟨A5, c5, rfl, hr5, hB5⟩
                have kX5 := kX.below' hB5
                have hv5 := hv.below' hB5
                have ho5 := ho.below hB5
                have hs5 := hB5.size
                have n35 := n3.below' hB5
                have n45 := n4.below' hB5
                have x05 := kX5.cell 0 _ rfl
                have x15 := kX5.cell 1 _ rfl
                have x25 := kX5.cell 2 _ rfl
                have x35 := kX5.cell 3 _ rfl
                have r105 := hv5.cell 0 _ rfl
                have t35 := n35.lt
                have t45 := n45.lt
                have t55 := n35.frozen 0
                have t65 := n45.frozen 0
                have r35 := n35.cell 0 _ rfl
                have r45 := n45.cell 0 _ rfl
                gi_wp2_with (first
                  | (gi_at_builtin
                     refine wpListIn_append_flt rfl (.tmp 61) (.tmp 63) _ rfl (w2.heap.size + 1) _ i0 _ Try.underlying52 hi0 hz0' hz1' hz2' rfl _ _ rfl (ho5.alloc _) w5.heap.size ⟨k, n, lt, wi⟩ rfl (World.cell?_alloc_new _ _ _ 0) (World.cell?_alloc_new _ _ _ 1) (World.cell?_alloc_new _ _ _ 2) (World.cell?_alloc_new _ _ _ 3) (by omega) (by simp; omega) ?_
                     intro v8 w8 hown8 hg8
                     obtain ⟨A8, c8, rfl, _, _⟩ := Tor.Own.rd flt_len hown8
                     simp only [List.length_append, List.length_singleton] at hown8
                     obtain ⟨u1, u2, u3, u4, u5⟩ := appendedF wL.heap.size hv5 ho5 (by omega) (by omega) hown8 hg8
                     have u6 := u1.cell 0 _ rfl
                     have u7 := u1.frozen 0
                     have u8 := u1.lt)
                  | fail)
                exact ⟨(KeepsFrom.of_below hB5).trans u4, (KpF.below hB5 (by omega)).trans u5, ⟨_, u2, by rw [hnx.out]; exact u3⟩, by rw [hnx.out, List.length_append]; simp; omega, (hB.trans (hB5.mono (by omega))).trans u5.1⟩
          · have hno : okF p s l ⟨k, n, lt, wi⟩ = false := by unfold okF; rw [hE.out]; exact decide_eq_false hz
            have y1 : (E == 0) = false := by simpa using hz
            have y2 : (E != 0) = true := by simpa using hz
            have hnx := Lib.hid (okL_miss (x := ⟨⟨k, n, lt, wi⟩, hsh, hfit⟩) pre hno)
            clear hno hz
            rcases hb56 with b5 | ⟨b5, b6⟩
            all_goals
              gi_wp2
              refine ⟨trivial, ?_⟩
              gi_at_call 27
              refine (CallsIn.inRound lp (callsIn_wide.2 HP.out)).mono ?_
              rintro e5 w5 ⟨A5, c5, rfl, hr5, hB5⟩
              have kX5 := kX.below' hB5
              have hv5 := hv.below' hB5
              have ho5 := ho.below hB5
              have hs5 := hB5.size
              have n35 := n3.below' hB5
              have n45 := n4.below' hB5
              have x05 := kX5.cell 0 _ rfl
              have x15 := kX5.cell 1 _ rfl
              have x25 := kX5.cell 2 _ rfl
              have x35 := kX5.cell 3 _ rfl
              have r105 := hv5.cell 0 _ rfl
              have t35 := n35.lt
              have t45 := n45.lt
              have t55 := n35.frozen 0
              have t65 := n45.frozen 0
              have r35 := n35.cell 0 _ rfl
              have r45 := n45.cell 0 _ rfl
              gi_wp2
              exact ⟨KeepsFrom.of_below hB5, KpF.below hB5 (by omega), ⟨_, hv5, by rw [hnx.out]; exact ho5⟩, by rw [hnx.out]; exact hle, hB.trans (hB5.mono (by omega))⟩
        · have b5 : (k == 5) = false := by simp; omega
          have b6 : (k == 6) = false := by simp; omega
          have hyes : okF p s l ⟨k, n, lt, wi⟩ = true := by unfold okF; rw [acc_letters HZ.out hsh hfit (by simp only; omega) (by simp only; omega)]; rfl
          clear k2 k56
          by_cases h20 : (okL p s l pre).length = 20000
          · have e20 : ((okL p s l pre).length : Int) = 20000 := by omega
            have FFW := FF.out W (KeepsFrom.refl _ _) hBW n3 n4 h20 hyes
            have FFH := Lib.hid FFW
            clear FFW hyes h20
            gi_wp2
            obtain ⟨j1, j2, j3, j4, j5, j6⟩ := FFH.out
            exact ⟨j1, rfl, j2, j3, j4, j5, j6⟩
          · have e20 : ¬ ((okL p s l pre).length : Int) = 20000 := by omega
            have hnx := Lib.hid (okL_hit (x := ⟨⟨k, n, lt, wi⟩, hsh, hfit⟩) pre hyes)
            clear hyes
            gi_wp2_with (first
              | (gi_at_builtin
                 refine wpListIn_append_flt rfl (.tmp 61) (.tmp 63) _ rfl (w2.heap.size + 1) _ i0 _ Try.underlying52 hi0 hz0' hz1' hz2' rfl _ _ rfl (ho.alloc _) W.heap.size ⟨k, n, lt, wi⟩ rfl (World.cell?_alloc_new _ _ _ 0) (World.cell?_alloc_new _ _ _ 1) (World.cell?_alloc_new _ _ _ 2) (World.cell?_alloc_new _ _ _ 3) (by omega) (by simp; omega) ?_
                 intro v8 w8 hown8 hg8
                 obtain ⟨A8, c8, rfl, _, _⟩ := Tor.Own.rd flt_len hown8
                 simp only [List.length_append, List.length_singleton] at hown8
                 obtain ⟨u1, u2, u3, u4, u5⟩ := appendedF wL.heap.size hv ho (by omega) (by omega) hown8 hg8
                 have u6 := u1.cell 0 _ rfl
                 have u7 := u1.frozen 0
                 have u8 := u1.lt)
              | fail)
            exact ⟨u4, u5, ⟨_, u2, by rw [hnx.out]; exact u3⟩, by rw [hnx.out, List.length_append]; simp; omega, hB.trans u5.1⟩
    case done =>
      rintro D ys W hD hS ⟨⟨v, hv, ho⟩, hle, hB⟩ hK9
      have hys : okL p s l ys = allF p s l := by unfold okL; rw [hS, fitA_ok]
      rw [hys] at ho hle
      have hR : Hid (allR p s l = (allF p s l, 0)) := by rw [HL.out, if_neg (by omega)]; exact Lib.hid rfl
      have hWs := hB.size
      have n3 := m3.below hB (by omega)
      have n4 := m4.below hB (by omega)
      have r10 := hv.cell 0 _ rfl
      have r3 := n3.cell 0 _ rfl
      have r4 := n4.cell 0 _ rfl
      have z3 := n3.frozen 0
      have z4 := n4.frozen 0
      have y3 := n3.lt
      have y4 := n4.lt
      obtain ⟨Av, cv, rfl, _, _⟩ := Tor.Own.rd flt_len ho
      gi_wp2
      refine ⟨by simp, .inl ⟨_, _, rfl, run_takeDeferred (((KeepsOthers.setCell _ _ _).trans (KeepsOthers.setCell _ _ _)).same D _ hK9 rfl), ?_⟩⟩
      have hKd := ((KeepsOthers.setCell W ⟨w.heap.size + 1 + 1 + 1, 0, none⟩ (.slice Av (allF p s l).length cv)).trans (KeepsOthers.setCell _ ⟨w.heap.size + 1 + 1 + 1 + 1, 0, none⟩ (.int .i64 0))).same D _ hK9 rfl
      have hBd : Below w.heap.size w ((W.setCell ⟨w.heap.size + 1 + 1 + 1, 0, none⟩ (.slice Av (allF p s l).length cv)).setCell ⟨w.heap.size + 1 + 1 + 1 + 1, 0, none⟩ (.int .i64 0)) :=
        ((hBL'.trans (hB.mono (by omega))).setCell (p := ⟨w.heap.size + 1 + 1 + 1, 0, none⟩) (by simp; omega) _).setCell (p := ⟨w.heap.size + 1 + 1 + 1 + 1, 0, none⟩) (by simp; omega) _
      have ho2 : Tor.Own 4 fencL ((W.setCell ⟨w.heap.size + 1 + 1 + 1, 0, none⟩ (.slice Av (allF p s l).length cv)).setCell ⟨w.heap.size + 1 + 1 + 1 + 1, 0, none⟩ (.int .i64 0)) (w2.heap.size + 1) 24 (.slice Av (allF p s l).length cv) (allF p s l) :=
        ownsRow_setCell_below (ownsRow_setCell_below ho (a := ⟨w.heap.size + 1 + 1 + 1, 0, none⟩) (by simp; omega) _) (a := ⟨w.heap.size + 1 + 1 + 1 + 1, 0, none⟩) (by simp; omega) _
      have hs3 := hBd.size
      refine ⟨_, all_results rfl rfl (((n3.set_ 0 _).far (by simp) _).grown (grownBy_putObj' _ D _) (fun e => by simp at e; omega)) (((n4.far (by simp) _).set_ 0 _).grown (grownBy_putObj' _ D _) (fun e => by simp at e; omega)), ?_⟩
      rw [hR.out]
      exact ⟨_, rfl, (ho2.grownRow (grownBy_putObj' _ D _) (fun r e => by cases e; exact ⟨_, hKd, rfl⟩)).base (by omega), hBd.grown (grownBy_putObj' _ D _) hs3 (fun k e => by cases e; omega)⟩
    case stop =>
      rintro D c' pre W hD hSp ⟨rfl, hgt, h3, h4, hB, hWs⟩ hK9
      have hR : Hid (allR p s l = ([], 5)) := by
        have h1 : okL p s l pre <+: allF p s l := by rw [← fitA_ok]; exact List.IsPrefix.filter _ hSp
        rw [HL.out, if_pos (Nat.lt_of_lt_of_le hgt h1.length_le)]; exact Lib.hid rfl
      gi_wp2
      refine ⟨by simp, .inl ⟨_, _, rfl, run_takeDeferred hK9, ?_⟩⟩
      have hs3 := hB.size
      refine ⟨_, all_results rfl rfl (h3.grown (grownBy_putObj' _ D _) (fun e => by simp at e; omega)) (h4.grown (grownBy_putObj' _ D _) (fun e => by simp at e; omega)), ?_⟩
      rw [hR.out]
      exact ⟨_, rfl, Tor.Own.nil _ _ _, hB.grown (grownBy_putObj' _ D _) hs3 (fun k e => by cases e; omega)⟩
end Go.Proofs.Ytblifdchofihoaa
