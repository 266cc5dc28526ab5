/- awake. -/
import Derived.Test.YtogkgoabonbkkaaDoorAwake
set_option linter.unusedSimpArgs false
set_option linter.unusedVariables false
namespace Go.Proofs.YtogkgoabonbkkaaDoor
open Go Go.RowKit Tor

/-- the sheet of the examples in memory -/
def ExPost (w : World) (e : Ending) (w' : World) : Prop := ∃ g, e = .returned (.agg #[.int .i64 5, .slice (some ⟨g, 0, none⟩) exL.length 4]) ∧ RdT w' w'.heap.size (some ⟨g, 0, none⟩) exL ∧ Below w.heap.size w w'

theorem rdT_of_blk {w : World} {g : Nat} {t : TypeId} (h : Blk w g t #[.int .i64 1, .int .i64 0, .string exW, .int .i64 1, .int .i64 3, .string exW, .int .i64 1, .int .i64 0, .string exW, .int .i64 1, .int .i64 3, .string exW]) : RdT w w.heap.size (some ⟨g, 0, none⟩) exL := fun _ =>
  ⟨g, 0, rfl, h.lt, fun k x hx j u hu => by
    unfold exL at hx
    match k, hx with
    | 0, hx => simp at hx; subst hx; match j, hu with
      | 0, hu => simp [Tri.enc] at hu; subst hu; exact h.cell 0 _ rfl
      | 1, hu => simp [Tri.enc] at hu; subst hu; exact h.cell 1 _ rfl
      | 2, hu => simp [Tri.enc] at hu; subst hu; exact h.cell 2 _ rfl
    | 1, hx => simp at hx; subst hx; match j, hu with
      | 0, hu => simp [Tri.enc] at hu; subst hu; exact h.cell 3 _ rfl
      | 1, hu => simp [Tri.enc] at hu; subst hu; exact h.cell 4 _ rfl
      | 2, hu => simp [Tri.enc] at hu; subst hu; exact h.cell 5 _ rfl
    | 2, hx => simp at hx; subst hx; match j, hu with
      | 0, hu => simp [Tri.enc] at hu; subst hu; exact h.cell 6 _ rfl
      | 1, hu => simp [Tri.enc] at hu; subst hu; exact h.cell 7 _ rfl
      | 2, hu => simp [Tri.enc] at hu; subst hu; exact h.cell 8 _ rfl
    | 3, hx => simp at hx; subst hx; match j, hu with
      | 0, hu => simp [Tri.enc] at hu; subst hu; exact h.cell 9 _ rfl
      | 1, hu => simp [Tri.enc] at hu; subst hu; exact h.cell 10 _ rfl
      | 2, hu => simp [Tri.enc] at hu; subst hu; exact h.cell 11 _ rfl⟩

theorem example_any (w : World) : Calls Tryd.prog 5 #[] w (ExPost w) := by
  go_enter Tryd.func5, Tryd.ntmps5
  go_wp2_with fail
  have hb := Blk.new (((w.alloc (.cells #[.int .i64 5, .slice (some ⟨w.heap.size + 1 + 1 + 1, 0, none⟩) 4 4] 28)).alloc (.cells #[.int .i64 1, .int .i64 0, .string exW] 46)).alloc (.cells #[.int .i64 1, .int .i64 3, .string exW] 46)) 46 #[.int .i64 1, .int .i64 0, .string exW, .int .i64 1, .int .i64 3, .string exW, .int .i64 1, .int .i64 0, .string exW, .int .i64 1, .int .i64 3, .string exW]
  rw [World.size_alloc, World.size_alloc, World.size_alloc] at hb
  exact bodyPost_ret (v := .agg #[.int .i64 5, .slice (some ⟨w.heap.size + 1 + 1 + 1, 0, none⟩) 4 4]) (by simp [results, Tryd.results5, go_sem]) rfl ⟨_, rfl, rdT_of_blk hb, by (repeat' first | exact Below.refl _ _ | apply Below.drew | (refine Below.setCells ?_ _ _ ?_) | (refine Below.setCell ?_ ?_ _) | (refine Below.alloc ?_ ?_ _) | (simp; done) | (simp; omega))⟩

theorem cSteps_ok (P S : Int) (A : Option Addr) (l : List Tri) (c : Nat) (w : World) (H : Nat) (hr : RdT w H A l) (hH : H ≤ w.heap.size)
    (hw : ∀ (k : Nat) (hk : k < l.length), l[k].s.size ≤ 9223372036854775807) (hchk : chkE P l S = 0)
    (hb : ∀ (k : Nat) (hk : k < l.length), 0 ≤ l[k].b ∧ l[k].b ≤ P - 2) (hl : l.length ≤ 1000) (b1 : 2 ≤ S) (b2 : S ≤ P) (b3 : P ≤ 24) :
    Calls Tryd.prog 8 #[.agg #[.int .i64 P, .slice A l.length c], .int .i64 S] w fun e w' => ∃ v, e = .returned (.tuple #[v, .int .i64 0]) ∧ Own 3 Tri.enc w' w.heap.size 33 v (rst P S l (-1)) ∧ Below w.heap.size w w' := by
  have HC := Lib.hid hchk
  have HB := Lib.hid hb
  have HW := Lib.hid hw
  clear hchk hb hw
  go_enter Tryd.func8, Tryd.ntmps8
  go_wp2_with (first
    | (go_at_call 12; refine (ccheck_any P A l c S w.heap.size 0 _ H (hr.below' (B' := w.heap.size) (by (repeat' first | exact Below.refl _ _ | apply Below.drew | (refine Below.setCells ?_ _ _ ?_) | (refine Below.setCell ?_ ?_ _) | (refine Below.alloc ?_ ?_ _) | (simp; done) | (simp; omega))) hH) (by simp; omega) (by simp) (by simp) HW.out (by omega)).mono ?_; rintro e w1 ⟨rfl, hB1⟩; rw [HC.out]
       have kS := (Blk.new w 28 #[.int .i64 P, .slice A l.length c]).below' hB1
       have c0 := kS.cell 0 (.int .i64 P) rfl
       have c1 := kS.cell 1 (.slice A l.length c) rfl
       have hBw : Below w.heap.size w w1 := Below.trans (b := w.alloc (.cells #[.int .i64 P, .slice A l.length c] 28)) (by (repeat' first | exact Below.refl _ _ | apply Below.drew | (refine Below.setCells ?_ _ _ ?_) | (refine Below.setCell ?_ ?_ _) | (refine Below.alloc ?_ ?_ _) | (simp; done) | (simp; omega))) (hB1.mono (by simp))
       have hz := hBw.size)
    | (go_at_call 30; refine (csteps_any P A l c S w.heap.size 0 w1 H (hr.below' hBw hH) (by omega) c0 c1 HB.out hl b1 b2 b3).mono ?_; rintro e w9 ⟨vv, rfl, hownF, hBF⟩))
  go_ret2
  exact ⟨vv, rfl, hownF.base hz, hBw.trans (hBF.mono hz)⟩
theorem cSteps_err (P S : Int) (A : Option Addr) (l : List Tri) (c : Nat) (w : World) (H : Nat) (hr : RdT w H A l) (hH : H ≤ w.heap.size)
    (hw : ∀ (k : Nat) (hk : k < l.length), l[k].s.size ≤ 9223372036854775807) (hchk : chkE P l S ≠ 0) (hl : l.length ≤ 9223372036854775807) :
    Calls Tryd.prog 8 #[.agg #[.int .i64 P, .slice A l.length c], .int .i64 S] w fun e w' => e = .returned (.tuple #[.slice none 0 0, .int .i64 (chkE P l S)]) ∧ Below w.heap.size w w' := by
  have t1 : (chkE P l S != 0) = true := by simpa using hchk
  have HC := Lib.hid hchk
  have HW := Lib.hid hw
  clear hchk hw
  go_enter Tryd.func8, Tryd.ntmps8
  go_wp2_with (first
    | (go_at_call 12; refine (ccheck_any P A l c S w.heap.size 0 _ H (hr.below' (B' := w.heap.size) (by (repeat' first | exact Below.refl _ _ | apply Below.drew | (refine Below.setCells ?_ _ _ ?_) | (refine Below.setCell ?_ ?_ _) | (refine Below.alloc ?_ ?_ _) | (simp; done) | (simp; omega))) hH) (by simp; omega) (by simp) (by simp) HW.out (by omega)).mono ?_; rintro e w1 ⟨rfl, hB1⟩
       have hBw : Below w.heap.size w w1 := Below.trans (b := w.alloc (.cells #[.int .i64 P, .slice A l.length c] 28)) (by (repeat' first | exact Below.refl _ _ | apply Below.drew | (refine Below.setCells ?_ _ _ ?_) | (refine Below.setCell ?_ ?_ _) | (refine Below.alloc ?_ ?_ _) | (simp; done) | (simp; omega))) (hB1.mono (by simp))))
  go_ret2
  exact ⟨rfl, hBw⟩
theorem ex_words : ∀ (k : Nat) (hk : k < exL.length), exL[k].s.size ≤ 9223372036854775807 := by decide
theorem ex_bounds : ∀ (k : Nat) (hk : k < exL.length), 0 ≤ exL[k].b ∧ exL[k].b ≤ 5 - 2 := by decide

theorem steps_ex (A : Option Addr) (c : Nat) (w : World) (hr : RdT w w.heap.size A exL) : Calls Tryd.prog 8 #[.agg #[.int .i64 5, .slice A exL.length c], .int .i64 2] w fun e w' => ∃ (A' : Option Addr) (l : List Tri) (c' : Nat), e = .returned (.tuple #[.slice A' l.length c', .int .i64 0]) ∧ RdT w' w'.heap.size A' l ∧ l.length ≤ 100 ∧ Hid (placesOf l = [0, 3, 0, 3]) ∧ Below w.heap.size w w' :=
  (cSteps_ok 5 2 A exL c w w.heap.size hr (Nat.le_refl _) ex_words ex_chk2 ex_bounds (by decide) (by decide) (by decide) (by decide)).mono fun e w' ⟨v, h1, h2, h3⟩ => by
    obtain ⟨A', c', hv, _, hd⟩ := Own.rd tri_len h2
    exact ⟨A', _, c', by rw [h1, hv], hd, by decide, ex_steps, h3⟩
theorem best_ex (A : Option Addr) (c : Nat) (w : World) (hr : RdT w w.heap.size A exL) (hc : 4 ≤ c) : Calls Tryd.prog 31 #[.agg #[.int .i64 5, .slice A exL.length c], .int .i64 2] w fun e w' => ∃ (A' : Option Addr) (l : List Tri) (c' : Nat), e = .returned (.tuple #[.slice A' l.length c', .int .i64 0]) ∧ RdT w' w'.heap.size A' l ∧ Hid (l.length = 6) ∧ Hid (placesOf l = [0, 3]) ∧ Below w.heap.size w w' :=
  (cbest_any 5 2 A exL c w w.heap.size hr (Nat.le_refl _) ex_words ex_chk2 ex_sheet ex_bounds (by decide) hc (by decide) (by decide) (by decide)).mono fun e w' ⟨v, h1, h2, h3⟩ => by
    obtain ⟨A', c', hv, _, hd⟩ := Own.rd tri_len h2
    exact ⟨A', _, c', by rw [h1, hv], hd, ex_best6, ex_best, h3⟩
theorem quick_ex (A : Option Addr) (c : Nat) (w : World) (hr : RdT w w.heap.size A exL) : Calls Tryd.prog 4 #[.agg #[.int .i64 5, .slice A exL.length c], .int .i64 5] w fun e w' => ∃ (A' : Option Addr) (l : List Tri) (c' : Nat), e = .returned (.tuple #[.slice A' l.length c', .int .i64 0]) ∧ RdT w' w'.heap.size A' l ∧ l.length ≤ 100 ∧ Hid (placesOf l = [0]) ∧ Below w.heap.size w w' :=
  (quick_any 5 5 A exL c w w.heap.size hr (Nat.le_refl _) ex_words ex_chk5 ex_bounds (by decide) (by decide) (by decide) (by decide)).mono fun e w' ⟨v, h1, h2, h3⟩ => by
    obtain ⟨A', c', hv, _, hd⟩ := Own.rd tri_len h2
    exact ⟨A', _, c', by rw [h1, hv], hd, by decide, ex_quick, h3⟩

theorem ints_new {w : World} {g : Nat} {t : TypeId} : ∀ {l : List Int}, Blk w g t (l.map (Value.int .i64)).toArray → RdI w w.heap.size (some ⟨g, 0, none⟩) l := fun {l} h _ =>
  ⟨g, 0, rfl, h.lt, fun k x hx j u hu => by
    match j, hu with
    | 0, hu =>
      simp [ienc] at hu
      subst hu
      exact (by simpa using h.cell (0 + k * 1 + 0) (.int .i64 x) (by simp [hx]))⟩

theorem places_rd (A : Option Addr) (l : List Tri) (c : Nat) (w : World) (H : Nat) (hl : l.length ≤ 100000) (ha : RdT w H A l) (hH : H ≤ w.heap.size) {L : List Int} (hL : Hid (placesOf l = L)) :
    Calls Tryd.prog 10 #[.slice A l.length c] w fun e w' => ∃ A' c', e = .returned (.slice A' L.length c') ∧ RdI w' w'.heap.size A' L ∧ Below w.heap.size w w' :=
  (places_any A l c w H hl ha hH).mono fun e w' ⟨v, h1, h2, h3⟩ => by
    obtain ⟨A', c', hv, _, hd⟩ := Own.rd int_len h2
    rw [hL.out] at hv hd
    exact ⟨A', c', by rw [h1, hv], hd, h3⟩

theorem sameInts_eq (A B : Option Addr) (l : List Int) (c d : Nat) (w : World) (H : Nat) (hl : l.length ≤ 100000) (ha : RdI w H A l) (hb : RdI w H B l) (hH : H ≤ w.heap.size) :
    Calls Tryd.prog 9 #[.slice A l.length c, .slice B l.length d] w (Ret (.bool true) w) :=
  (sameInts_any A B l l c d w H hl hl ha hb hH).mono fun e w' ⟨h1, h2⟩ => ⟨by rw [h1]; simp, h2⟩
theorem rdI_alloc {w : World} {A : Option Addr} {l : List Int} (h : RdI w w.heap.size A l) (o : Obj) : RdI (w.alloc o) (w.alloc o).heap.size A l := (h.below ((Below.refl _ _).alloc (Nat.le_refl _) _)).more (by simp)


set_option maxRecDepth 100000 in
set_option maxHeartbeats 1000000 in
theorem awake_any (w : World) : Calls Tryd.prog 11 #[] w (Ret (.bool true) w) := by
  go_enter Tryd.func11, Tryd.ntmps11
  go_wp2_with fail
  refine (example_any _).mono ?_
  rintro e w1 ⟨g1, rfl, hr1, hB1⟩
  go_wp2_with fail
  refine (steps_ex _ _ _ hr1).mono ?_
  rintro e w2 ⟨A2, l2, c2, rfl, hr2, hn2, hp2, hB2⟩
  go_wp2_with fail
  refine (example_any _).mono ?_
  rintro e w3 ⟨g3, rfl, hr3, hB3⟩
  go_wp2_with fail
  refine (best_ex _ _ _ hr3 (Nat.le_refl _)).mono ?_
  rintro e w4 ⟨A4, l4, c4, rfl, hr4, hn4, hp4, hB4⟩
  go_wp2_with fail
  refine (example_any _).mono ?_
  rintro e w5 ⟨g5, rfl, hr5, hB5⟩
  go_wp2_with fail
  refine (quick_ex _ _ _ hr5).mono ?_
  rintro e w6 ⟨A6, l6, c6, rfl, hr6, hn6, hp6, hB6⟩
  have hB26 : Below w2.heap.size w2 w6 := ((hB3.trans (hB4.mono hB3.size)).trans (hB5.mono (Nat.le_trans hB3.size hB4.size))).trans (hB6.mono (Nat.le_trans (Nat.le_trans hB3.size hB4.size) hB5.size))
  have hB46 : Below w4.heap.size w4 w6 := hB5.trans (hB6.mono hB5.size)
  have hBw6 : Below w.heap.size w w6 := (hB1.trans (hB2.mono hB1.size)).trans (hB26.mono (Nat.le_trans hB1.size hB2.size))
  go_wp2_with fail
  refine (places_rd A2 l2 c2 w6 _ (by omega) (hr2.below hB26) hB26.size hp2).mono ?_
  rintro e w7 ⟨A7, c7, rfl, hr7, hB7⟩
  go_wp2_with fail
  refine (sameInts_eq A7 _ [0, 3, 0, 3] c7 4 _ _ (by decide) (rdI_alloc hr7 _) (ints_new (l := [0, 3, 0, 3]) (Blk.new w7 _ _)) (Nat.le_refl _)).mono ?_
  rintro e w8 ⟨rfl, hB8⟩
  have hB68 : Below w6.heap.size w6 w8 := (hB7.alloc hB7.size _).trans (hB8.mono (by have := hB7.size; simp; omega))
  go_wp2_with fail
  refine (places_rd A4 l4 c4 w8 _ (by have := hn4.out; omega) ((hr4.below hB46).below' hB68 hB46.size) (Nat.le_trans hB46.size hB68.size) hp4).mono ?_
  rintro e w9 ⟨A9, c9, rfl, hr9, hB9⟩
  go_wp2_with fail
  refine (sameInts_eq A9 _ [0, 3] c9 2 _ _ (by decide) (rdI_alloc hr9 _) (ints_new (l := [0, 3]) (Blk.new w9 _ _)) (Nat.le_refl _)).mono ?_
  rintro e w10 ⟨rfl, hB10⟩
  have hB8_10 : Below w8.heap.size w8 w10 := (hB9.alloc hB9.size _).trans (hB10.mono (by have := hB9.size; simp; omega))
  have hB6_10 : Below w6.heap.size w6 w10 := hB68.trans (hB8_10.mono hB68.size)
  go_wp2_with fail
  refine (places_rd A6 l6 c6 w10 _ (by omega) (hr6.below hB6_10) hB6_10.size hp6).mono ?_
  rintro e w11 ⟨A11, c11, rfl, hr11, hB11⟩
  go_wp2_with fail
  refine (sameInts_eq A11 _ [0] c11 1 _ _ (by decide) (rdI_alloc hr11 _) (ints_new (l := [0]) (Blk.new w11 _ _)) (Nat.le_refl _)).mono ?_
  rintro e w12 ⟨rfl, hB12⟩
  have t6 : ((l4.length : Int) == 6) = true := by have := hn4.out; simp; omega
  go_wp2_with fail
  go_ret
  exact Ret.bool rfl ((hBw6.trans (hB6_10.mono hBw6.size)).trans (((hB11.alloc hB11.size _).trans (hB12.mono (by have := hB11.size; simp; omega))).mono (Nat.le_trans hBw6.size hB6_10.size)))
end Go.Proofs.YtogkgoabonbkkaaDoor
