/- torchonref05: Same; instructions that are fine. -/
import Derived.Test.YtogkgoabonbkkaaMatch
import Derived.Test.YtogkgoabonbkkaaLawSheets
set_option linter.unusedSimpArgs false
set_option linter.unusedVariables false
namespace Go.Proofs.Ytogkgoabonbkkaa
open Go Go.RowKit Tor

theorem wordE_size {s : ByteArray} (h : wordE s = 0) : s.size ≤ 16 := by
  unfold wordE at h
  split at h
  · cases h
  · omega
theorem sheetE_of {p : Int} {L : List Tri} (h2 : 2 ≤ p) (h24 : p ≤ 24) (hn : L.length ≤ 400) (hw : ∀ x ∈ L, WOk p x) : sheetE p L = 0 := by
  have a1 : L.any longW = false := by
    rw [List.any_eq_false]
    intro x hx
    have := wordE_size (hw x hx).w
    unfold longW
    simp; omega
  have a2 : L.any (badW p) = false := by
    rw [List.any_eq_false]
    intro x hx
    have hx' := hw x hx
    have : badW p x = false := by
      rw [badW_false]
      have := hx'.k; have := hx'.b0; have := hx'.b1; have := hx'.e
      omega
    simp [this]
  have a3 : L.any wrongW = false := by
    rw [List.any_eq_false]
    intro x hx
    unfold wrongW
    simp [(hw x hx).w]
  unfold sheetE
  rw [if_neg (by rw [a1]; simp; omega), if_neg (by omega), if_neg (by simp [a2]), if_neg (by simp [a3])]
theorem wok_words {p : Int} {L : List Tri} (hw : ∀ x ∈ L, WOk p x) : ∀ (k : Nat) (hk : k < L.length), L[k].s.size ≤ 9223372036854775807 := fun k hk => by
  have := wordE_size (hw _ (List.getElem_mem hk)).w; omega
theorem wok_b {p : Int} {L : List Tri} (hw : ∀ x ∈ L, WOk p x) : ∀ (k : Nat) (hk : k < L.length), 0 ≤ L[k].b ∧ L[k].b ≤ p - 2 := fun k hk => ⟨(hw _ (List.getElem_mem hk)).b0, (hw _ (List.getElem_mem hk)).b1⟩
theorem okS_words {p s : Int} : ∀ (g : List Tri) (h n : Int), okS p s h n g → ∀ x ∈ g, x.s.size ≤ 9223372036854775807
  | [], _, _, _, x, hx => by simp at hx
  | y :: r, h, n, hok, x, hx => by
    unfold okS at hok
    rcases List.mem_cons.1 hx with rfl | hx
    · have := wordE_size hok.1.w; omega
    · by_cases ha : y.a = 1
      · rw [if_pos ha] at hok; exact okS_words r _ _ hok.2 x hx
      · rw [if_neg ha] at hok; exact okS_words r _ _ hok.2 x hx

theorem both_any (p q : Int) (A : Option Addr) (l : List Tri) (c : Nat) (B : Option Addr) (m : List Tri) (c2 : Nat) (w : World) (H : Nat) (hr : RdT w H A l) (hr2 : RdT w H B m) (hH : H ≤ w.heap.size)
    (hw : ∀ (k : Nat) (hk : k < l.length), l[k].s.size ≤ 9223372036854775807) (hw2 : ∀ (k : Nat) (hk : k < m.length), m[k].s.size ≤ 9223372036854775807) (hl : l.length ≤ 9223372036854775807) (hm : m.length ≤ 9223372036854775807)
    (e1 : sheetE p l = 0) (e2 : sheetE q m = 0) :
    Calls Try.prog 59 #[.agg #[.int .i64 p, .slice A l.length c], .agg #[.int .i64 q, .slice B m.length c2]] w (Ret (.int .i64 0) w) := by
  have E1 := Lib.hid e1
  have E2 := Lib.hid e2
  have HW := Lib.hid hw
  have HW2 := Lib.hid hw2
  clear e1 e2 hw hw2
  obtain ⟨W1, hW1⟩ : ∃ W1, Hid (W1 = (w.alloc (.cells #[.int .i64 p, .slice A l.length c] 24)).alloc (.cells #[.int .i64 q, .slice B m.length c2] 24)) := ⟨_, Lib.hid rfl⟩
  have hBW : Below w.heap.size w W1 := by rw [hW1.out]; (repeat' first | exact Below.refl _ _ | apply Below.drew | (refine Below.setCells ?_ _ _ ?_) | (refine Below.setCell ?_ ?_ _) | (refine Below.alloc ?_ ?_ _) | (simp; done) | (simp; omega))
  have kB : Blk W1 (w.heap.size + 1) 24 #[.int .i64 q, .slice B m.length c2] := by
    rw [hW1.out]
    have := Blk.new (w.alloc (.cells #[.int .i64 p, .slice A l.length c] 24)) 24 #[.int .i64 q, .slice B m.length c2]
    simpa using this
  have hz := hBW.size
  go_enter Try.func59, Try.ntmps59
  go_wp2_with (first
    | (go_at_call 17; rw [← hW1.out]; refine (sheetRef_any p A l c _ H (hr.below' hBW hH) (by omega) HW.out hl).mono ?_; rintro e w1 ⟨rfl, hB1⟩; rw [E1.out]
       have kB1 := kB.below' hB1
       have c0 := kB1.cell 0 _ rfl
       have c1 := kB1.cell 1 _ rfl
       have n1 := kB1.lt
       have hB1' := hBW.trans (hB1.mono hz)
       have hz1 := hB1'.size)
    | (go_at_call 17; refine (sheetRef_any q B m c2 _ H (hr2.below' hB1' hH) (by omega) HW2.out hm).mono ?_; rintro e w2 ⟨rfl, hB2⟩; rw [E2.out]))
  go_ret
  exact Ret.int rfl (hB1'.trans (hB2.mono hz1))

theorem same05_any (p : Int) (A : Option Addr) (l : List Tri) (c : Nat) (B : Option Addr) (O : List Nat) (m : List Tri) (c2 : Nat) (w : World) (H : Nat) (hm : m = O.map (xAt l)) (hr : RdT w H A l) (hr2 : RdT w H B m) (hH : H ≤ w.heap.size)
    (hwk : ∀ x ∈ l, WOk p x) (h2 : 2 ≤ p) (h24 : p ≤ 24) (hl : l.length ≤ 400) (hlin : LinExt l [] O) (hO : O.length = l.length) :
    Calls Try.prog 22 #[.agg #[.int .i64 p, .slice A l.length c], .agg #[.int .i64 p, .slice B m.length c2]] w fun e w' => e = .returned (.tuple #[.bool true, .int .i64 0]) ∧ Below w.heap.size w w' := by
  have hml : m.length = l.length := by rw [hm, List.length_map, hO]
  have hmk : ∀ x ∈ m, WOk p x := by rw [hm]; exact lin_wok hwk hlin
  have HBO : Hid (∀ w', Below w.heap.size w w' → Calls Try.prog 59 #[.agg #[.int .i64 p, .slice A l.length c], .agg #[.int .i64 p, .slice B m.length c2]] w' (Ret (.int .i64 0) w')) := fun w' hB =>
    both_any p p A l c B m c2 w' H (hr.below' hB hH) (hr2.below' hB hH) (Nat.le_trans hH hB.size) (wok_words hwk) (wok_words hmk) (by omega) (by omega) (sheetE_of h2 h24 hl hwk) (sheetE_of h2 h24 (by omega) hmk)
  have HMA : Hid (∀ w', Below w.heap.size w w' → Calls Try.prog 60 #[.agg #[.int .i64 p, .slice A l.length c], .agg #[.int .i64 p, .slice B m.length c2]] w' fun e w'' => ∃ v, e = .returned (.tuple #[v, .bool true]) ∧ Below w'.heap.size w' w'') := fun w' hB => by
    rw [hml]
    refine match_any p A l c B O c2 w' H (hr.below' hB hH) ?_ (Nat.le_trans hH hB.size) (fun k hk => by have := wok_b hwk k hk; omega) (by omega) hlin hO
    rw [← hm]; exact hr2.below' hB hH
  clear hr hr2 hlin hwk hmk hm hml
  obtain ⟨W1, hW1⟩ : ∃ W1, Hid (W1 = (w.alloc (.cells #[.int .i64 p, .slice A l.length c] 24)).alloc (.cells #[.int .i64 p, .slice B m.length c2] 24)) := ⟨_, Lib.hid rfl⟩
  have hBW : Below w.heap.size w W1 := by rw [hW1.out]; (repeat' first | exact Below.refl _ _ | apply Below.drew | (refine Below.setCells ?_ _ _ ?_) | (refine Below.setCell ?_ ?_ _) | (refine Below.alloc ?_ ?_ _) | (simp; done) | (simp; omega))
  have kA : Blk W1 w.heap.size 24 #[.int .i64 p, .slice A l.length c] := by rw [hW1.out]; exact (Blk.new w _ _).alloc _
  have kB : Blk W1 (w.heap.size + 1) 24 #[.int .i64 p, .slice B m.length c2] := by
    rw [hW1.out]
    have := Blk.new (w.alloc (.cells #[.int .i64 p, .slice A l.length c] 24)) 24 #[.int .i64 p, .slice B m.length c2]
    simpa using this
  have hz := hBW.size
  go_enter Try.func22, Try.ntmps22
  go_wp2_with (first
    | (go_at_call 59; rw [← hW1.out]; refine (HBO.out _ hBW).mono ?_; rintro e w1 ⟨rfl, hB1⟩
       have kA1 := kA.below' hB1
       have kB1 := kB.below' hB1
       have c0 := kA1.cell 0 _ rfl
       have c1 := kA1.cell 1 _ rfl
       have n1 := kA1.lt
       have d0 := kB1.cell 0 _ rfl
       have d1 := kB1.cell 1 _ rfl
       have n2 := kB1.lt
       have hB1' := hBW.trans (hB1.mono hz)
       have hz1 := hB1'.size)
    | (go_at_call 60; refine (HMA.out _ hB1').mono ?_; rintro e w2 ⟨v2, rfl, hB2⟩))
  go_ret2
  exact ⟨rfl, hB1'.trans (hB2.mono hz1)⟩

/-- instructions that were returned -/
def InsPost (L : List Tri) (w : World) (e : Ending) (w' : World) : Prop := ∃ (A : Option Addr) (c : Nat), e = .returned (.tuple #[.slice A L.length c, .int .i64 0]) ∧ RdT w' w'.heap.size A L ∧ Below w.heap.size w w'
theorem cSteps_ins (P S : Nat) (A : Option Addr) (l : List Tri) (c : Nat) (w : World) (H : Nat) (hr : RdT w H A l) (hH : H ≤ w.heap.size) (hw : ∀ x ∈ l, WOk P x) (hchk : chkE P l S = 0) :
    Calls Try.prog 19 #[.agg #[.int .i64 P, .slice A l.length c], .int .i64 S] w (InsPost (rst P S l (-1)) w) := by
  have g := good_of hchk
  have gn := g.n
  refine (cSteps_ok P S A l c w H hr hH (wok_words hw) hchk (wok_b hw) (by omega) g.b1 g.b2 g.b3).mono fun e w' ⟨v, h1, h2, h3⟩ => ?_
  obtain ⟨A', c', hv, _, hd⟩ := Own.rd tri_len h2
  exact ⟨A', c', by rw [h1, hv], hd, h3⟩
theorem cQuick_ins (P S : Nat) (A : Option Addr) (l : List Tri) (c : Nat) (w : World) (H : Nat) (hr : RdT w H A l) (hH : H ≤ w.heap.size) (hw : ∀ x ∈ l, WOk P x) (hchk : chkE P l S = 0) :
    Calls Try.prog 12 #[.agg #[.int .i64 P, .slice A l.length c], .int .i64 S] w (InsPost (rq l P S (2 * l.length + 1) [] (-1)) w) := by
  have g := good_of hchk
  have g1 := g.b1
  have g2 := g.b2
  have g3 := g.b3
  refine (quick_any P S A l c w H hr hH (wok_words hw) hchk (wok_b hw) g.n (by omega) (by omega) (by omega)).mono fun e w' ⟨v, h1, h2, h3⟩ => ?_
  rw [quick_rq (by omega) (by omega) (by omega) (wok_b hw) g.n] at h2
  obtain ⟨A', c', hv, _, hd⟩ := Own.rd tri_len h2
  exact ⟨A', c', by rw [h1, hv], hd, h3⟩
theorem cBest_ins (P S : Nat) (A : Option Addr) (l : List Tri) (c : Nat) (w : World) (H : Nat) (hr : RdT w H A l) (hH : H ≤ w.heap.size) (hw : ∀ x ∈ l, WOk P x) (hchk : chkE P l S = 0) (hl : l.length ≤ 10) (hlc : l.length ≤ c) :
    Calls Try.prog 15 #[.agg #[.int .i64 P, .slice A l.length c], .int .i64 S] w (InsPost (rst P S ((bestO P S l).map (xAt l)) (-1)) w) := by
  have g := good_of hchk
  have g1 := g.b1
  have g2 := g.b2
  have g3 := g.b3
  refine (cbest_any P S A l c w H hr hH (wok_words hw) hchk g.sh (wok_b hw) hl hlc (by omega) (by omega) (by omega)).mono fun e w' ⟨v, h1, h2, h3⟩ => ?_
  obtain ⟨A', c', hv, _, hd⟩ := Own.rd tri_len h2
  exact ⟨A', c', by rw [h1, hv]; rfl, hd, h3⟩
theorem cBest_long (P S : Int) (A : Option Addr) (l : List Tri) (c : Nat) (w : World) (H : Nat) (hr : RdT w H A l) (hH : H ≤ w.heap.size)
    (hw : ∀ (k : Nat) (hk : k < l.length), l[k].s.size ≤ 9223372036854775807) (hchk : chkE P l S = 0) (hl : l.length ≤ 9223372036854775807) (hl10 : 10 < l.length) :
    Calls Try.prog 15 #[.agg #[.int .i64 P, .slice A l.length c], .int .i64 S] w fun e w' => e = .returned (.tuple #[.slice none 0 0, .int .i64 3]) ∧ Below w.heap.size w w' := by
  have t2 : (10 : Int) < (l.length : Int) := by omega
  have HC := Lib.hid hchk
  have HW := Lib.hid hw
  clear hchk hw hl10
  go_enter Try.func15, Try.ntmps15
  go_wp2_with (first
    | (go_at_call 34; refine (ccheck_any P A l c S w.heap.size 0 _ H (hr.below' (B' := w.heap.size) (by (repeat' first | exact Below.refl _ _ | apply Below.drew | (refine Below.setCells ?_ _ _ ?_) | (refine Below.setCell ?_ ?_ _) | (refine Below.alloc ?_ ?_ _) | (simp; done) | (simp; omega))) hH) (by simp; omega) (by simp) (by simp) HW.out (by omega)).mono ?_; rintro e w1 ⟨rfl, hB1⟩; rw [HC.out]
       have kS := (Blk.new w 24 #[.int .i64 P, .slice A l.length c]).below' hB1
       have c1 := kS.cell 1 _ rfl
       have n1 := kS.lt
       have hBw : Below w.heap.size w w1 := Below.trans (b := w.alloc (.cells #[.int .i64 P, .slice A l.length c] 24)) (by (repeat' first | exact Below.refl _ _ | apply Below.drew | (refine Below.setCells ?_ _ _ ?_) | (refine Below.setCell ?_ ?_ _) | (refine Below.alloc ?_ ?_ _) | (simp; done) | (simp; omega))) (hB1.mono (by simp)))
    | fail)
  go_ret2
  exact ⟨rfl, hBw⟩
theorem cBest_err (P S : Int) (A : Option Addr) (l : List Tri) (c : Nat) (w : World) (H : Nat) (hr : RdT w H A l) (hH : H ≤ w.heap.size)
    (hw : ∀ (k : Nat) (hk : k < l.length), l[k].s.size ≤ 9223372036854775807) (hchk : chkE P l S ≠ 0) (hl : l.length ≤ 9223372036854775807) :
    Calls Try.prog 15 #[.agg #[.int .i64 P, .slice A l.length c], .int .i64 S] w fun e w' => e = .returned (.tuple #[.slice none 0 0, .int .i64 (chkE P l S)]) ∧ Below w.heap.size w w' := by
  have t1 : (chkE P l S != 0) = true := by simpa using hchk
  have HW := Lib.hid hw
  clear hchk hw
  go_enter Try.func15, Try.ntmps15
  go_wp2_with (first
    | (go_at_call 34; refine (ccheck_any P A l c S w.heap.size 0 _ H (hr.below' (B' := w.heap.size) (by (repeat' first | exact Below.refl _ _ | apply Below.drew | (refine Below.setCells ?_ _ _ ?_) | (refine Below.setCell ?_ ?_ _) | (refine Below.alloc ?_ ?_ _) | (simp; done) | (simp; omega))) hH) (by simp; omega) (by simp) (by simp) HW.out (by omega)).mono ?_; rintro e w1 ⟨rfl, hB1⟩
       have hBw : Below w.heap.size w w1 := Below.trans (b := w.alloc (.cells #[.int .i64 P, .slice A l.length c] 24)) (by (repeat' first | exact Below.refl _ _ | apply Below.drew | (refine Below.setCells ?_ _ _ ?_) | (refine Below.setCell ?_ ?_ _) | (refine Below.alloc ?_ ?_ _) | (simp; done) | (simp; omega))) (hB1.mono (by simp)))
    | fail)
  go_ret2
  exact ⟨rfl, hBw⟩

/-- instructions that are fine make their works -/
theorem rsheet_ok (p s : Int) (A : Option Addr) (L M : List Tri) (c : Nat) (w : World) (H : Nat) (hr : RdT w H A L) (hH : H ≤ w.heap.size) (hh : handsE p s = 0) (hl : L.length ≤ 1000) (hok : okS p s (-1) 0 L) (hM : worksOf L = M) :
    Calls Try.prog 20 #[.int .i64 p, .int .i64 s, .slice A L.length c] w fun e w' => ∃ (A' : Option Addr) (c' : Nat), e = .returned (.tuple #[.agg #[.int .i64 p, .slice A' M.length c'], .int .i64 0, .int .i64 0]) ∧ Own 3 Tri.enc w' w.heap.size 57 (.slice A' M.length c') M ∧ M.length ≤ c' ∧ Below w.heap.size w w' := by
  refine (rsheet_any p s A L c w H hr hH (fun k hk => okS_words L _ _ hok _ (List.getElem_mem hk)) (by omega)).mono fun e w' ⟨v, h1, h2, h3⟩ => ?_
  have e1 := sheetR_ok hh hl hok
  rw [e1, hM] at h1 h2
  obtain ⟨A', c', hv, hc, hd⟩ := Own.rd tri_len h2
  subst hv
  exact ⟨A', c', h1, h2, hc, h3⟩
end Go.Proofs.Ytogkgoabonbkkaa
