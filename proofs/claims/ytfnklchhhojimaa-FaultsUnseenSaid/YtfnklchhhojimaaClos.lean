/- faults: the functions of the kinds. -/
import Derived.Test.YtfnklchhhojimaaKinds
import Derived.Test.YtfnklchhhojimaaTRow
import Derived.BigRegion
set_option linter.unusedSimpArgs false
set_option linter.unusedVariables false
namespace Go.Proofs.Ytfnklchhhojimaa
open Go Go.RowKit Tor

/-- how many letters of a step there are -/
def letsF (k : Int) (x : Tri) : Int := if k = 2 then (if x.a = 2 then x.s.size + 1 else 0) else if k = 1 ∨ k = 3 then x.s.size else 1


set_option maxRecDepth 100000 in
theorem size_any (x : Tri) (w : World) (hs : x.s.size ≤ 1000000) :
    Calls Try.prog 30 #[.agg #[.int .i64 x.a, .int .i64 x.b, .string x.s]] w (Ret (.int .i64 x.s.size) w) := by
  go_enter Try.func30, Try.ntmps30
  go_wp2_with fail
  go_ret
  exact Ret.int rfl (by (repeat' first | exact Below.refl _ _ | apply Below.drew | (refine Below.setCells ?_ _ _ ?_) | (refine Below.setCell ?_ ?_ _) | (refine Below.alloc ?_ ?_ _) | (simp; done) | (simp; omega)))

set_option maxRecDepth 100000 in
theorem one_any (x : Tri) (w : World) :
    Calls Try.prog 31 #[.agg #[.int .i64 x.a, .int .i64 x.b, .string x.s]] w (Ret (.int .i64 1) w) := by
  go_enter Try.func31, Try.ntmps31
  go_wp2_with fail
  go_ret
  exact Ret.int rfl (by (repeat' first | exact Below.refl _ _ | apply Below.drew | (refine Below.setCells ?_ _ _ ?_) | (refine Below.setCell ?_ ?_ _) | (refine Below.alloc ?_ ?_ _) | (simp; done) | (simp; omega)))

set_option maxRecDepth 100000 in
theorem extra_any (x : Tri) (w : World) (hs : x.s.size ≤ 1000000) :
    Calls Try.prog 34 #[.agg #[.int .i64 x.a, .int .i64 x.b, .string x.s]] w (Ret (.int .i64 (if x.a = 2 then (x.s.size : Int) + 1 else 0)) w) := by
  by_cases h : x.a = 2
  · rw [if_pos h]
    have h' := Lib.hid h
    go_enter Try.func34, Try.ntmps34
    go_wp2_with fail
    go_ret
    exact Ret.int (by go_num) (by (repeat' first | exact Below.refl _ _ | apply Below.drew | (refine Below.setCells ?_ _ _ ?_) | (refine Below.setCell ?_ ?_ _) | (refine Below.alloc ?_ ?_ _) | (simp; done) | (simp; omega)))
  · rw [if_neg h]
    go_enter Try.func34, Try.ntmps34
    go_wp2_with fail
    go_ret
    exact Ret.int rfl (by (repeat' first | exact Below.refl _ _ | apply Below.drew | (refine Below.setCells ?_ _ _ ?_) | (refine Below.setCell ?_ ?_ _) | (refine Below.alloc ?_ ?_ _) | (simp; done) | (simp; omega)))
theorem lets_any (k : Int) (x : Tri) (w : World) (hs : x.s.size ≤ 1000000) :
    Calls Try.prog (klf k) #[.agg #[.int .i64 x.a, .int .i64 x.b, .string x.s]] w (Ret (.int .i64 (letsF k x)) w) := by
  unfold klf letsF
  split
  · exact extra_any x w hs
  · split
    · exact size_any x w hs
    · exact one_any x w


/-- a row of steps of the call's own -/
abbrev SRowT (w : World) (base g cap : Nat) (l : List Tri) : Prop := TRow 45 w base g cap l
def Flt.val (f : Flt) : Value := .agg #[.int .i64 f.k, .int .i64 f.st, .int .i64 f.lt, .int .i64 f.wi]


set_option maxRecDepth 100000 in
set_option maxHeartbeats 4000000 in
theorem fword_any (base g cap : Nat) (l : List Tri) (k wi : Int) (n m d : Nat) (x : ByteArray) (w : World) (hR : SRowT w base g cap l) (hbase : base ≤ w.heap.size) (hl : l.length ≤ 2000) (hn : n < l.length)
    (hs : (xAt l n).s.size ≤ 1000) (hm : m + d ≤ (xAt l n).s.size) (hx : x.size ≤ 1000) :
    Calls Try.prog 33 #[.slice (some ⟨g, 0, none⟩) l.length cap, .agg #[.int .i64 k, .int .i64 n, .int .i64 m, .int .i64 wi], .int .i64 d, .string x] w fun e w' =>
      e = .returned (.slice (some ⟨g, 0, none⟩) l.length cap) ∧ SRowT w' base g cap (setW l n (cutW (xAt l n).s m d x)) ∧ Below base w w' := by
  have hb := hR.heap.1
  obtain ⟨s, hS⟩ : ∃ s, Hid ((xAt l n).s = s) := ⟨_, Lib.hid rfl⟩
  rw [hS.out] at hs hm ⊢
  have gl := hR.lt
  have e1 : (s.extract 0 m).size = m := by rw [ByteArray.size_extract]; omega
  have e2 : (s.extract (m + d) s.size).size = s.size - (m + d) := by rw [ByteArray.size_extract]; omega
  go_enter Try.func33, Try.ntmps33
  have hR1 := hR.alloc (.cells #[.int .i64 k, .int .i64 n, .int .i64 m, .int .i64 wi] 24)
  obtain ⟨c0, c1, c2⟩ := hR1.cells hn
  rw [hS.out] at c2
  have fz := hR1.frozen (n * 3 + 2)
  have kF := Blk.new w 24 #[.int .i64 k, .int .i64 n, .int .i64 m, .int .i64 wi]
  have f1 := kF.cell 1 (.int .i64 n) rfl
  have f2 := kF.cell 2 (.int .i64 m) rfl
  have hBB : Below base w (w.alloc (.cells #[.int .i64 k, .int .i64 n, .int .i64 m, .int .i64 wi] 24)) := by (repeat' first | assumption | exact Below.refl _ _ | apply Below.drew | (refine Below.setCells ?_ _ _ ?_) | (refine Below.setCell ?_ ?_ _) | (refine Below.alloc ?_ ?_ _) | (simp; done) | (simp; omega))
  have zl := hR1.lt
  have fl := kF.lt
  have n0 : (n : Int) < (l.length : Int) := by omega
  have m0 : IntKind.i64.wrap ((m : Int) + (d : Int)) = (m : Int) + d := IntWalk.i64_in _ (by omega)
  have m1 : ((m : Int) + (d : Int)).toNat = m + d := by omega
  have m2 : m ≤ s.size := by omega
  have m3 : (m : Int) ≤ s.size := by omega
  have m4 : (m : Int) + d ≤ s.size := by omega
  have s1 : (s.extract 0 m ++ x).size = m + x.size := by rw [ByteArray.size_append, e1]
  have s2 : ¬ 9223372036854775807 < (s.extract 0 m).size + x.size := by omega
  have s3 : ¬ 9223372036854775807 < (s.extract 0 m ++ x).size + (s.extract (m + d) s.size).size := by omega
  go_wp2_with fail
  generalize w.alloc (.cells #[.int .i64 k, .int .i64 n, .int .i64 m, .int .i64 wi] 24) = W at *
  go_region
  go_wp2_with fail
  go_ret
  refine ⟨rfl, ?_, ?_⟩
  · have h7 := hR1.drew.set_ (j := 2) (y := ⟨(xAt l n).a, (xAt l n).b, cutW s m d x⟩) (u := .string (cutW s m d x)) hn (by decide) rfl
    exact h7
  · (repeat' first | assumption | exact Below.refl _ _ | apply Below.drew | (refine Below.setCells ?_ _ _ ?_) | (refine Below.setCell ?_ ?_ _) | (refine Below.alloc ?_ ?_ _) | (simp; done) | (simp; omega))

theorem xAt_set {l : List Tri} {i : Nat} {y : Tri} (h : i < l.length) : xAt (l.set i y) i = y := by simp [xAt, h]
theorem xAt_set_ne {l : List Tri} {i j : Nat} {y : Tri} (h : i ≠ j) : xAt (l.set i y) j = xAt l j := by simp [xAt, List.getElem?_set_ne h]
theorem TRow.put3 {T : TypeId} {w : World} {base g cap : Nat} {l : List Tri} (h : TRow T w base g cap l) {i : Nat} (hi : i < l.length) (y : Tri) :
    TRow T (((w.setCell ⟨g, i * 3, none⟩ (.int .i64 y.a)).setCell ⟨g, i * 3 + 1, none⟩ (.int .i64 y.b)).setCell ⟨g, i * 3 + 2, none⟩ (.string y.s)) base g cap (l.set i y) := by
  have h1 := h.set_ (j := 0) (y := ⟨y.a, (xAt l i).b, (xAt l i).s⟩) (u := .int .i64 y.a) hi (by decide) rfl
  have h2 := h1.set_ (i := i) (j := 1) (y := ⟨y.a, y.b, (xAt l i).s⟩) (u := .int .i64 y.b) (by simpa using hi) (by decide) (by rw [xAt_set hi]; rfl)
  have h3 := h2.set_ (i := i) (j := 2) (y := y) (u := .string y.s) (by simpa using hi) (by decide) (by rw [xAt_set (by simpa using hi)]; rfl)
  rw [List.set_set, List.set_set] at h3
  exact h3

theorem below_put3 {base g : Nat} {w W : World} (h : Below base w W) (hg : base ≤ g) (i : Nat) (x y z : Value) : Below base w (((W.setCell ⟨g, i, none⟩ x).setCell ⟨g, i + 1, none⟩ y).setCell ⟨g, i + 2, none⟩ z) :=
  ((h.setCell (p := ⟨g, i, none⟩) hg x).setCell (p := ⟨g, i + 1, none⟩) hg y).setCell (p := ⟨g, i + 2, none⟩) hg z

/-- what a put leaves -/
def FPutPost (base g : Nat) (l' : List Tri) (w : World) (e : Ending) (w' : World) : Prop := ∃ cap', e = .returned (.slice (some ⟨g, 0, none⟩) l'.length cap') ∧ SRowT w' base g cap' l' ∧ Below base w w'


set_option maxRecDepth 100000 in
set_option maxHeartbeats 4000000 in
theorem missP_any (base g cap : Nat) (l : List Tri) (k wi : Int) (n m : Nat) (w : World) (hR : SRowT w base g cap l) (hbase : base ≤ w.heap.size) (hl : l.length ≤ 2000) (hn : n < l.length)
    (hs : (xAt l n).s.size ≤ 1000) (hm : m < (xAt l n).s.size) :
    Calls Try.prog 32 #[.slice (some ⟨g, 0, none⟩) l.length cap, .agg #[.int .i64 k, .int .i64 n, .int .i64 m, .int .i64 wi]] w (FPutPost base g (setW l n (cutW (xAt l n).s m 1 .empty)) w) := by
  have hb := hR.heap.1
  have hR1 := hR.alloc (.cells #[.int .i64 k, .int .i64 n, .int .i64 m, .int .i64 wi] 24)
  have hBB : Below base w (w.alloc (.cells #[.int .i64 k, .int .i64 n, .int .i64 m, .int .i64 wi] 24)) := by (repeat' first | assumption | exact Below.refl _ _ | apply Below.drew | (refine Below.setCells ?_ _ _ ?_) | (refine Below.setCell ?_ ?_ _) | (refine Below.alloc ?_ ?_ _) | (simp; done) | (simp; omega))
  have HR := Lib.hid hR1
  have HW := Lib.hid (fword_any base g cap l k wi n m 1 ⟨#[]⟩ _ hR1 (Nat.le_trans hbase hBB.size) hl hn hs (by omega) (by decide))
  clear hR1
  go_enter Try.func32, Try.ntmps32
  go_wp2_with (first | (go_at_call 33; refine HW.out.mono ?_; rintro e w2 ⟨rfl, hR2, hB2⟩) | fail)
  go_ret
  exact ⟨cap, by simp [setW], hR2, hBB.trans hB2⟩


set_option maxRecDepth 100000 in
set_option maxHeartbeats 4000000 in
theorem extraP_any (base g cap : Nat) (l : List Tri) (k wi : Int) (n m : Nat) (w : World) (hR : SRowT w base g cap l) (hbase : base ≤ w.heap.size) (hl : l.length ≤ 2000) (hn : n < l.length)
    (hs : (xAt l n).s.size ≤ 1000) (hm : m ≤ (xAt l n).s.size) (hwi : wi ∈ faultLetters) :
    Calls Try.prog 35 #[.slice (some ⟨g, 0, none⟩) l.length cap, .agg #[.int .i64 k, .int .i64 n, .int .i64 m, .int .i64 wi]] w (FPutPost base g (setW l n (cutW (xAt l n).s m 0 ⟨#[wi.toNat.toUInt8]⟩)) w) := by
  have hb := hR.heap.1
  have hR1 := hR.alloc (.cells #[.int .i64 k, .int .i64 n, .int .i64 m, .int .i64 wi] 24)
  have hBB : Below base w (w.alloc (.cells #[.int .i64 k, .int .i64 n, .int .i64 m, .int .i64 wi] 24)) := by (repeat' first | assumption | exact Below.refl _ _ | apply Below.drew | (refine Below.setCells ?_ _ _ ?_) | (refine Below.setCell ?_ ?_ _) | (refine Below.alloc ?_ ?_ _) | (simp; done) | (simp; omega))
  have HW := Lib.hid (fword_any base g cap l k wi n m 0 ⟨#[wi.toNat.toUInt8]⟩ _ hR1 (Nat.le_trans hbase hBB.size) hl hn hs (by omega) (by simp [ByteArray.size]))
  clear hR1
  simp only [faultLetters, List.mem_cons, List.not_mem_nil, or_false] at hwi
  rcases hwi with rfl | rfl | rfl | rfl | rfl | rfl | rfl | rfl | rfl
  all_goals
    go_enter Try.func35, Try.ntmps35
    go_wp2_with (first | (go_at_call 33; refine HW.out.mono ?_; rintro e w2 ⟨rfl, hR2, hB2⟩) | fail)
    go_ret
    exact ⟨cap, by simp [setW], hR2, hBB.trans hB2⟩


set_option maxRecDepth 100000 in
set_option maxHeartbeats 4000000 in
theorem placeP_any (base g cap : Nat) (l : List Tri) (k wi : Int) (n : Nat) (w : World) (hR : SRowT w base g cap l) (hbase : base ≤ w.heap.size) (hl : l.length ≤ 2000) (hn : n < l.length)
    (hw : IntKind.i64.wrap ((xAt l n).b + wi) = (xAt l n).b + wi) :
    Calls Try.prog 40 #[.slice (some ⟨g, 0, none⟩) l.length cap, .agg #[.int .i64 k, .int .i64 n, .int .i64 0, .int .i64 wi]] w (FPutPost base g (l.set n ⟨(xAt l n).a, (xAt l n).b + wi, (xAt l n).s⟩) w) := by
  have hb := hR.heap.1
  have hR1 := hR.alloc (.cells #[.int .i64 k, .int .i64 n, .int .i64 0, .int .i64 wi] 24)
  have hBB : Below base w (w.alloc (.cells #[.int .i64 k, .int .i64 n, .int .i64 0, .int .i64 wi] 24)) := by (repeat' first | assumption | exact Below.refl _ _ | apply Below.drew | (refine Below.setCells ?_ _ _ ?_) | (refine Below.setCell ?_ ?_ _) | (refine Below.alloc ?_ ?_ _) | (simp; done) | (simp; omega))
  obtain ⟨c0, c1, c2⟩ := hR1.cells hn
  have fz := hR1.frozen (n * 3 + 1)
  have kF := Blk.new w 24 #[.int .i64 k, .int .i64 n, .int .i64 0, .int .i64 wi]
  have f1 := kF.cell 1 (.int .i64 n) rfl
  have f3 := kF.cell 3 (.int .i64 wi) rfl
  have zl := hR1.lt
  have fl := kF.lt
  have n0 : (n : Int) < (l.length : Int) := by omega
  go_enter Try.func40, Try.ntmps40
  go_wp2_with fail
  generalize w.alloc (.cells #[.int .i64 k, .int .i64 n, .int .i64 0, .int .i64 wi] 24) = W at *
  go_region
  go_wp2_with fail
  go_ret
  refine ⟨cap, by simp, ?_, ?_⟩
  · exact hR1.drew.set_ (j := 1) (y := ⟨(xAt l n).a, (xAt l n).b + wi, (xAt l n).s⟩) (u := .int .i64 ((xAt l n).b + wi)) hn (by decide) rfl
  · (repeat' first | assumption | exact Below.refl _ _ | apply Below.drew | (refine Below.setCells ?_ _ _ ?_) | (refine Below.setCell ?_ ?_ _) | (refine Below.alloc ?_ ?_ _) | (simp; done) | (simp; omega))


set_option maxRecDepth 100000 in
set_option maxHeartbeats 4000000 in
theorem swapP_any (base g cap : Nat) (l : List Tri) (k wi lt : Int) (n : Nat) (w : World) (hR : SRowT w base g cap l) (hbase : base ≤ w.heap.size) (hl : l.length ≤ 2000) (hn : n + 1 < l.length) :
    Calls Try.prog 41 #[.slice (some ⟨g, 0, none⟩) l.length cap, .agg #[.int .i64 k, .int .i64 n, .int .i64 lt, .int .i64 wi]] w (FPutPost base g ((l.set n (xAt l (n + 1))).set (n + 1) (xAt l n)) w) := by
  have hb := hR.heap.1
  have gl := hR.lt
  have gne : g ≠ w.heap.size := by omega
  have hR1 := hR.alloc (.cells #[.int .i64 k, .int .i64 n, .int .i64 lt, .int .i64 wi] 24)
  have hBB : Below base w (w.alloc (.cells #[.int .i64 k, .int .i64 n, .int .i64 lt, .int .i64 wi] 24)) := by (repeat' first | assumption | exact Below.refl _ _ | apply Below.drew | (refine Below.setCells ?_ _ _ ?_) | (refine Below.setCell ?_ ?_ _) | (refine Below.alloc ?_ ?_ _) | (simp; done) | (simp; omega))
  obtain ⟨c0, c1, c2⟩ := hR1.cells (i := n) (by omega)
  obtain ⟨d0, d1, d2⟩ := hR1.cells (i := n + 1) hn
  have fz0 := hR1.frozen (n * 3)
  have fz1 := hR1.frozen (n * 3 + 1)
  have fz2 := hR1.frozen (n * 3 + 2)
  have gz0 := hR1.frozen ((n + 1) * 3)
  have gz1 := hR1.frozen ((n + 1) * 3 + 1)
  have gz2 := hR1.frozen ((n + 1) * 3 + 2)
  have kF := Blk.new w 24 #[.int .i64 k, .int .i64 n, .int .i64 lt, .int .i64 wi]
  have f1 := kF.cell 1 (.int .i64 n) rfl
  have zl := hR1.lt
  have fl := kF.lt
  have n9 : (0 : Int) ≤ (n : Int) + 1 := by omega
  have n0 : (n : Int) < (l.length : Int) := by omega
  have n1 : (n : Int) + 1 < (l.length : Int) := by omega
  have m0 : IntKind.i64.wrap ((n : Int) + 1) = (n : Int) + 1 := IntWalk.i64_in _ (by omega)
  have m1 : ((n : Int) + 1).toNat = n + 1 := by omega
  go_enter Try.func41, Try.ntmps41
  go_wp2_with fail
  generalize w.alloc (.cells #[.int .i64 k, .int .i64 n, .int .i64 lt, .int .i64 wi] 24) = W at *
  go_region
  go_wp2_with fail
  go_ret
  refine ⟨cap, by simp, ?_, ?_⟩
  · have h1 := ((hR1.put3 (i := n) (by omega) (xAt l (n + 1))).put3 (i := n + 1) (by rw [List.length_set]; omega) (xAt l n)).drew
    exact h1
  · exact (below_put3 (below_put3 hBB hb (n * 3) (.int .i64 (xAt l (n + 1)).a) (.int .i64 (xAt l (n + 1)).b) (.string (xAt l (n + 1)).s)) hb ((n + 1) * 3) (.int .i64 (xAt l n).a) (.int .i64 (xAt l n).b) (.string (xAt l n).s)).drew
end Go.Proofs.Ytfnklchhhojimaa
