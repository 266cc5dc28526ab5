/- faults: the iterator over all faults that fit, in order. -/
import Derived.RangeFuncNested
import Derived.RangeFuncBound
import Derived.RangeFuncCalls
import Derived.RangeFuncLeaves
import Derived.RangeFuncBox
import Derived.Shelf.Abstract
import Derived.Shelf.RegionOpen
import Derived.WalkKit
import Derived.OwnWalkIn
import Derived.TacticsInMore
import Derived.LoopNIn
import Derived.LoopIn
import Derived.Test.YtblifdchofihoaaFltRow
set_option linter.unusedSimpArgs false
set_option linter.unusedVariables false
namespace Go.Proofs.Ytblifdchofihoaa
open Go Go.RowKit Go.Shelf Tor
attribute [local go_sem] Oper.semAt_some

/-- the faults of a step, of a kind, of a letter, that fit -/
def fitW (l : List Tri) (i : Nat) (k : Int) (n : Nat) (ws : List Int) : List Flt := (ws.map fun w => (⟨k, i, n, w⟩ : Flt)).filter (fitsF l)
def fitN (l : List Tri) (i : Nat) (k : Int) (n : Nat) : List Flt := fitW l i k n (withsL k)
def fitK (l : List Tri) (i : Nat) (k : Int) : List Flt := (List.range (letsF k (xAt l i)).toNat).flatMap fun n => fitN l i k n
def fitI (l : List Tri) (i : Nat) : List Flt := kindsR.flatMap fun k => fitK l i k
def fitA (l : List Tri) : List Flt := (List.range l.length).flatMap fun i => fitI l i
/-- what has come -/
def pre1 (l : List Tri) (i : Nat) : List Flt := (List.range i).flatMap fun i => fitI l i
def pre2 (l : List Tri) (i j : Nat) : List Flt := pre1 l i ++ (kindsR.take j).flatMap fun k => fitK l i k
def pre3 (l : List Tri) (i j n : Nat) : List Flt := pre2 l i j ++ (List.range n).flatMap fun n => fitN l i ((j : Int) + 1) n
def pre4 (l : List Tri) (i j n m : Nat) : List Flt := pre3 l i j n ++ fitW l i ((j : Int) + 1) n ((withsL ((j : Int) + 1)).take m)

theorem pre1_next (l : List Tri) (i : Nat) : pre1 l (i + 1) = pre2 l i 6 := by
  unfold pre2 pre1
  rw [List.range_succ, List.flatMap_append]
  simp [fitI, kindsR]
theorem pre2_zero (l : List Tri) (i : Nat) : pre2 l i 0 = pre1 l i := by simp [pre2]
theorem pre2_next (l : List Tri) (i j : Nat) (h : j < 6) : pre2 l i (j + 1) = pre3 l i j (letsF ((j : Int) + 1) (xAt l i)).toNat := by
  unfold pre3 pre2
  rw [kinds_take h, List.flatMap_append, ← List.append_assoc]
  simp [fitK]
theorem pre3_zero (l : List Tri) (i j : Nat) : pre3 l i j 0 = pre2 l i j := by simp [pre3]
theorem pre3_next (l : List Tri) (i j n : Nat) : pre3 l i j (n + 1) = pre4 l i j n (withsL ((j : Int) + 1)).length := by
  unfold pre4 pre3
  rw [List.range_succ, List.flatMap_append, List.take_length, ← List.append_assoc]
  simp [fitN]
theorem pre4_zero (l : List Tri) (i j n : Nat) : pre4 l i j n 0 = pre3 l i j n := by simp [pre4, fitW]
theorem pre4_next (l : List Tri) (i j n m : Nat) (h : m < (withsL ((j : Int) + 1)).length) :
    pre4 l i j n (m + 1) = pre4 l i j n m ++ (if fitsF l ⟨(j : Int) + 1, i, n, (withsL ((j : Int) + 1))[m]⟩ = true then [⟨(j : Int) + 1, i, n, (withsL ((j : Int) + 1))[m]⟩] else []) := by
  unfold pre4 fitW
  rw [← List.take_append_getElem h, List.map_append, List.filter_append, ← List.append_assoc]
  simp only [List.map_cons, List.map_nil, List.filter_cons, List.filter_nil]
theorem pre1_in (l : List Tri) {i : Nat} (h : i ≤ l.length) : pre1 l i <+: fitA l := by
  obtain ⟨d, hd⟩ : ∃ d, l.length = i + d := ⟨l.length - i, by omega⟩
  unfold pre1 fitA
  rw [hd, List.range_eq_range', List.range_eq_range', ← List.range'_append_1 (s := 0) (m := i), List.flatMap_append]
  exact List.prefix_append _ _
theorem pre2_in (l : List Tri) (i : Nat) {j : Nat} (h : j ≤ 6) : pre2 l i j <+: pre1 l (i + 1) := by
  rw [pre1_next]
  unfold pre2
  refine (List.prefix_append_right_inj _).2 ?_
  refine ⟨(kindsR.drop j).flatMap fun k => fitK l i k, ?_⟩
  rw [← List.flatMap_append, List.take_append_drop]
  rfl
theorem pre3_in (l : List Tri) (i : Nat) {j n : Nat} (h : j < 6) (hn : n ≤ (letsF ((j : Int) + 1) (xAt l i)).toNat) : pre3 l i j n <+: pre2 l i (j + 1) := by
  rw [pre2_next l i j h]
  unfold pre3
  refine (List.prefix_append_right_inj _).2 ?_
  obtain ⟨d, hd⟩ : ∃ d, (letsF ((j : Int) + 1) (xAt l i)).toNat = n + d := ⟨(letsF ((j : Int) + 1) (xAt l i)).toNat - n, by omega⟩
  rw [hd, List.range_eq_range', List.range_eq_range', ← List.range'_append_1 (s := 0) (m := n), List.flatMap_append]
  exact List.prefix_append _ _
theorem pre4_in (l : List Tri) (i j n m : Nat) : pre4 l i j n m <+: pre3 l i j (n + 1) := by
  rw [pre3_next]
  unfold pre4
  refine (List.prefix_append_right_inj _).2 ?_
  refine ⟨fitW l i ((j : Int) + 1) n ((withsL ((j : Int) + 1)).drop m), ?_⟩
  unfold fitW
  rw [← List.filter_append, ← List.map_append, List.take_append_drop, List.take_length]
theorem pre4_all (l : List Tri) {i j n m : Nat} (hi : i < l.length) (hj : j < 6) (hn : n < (letsF ((j : Int) + 1) (xAt l i)).toNat) : pre4 l i j n m <+: fitA l :=
  (((pre4_in l i j n m).trans (pre3_in l i hj (by omega))).trans (pre2_in l i (by omega))).trans (pre1_in l (by omega))
theorem shaped_here {l : List Tri} {i j n m : Nat} (hj : j < 6) (hn : n < (letsF ((j : Int) + 1) (xAt l i)).toNat) (hm : m < (withsL ((j : Int) + 1)).length) : shapedF ⟨(j : Int) + 1, i, n, (withsL ((j : Int) + 1))[m]⟩ = true := by
  rw [shapedF_in (by simp only; omega)]
  have h1 : (withsL ((j : Int) + 1)).contains (withsL ((j : Int) + 1))[m] = true := by simp
  simp only [h1, Bool.true_and]
  rcases (show j = 0 ∨ j = 1 ∨ j = 2 ∨ j = 3 ∨ j = 4 ∨ j = 5 by omega) with rfl | rfl | rfl | rfl | rfl | rfl
  · rfl
  · rfl
  · rfl
  all_goals
    simp [letsF] at hn
    subst hn
    rfl

/-- what a round of the loop over the faults keeps -/
def KpF (H : Nat) (W W' : World) : Prop := Below H W W' ∧ ∀ b vs T, T ≠ 24 → T ≠ 52 → Blk W b T vs → Blk W' b T vs
theorem KpF.refl (H : Nat) (W : World) : KpF H W W := ⟨Below.refl _ _, fun _ _ _ _ _ h => h⟩
theorem KpF.trans {H : Nat} {A B C : World} (h : KpF H A B) (k : KpF H B C) : KpF H A C := ⟨h.1.trans k.1, fun b vs T h1 h2 h3 => k.2 b vs T h1 h2 (h.2 b vs T h1 h2 h3)⟩
theorem KpF.below {H : Nat} {A B : World} (h : Below A.heap.size A B) (hH : H ≤ A.heap.size) : KpF H A B := ⟨h.mono hH, fun b vs T _ _ h3 => h3.below' h⟩
theorem KpF.put {H : Nat} {w : World} (hn : H ≤ w.heap.size) (W : World) (l : Nat) (o o' : Obj) (hl : w.heap.size ≤ l) (h : W.heap[l]? = some o) (h1 : o.isCells = false) (h2 : o.isWalk = false) : KpF H W (W.putObj l o') :=
  ⟨belowK_b hn W l o o' hl h h1 h2, fun b vs T _ _ h3 => by
    refine (World.putObj_heap_other (fun e => ?_)).trans h3
    subst e
    rw [show W.heap[_]? = _ from h3] at h
    cases h; cases h1⟩
theorem Below.grows {w w' : World} (h : Below w.heap.size w w') : w.grownBy w' none := ⟨h.os, h.tape, h.output, h.size, fun k hk _ => h.block k hk⟩

/-- what the iterator reads -/
structure ItAt (w : World) (H g : Nat) (K : KAt) (A : Option Addr) (l : List Tri) (c b1 b2 : Nat) : Prop where
  hs : H ≤ w.heap.size
  rd : RdT w H A l
  ks : KindsAt w H g K
  x1 : Blk w b1 22 #[.slice A l.length c]
  x2 : Blk w b2 61 #[.slice (some ⟨g, 0, none⟩) 6 6]
theorem ItAt.kp {w w' : World} {H g : Nat} {K : KAt} {A : Option Addr} {l : List Tri} {c b1 b2 : Nat} (h : ItAt w H g K A l c b1 b2) (k : KpF H w w') : ItAt w' H g K A l c b1 b2 :=
  ⟨Nat.le_trans h.hs k.1.size, h.rd.below' k.1 (Nat.le_refl _), h.ks.below k.1 (Nat.le_refl _), k.2 _ _ _ (by decide) (by decide) h.x1, k.2 _ _ _ (by decide) (by decide) h.x2⟩
theorem ItAt.on {w w' : World} {H g : Nat} {K : KAt} {A : Option Addr} {l : List Tri} {c b1 b2 : Nat} (h : ItAt w H g K A l c b1 b2) (k : Below w.heap.size w w') : ItAt w' H g K A l c b1 b2 := h.kp (KpF.below k h.hs)
theorem klf_enter (k : Int) (args : Array Value) (w : World) : (callFunc (klf k) args).run Try.prog w = .ok (.enter (klf k) args) w := by
  unfold klf
  (repeat' split)
  · exact callFunc_enter Try.func57 (by kernel_rfl) rfl args w
  · exact callFunc_enter Try.func53 (by kernel_rfl) rfl args w
  · exact callFunc_enter Try.func54 (by kernel_rfl) rfl args w
theorem faults_any (A : Option Addr) (n c g : Nat) (w : World) :
    Calls Try.prog 46 #[.slice (some ⟨g, 0, none⟩) 6 6, .slice A n c] w fun e w' =>
      e = .returned (.func (.func 85) #[] #[.pointer (some ⟨w.heap.size + 1, 0, none⟩), .pointer (some ⟨w.heap.size, 0, none⟩)]) ∧
      w' = (w.alloc (.cells #[.slice (some ⟨g, 0, none⟩) 6 6] 61)).alloc (.cells #[.slice A n c] 22) := by
  go_enter Try.func46, Try.ntmps46
  go_wp2_with fail
  go_ret
  exact ⟨by simp, rfl⟩
end Go.Proofs.Ytblifdchofihoaa
