/- words: pieces: the iterator that gives what stands between blanks, walked. -/
import Derived.Test.YtohcmfobnkaaiaaGreatDoorWIdx
import Derived.Test.YtohcmfobnkaaiaaGreatDoorWRead
import Derived.Test.YtohcmfobnkaaiaaGreatDoorSeqW
set_option linter.unusedSimpArgs false
set_option linter.unusedVariables false
namespace Go.Proofs.YtohcmfobnkaaiaaGreatDoor
open Go Go.RowKit Go.Shelf Tor
attribute [local go_sem] Oper.semAt_some

/-- what a round of Split keeps -/
def KpP (H : Nat) (W W' : World) : Prop := Below H W W' ∧ ∀ b vs T, T ≠ 78 → T ≠ 32 → Blk W b T vs → Blk W' b T vs
theorem KpP.refl (H : Nat) (W : World) : KpP H W W := ⟨Below.refl _ _, fun _ _ _ _ _ h => h⟩
theorem KpP.trans {H : Nat} {A B C : World} (h : KpP H A B) (k : KpP H B C) : KpP H A C := ⟨h.1.trans k.1, fun b vs T h1 h2 h3 => k.2 b vs T h1 h2 (h.2 b vs T h1 h2 h3)⟩
theorem KpP.below {H : Nat} {A B : World} (h : Below A.heap.size A B) (hH : H ≤ A.heap.size) : KpP H A B := ⟨h.mono hH, fun b vs T _ _ h3 => h3.below' h⟩
theorem KpP.put {H : Nat} {w : World} (hn : H ≤ w.heap.size) (W : World) (l : Nat) (o o' : Obj) (hl : w.heap.size ≤ l) (h : W.heap[l]? = some o) (h1 : o.isCells = false) (h2 : o.isWalk = false) : KpP H W (W.putObj l o') :=
  ⟨belowK_b hn W l o o' hl h h1 h2, fun b vs T _ _ h3 => by
    refine (World.putObj_heap_other (fun e => ?_)).trans h3
    subst e
    rw [show W.heap[_]? = _ from h3] at h
    cases h; cases h1⟩

theorem pieces_any (L : List UInt8) (w : World) : Calls Tryz.prog 28 #[.string (bN L)] w fun e w' =>
    e = .returned (.func (.func 44) #[] #[.pointer (some ⟨w.heap.size, 0, none⟩), .pointer (some ⟨w.heap.size + 1 + 1, 0, none⟩)]) ∧
    Blk w' w.heap.size 9 #[.string (bN L)] ∧ Blk w' (w.heap.size + 1) 4 #[.bool false] ∧
    Blk w' (w.heap.size + 1 + 1) 90 #[.func (.func 43) #[] #[.pointer (some ⟨w.heap.size + 1, 0, none⟩)]] ∧ Below w.heap.size w w' := by
  go_enter Tryz.func28, Tryz.ntmps28
  go_wp2_with fail
  go_ret
  refine ⟨by simp, ((Blk.new w _ _).alloc _).alloc _, ?_, ?_, by (repeat' first | exact Below.refl _ _ | apply Below.drew | (refine Below.setCells ?_ _ _ ?_) | (refine Below.setCell ?_ ?_ _) | (refine Below.alloc ?_ ?_ _) | (simp; done) | (simp; omega))⟩
  · have := (Blk.new (w.alloc (.cells #[.string (bN L)] 9)) 4 #[.bool false]).alloc (.cells #[.func (.func 43) #[] #[.pointer (some ⟨w.heap.size + 1, 0, none⟩)]] 90)
    rw [World.size_alloc] at this
    exact this
  · have := Blk.new ((w.alloc (.cells #[.string (bN L)] 9)).alloc (.cells #[.bool false] 4)) 90 #[.func (.func 43) #[] #[.pointer (some ⟨w.heap.size + 1, 0, none⟩)]]
    rw [World.size_alloc, World.size_alloc] at this
    exact this

/-- what the iterator reads -/
structure PcAt (w : World) (L : List UInt8) (q : Bool) (wb b1 b3 : Nat) : Prop where
  x1 : Blk w b1 9 #[.string (bN L)]
  xb : Blk w wb 4 #[.bool q]
  x3 : Blk w b3 90 #[.func (.func 43) #[] #[.pointer (some ⟨wb, 0, none⟩)]]
theorem PcAt.kp {H : Nat} {w w' : World} {L : List UInt8} {q : Bool} {wb b1 b3 : Nat} (h : PcAt w L q wb b1 b3) (k : KpP H w w') : PcAt w' L q wb b1 b3 :=
  ⟨k.2 _ _ _ (by decide) (by decide) h.x1, k.2 _ _ _ (by decide) (by decide) h.xb, k.2 _ _ _ (by decide) (by decide) h.x3⟩
theorem PcAt.turn {w w' : World} {L : List UInt8} {q q' : Bool} {wb b1 b3 : Nat} (h : PcAt w L q wb b1 b3) (hg : w.grownBy w' (some wb)) (hb : Blk w' wb 4 #[.bool q']) : PcAt w' L q' wb b1 b3 :=
  ⟨h.x1.grown hg (fun e => by
      cases e
      have := (show w.heap[wb]? = _ from h.x1).symm.trans h.xb
      simp only [Option.some.injEq, Obj.cells.injEq] at this
      exact absurd this.2.1 (by decide)), hb, h.x3.grown hg (fun e => by
      cases e
      have := (show w.heap[wb]? = _ from h.x3).symm.trans h.xb
      simp only [Option.some.injEq, Obj.cells.injEq] at this
      exact absurd this.2.1 (by decide))⟩

abbrev PcA (L : List UInt8) := { x : List UInt8 // x.length ≤ L.length }
def strLen : Value → Nat
  | .string s => s.size
  | _ => 0
set_option maxRecDepth 100000 in
set_option maxHeartbeats 8000000 in
theorem pieces2_in (n lp H wb b1 b3 : Nat) (L : List UInt8) (hL : L.length ≤ 1000000) (J Jx : List (PcA L) → World → Prop)
    (hJ : ∀ pre w w', J pre w → w.grownBy w' (some wb) → J pre w')
    (hY : ∀ pre (x : PcA L) W, J pre W → pre.length < (pcsG L).length → YieldAt Fence.wide (n - 1) Tryz.prog lp #[.string (bN x.1)] W fun e W' =>
      (e = .returned (.bool true) ∧ J (pre ++ [x]) W' ∧ KpP H W W') ∨ (e = .returned (.bool false) ∧ Jx (pre ++ [x]) W'))
    (W : World) (hI : PcAt W L false wb b1 b3) (h0 : J [] W) :
    CallsIn Fence.wide n Tryz.prog 44 #[.func (.yield lp) #[] #[], .pointer (some ⟨b1, 0, none⟩), .pointer (some ⟨b3, 0, none⟩)] W fun e W' =>
      (∃ v, e = .returned v) ∧ ((∃ ys : List (PcA L), ys.map (·.1) = pcsG L ∧ J ys W') ∨ (∃ pre : List (PcA L), pre.map (·.1) <+: pcsG L ∧ Jx pre W')) := by
  have HY := Lib.hid hY
  have HJ := Lib.hid hJ
  clear hY hJ
  refine callsIn_of_wp Tryz.func44 rfl trivial ?_ rfl
  simp only [Tryz.ntmps44, List.size_toArray, List.length_cons, List.length_nil, Nat.reduceAdd, Nat.reduceSub, Array.replicate_succ, Array.replicate_zero, List.push_toArray, List.append_toArray, List.nil_append, List.cons_append]
  have q1 := hI.x1.cell 0 _ rfl
  gi_wp2
  gi_loopw [4] (fun i wr => ∃ (R : List UInt8) (pre : List (PcA L)), R.length ≤ L.length ∧ i = .string (bN R) ∧ PcAt wr L false wb b1 b3 ∧ Hid (pcsG L = pre.map (·.1) ++ pcsG R) ∧ J pre wr) (fun i wr => strLen i)
  case atStart => exact ⟨L, [], Nat.le_refl _, rfl, hI, Lib.hid rfl, h0⟩
  case round =>
    obtain ⟨R, pre, hR, rfl, hI1, hp1, hJ1⟩ := hrel
    obtain ⟨w1, rfl⟩ : ∃ wo : World, wo = wr := ⟨_, rfl⟩
    have HX := Lib.hid (indexFunc_any R false wb w1 hI1.xb)
    have q3 := hI1.x3.cell 0 _ rfl
    have hz : (bN R).size = R.length := rfl
    cases he : endP false R with
    | none =>
      have e1 := Lib.hid (endI_none he)
      have e2 := Lib.hid (pcsG_none he)
      rw [e1.out] at HX
      clear he
      have hN : pre.length < (pcsG L).length := by rw [hp1.out, e2.out]; simp
      have HYx := Lib.hid (fun (w7 : World) (hj : J pre w7) => HY.out pre ⟨R, hR⟩ w7 hj hN)
      clear hN
      gi_wp2_with (first
        | (refine ⟨trivial, fun h => (by cases h), ?_⟩
           gi_at_call 45
           refine (callsIn_wide.2 HX.out).mono ?_
           rintro e w2 ⟨rfl, hg2, hb2⟩
           obtain ⟨fn, tmps, assign, body, hy, hR2⟩ := HYx.out w2 (HJ.out _ _ _ hJ1 hg2)
           dsimp only at hy)
        | fail)
      refine ⟨fun h => (by cases h), ?_⟩
      refine hR2.mono ?_
      rintro e w8 (⟨rfl, hJ8, hk8⟩ | ⟨rfl, hJx8⟩)
      · gi_wp2
        refine bodyPost_ret (results_none rfl _ _ _) rfl ?_
        exact ⟨⟨_, rfl⟩, .inl ⟨pre ++ [⟨R, hR⟩], by rw [hp1.out, e2.out, List.map_append]; rfl, hJ8⟩⟩
      · gi_wp2
        refine bodyPost_ret (results_none rfl _ _ _) rfl ?_
        exact ⟨⟨_, rfl⟩, .inr ⟨pre ++ [⟨R, hR⟩], by rw [hp1.out, e2.out, List.map_append]; exact List.prefix_refl _, hJx8⟩⟩
    | some k =>
      have e1 := Lib.hid (endI_some he)
      have e2 := Lib.hid (pcsG_some he)
      have e3 := Lib.hid (fin_found _ _ _ he)
      have hk := end_lt _ _ _ he
      rw [e1.out, e3.out] at HX
      clear he
      have hRk : (R.take k).length ≤ L.length := by rw [List.length_take]; omega
      have s1 : (bN R).extract 0 k = bN (R.take k) := bN_take R k
      have s2 : (bN R).extract (k + 1) R.length = bN (R.drop (k + 1)) := bN_drop R (k + 1)
      have hN : pre.length < (pcsG L).length := by rw [hp1.out, e2.out]; simp
      have HYx := Lib.hid (fun (w7 : World) (hj : J pre w7) => HY.out pre ⟨R.take k, hRk⟩ w7 hj hN)
      clear hN
      have k0 : ¬ (k : Int) < 0 := by omega
      gi_wp2_with (first
        | (refine ⟨trivial, fun h => (by cases h), ?_⟩
           gi_at_call 45
           refine (callsIn_wide.2 HX.out).mono ?_
           rintro e w2 ⟨rfl, hg2, hb2⟩
           have hI2 := hI1.turn hg2 hb2
           obtain ⟨fn, tmps, assign, body, hy, hR2⟩ := HYx.out w2 (HJ.out _ _ _ hJ1 hg2)
           dsimp only at hy)
        | fail)
      refine ⟨fun h => (by cases h), ?_⟩
      refine hR2.mono ?_
      rintro e w8 (⟨rfl, hJ8, hk8⟩ | ⟨rfl, hJx8⟩)
      · gi_wp2
        go_roundw
        case rel => exact ⟨R.drop (k + 1), pre ++ [⟨R.take k, hRk⟩], by rw [List.length_drop]; omega, by simp [s2], hI2.kp hk8, Lib.hid (by rw [hp1.out, e2.out, List.map_append]; simp), hJ8⟩
        case measure =>
          have m1 : (bN (R.drop (k + 1))).size = R.length - (k + 1) := List.length_drop
          have m2 : (bN R).size = R.length := rfl
          simp only [strLen, s2, m1, m2]
          omega
      · gi_wp2
        refine bodyPost_ret (results_none rfl _ _ _) rfl ?_
        exact ⟨⟨_, rfl⟩, .inr ⟨pre ++ [⟨R.take k, hRk⟩], by rw [hp1.out, e2.out, List.map_append]; simp, hJx8⟩⟩
theorem PcAt.on {w w' : World} {L : List UInt8} {q : Bool} {wb b1 b3 : Nat} (h : PcAt w L q wb b1 b3) (k : Below w.heap.size w w') : PcAt w' L q wb b1 b3 := ⟨h.x1.below' k, h.xb.below' k, h.x3.below' k⟩
theorem pieces_stops (n H wb b1 b3 : Nat) (L : List UInt8) (hL : L.length ≤ 1000000) (w : World) (hI : PcAt w L false wb b1 b3) :
    SeqW Fence.wide n Tryz.prog 44 #[.pointer (some ⟨b1, 0, none⟩), .pointer (some ⟨b3, 0, none⟩)] (fun x : PcA L => #[.string (bN x.1)])
      (KpP H) (fun pre => pre.length < (pcsG L).length) (fun ys => ys.map (·.1) = pcsG L) (fun pre => pre.map (·.1) <+: pcsG L) (some wb) w := fun lp J Jx W hW hJ _ hY h0 =>
  pieces2_in n lp H wb b1 b3 L hL J Jx (fun pre w w' h hg => hJ pre w w' _ h hg (fun r e => by cases e; exact .inl rfl)) hY W (hI.on hW) h0
end Go.Proofs.YtohcmfobnkaaiaaGreatDoor
