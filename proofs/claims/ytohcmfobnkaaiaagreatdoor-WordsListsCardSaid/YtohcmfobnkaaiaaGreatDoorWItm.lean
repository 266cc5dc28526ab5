/- words: the items that may begin a list: the iterator, walked. -/
import Derived.Test.YtohcmfobnkaaiaaGreatDoorWdP
import Derived.Test.YtohcmfobnkaaiaaGreatDoorSeqW
import Derived.Test.YtohcmfobnkaaiaaGreatDoorWNum
set_option linter.unusedSimpArgs false
set_option linter.unusedVariables false
namespace Go.Proofs.YtohcmfobnkaaiaaGreatDoor
open Go Go.RowKit Go.Shelf Tor
attribute [local go_sem] Oper.semAt_some

/-- what a round of List keeps -/
def KpI (H : Nat) (W W' : World) : Prop := Below H W W' ∧ ∀ b vs, Blk W b 22 vs → Blk W' b 22 vs
theorem KpI.refl (H : Nat) (W : World) : KpI H W W := ⟨Below.refl _ _, fun _ _ h => h⟩
theorem KpI.trans {H : Nat} {A B C : World} (h : KpI H A B) (k : KpI H B C) : KpI H A C := ⟨h.1.trans k.1, fun b vs h3 => k.2 b vs (h.2 b vs h3)⟩
theorem KpI.below {H : Nat} {A B : World} (h : Below A.heap.size A B) (hH : H ≤ A.heap.size) : KpI H A B := ⟨h.mono hH, fun b vs h3 => h3.below' h⟩
theorem KpI.put {H : Nat} {w : World} (hn : H ≤ w.heap.size) (W : World) (l : Nat) (o o' : Obj) (hl : w.heap.size ≤ l) (h : W.heap[l]? = some o) (h1 : o.isCells = false) (h2 : o.isWalk = false) : KpI H W (W.putObj l o') :=
  ⟨belowK_b hn W l o o' hl h h1 h2, fun b vs h3 => by
    refine (World.putObj_heap_other (fun e => ?_)).trans h3
    subst e
    rw [show W.heap[_]? = _ from h3] at h
    cases h; cases h1⟩
theorem grows_none {w w' : World} (h : Below w.heap.size w w') : w.grownBy w' none := ⟨h.os, h.tape, h.output, h.size, fun k hk _ => h.block k hk⟩

/-- the items of a list -/
abbrev ItA (l : List Int) := { x : It // x ∈ itemsW l }
def upIt (l : List Int) (j : Nat) : It := (digL (l.headD 0) ++ 45 :: digL (l.getD (j + 1) 0), j + 2)
def alIt (l : List Int) (j : Nat) : It := (digL ((j + 2 : Nat) : Int) ++ 120 :: digL (l.headD 0), j + 2)
theorem itemsW_eq (l : List Int) : itemsW l = (digL (l.headD 0), 1) :: ((upL l).map (upIt l) ++ (alL l).map (alIt l)) := rfl
def upC (l : List Int) (j : Nat) : Bool := decide (l.getD (j + 1) 0 = l.headD 0 + (j + 1 : Nat))
def alC (l : List Int) (j : Nat) : Bool := decide (l.getD (j + 1) 0 = l.headD 0)
theorem tw_ex (p : Nat → Bool) (n : Nat) : ∃ k, k ≤ n ∧ (∀ i, i < k → p i = true) ∧ (k = n ∨ p k = false) ∧ (List.range n).takeWhile p = List.range k := by
  have h : ∃ k, k ≤ n ∧ (∀ i, i < k → p i = true) ∧ (k = n ∨ p k = false) := by
    induction n with
    | zero => exact ⟨0, Nat.le_refl _, fun i hi => by omega, .inl rfl⟩
    | succ n ih =>
      obtain ⟨k, h1, h2, h3⟩ := ih
      rcases h3 with rfl | h3
      · cases hp : p k
        · exact ⟨k, by omega, h2, .inr hp⟩
        · refine ⟨k + 1, Nat.le_refl _, fun i hi => ?_, .inl rfl⟩
          rcases Nat.lt_or_ge i k with h | h
          · exact h2 i h
          · rw [show i = k by omega]; exact hp
      · exact ⟨k, by omega, h2, .inr h3⟩
  obtain ⟨k, h1, h2, h3⟩ := h
  exact ⟨k, h1, h2, h3, tw_range p h1 h2 h3⟩
/-- what has come -/
def preU (l : List Int) (j : Nat) : List It := (digL (l.headD 0), 1) :: (List.range j).map (upIt l)
def preA (l : List Int) (j : Nat) : List It := (digL (l.headD 0), 1) :: ((upL l).map (upIt l) ++ (List.range j).map (alIt l))
theorem preU_zero (l : List Int) : preU l 0 = [(digL (l.headD 0), 1)] := rfl
theorem preU_next (l : List Int) (j : Nat) : preU l (j + 1) = preU l j ++ [upIt l j] := by
  unfold preU; rw [List.range_succ]; simp
theorem preA_next (l : List Int) (j : Nat) : preA l (j + 1) = preA l j ++ [alIt l j] := by
  unfold preA; rw [List.range_succ]; simp
theorem preU_end {l : List Int} {j : Nat} (h : ∀ i, i < j → upC l i = true) (hj : j ≤ l.length - 1) (he : j = l.length - 1 ∨ upC l j = false) : preU l j = preA l 0 := by
  have e : upL l = List.range j := tw_range (upC l) hj h (he.imp (fun h => h) (fun h => h))
  unfold preU preA
  rw [e]; simp
theorem preA_end {l : List Int} {j : Nat} (h : ∀ i, i < j → alC l i = true) (hj : j ≤ l.length - 1) (he : j = l.length - 1 ∨ alC l j = false) : preA l j = itemsW l := by
  have e : alL l = List.range j := tw_range (alC l) hj h (he.imp (fun h => h) (fun h => h))
  rw [itemsW_eq]
  unfold preA
  rw [e]
theorem mem_up {l : List Int} {j : Nat} (h : ∀ i, i ≤ j → upC l i = true) (hj : j < l.length - 1) : upIt l j ∈ itemsW l := by
  rw [itemsW_eq]
  refine List.mem_cons_of_mem _ (List.mem_append_left _ (List.mem_map_of_mem ?_))
  obtain ⟨k, hk⟩ : ∃ k, upL l = List.range k ∧ j < k := by
    rcases tw_ex (upC l) (l.length - 1) with ⟨k, hk1, hk2, hk3, hk4⟩
    refine ⟨k, hk4, ?_⟩
    rcases Nat.lt_or_ge j k with h5 | h5
    · exact h5
    · rcases hk3 with h6 | h6
      · omega
      · rw [h k h5] at h6; cases h6
  rw [hk.1]
  exact List.mem_range.2 hk.2
theorem mem_al {l : List Int} {j : Nat} (h : ∀ i, i ≤ j → alC l i = true) (hj : j < l.length - 1) : alIt l j ∈ itemsW l := by
  rw [itemsW_eq]
  refine List.mem_cons_of_mem _ (List.mem_append_right _ (List.mem_map_of_mem ?_))
  obtain ⟨k, hk⟩ : ∃ k, alL l = List.range k ∧ j < k := by
    rcases tw_ex (alC l) (l.length - 1) with ⟨k, hk1, hk2, hk3, hk4⟩
    refine ⟨k, hk4, ?_⟩
    rcases Nat.lt_or_ge j k with h5 | h5
    · exact h5
    · rcases hk3 with h6 | h6
      · omega
      · rw [h k h5] at h6; cases h6
  rw [hk.1]
  exact List.mem_range.2 hk.2

/-- what the iterator reads; w0: the world when List began -/
structure ItmAt (w0 w : World) (A : Option Addr) (l : List Int) (c b1 : Nat) : Prop where
  wd : WdAt w0
  bl : Below w0.heap.size w0 w
  rd : RdI w0 w0.heap.size A l
  x1 : Blk w b1 22 #[.slice A l.length c]
theorem WdAt.on {w0 w : World} (h : WdAt w0) (hb : Below w0.heap.size w0 w) : WdAt w := h.below hb
theorem ItmAt.kp {w0 w w' : World} {A : Option Addr} {l : List Int} {c b1 : Nat} (h : ItmAt w0 w A l c b1) (k : KpI w0.heap.size w w') : ItmAt w0 w' A l c b1 := ⟨h.wd, h.bl.trans k.1, h.rd, k.2 _ _ h.x1⟩
theorem ItmAt.on {w0 w w' : World} {A : Option Addr} {l : List Int} {c b1 : Nat} (h : ItmAt w0 w A l c b1) (k : Below w.heap.size w w') : ItmAt w0 w' A l c b1 := h.kp (KpI.below k h.bl.size)

theorem bN_join (a b : List UInt8) : bN a ++ bN b = bN (a ++ b) := ByteArray.ext (Array.ext' (by rw [ByteArray.data_append, Array.toList_append]; rfl))
theorem bN3 (a b : List UInt8) (c : UInt8) : bN a ++ (⟨#[c]⟩ : ByteArray) ++ bN b = bN (a ++ c :: b) := by
  rw [show (⟨#[c]⟩ : ByteArray) = bN [c] from rfl, bN_join, bN_join]
  simp
theorem bN2 (a : List UInt8) (c : UInt8) : bN a ++ (⟨#[c]⟩ : ByteArray) = bN (a ++ [c]) := by rw [show (⟨#[c]⟩ : ByteArray) = bN [c] from rfl, bN_join]

set_option maxRecDepth 100000 in
set_option maxHeartbeats 8000000 in
theorem items1_in (n lp : Nat) (w0 : World) (A : Option Addr) (l : List Int) (c b1 : Nat) (J Jx : List (ItA l) → World → Prop) (hl1 : 1 ≤ l.length) (hl : l.length ≤ 1000) (hok : OkL l)
    (hJ : ∀ pre w w', J pre w → Below w.heap.size w w' → J pre w')
    (hY : ∀ pre (x : ItA l) W, J pre W → YieldAt Fence.wide (n - 1) Tryz.prog lp #[.agg #[.string (bN x.1.1), .int .i64 x.1.2]] W fun e W' =>
      (e = .returned (.bool true) ∧ J (pre ++ [x]) W' ∧ KpI w0.heap.size W W') ∨ (e = .returned (.bool false) ∧ Jx (pre ++ [x]) W'))
    (W : World) (hI : ItmAt w0 W A l c b1) (h0 : J [] W) :
    CallsIn Fence.wide n Tryz.prog 32 #[.func (.yield lp) #[] #[], .pointer (some ⟨b1, 0, none⟩)] W fun e W' =>
      (∃ v, e = .returned v) ∧ ((∃ ys : List (ItA l), ys.map (·.1) = itemsW l ∧ J ys W') ∨ (∃ pre : List (ItA l), True ∧ Jx pre W')) := by
  have HY := Lib.hid hY
  have HJ := Lib.hid hJ
  clear hY hJ
  obtain ⟨b, o, rfl, hb, -⟩ := Rd.int hI.rd (k := 0) (by omega)
  have cell : Hid (∀ W, ItmAt w0 W (some ⟨b, o, none⟩) l c b1 → ∀ (k : Nat) (hk : k < l.length), W.cell? ⟨b, o + k, none⟩ = some (.int .i64 l[k])) := Lib.hid (fun W hW k hk => by
    obtain ⟨b', o', e, hb', hc⟩ := Rd.int hW.rd hk
    simp only [Option.some.injEq, Addr.mk.injEq, and_true] at e
    obtain ⟨rfl, rfl⟩ := e
    exact (hW.bl.cell (p := ⟨b, o + k, none⟩) hb').trans hc)
  obtain ⟨a0, ha0⟩ : ∃ a0, Hid (l.headD 0 = a0) := ⟨_, Lib.hid rfl⟩
  have hl0 : l[0] = a0 := by rw [← ha0.out]; cases l with
    | nil => simp at hl1
    | cons x r => rfl
  obtain ⟨p0, p1⟩ := hok.headD
  rw [ha0.out] at p0 p1
  obtain ⟨d0, hd0⟩ : ∃ d0, Hid (digL a0 = d0) := ⟨_, Lib.hid rfl⟩
  have e0 : Hid ((d0, 1) ∈ itemsW l) := by rw [Hid, itemsW_eq, ha0.out, hd0.out]; exact List.mem_cons_self
  have eP : Hid (preU l 0 = [(d0, 1)]) := by rw [Hid, preU_zero, ha0.out, hd0.out]
  have z0 : d0.length ≤ 4 := by rw [← hd0.out]; exact (digL_4 p0 p1).2
  have HA := Lib.hid (fun (W : World) (h : ItmAt w0 W (some ⟨b, o, none⟩) l c b1) => (by have := itoa_any a0 p0 (by omega) W (h.wd.on h.bl); rw [hd0.out] at this; exact this : Calls Tryz.prog 33 #[.int .i64 a0] W (Ret (.string (bN d0)) W)))
  refine callsIn_of_wp Tryz.func32 rfl trivial ?_ rfl
  simp only [Tryz.ntmps32, List.size_toArray, List.length_cons, List.length_nil, Nat.reduceAdd, Nat.reduceSub, Array.replicate_succ, Array.replicate_zero, List.push_toArray, List.append_toArray, List.nil_append, List.cons_append]
  have q1 := hI.x1.cell 0 _ rfl
  have q2 := cell.out W hI 0 (by omega)
  rw [hl0, Nat.add_zero] at q2
  have l1 : (0 : Int) < l.length := by omega
  have HYk : Hid (∀ (pre : List (ItA l)) (s : List UInt8) (m : Nat) (k : Int) (hm : (s, m) ∈ itemsW l), (m : Int) = k → ∀ W1, J pre W1 → YieldAt Fence.wide (n - 1) Tryz.prog lp #[.agg #[.string (bN s), .int .i64 k]] W1 fun e W' =>
      (e = .returned (.bool true) ∧ J (pre ++ [⟨(s, m), hm⟩]) W' ∧ KpI w0.heap.size W1 W') ∨ (e = .returned (.bool false) ∧ Jx (pre ++ [⟨(s, m), hm⟩]) W')) := Lib.hid (fun pre s m k hm hk W1 h => by subst hk; exact HY.out pre ⟨(s, m), hm⟩ W1 h)
  clear HY
  have HY0 := Lib.hid (HYk.out [] d0 1 1 e0.out rfl)
  gi_wp2_with (first
    | (refine ⟨trivial, fun h => (by cases h), ?_⟩
       gi_at_call 33
       refine (callsIn_wide.2 (HA.out W hI)).mono ?_
       rintro e w1 ⟨rfl, hB1⟩
       have hI1 := hI.on hB1
       obtain ⟨fn, tmps, assign, body, hy, hR⟩ := HY0.out w1 (HJ.out _ _ _ h0 hB1)
       try dsimp only at hy)
    | fail)
  refine ⟨fun h => (by cases h), ?_⟩
  refine hR.mono ?_
  rintro e w8 (⟨rfl, hJ8, hk8⟩ | ⟨rfl, hJx8⟩)
  rotate_left
  · gi_wp2
    refine bodyPost_ret (results_none rfl _ _ _) rfl ?_
    exact ⟨⟨_, rfl⟩, .inr ⟨_, trivial, hJx8⟩⟩
  have hI8 := hI1.kp hk8
  clear hI1 hk8 HY0 hR hy q1 q2 HA h0
  gi_wp2
  gi_loopw [4] (fun i wr => ∃ (j : Nat) (pre : List (ItA l)), 1 ≤ j ∧ j ≤ l.length ∧ i = .int .i64 ((j : Int) + 1) ∧ ItmAt w0 wr (some ⟨b, o, none⟩) l c b1 ∧ pre.map (·.1) = preU l (j - 1) ∧ Hid (∀ i, i < j - 1 → upC l i = true) ∧ J pre wr) (fun i wr => l.length + 1 - (intOf i).toNat)
  case atStart => exact ⟨1, _, by omega, by omega, rfl, hI8, by rw [eP.out]; rfl, Lib.hid (fun i hi => by omega), hJ8⟩
  case round =>
    clear hJ8 hI8
    obtain ⟨j, pre, hj1, hjl, rfl, hI1, hp1, hup, hJ1⟩ := hrel
    obtain ⟨w2, rfl⟩ : ∃ wo : World, wo = wr := ⟨_, rfl⟩
    have q1 := hI1.x1.cell 0 _ rfl
    have q2 := cell.out w2 hI1 0 (by omega)
    rw [hl0, Nat.add_zero] at q2
    by_cases hlt : j < l.length
    · obtain ⟨v, hv⟩ : ∃ v, Hid (l[j] = v) := ⟨_, Lib.hid rfl⟩
      have q3 := cell.out w2 hI1 j hlt
      rw [hv.out] at q3
      have hgv : l.getD j 0 = v := by rw [← hv.out]; simp [List.getD, List.getElem?_eq_getElem hlt]
      obtain ⟨v0, v1⟩ := hok.getD j
      rw [hgv] at v0 v1
      have c1 : decide ((j : Int) + 1 ≤ (l.length : Int)) = true := decide_eq_true (by omega)
      by_cases hvv : v = a0 + j
      · have c2 : Hid (upC l (j - 1) = true) := by
          rw [Hid]; unfold upC
          rw [show j - 1 + 1 = j by omega, hgv, ha0.out, hvv]; exact decide_eq_true rfl
        obtain ⟨d1, hd1⟩ : ∃ d1, Hid (digL v = d1) := ⟨_, Lib.hid rfl⟩
        have z1 : d1.length ≤ 4 := by rw [← hd1.out]; exact (digL_4 v0 v1).2
        have e1 : Hid ((d0 ++ 45 :: d1, j + 1) ∈ itemsW l) := by
          have hh := mem_up (l := l) (j := j - 1) (fun i hi => by
            rcases Nat.lt_or_ge i (j - 1) with h | h
            · exact hup.out i h
            · rw [show i = j - 1 by omega]; exact c2.out) (by omega)
          unfold upIt at hh
          rw [show j - 1 + 1 = j by omega, show j - 1 + 2 = j + 1 by omega, hgv, ha0.out, hd0.out, hd1.out] at hh
          exact Lib.hid hh
        have e2 : Hid (preU l j = preU l (j - 1) ++ [(d0 ++ 45 :: d1, j + 1)]) := by
          have hh := preU_next l (j - 1)
          unfold upIt at hh
          rw [show j - 1 + 1 = j by omega, show j - 1 + 2 = j + 1 by omega, hgv, ha0.out, hd0.out, hd1.out] at hh
          exact Lib.hid hh
        have HV := Lib.hid (fun (W : World) (h : ItmAt w0 W (some ⟨b, o, none⟩) l c b1) => (by have := itoa_any v v0 (by omega) W (h.wd.on h.bl); rw [hd1.out] at this; exact this : Calls Tryz.prog 33 #[.int .i64 v] W (Ret (.string (bN d1)) W)))
        have s1 : (bN d0).size + (⟨#[45]⟩ : ByteArray).size ≤ 9223372036854775807 := by show d0.length + 1 ≤ _; omega
        have s2 : (bN (d0 ++ [45])).size + (bN d1).size ≤ 9223372036854775807 := by show (d0 ++ [45]).length + d1.length ≤ _; simp; omega
        have c4 := bN2 d0 45
        have c5 : bN (d0 ++ [45]) ++ bN d1 = bN (d0 ++ 45 :: d1) := by rw [bN_join]; simp
        have HY1 := Lib.hid (HYk.out pre (d0 ++ 45 :: d1) (j + 1) ((j : Int) + 1) e1.out (by omega))
        have t1 : (v == a0 + (j : Int)) = true := by rw [hvv]; simp
        have t2 : decide (v = a0 + (j : Int)) = true := decide_eq_true hvv
        have HV3 := Lib.hid hvv
        clear hvv hgv hd1
        gi_wp2
        refine wpIn_wide.2 (wp_region_quiet_lit (by kernel_rfl) (by kernel_rfl) ?_)
        repeat (go_big_quiet_step (fail))
        refine wpQuiet_nil ?_
        rintro _ ⟨k, rfl⟩
        have hBk : Below w2.heap.size w2 (w2.drewN k) := (Below.refl _ _).drewN k
        have hI2 := hI1.on hBk
        obtain ⟨w2', hw2⟩ : ∃ w2', w2.drewN k = w2' := ⟨_, rfl⟩
        rw [hw2] at hBk hI2 ⊢
        have hJ2 := HJ.out _ _ _ hJ1 hBk
        have q1' := hI2.x1.cell 0 _ rfl
        have q3' := cell.out w2' hI2 j hlt
        rw [hv.out] at q3'
        gi_wp2_with (first
          | (refine ⟨trivial, fun h => (by cases h), ?_⟩
             gi_at_call 33
             refine (callsIn_wide.2 (HV.out _ hI2)).mono ?_
             rintro e w3 ⟨rfl, hB3⟩
             have hI3 := hI2.on hB3
             obtain ⟨fn, tmps, assign, body, hy, hR⟩ := HY1.out w3 (HJ.out _ _ _ hJ2 hB3)
             try dsimp only at hy)
          | fail)
        -- GEN
        refine ⟨fun h => (by cases h), ?_⟩
        refine hR.mono ?_
        rintro e w8 (⟨rfl, hJ8, hk8⟩ | ⟨rfl, hJx8⟩)
        · gi_wp2
          go_roundw
          case rel => exact ⟨j + 1, _, by omega, by omega, by go_num, hI3.kp hk8, by rw [List.map_append, hp1, show j + 1 - 1 = j by omega, e2.out]; rfl, Lib.hid (fun i hi => by
            rcases Nat.lt_or_ge i (j - 1) with h | h
            · exact hup.out i h
            · rw [show i = j - 1 by omega]; exact c2.out), hJ8⟩
          case measure => simp [intOf]; omega
        · gi_wp2
          refine bodyPost_ret (results_none rfl _ _ _) rfl ?_
          exact ⟨⟨_, rfl⟩, .inr ⟨_, trivial, hJx8⟩⟩
      · have c2 : Hid (upC l (j - 1) = false) := by
          rw [Hid]; unfold upC
          rw [show j - 1 + 1 = j by omega, hgv, ha0.out]; exact decide_eq_false hvv
        have hpA : pre.map (·.1) = preA l (1 - 1) := by rw [hp1]; exact preU_end (fun i hi => hup.out i hi) (by omega) (.inr c2.out)
        have t1 : (v == a0 + (j : Int)) = false := beq_eq_false_iff_ne.2 hvv
        have t3 : (v == a0 + ((j : Int) + 1) - 1) = false := beq_eq_false_iff_ne.2 (fun h => hvv (by omega))
        have t2 : decide (v = a0 + (j : Int)) = false := decide_eq_false hvv
        have HV3 := Lib.hid hvv
        clear hvv hgv
        gi_wp2
        refine wpIn_wide.2 (wp_region_quiet_lit (by kernel_rfl) (by kernel_rfl) ?_)
        repeat (go_big_quiet_step (fail))
        refine wpQuiet_nil ?_
        rintro _ ⟨k, rfl⟩
        have hBk : Below w2.heap.size w2 (w2.drewN k) := (Below.refl _ _).drewN k
        have hI2 := hI1.on hBk
        obtain ⟨w2', hw2⟩ : ∃ w2', w2.drewN k = w2' := ⟨_, rfl⟩
        rw [hw2] at hBk hI2 ⊢
        have hJ2 := HJ.out _ _ _ hJ1 hBk
        gi_wp2
        gi_loopw [5] (fun i wr => ∃ (j : Nat) (pre : List (ItA l)), 1 ≤ j ∧ j ≤ l.length ∧ i = .int .i64 ((j : Int) + 1) ∧ ItmAt w0 wr (some ⟨b, o, none⟩) l c b1 ∧ pre.map (·.1) = preA l (j - 1) ∧ Hid (∀ i, i < j - 1 → alC l i = true) ∧ J pre wr) (fun i wr => l.length + 1 - (intOf i).toNat)
        case atStart => exact ⟨1, pre, by omega, by omega, rfl, hI2, hpA, Lib.hid (fun i hi => by omega), hJ2⟩
        case round =>
          clear hI1 hI2 hJ1 hJ2 hp1 hup hpA q1 q2 HV3 t1 t2 t3 c2 c1 q3 hv v0 v1 hlt
          clear hBk hw2
          clear w2' w2
          clear pre
          obtain ⟨j, pre, hj1, hjl, rfl, hI1, hp1, hup, hJ1⟩ := hrel
          obtain ⟨w2, rfl⟩ : ∃ wo : World, wo = wr := ⟨_, rfl⟩
          have q1 := hI1.x1.cell 0 _ rfl
          have q2 := cell.out w2 hI1 0 (by omega)
          rw [hl0, Nat.add_zero] at q2
          by_cases hlt : j < l.length
          · obtain ⟨v, hv⟩ : ∃ v, Hid (l[j] = v) := ⟨_, Lib.hid rfl⟩
            have q3 := cell.out w2 hI1 j hlt
            rw [hv.out] at q3
            have hgv : l.getD j 0 = v := by rw [← hv.out]; simp [List.getD, List.getElem?_eq_getElem hlt]
            have c1 : decide ((j : Int) + 1 ≤ (l.length : Int)) = true := decide_eq_true (by omega)
            by_cases hvv : v = a0
            · have c2 : Hid (alC l (j - 1) = true) := by
                rw [Hid]; unfold alC
                rw [show j - 1 + 1 = j by omega, hgv, ha0.out, hvv]; exact decide_eq_true rfl
              obtain ⟨d1, hd1⟩ : ∃ d1, Hid (digL ((j : Int) + 1) = d1) := ⟨_, Lib.hid rfl⟩
              have z1 : d1.length ≤ 4 := by rw [← hd1.out]; exact (digL_4 (by omega) (by omega)).2
              have ej : ((j - 1 + 2 : Nat) : Int) = (j : Int) + 1 := by omega
              have e1 : Hid ((d1 ++ 120 :: d0, j + 1) ∈ itemsW l) := by
                have hh := mem_al (l := l) (j := j - 1) (fun i hi => by
                  rcases Nat.lt_or_ge i (j - 1) with h | h
                  · exact hup.out i h
                  · rw [show i = j - 1 by omega]; exact c2.out) (by omega)
                unfold alIt at hh
                rw [ej, ha0.out, hd0.out, hd1.out, show j - 1 + 2 = j + 1 by omega] at hh
                exact Lib.hid hh
              have e2 : Hid (preA l j = preA l (j - 1) ++ [(d1 ++ 120 :: d0, j + 1)]) := by
                have hh := preA_next l (j - 1)
                unfold alIt at hh
                rw [ej, ha0.out, hd0.out, hd1.out, show j - 1 + 1 = j by omega, show j - 1 + 2 = j + 1 by omega] at hh
                exact Lib.hid hh
              have HV := Lib.hid (fun (W : World) (h : ItmAt w0 W (some ⟨b, o, none⟩) l c b1) => (by have := itoa_any ((j : Int) + 1) (by omega) (by omega) W (h.wd.on h.bl); rw [hd1.out] at this; exact this : Calls Tryz.prog 33 #[.int .i64 ((j : Int) + 1)] W (Ret (.string (bN d1)) W)))
              have s1 : (bN d1).size + (⟨#[120]⟩ : ByteArray).size ≤ 9223372036854775807 := by show d1.length + 1 ≤ _; omega
              have s2 : (bN (d1 ++ [120])).size + (bN d0).size ≤ 9223372036854775807 := by show (d1 ++ [120]).length + d0.length ≤ _; simp; omega
              have c4 := bN2 d1 120
              have c5 : bN (d1 ++ [120]) ++ bN d0 = bN (d1 ++ 120 :: d0) := by rw [bN_join]; simp
              have HY1 := Lib.hid (HYk.out pre (d1 ++ 120 :: d0) (j + 1) ((j : Int) + 1) e1.out (by omega))
              have t1 : (v == a0) = true := by rw [hvv]; simp
              have t2 : decide (v = a0) = true := decide_eq_true hvv
              have HV3 := Lib.hid hvv
              clear hvv hgv hd1 ej
              gi_wp2
              refine wpIn_wide.2 (wp_region_quiet_lit (by kernel_rfl) (by kernel_rfl) ?_)
              repeat (go_big_quiet_step (fail))
              refine wpQuiet_nil ?_
              rintro _ ⟨k, rfl⟩
              have hBk : Below w2.heap.size w2 (w2.drewN k) := (Below.refl _ _).drewN k
              have hI2 := hI1.on hBk
              obtain ⟨w2', hw2⟩ : ∃ w2', w2.drewN k = w2' := ⟨_, rfl⟩
              rw [hw2] at hBk hI2 ⊢
              have hJ2 := HJ.out _ _ _ hJ1 hBk
              gi_wp2_with (first
                | (refine ⟨trivial, fun h => (by cases h), ?_⟩
                   gi_at_call 33
                   refine (callsIn_wide.2 (HV.out _ hI2)).mono ?_
                   rintro e w3 ⟨rfl, hB3⟩
                   have hI3 := hI2.on hB3
                   obtain ⟨fn, tmps, assign, body, hy, hR⟩ := HY1.out w3 (HJ.out _ _ _ hJ2 hB3)
                   try dsimp only at hy)
                | fail)
              refine ⟨fun h => (by cases h), ?_⟩
              refine hR.mono ?_
              rintro e w8 (⟨rfl, hJ8, hk8⟩ | ⟨rfl, hJx8⟩)
              · gi_wp2
                go_roundw
                case rel => exact ⟨j + 1, _, by omega, by omega, by go_num, hI3.kp hk8, by rw [List.map_append, hp1, show j + 1 - 1 = j by omega, e2.out]; rfl, Lib.hid (fun i hi => by
                  rcases Nat.lt_or_ge i (j - 1) with h | h
                  · exact hup.out i h
                  · rw [show i = j - 1 by omega]; exact c2.out), hJ8⟩
                case measure => simp [intOf]; omega
              · gi_wp2
                refine bodyPost_ret (results_none rfl _ _ _) rfl ?_
                exact ⟨⟨_, rfl⟩, .inr ⟨_, trivial, hJx8⟩⟩
            · have c2 : Hid (alC l (j - 1) = false) := by
                rw [Hid]; unfold alC
                rw [show j - 1 + 1 = j by omega, hgv, ha0.out]; exact decide_eq_false hvv
              have hpE : Hid (preA l (j - 1) = itemsW l) := Lib.hid (preA_end (fun i hi => hup.out i hi) (by omega) (.inr c2.out))
              have t1 : (v == a0) = false := beq_eq_false_iff_ne.2 hvv
              have t2 : decide (v = a0) = false := decide_eq_false hvv
              have HV3 := Lib.hid hvv
              clear hvv hgv
              gi_wp2
              refine wpIn_wide.2 (wp_region_quiet_lit (by kernel_rfl) (by kernel_rfl) ?_)
              repeat (go_big_quiet_step (fail))
              refine wpQuiet_nil ?_
              rintro _ ⟨k, rfl⟩
              have hBk : Below w2.heap.size w2 (w2.drewN k) := (Below.refl _ _).drewN k
              have hI2 := hI1.on hBk
              obtain ⟨w2', hw2⟩ : ∃ w2', w2.drewN k = w2' := ⟨_, rfl⟩
              rw [hw2] at hBk hI2 ⊢
              have hJ2 := HJ.out _ _ _ hJ1 hBk
              gi_wp2
              go_end0
              exact ⟨⟨_, rfl⟩, .inl ⟨pre, by rw [hp1, hpE.out], hJ2⟩⟩
          · have c1 : decide ((j : Int) + 1 ≤ (l.length : Int)) = false := decide_eq_false (by omega)
            have hpE : Hid (preA l (j - 1) = itemsW l) := Lib.hid (preA_end (fun i hi => hup.out i hi) (by omega) (.inl (by omega)))
            gi_wp2
            refine wpIn_wide.2 (wp_region_quiet_lit (by kernel_rfl) (by kernel_rfl) ?_)
            repeat (go_big_quiet_step (fail))
            refine wpQuiet_nil ?_
            rintro _ ⟨k, rfl⟩
            have hBk : Below w2.heap.size w2 (w2.drewN k) := (Below.refl _ _).drewN k
            have hI2 := hI1.on hBk
            obtain ⟨w2', hw2⟩ : ∃ w2', w2.drewN k = w2' := ⟨_, rfl⟩
            rw [hw2] at hBk hI2 ⊢
            have hJ2 := HJ.out _ _ _ hJ1 hBk
            gi_wp2
            go_end0
            exact ⟨⟨_, rfl⟩, .inl ⟨pre, by rw [hp1, hpE.out], hJ2⟩⟩
    · have c1 : decide ((j : Int) + 1 ≤ (l.length : Int)) = false := decide_eq_false (by omega)
      have hpA : pre.map (·.1) = preA l (1 - 1) := by rw [hp1]; exact preU_end (fun i hi => hup.out i hi) (by omega) (.inl (by omega))
      gi_wp2
      refine wpIn_wide.2 (wp_region_quiet_lit (by kernel_rfl) (by kernel_rfl) ?_)
      repeat (go_big_quiet_step (fail))
      refine wpQuiet_nil ?_
      rintro _ ⟨k, rfl⟩
      have hBk : Below w2.heap.size w2 (w2.drewN k) := (Below.refl _ _).drewN k
      have hI2 := hI1.on hBk
      obtain ⟨w2', hw2⟩ : ∃ w2', w2.drewN k = w2' := ⟨_, rfl⟩
      rw [hw2] at hBk hI2 ⊢
      have hJ2 := HJ.out _ _ _ hJ1 hBk
      gi_wp2
      gi_loopw [5] (fun i wr => ∃ (j : Nat) (pre : List (ItA l)), 1 ≤ j ∧ j ≤ l.length ∧ i = .int .i64 ((j : Int) + 1) ∧ ItmAt w0 wr (some ⟨b, o, none⟩) l c b1 ∧ pre.map (·.1) = preA l (j - 1) ∧ Hid (∀ i, i < j - 1 → alC l i = true) ∧ J pre wr) (fun i wr => l.length + 1 - (intOf i).toNat)
      case atStart => exact ⟨1, pre, by omega, by omega, rfl, hI2, hpA, Lib.hid (fun i hi => by omega), hJ2⟩
      case round =>
        clear hI1 hI2 hJ1 hJ2 hp1 hup hpA q1 q2 c1 hlt hj1 hjl
        clear hBk hw2
        clear w2' w2
        clear pre
        obtain ⟨j, pre, hj1, hjl, rfl, hI1, hp1, hup, hJ1⟩ := hrel
        obtain ⟨w2, rfl⟩ : ∃ wo : World, wo = wr := ⟨_, rfl⟩
        have q1 := hI1.x1.cell 0 _ rfl
        have q2 := cell.out w2 hI1 0 (by omega)
        rw [hl0, Nat.add_zero] at q2
        by_cases hlt : j < l.length
        · obtain ⟨v, hv⟩ : ∃ v, Hid (l[j] = v) := ⟨_, Lib.hid rfl⟩
          have q3 := cell.out w2 hI1 j hlt
          rw [hv.out] at q3
          have hgv : l.getD j 0 = v := by rw [← hv.out]; simp [List.getD, List.getElem?_eq_getElem hlt]
          have c1 : decide ((j : Int) + 1 ≤ (l.length : Int)) = true := decide_eq_true (by omega)
          by_cases hvv : v = a0
          · have c2 : Hid (alC l (j - 1) = true) := by
              rw [Hid]; unfold alC
              rw [show j - 1 + 1 = j by omega, hgv, ha0.out, hvv]; exact decide_eq_true rfl
            obtain ⟨d1, hd1⟩ : ∃ d1, Hid (digL ((j : Int) + 1) = d1) := ⟨_, Lib.hid rfl⟩
            have z1 : d1.length ≤ 4 := by rw [← hd1.out]; exact (digL_4 (by omega) (by omega)).2
            have ej : ((j - 1 + 2 : Nat) : Int) = (j : Int) + 1 := by omega
            have e1 : Hid ((d1 ++ 120 :: d0, j + 1) ∈ itemsW l) := by
              have hh := mem_al (l := l) (j := j - 1) (fun i hi => by
                rcases Nat.lt_or_ge i (j - 1) with h | h
                · exact hup.out i h
                · rw [show i = j - 1 by omega]; exact c2.out) (by omega)
              unfold alIt at hh
              rw [ej, ha0.out, hd0.out, hd1.out, show j - 1 + 2 = j + 1 by omega] at hh
              exact Lib.hid hh
            have e2 : Hid (preA l j = preA l (j - 1) ++ [(d1 ++ 120 :: d0, j + 1)]) := by
              have hh := preA_next l (j - 1)
              unfold alIt at hh
              rw [ej, ha0.out, hd0.out, hd1.out, show j - 1 + 1 = j by omega, show j - 1 + 2 = j + 1 by omega] at hh
              exact Lib.hid hh
            have HV := Lib.hid (fun (W : World) (h : ItmAt w0 W (some ⟨b, o, none⟩) l c b1) => (by have := itoa_any ((j : Int) + 1) (by omega) (by omega) W (h.wd.on h.bl); rw [hd1.out] at this; exact this : Calls Tryz.prog 33 #[.int .i64 ((j : Int) + 1)] W (Ret (.string (bN d1)) W)))
            have s1 : (bN d1).size + (⟨#[120]⟩ : ByteArray).size ≤ 9223372036854775807 := by show d1.length + 1 ≤ _; omega
            have s2 : (bN (d1 ++ [120])).size + (bN d0).size ≤ 9223372036854775807 := by show (d1 ++ [120]).length + d0.length ≤ _; simp; omega
            have c4 := bN2 d1 120
            have c5 : bN (d1 ++ [120]) ++ bN d0 = bN (d1 ++ 120 :: d0) := by rw [bN_join]; simp
            have HY1 := Lib.hid (HYk.out pre (d1 ++ 120 :: d0) (j + 1) ((j : Int) + 1) e1.out (by omega))
            have t1 : (v == a0) = true := by rw [hvv]; simp
            have t2 : decide (v = a0) = true := decide_eq_true hvv
            have HV3 := Lib.hid hvv
            clear hvv hgv hd1 ej
            gi_wp2
            refine wpIn_wide.2 (wp_region_quiet_lit (by kernel_rfl) (by kernel_rfl) ?_)
            repeat (go_big_quiet_step (fail))
            refine wpQuiet_nil ?_
            rintro _ ⟨k, rfl⟩
            have hBk : Below w2.heap.size w2 (w2.drewN k) := (Below.refl _ _).drewN k
            have hI2 := hI1.on hBk
            obtain ⟨w2', hw2⟩ : ∃ w2', w2.drewN k = w2' := ⟨_, rfl⟩
            rw [hw2] at hBk hI2 ⊢
            have hJ2 := HJ.out _ _ _ hJ1 hBk
            gi_wp2_with (first
              | (refine ⟨trivial, fun h => (by cases h), ?_⟩
                 gi_at_call 33
                 refine (callsIn_wide.2 (HV.out _ hI2)).mono ?_
                 rintro e w3 ⟨rfl, hB3⟩
                 have hI3 := hI2.on hB3
                 obtain ⟨fn, tmps, assign, body, hy, hR⟩ := HY1.out w3 (HJ.out _ _ _ hJ2 hB3)
                 try dsimp only at hy)
              | fail)
            refine ⟨fun h => (by cases h), ?_⟩
            refine hR.mono ?_
            rintro e w8 (⟨rfl, hJ8, hk8⟩ | ⟨rfl, hJx8⟩)
            · gi_wp2
              go_roundw
              case rel => exact ⟨j + 1, _, by omega, by omega, by go_num, hI3.kp hk8, by rw [List.map_append, hp1, show j + 1 - 1 = j by omega, e2.out]; rfl, Lib.hid (fun i hi => by
                rcases Nat.lt_or_ge i (j - 1) with h | h
                · exact hup.out i h
                · rw [show i = j - 1 by omega]; exact c2.out), hJ8⟩
              case measure => simp [intOf]; omega
            · gi_wp2
              refine bodyPost_ret (results_none rfl _ _ _) rfl ?_
              exact ⟨⟨_, rfl⟩, .inr ⟨_, trivial, hJx8⟩⟩
          · have c2 : Hid (alC l (j - 1) = false) := by
              rw [Hid]; unfold alC
              rw [show j - 1 + 1 = j by omega, hgv, ha0.out]; exact decide_eq_false hvv
            have hpE : Hid (preA l (j - 1) = itemsW l) := Lib.hid (preA_end (fun i hi => hup.out i hi) (by omega) (.inr c2.out))
            have t1 : (v == a0) = false := beq_eq_false_iff_ne.2 hvv
            have t2 : decide (v = a0) = false := decide_eq_false hvv
            have HV3 := Lib.hid hvv
            clear hvv hgv
            gi_wp2
            refine wpIn_wide.2 (wp_region_quiet_lit (by kernel_rfl) (by kernel_rfl) ?_)
            repeat (go_big_quiet_step (fail))
            refine wpQuiet_nil ?_
            rintro _ ⟨k, rfl⟩
            have hBk : Below w2.heap.size w2 (w2.drewN k) := (Below.refl _ _).drewN k
            have hI2 := hI1.on hBk
            obtain ⟨w2', hw2⟩ : ∃ w2', w2.drewN k = w2' := ⟨_, rfl⟩
            rw [hw2] at hBk hI2 ⊢
            have hJ2 := HJ.out _ _ _ hJ1 hBk
            gi_wp2
            go_end0
            exact ⟨⟨_, rfl⟩, .inl ⟨pre, by rw [hp1, hpE.out], hJ2⟩⟩
        · have c1 : decide ((j : Int) + 1 ≤ (l.length : Int)) = false := decide_eq_false (by omega)
          have hpE : Hid (preA l (j - 1) = itemsW l) := Lib.hid (preA_end (fun i hi => hup.out i hi) (by omega) (.inl (by omega)))
          gi_wp2
          refine wpIn_wide.2 (wp_region_quiet_lit (by kernel_rfl) (by kernel_rfl) ?_)
          repeat (go_big_quiet_step (fail))
          refine wpQuiet_nil ?_
          rintro _ ⟨k, rfl⟩
          have hBk : Below w2.heap.size w2 (w2.drewN k) := (Below.refl _ _).drewN k
          have hI2 := hI1.on hBk
          obtain ⟨w2', hw2⟩ : ∃ w2', w2.drewN k = w2' := ⟨_, rfl⟩
          rw [hw2] at hBk hI2 ⊢
          have hJ2 := HJ.out _ _ _ hJ1 hBk
          gi_wp2
          go_end0
          exact ⟨⟨_, rfl⟩, .inl ⟨pre, by rw [hp1, hpE.out], hJ2⟩⟩
end Go.Proofs.YtohcmfobnkaaiaaGreatDoor
