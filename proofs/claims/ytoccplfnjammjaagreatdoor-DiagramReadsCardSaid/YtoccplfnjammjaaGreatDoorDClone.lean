/- diagram.Draw: rows of bytes: cloned, written over, read as strings. -/
import Derived.Test.YtoccplfnjammjaaGreatDoorDLine
import Derived.Lib.SliceRun
import Derived.Test.YtoccplfnjammjaaGreatDoorDiaA
set_option linter.unusedSimpArgs false
set_option linter.unusedVariables false
namespace Go.Proofs.YtoccplfnjammjaaGreatDoor
open Go Go.RowKit Tor

def uenc (x : UInt8) : List Value := [.int .u8 (x.toNat : Int)]
theorem uenc_len (x : UInt8) : (uenc x).length = 1 := rfl
theorem uflat : ∀ L : List UInt8, L.flatMap uenc = L.map fun x => Value.int .u8 (x.toNat : Int)
  | [] => rfl
  | x :: r => by rw [List.flatMap_cons, uflat r]; rfl
theorem uown_cells {w : World} {base : Nat} {e : TypeId} {g n c : Nat} {r : List UInt8} (h : Own 1 uenc w base e (.slice (some ⟨g, 0, none⟩) n c) r) :
    n = r.length ∧ base ≤ g ∧ g < w.heap.size ∧ ∃ cur : Array Value, w.heap[g]? = some (.cells cur e (0, 0)) ∧ n ≤ c ∧ c ≤ maxLen ∧ cur.size = c ∧ cur.toList.take n = r.map fun x => Value.int .u8 (x.toNat : Int) := by
  obtain ⟨h1, h2⟩ := h
  rcases h2 with ⟨h', _⟩ | ⟨g', cap, cur, h', hb, hh, hnc, hcm, hcs, ht⟩
  · simp at h'
  · simp only [Value.slice.injEq, Option.some.injEq, Addr.mk.injEq, and_true, true_and] at h'
    obtain ⟨rfl, rfl, rfl⟩ := h'
    refine ⟨rfl, hb, (Array.getElem?_eq_some_iff.1 hh).1, cur, hh, hnc, hcm, by omega, ?_⟩
    rw [Nat.mul_one] at ht
    rw [ht, uflat]
theorem uown_of {w : World} {base : Nat} {e : TypeId} {g n c : Nat} {r : List UInt8} {cur : Array Value} (hn : n = r.length) (hb : base ≤ g) (hh : w.heap[g]? = some (.cells cur e (0, 0))) (hnc : n ≤ c) (hcm : c ≤ maxLen) (hcs : cur.size = c) (ht : cur.toList.take n = r.map fun x => Value.int .u8 (x.toNat : Int)) : Own 1 uenc w base e (.slice (some ⟨g, 0, none⟩) n c) r := by
  subst hn
  refine ⟨by rw [uflat]; simp, .inr ⟨g, c, cur, rfl, hb, hh, hnc, hcm, by omega, by rw [Nat.mul_one, ht, uflat]⟩⟩
theorem uown_cell {w : World} {base : Nat} {e : TypeId} {g n c : Nat} {r : List UInt8} (h : Own 1 uenc w base e (.slice (some ⟨g, 0, none⟩) n c) r) {j : Nat} {x : UInt8} (hj : r[j]? = some x) : w.cell? ⟨g, j, none⟩ = some (.int .u8 (x.toNat : Int)) := by
  obtain ⟨hn, _, _, cur, hh, _, _, _, ht⟩ := uown_cells h
  have kB : Blk w g e cur := hh
  have hjl : j < r.length := (List.getElem?_eq_some_iff.1 hj).1
  refine kB.cell j _ ?_
  have : (cur.toList.take n)[j]? = cur.toList[j]? := by rw [List.getElem?_take, if_pos (by omega)]
  rw [← Array.getElem?_toList, ← this, ht, List.getElem?_map, hj]; rfl
set_option maxRecDepth 100000 in
theorem cloneB_any (g o c : Nat) (L : List UInt8) (w : World) (hc : ∀ j x, L[j]? = some x → w.cell? ⟨g, o + j, none⟩ = some (.int .u8 (x.toNat : Int))) (h0 : L ≠ []) (hl : L.length ≤ 1000) :
    Calls Tryz.prog 51 #[.slice (some ⟨g, o, none⟩) L.length c] w fun e w' => ∃ gt cap, e = .returned (.slice (some ⟨gt, 0, none⟩) L.length cap) ∧ Own 1 uenc w' w.heap.size 5 (.slice (some ⟨gt, 0, none⟩) L.length cap) L ∧ Below w.heap.size w w' := by
  obtain ⟨i0, hi0, hz0, hz1, hz2⟩ := info_parts infoByte
  have A : Hid (∀ j u, (L.flatMap uenc)[j]? = some u → w.cell? ⟨g, o + j, none⟩ = some u) := Lib.hid fun j u hj => by
    rw [uflat, List.getElem?_map] at hj
    cases hq : L[j]? with
    | none => rw [hq] at hj; cases hj
    | some x =>
      rw [hq] at hj
      simp only [Option.map_some, Option.some.injEq] at hj
      subst hj
      exact hc j x hq
  have Q0 := Lib.hid h0
  have q22 : ∀ (w : World) (a : Option Addr) (n c n' c' : Nat), (binOp .eql 85 (.slice a n c) (.slice none n' c')).run Tryz.prog w = .ok (.bool a.isNone) w := fun w a n c n' c' => Lib.run_eql_slice_nil w _ _ a n c n' c' Tryz.underlying85
  clear hc h0
  go_enter Tryz.func51, Tryz.ntmps51
  go_wp2_with (at_builtin; refine wpList_append_own _ rfl _ _ _ rfl w.heap.size _ i0 _ 1 1 Tryz.underlying85 hi0 hz0 hz1 hz2 rfl (by decide) _ _ _ rfl (World.ownsRow_made w #[] 0 (Nat.le_refl _) (Nat.zero_le _) (by simp)) ⟨g, o, none⟩ L.length c (L.flatMap uenc) rfl ?qc1 ?qc2 ?qc3 ?qc4 ?qc5 ?qc6 ?_)
  case qc1 => rw [uflat]; simp
  case qc2 =>
    intro j u hj
    have e : (⟨g, o, none⟩ : Addr).add j = ⟨g, o + j, none⟩ := by unfold Addr.add; split <;> simp_all
    rw [e]
    exact cell_old (A.out j u hj)
  case qc3 =>
    intro u hu; obtain ⟨y, _, hy⟩ := List.mem_flatMap.1 hu; simp [uenc] at hy; rcases hy with rfl; rfl
  case qc4 => unfold maxLen; omega
  case qc5 => omega
  case qc6 => simp
  intro v' w1 hown hgrow hnil
  go_wp2
  go_ret
  have h7 : Own 1 uenc w1 w.heap.size 5 v' L := by simpa [Own] using hown
  have hB : Below w.heap.size w w1 := ((Below.refl _ w).alloc (Nat.le_refl _) _).grown hgrow (by simp) (by intro k hk; simp [Value.ownBlock] at hk; omega)
  rcases h7.2 with ⟨rfl, hn⟩ | ⟨gt, cap, cur, rfl, r⟩
  · exact absurd (List.eq_nil_of_length_eq_zero hn) Q0.out
  · exact ⟨gt, cap, rfl, h7, hB⟩
/-- three bytes are written over -/
def over3 (L : List UInt8) (a : Nat) (x : UInt8) : List UInt8 := L.take a ++ [40, x, 41] ++ L.drop (a + 3)
theorem over3_len (L : List UInt8) (a : Nat) (x : UInt8) (h : a + 3 ≤ L.length) : (over3 L a x).length = L.length := by unfold over3; simp; omega
theorem copy3 (W : World) (base gt n c a gs cs : Nat) (L : List UInt8) (x : UInt8) (ty : TypeId) (h : Own 1 uenc W base 5 (.slice (some ⟨gt, 0, none⟩) n c) L) (ha : a + 3 ≤ n) (hne : gs ≠ gt)
    (s0 : W.cell? ⟨gs, 0, none⟩ = some (.int .u8 40)) (s1 : W.cell? ⟨gs, 1, none⟩ = some (.int .u8 (x.toNat : Int))) (s2 : W.cell? ⟨gs, 2, none⟩ = some (.int .u8 41)) :
    ∃ W', (Builtin.copy_ #[85, 85] ty #[.slice (some ⟨gt, a, none⟩) 3 3, .slice (some ⟨gs, 0, none⟩) 3 3]).run Tryz.prog W = .ok (goInt 3) W' ∧ Own 1 uenc W' base 5 (.slice (some ⟨gt, 0, none⟩) n c) (over3 L a x) ∧ W.grownBy W' (some gt) := by
  obtain ⟨hn, hb, hgl, cur, hh, hnc, hcm, hcs, ht⟩ := uown_cells h
  obtain ⟨i0, hi0, hz0, hz1, hz2⟩ := info_parts infoByte
  have hrun := run_copy_row (P := Tryz.prog) W 85 85 ty 5 gt a 3 3 ⟨gs, 0, none⟩ 3 3 cur 5 [.int .u8 40, .int .u8 (x.toNat : Int), .int .u8 41] Tryz.underlying85 (by rw [hi0]; simp [hz1]) hh rfl
    (by
      intro j v hj
      match j, hj with
      | 0, hj => simp at hj; subst hj; simpa [Addr.add] using s0
      | 1, hj => simp at hj; subst hj; simpa [Addr.add] using s1
      | 2, hj => simp at hj; subst hj; simpa [Addr.add] using s2)
    (by simp only [List.length_cons, List.length_nil]; omega)
    (by intro v hv; simp at hv; rcases hv with rfl | rfl | rfl <;> rfl)
  refine ⟨_, hrun, ?_, ⟨rfl, rfl, rfl, by simp, fun k _ hk => setRow_other W gt k _ (fun e => hk (by rw [e]))⟩⟩
  refine uown_of (by rw [over3_len L a x (by omega)]; exact hn) hb (setRow_heap W gt cur _ _ _ hh) hnc hcm ?_ ?_
  · simp only [List.size_toArray, List.length_append, List.length_take, List.length_drop, List.length_cons, List.length_nil, Array.length_toList]
    omega
  · unfold over3
    have hcl : cur.toList.length = c := by rw [Array.length_toList]; exact hcs
    apply List.ext_getElem?
    intro j
    have hT : ∀ q, q < n → cur.toList[q]? = (L[q]?).map fun x => Value.int .u8 (x.toNat : Int) := fun q hq => by
      have : (cur.toList.take n)[q]? = cur.toList[q]? := by rw [List.getElem?_take, if_pos hq]
      rw [← this, ht, List.getElem?_map]
    have hLn : L.length = n := hn.symm
    rw [List.getElem?_take]
    by_cases hj : j < n
    · rw [if_pos hj, List.getElem?_map]
      have el : ∀ (X : List Value) (j : Nat), (X.toArray).toList[j]? = X[j]? := fun X j => by simp
      rw [el]
      rcases (show j < a ∨ (a ≤ j ∧ j < a + 3) ∨ a + 3 ≤ j by omega) with h1 | ⟨h1, h2⟩ | h1
      · rw [List.getElem?_append_left (by simp; omega), List.getElem?_append_left (by simp; omega), List.getElem?_take, if_pos h1, hT j hj,
          List.getElem?_append_left (by simp; omega), List.getElem?_append_left (by simp; omega), List.getElem?_take, if_pos h1]
      · rw [List.getElem?_append_left (by simp; omega), List.getElem?_append_right (by simp; omega), List.getElem?_append_left (by simp; omega), List.getElem?_append_right (by simp; omega)]
        have e1 : (cur.toList.take a).length = a := by rw [List.length_take]; omega
        have e2 : (L.take a).length = a := by rw [List.length_take]; omega
        rw [e1, e2]
        rcases (show j - a = 0 ∨ j - a = 1 ∨ j - a = 2 by omega) with h | h | h <;> rw [h] <;> rfl
      · rw [List.getElem?_append_right (by simp; omega), List.getElem?_append_right (by simp; omega), List.getElem?_drop, List.getElem?_drop]
        have e1 : (cur.toList.take a ++ [Value.int .u8 40, Value.int .u8 (x.toNat : Int), Value.int .u8 41]).length = a + 3 := by simp; omega
        have e2 : (L.take a ++ [40, x, 41]).length = a + 3 := by simp; omega
        rw [e1, e2]
        simp only [List.length_cons, List.length_nil]
        have e3 : a + (0 + 1 + 1 + 1) + (j - (a + 3)) = j := by omega
        have e4 : a + 3 + (j - (a + 3)) = j := by omega
        try rw [e3]
        try rw [e4]
        exact hT j hj
    · rw [if_neg hj, List.getElem?_eq_none (by simp; omega)]
/-- a row's drawing with one more work -/
theorem drawR_step {p : Nat} (l : List Tri) (L : List (List UInt8)) {r : List Nat} {i t : Nat} (ha : Apart l (r ++ [i])) (hni : i ∉ r) (hb : (xAt l i).b = (t : Int)) (ht : t + 2 ≤ p) :
    drawR p l L (r ++ [i]) = over3 (drawR p l L r) (2 * t) (letN (idxB L (lookB (xAt l i)))) := by
  unfold drawR over3
  apply List.ext_getElem?
  intro j
  rw [List.getElem?_map]
  have hlen : ((List.range (2 * p - 1)).map (drawQ l L r)).length = 2 * p - 1 := by simp
  by_cases hj : j < 2 * p - 1
  · rw [List.getElem?_range hj]
    simp only [Option.map_some]
    rw [drawQ_snoc l L ha hni j]
    rcases (show j < 2 * t ∨ (2 * t ≤ j ∧ j < 2 * t + 3) ∨ 2 * t + 3 ≤ j by omega) with h1 | ⟨h1, h2⟩ | h1
    · rw [if_neg (by rw [inQ_iff]; omega), List.getElem?_append_left (by simp; omega), List.getElem?_append_left (by simp; omega), List.getElem?_take, if_pos h1, List.getElem?_map, List.getElem?_range hj]; rfl
    · rw [if_pos (by rw [inQ_iff]; omega), List.getElem?_append_left (by simp; omega), List.getElem?_append_right (by simp; omega)]
      have e1 : (((List.range (2 * p - 1)).map (drawQ l L r)).take (2 * t)).length = 2 * t := by rw [List.length_take]; omega
      rw [e1]
      unfold workQ
      rcases (show j - 2 * t = 0 ∨ j - 2 * t = 1 ∨ j - 2 * t = 2 by omega) with h | h | h
      · rw [h, if_pos (by omega)]; rfl
      · rw [h, if_neg (by omega), if_pos (by omega)]; rfl
      · rw [h, if_neg (by omega), if_neg (by omega)]; rfl
    · rw [if_neg (by rw [inQ_iff]; omega), List.getElem?_append_right (by simp; omega), List.getElem?_drop, List.getElem?_map]
      have e2 : (((List.range (2 * p - 1)).map (drawQ l L r)).take (2 * t) ++ [40, letN (idxB L (lookB (xAt l i))), 41]).length = 2 * t + 3 := by simp; omega
      rw [e2, show 2 * t + 3 + (j - (2 * t + 3)) = j by omega, List.getElem?_range hj]; rfl
  · rw [List.getElem?_eq_none (by simp; omega), List.getElem?_eq_none (by simp; omega)]; rfl
/-- what is laid over -/
theorem repeat_draw (l : List Tri) (L : List (List UInt8)) : ∀ (p : Nat), 1 ≤ p → (Lib.repeatL [124, 32] p).take (2 * p - 1) = drawR p l L [] := by
  have key : ∀ p j, j < 2 * p → (Lib.repeatL [124, 32] p)[j]? = some (if j % 2 = 0 then 124 else 32) := by
    intro p
    induction p with
    | zero => intro j hj; omega
    | succ n ih =>
      intro j hj
      rw [Lib.repeatL]
      match j with
      | 0 => rfl
      | 1 => rfl
      | j + 2 =>
        have := ih j (by omega)
        rw [List.getElem?_append_right (by simp)]
        simp only [List.length_cons, List.length_nil, Nat.add_sub_cancel]
        rw [this]
        congr 1
        rw [Nat.add_mod_right]
  intro p hp
  unfold drawR
  apply List.ext_getElem?
  intro j
  rw [List.getElem?_take, List.getElem?_map]
  by_cases hj : j < 2 * p - 1
  · rw [if_pos hj, key p j (by omega), List.getElem?_range hj]; rfl
  · rw [if_neg hj, List.getElem?_eq_none (by simp; omega)]; rfl
end Go.Proofs.YtoccplfnjammjaaGreatDoor
