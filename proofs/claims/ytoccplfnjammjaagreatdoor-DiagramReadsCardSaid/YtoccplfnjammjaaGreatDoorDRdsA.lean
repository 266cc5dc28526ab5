/- Merged: DLawDraws DGrowM RThree RBeg RRowM RRow14 RRead14 DLawReads. -/
import Derived.Test.YtoccplfnjammjaaGreatDoorDTrA
import Derived.Test.YtoccplfnjammjaaGreatDoorRDDraw
import Derived.Test.YtoccplfnjammjaaGreatDoorDLawBB
import Derived.Test.YtoccplfnjammjaaGreatDoorRDrawnA
set_option linter.unusedSimpArgs false
set_option linter.unusedVariables false
namespace Go.Proofs.YtoccplfnjammjaaGreatDoor
open Go Go.RowKit Tor

/-- what Draw answers of any sheet -/
def drawI (p : Int) (l : List Tri) : List UInt8 × Int := if sheetE p l = 0 then drawE p.toNat l else ([], sheetE p l)
section
variable (p : Int) (A : Option Addr) (l : List Tri) (c : Nat) (w : World) (H : Nat) (hr : RdT w H A l) (hH : H ≤ w.heap.size)
    (hw : ∀ (k : Nat) (hk : k < l.length), l[k].s.size ≤ 9223372036854775807) (hl : l.length ≤ 1000000)
include hr hH hw hl
theorem u_draw (hDt : DtAt w) : Calls Tryz.prog 14 #[.agg #[.int .i64 p, .slice A l.length c]] w (Ret (.tuple #[.string (bN (drawI p l).1), .int .i64 (drawI p l).2]) w) := by
  unfold drawI
  by_cases h : sheetE p l = 0
  · obtain ⟨P, rfl⟩ := pnat h
    rw [if_pos h, Int.toNat_natCast]
    exact draw_any P A l c w H hr hH hw (okD_of h) hDt
  · rw [if_neg h]; exact draw_bad p A l c w H hr hH hw hl h
theorem ur_draw : Calls Tryz.prog 21 #[.agg #[.int .i64 p, .slice A l.length c]] w (Ret (.tuple #[.string (bN (drawI p l).1), .int .i64 (drawI p l).2]) w) := by
  unfold drawI
  by_cases h : sheetE p l = 0
  · obtain ⟨P, rfl⟩ := pnat h
    rw [if_pos h, Int.toNat_natCast]
    exact rdraw_any P A l c w H hr hH hw (okD_of h)
  · rw [if_neg h]; exact rdraw_bad p A l c w H hr hH hw hl h
end
theorem u_sheet_ok (P : Nat) (A : Option Addr) (l : List Tri) (c : Nat) (w : World) (H : Nat) (hr : RdT w H A l) (hH : H ≤ w.heap.size)
    (hw : ∀ (k : Nat) (hk : k < l.length), l[k].s.size ≤ 9223372036854775807) (ok : OkD P l) : Calls Tryz.prog 22 #[.agg #[.int .i64 P, .slice A l.length c]] w (ShRet w P (sheetD P l) 0) := by
  have h := u_sheet P A l c w H hr hH hw (by have := ok.len; omega)
  unfold shP shL at h
  rw [if_pos ok.chk, if_pos ok.chk, ok.chk, Int.toNat_natCast] at h
  exact h
theorem drawI_ok {p : Int} {l : List Tri} (h : (drawI p l).2 = 0) : ∃ P : Nat, p = (P : Int) ∧ OkD P l ∧ (looksL (sheetD P l)).length ≤ 52 ∧ (drawI p l).1 = textD P l := by
  unfold drawI at h ⊢
  by_cases h0 : sheetE p l = 0
  · obtain ⟨P, rfl⟩ := pnat h0
    rw [if_pos h0, Int.toNat_natCast] at h
    rw [if_pos h0, Int.toNat_natCast]
    unfold drawE at h ⊢
    split at h
    · cases h
    · rename_i h5
      rw [if_neg h5]
      exact ⟨P, rfl, okD_of h0, by omega, rfl⟩
  · rw [if_neg h0] at h; exact absurd h h0
theorem drawI_bad {p : Int} {l : List Tri} (h : (drawI p l).2 ≠ 0) : (drawI p l).1 = [] := by
  unfold drawI at h ⊢
  by_cases h0 : sheetE p l = 0
  · rw [if_pos h0] at h ⊢
    unfold drawE at h ⊢
    split
    · rfl
    · rename_i h5; rw [if_neg h5] at h; exact absurd rfl h
  · rw [if_neg h0]
set_option maxRecDepth 100000 in
set_option maxHeartbeats 8000000 in
theorem lawDraws_any (p : Int) (A : Option Addr) (l : List Tri) (c : Nat) (w : World) (H : Nat) (hr : RdT w H A l) (hH : H ≤ w.heap.size)
    (hw : ∀ (k : Nat) (hk : k < l.length), l[k].s.size ≤ 9223372036854775807) (hl : l.length ≤ 9223372036854775807) (hDt : DtAt w) :
    Calls Tryz.prog 6 #[.agg #[.int .i64 p, .slice A l.length c]] w (Ret (.bool true) w) := by
  have hBA : Below w.heap.size w (w.alloc (.cells #[.int .i64 p, .slice A l.length c] 25)) := (Below.refl _ _).alloc (Nat.le_refl _) _
  have kSA : Blk (w.alloc (.cells #[.int .i64 p, .slice A l.length c] 25)) w.heap.size 25 #[.int .i64 p, .slice A l.length c] := Blk.new w _ _
  have HF := Lib.hid (far_any p A l c 100 _ H (hr.below' hBA hH) (by have := hBA.size; omega) hl hw)
  obtain ⟨wA, hwA⟩ : ∃ wA, Hid (w.alloc (.cells #[.int .i64 p, .slice A l.length c] 25) = wA) := ⟨_, Lib.hid rfl⟩
  rw [hwA.out] at hBA kSA HF
  have HW := Lib.hid hw
  clear hw
  have hlA := kSA.lt
  have A0 := kSA.cell 0 _ rfl
  have A1 := kSA.cell 1 _ rfl
  have hzA := hBA.size
  obtain ⟨FB, hFB⟩ : ∃ b, Hid (farD l 100 = b) := ⟨_, Lib.hid rfl⟩
  rw [hFB.out] at HF
  go_enter Tryz.func6, Tryz.ntmps6
  cases FB with
  | true =>
    go_wp2_with (first
      | (go_at_call 15; rw [hwA.out]; refine HF.out.mono ?_; rintro e w1 ⟨rfl, hB1⟩
         have hBw1 := hBA.trans (hB1.mono hzA))
      | (go_at_call 10; refine (shown_any w1 (hDt.below hBw1)).mono ?_; rintro e w2 ⟨rfl, hB2⟩
         have hBw2 := hBw1.trans (hB2.mono hBw1.size))
      | fail)
    go_ret
    exact ⟨rfl, hBw2⟩
  | false =>
    have hl6 : l.length ≤ 1000000 := by
      have hn := hFB.out
      unfold farD at hn
      simp only [Bool.or_eq_false_iff, decide_eq_false_iff_not] at hn
      omega
    clear hl
    have hD2 := @drawI_ok p l
    have hD3 := @drawI_bad p l
    obtain ⟨⟨T, E⟩, hTE⟩ : ∃ d, drawI p l = d := ⟨_, rfl⟩
    rw [hTE] at hD2 hD3
    simp only [] at hD2 hD3
    have HTE := Lib.hid hTE
    clear hTE
    have tT := bN_toList T
    by_cases hE : E = 0
    · obtain ⟨P, rfl, ok, h52, hT⟩ := hD2 hE
      subst hE
      have HRA := readA_draw ok h52
      rw [← hT] at HRA
      have hTl := textD_len ok h52
      rw [← hT] at hTl
      have hdl : (sheetD P l).length ≤ 1000000 := by rw [sheetD_len ok.inP]; exact hl6
      have HOK := Lib.hid ok
      have HRR := Lib.hid HRA
      obtain ⟨d, hd⟩ : ∃ d, Hid (sheetD P l = d) := ⟨_, Lib.hid rfl⟩
      rw [hd.out] at hdl HRR
      clear hD2 hD3 hT h52 ok HRA
      go_wp2_with (first
        | (go_at_call 15; rw [hwA.out]; refine HF.out.mono ?_; rintro e w1 ⟨rfl, hB1⟩
           have hBw1 := hBA.trans (hB1.mono hzA)
           have kS1 := kSA.below' hB1
           have hz1 := hB1.size
           have a01 := kS1.cell 0 _ rfl
           have a11 := kS1.cell 1 _ rfl
           have al1 := kS1.lt)
        | (go_at_call 14; refine (u_draw _ A l c w1 H (hr.below' hBw1 hH) (by have := (hBw1).size; omega) HW.out hl6 (hDt.below hBw1)).mono ?_; rw [HTE.out]; rintro e w2 ⟨rfl, hB2⟩
           have hBw2 := hBw1.trans (hB2.mono hBw1.size)
           have hz2 := hB2.size
           have kS2 := kS1.below' hB2
           have a02 := kS2.cell 0 _ rfl
           have a12 := kS2.cell 1 _ rfl
           have al2 := kS2.lt)
        | (go_at_call 21; refine (ur_draw _ A l c w2 H (hr.below' hBw2 hH) (by have := (hBw2).size; omega) HW.out hl6).mono ?_; rw [HTE.out]; rintro e w3 ⟨rfl, hB3⟩
           have hBw3 := hBw2.trans (hB3.mono hBw2.size)
           have hz3 := hB3.size
           have kS3 := kS2.below' hB3
           have a03 := kS3.cell 0 _ rfl
           have a13 := kS3.cell 1 _ rfl
           have al3 := kS3.lt)
        | (go_at_call 22; refine (u_sheet_ok P A l c w3 H (hr.below' hBw3 hH) (by have := hBw3.size; omega) HW.out HOK.out).mono ?_; rw [hd.out]; rintro e w4 ⟨A4, c4, rfl, d4_4, lo4, hB4⟩
           have hBw4 := hBw3.trans (hB4.mono hBw3.size)
           have hz4 := hB4.size
           have kS4 := kS3.below' hB4
           have a04 := kS4.cell 0 _ rfl
           have a14 := kS4.cell 1 _ rfl
           have al4 := kS4.lt
           have hBx : Below w4.heap.size w4 (w4.alloc (.cells #[.int .i64 P, .slice A4 d.length c4] 25)) := (Below.refl _ _).alloc (Nat.le_refl _) _
           have k11_x : Blk (w4.alloc (.cells #[.int .i64 P, .slice A4 d.length c4] 25)) w4.heap.size 25 #[.int .i64 P, .slice A4 d.length c4] := Blk.new w4 _ _
           have hBwx := hBw4.trans (hBx.mono hBw4.size)
           have hzx := hBx.size
           have kSx := kS4.below' hBx
           have a0x := kSx.cell 0 _ rfl
           have a1x := kSx.cell 1 _ rfl
           have alx := kSx.lt
           have d4_x := d4_4.below' hBx (by omega))
        | (go_at_call 11; refine (read_any T (by omega) _ (hDt.below hBwx)).mono ?_; rw [HRR.out]; rintro e w5 ⟨hB5, v5, rfl, o5⟩
           obtain ⟨A5, c5, rfl, hc5, d5_5⟩ := Own.rd tri_len o5
           have hBw5 := hBwx.trans (hB5.mono hBwx.size)
           have hz5 := hB5.size
           have kS5 := kSx.below' hB5
           have a05 := kS5.cell 0 _ rfl
           have a15 := kS5.cell 1 _ rfl
           have al5 := kS5.lt
           have d4_5 := d4_x.below' hB5 (by omega)
           have k11_5 := k11_x.below' hB5
           have k11c0_5 := k11_5.cell 0 _ rfl
           have k11c1_5 := k11_5.cell 1 _ rfl
           have k11l_5 := k11_5.lt
           have hBy : Below w5.heap.size w5 (w5.alloc (.cells #[.int .i64 P, .slice A5 d.length c5] 25)) := (Below.refl _ _).alloc (Nat.le_refl _) _
           have k13_y : Blk (w5.alloc (.cells #[.int .i64 P, .slice A5 d.length c5] 25)) w5.heap.size 25 #[.int .i64 P, .slice A5 d.length c5] := Blk.new w5 _ _
           have hBwy := hBw5.trans (hBy.mono hBw5.size)
           have hzy := hBy.size
           have kSy := kS5.below' hBy
           have a0y := kSy.cell 0 _ rfl
           have a1y := kSy.cell 1 _ rfl
           have aly := kSy.lt
           have d4_y := d4_5.below' hBy (by omega)
           have d5_y := d5_5.below' hBy (by omega)
           have k11_y := k11_5.below' hBy
           have k11c0_y := k11_y.cell 0 _ rfl
           have k11c1_y := k11_y.cell 1 _ rfl
           have k11l_y := k11_y.lt
           have k13c0_y := k13_y.cell 0 _ rfl
           have k13c1_y := k13_y.cell 1 _ rfl
           have k13l_y := k13_y.lt)
        | (go_at_call 13; refine (same14_eq A5 A4 d P c5 c4 _ _ hdl (d5_y.more (by omega)) (d4_y.more (by omega)) (Nat.le_refl _)).mono ?_; rintro e w6 ⟨rfl, hB6⟩
           have hBw6 := hBwy.trans (hB6.mono hBwy.size))
        | (go_at_call 10; refine (shown_any w6 (hDt.below hBw6)).mono ?_; rintro e w7 ⟨rfl, hB7⟩
           have hBw7 := hBw6.trans (hB7.mono hBw6.size))
        | fail)
      go_ret
      exact ⟨rfl, hBw7⟩
    · have hE1 : (E == 0) = false := by simpa using hE
      clear hD2 hD3
      go_wp2_with (first
        | (go_at_call 15; rw [hwA.out]; refine HF.out.mono ?_; rintro e w1 ⟨rfl, hB1⟩
           have hBw1 := hBA.trans (hB1.mono hzA)
           have kS1 := kSA.below' hB1
           have hz1 := hB1.size
           have a01 := kS1.cell 0 _ rfl
           have a11 := kS1.cell 1 _ rfl
           have al1 := kS1.lt)
        | (go_at_call 14; refine (u_draw _ A l c w1 H (hr.below' hBw1 hH) (by have := (hBw1).size; omega) HW.out hl6 (hDt.below hBw1)).mono ?_; rw [HTE.out]; rintro e w2 ⟨rfl, hB2⟩
           have hBw2 := hBw1.trans (hB2.mono hBw1.size)
           have hz2 := hB2.size
           have kS2 := kS1.below' hB2
           have a02 := kS2.cell 0 _ rfl
           have a12 := kS2.cell 1 _ rfl
           have al2 := kS2.lt)
        | (go_at_call 21; refine (ur_draw _ A l c w2 H (hr.below' hBw2 hH) (by have := (hBw2).size; omega) HW.out hl6).mono ?_; rw [HTE.out]; rintro e w3 ⟨rfl, hB3⟩
           have hBw3 := hBw2.trans (hB3.mono hBw2.size)
           have hz3 := hB3.size
           have kS3 := kS2.below' hB3
           have a03 := kS3.cell 0 _ rfl
           have a13 := kS3.cell 1 _ rfl
           have al3 := kS3.lt)
        | (go_at_call 10; refine (shown_any w3 (hDt.below hBw3)).mono ?_; rintro e w4 ⟨rfl, hB4⟩
           have hBw4 := hBw3.trans (hB4.mono hBw3.size))
        | fail)
      go_ret
      exact ⟨rfl, hBw4⟩
end Go.Proofs.YtoccplfnjammjaaGreatDoor

namespace Go.Proofs.YtoccplfnjammjaaGreatDoor
open Go Go.RowKit Tor

section
variable {l : List Tri} {x : Tri}
theorem xAt_snoc_lt {i : Nat} (h : i < l.length) : xAt (l ++ [x]) i = xAt l i := by
  rw [xAt_of (by simp; omega), xAt_of h]
  exact List.getElem_append_left h
theorem xAt_snoc_eq : xAt (l ++ [x]) l.length = x := by rw [xAt_of (by simp)]; simp
theorem levL_snoc_le : ∀ k, k ≤ l.length → levL (l ++ [x]) k = levL l k
  | 0, _ => rfl
  | k + 1, h => by
    rw [levL, levL, levL_snoc_le k (by omega)]
    congr 2
    unfold levAt
    congr 1
    apply List.map_congr_left
    intro j hj
    have hj' : j < k := List.mem_range.1 hj
    rw [xAt_snoc_lt (by omega), xAt_snoc_lt (by omega)]
/-- the row of a work that is appended -/
def growR (l : List Tri) (x : Tri) : Nat := supL ((List.range l.length).map fun k => if touchB (xAt l k).b x.b = true then lv l k + 1 else 0)
theorem levL_snoc : levL (l ++ [x]) (l ++ [x]).length = levL l l.length ++ [growR l x] := by
  rw [List.length_append, List.length_singleton, levL, levL_snoc_le _ (Nat.le_refl _)]
  congr 2
  unfold levAt growR
  congr 1
  apply List.map_congr_left
  intro j hj
  have hj' : j < l.length := List.mem_range.1 hj
  rw [xAt_snoc_lt hj', xAt_snoc_eq]
  rfl
theorem rowsS_snoc_len (p : Nat) : (rowsS p (l ++ [x])).length = max (rowsS p l).length (growR l x + 1) := by
  unfold rowsS
  rw [List.length_map, List.length_range, List.length_map, List.length_range, levL_snoc, rowsN_snoc]
theorem rowsS_get (p : Nat) (l : List Tri) (n : Nat) : (rowsS p l).getD n [] = if n < (rowsS p l).length then rowS p l (levL l l.length) n else [] := by
  rw [List.getD_eq_getElem?_getD]
  split
  · rename_i h
    rw [List.getElem?_eq_getElem h]
    have e : (rowsS p l)[n]? = some (rowS p l (levL l l.length) n) := by
      unfold rowsS at h ⊢
      rw [List.getElem?_map, List.getElem?_range (by simpa using h)]
      rfl
    rw [List.getElem?_eq_getElem h] at e
    rw [Option.some.inj e]
    rfl
  · rename_i h
    rw [List.getElem?_eq_none (by omega)]; rfl
theorem rowS_out (p : Nat) (l : List Tri) {n : Nat} (h : (rowsS p l).length ≤ n) : rowS p l (levL l l.length) n = [] := by
  refine List.eq_nil_iff_forall_not_mem.2 fun i hi => ?_
  have hm := rowS_mem.1 hi
  rw [levL_len] at hm
  have := lev_lt_rows l hm.1
  unfold rowsS at h
  rw [List.length_map, List.length_range] at h
  omega
theorem rowsS_getS (p : Nat) (l : List Tri) (n : Nat) : (rowsS p l).getD n [] = rowS p l (levL l l.length) n := by
  rw [rowsS_get]
  split
  · rfl
  · rename_i h; rw [rowS_out p l (by omega)]
theorem row_left (p : Nat) (n : Nat) : ((rowsS p (l ++ [x])).getD n []).filter (fun i => decide (i ≠ l.length)) = (rowsS p l).getD n [] := by
  rw [rowsS_getS, rowsS_getS, levL_snoc]
  unfold rowS
  rw [List.filter_flatMap]
  congr 1
  funext t
  have hlen : (levL l l.length ++ [growR l x]).length = l.length + 1 := by rw [List.length_append, levL_len]; rfl
  rw [hlen, levL_len, List.range_succ, List.filter_append, List.filter_append, List.filter_filter]
  have e2 : (List.filter (fun i => decide (i ≠ l.length)) (List.filter (fun i => (levL l l.length ++ [growR l x]).getD i 0 == n && decide ((xAt (l ++ [x]) i).b = (t : Int))) [l.length])) = [] := by
    refine List.filter_eq_nil_iff.2 fun i hi => ?_
    have := (List.mem_filter.1 hi).1
    simp at this
    simp [this]
  rw [e2, List.append_nil]
  apply List.filter_congr
  intro i hi
  have hi' : i < l.length := List.mem_range.1 hi
  rw [xAt_snoc_lt hi', List.getD_eq_getElem?_getD, List.getD_eq_getElem?_getD, List.getElem?_append_left (by rw [levL_len]; exact hi')]
  have : decide (i ≠ l.length) = true := by simp; omega
  rw [this, Bool.true_and]
theorem row_new {p : Nat} {t : Nat} (ht : t < p) (hx : x.b = (t : Int)) (n : Nat) : l.length ∈ (rowsS p (l ++ [x])).getD n [] ↔ n = growR l x := by
  rw [rowsS_getS, levL_snoc, rowS_mem, xAt_snoc_eq]
  have e : (levL l l.length ++ [growR l x]).getD l.length 0 = growR l x := by
    rw [List.getD_eq_getElem?_getD, List.getElem?_append_right (by rw [levL_len]; exact Nat.le_refl _)]
    rw [levL_len]; simp
  rw [e, List.length_append, levL_len]
  constructor
  · rintro ⟨_, h, _⟩; exact h.symm
  · rintro rfl; exact ⟨by simp, rfl, t, ht, hx⟩
end
/-- the row behind some works of the rows, as it is met -/
def metR (l : List Tri) (x : Tri) (I : List Nat) : Nat := supL (I.map fun k => if touchB (xAt l k).b x.b = true then lv l k + 1 else 0)
theorem metR_snoc (l : List Tri) (x : Tri) (I : List Nat) (k : Nat) : metR l x (I ++ [k]) = max (metR l x I) (if touchB (xAt l k).b x.b = true then lv l k + 1 else 0) := by
  unfold metR; rw [List.map_append]; exact supL_snoc _ _
theorem supL_perm {a b : List Nat} (h : a.Perm b) : supL a = supL b := Nat.le_antisymm (supL_le.2 fun x hx => le_supL (h.mem_iff.1 hx)) (supL_le.2 fun x hx => le_supL (h.mem_iff.2 hx))
theorem metR_all {p : Nat} {l : List Tri} (h : InP p l) (x : Tri) : metR l x (rowsS p l).flatten = growR l x := supL_perm ((rows_flat_perm h).map _)
/-- the row so far: rows before n, and the first i works of row n -/
def metN (p : Nat) (l : List Tri) (x : Tri) (n i : Nat) : Nat := metR l x (((rowsS p l).take n).flatten ++ ((rowsS p l).getD n []).take i)
theorem metN_le (p : Nat) (l : List Tri) (x : Tri) (n i : Nat) : metN p l x n i ≤ n + 1 := by
  unfold metN metR
  refine supL_le.2 fun y hy => ?_
  obtain ⟨k, hk, rfl⟩ := List.mem_map.1 hy
  split
  · have : lv l k ≤ n := by
      rcases List.mem_append.1 hk with hk | hk
      · obtain ⟨r, hr, hkr⟩ := List.mem_flatten.1 hk
        obtain ⟨j, hj, rfl⟩ := List.getElem_of_mem hr
        rw [List.getElem_take] at hkr
        have hjn : j < n ∧ j < (rowsS p l).length := by rw [List.length_take] at hj; omega
        have e : (rowsS p l)[j] = (rowsS p l).getD j [] := by rw [List.getD_eq_getElem?_getD, List.getElem?_eq_getElem hjn.2]; rfl
        rw [e, rowsS_getS] at hkr
        have := (rowS_mem.1 hkr).2.1
        unfold lv
        omega
      · have h2 := List.mem_of_mem_take hk
        rw [rowsS_getS] at h2
        have := (rowS_mem.1 h2).2.1
        unfold lv
        omega
    omega
  · omega
theorem metN_zero (p : Nat) (l : List Tri) (x : Tri) : metN p l x 0 0 = 0 := rfl
theorem metN_step (p : Nat) (l : List Tri) (x : Tri) (n i : Nat) (hi : i < ((rowsS p l).getD n []).length) : metN p l x n (i + 1) = if touchB (xAt l ((rowsS p l).getD n [])[i]).b x.b = true then n + 1 else metN p l x n i := by
  have hlv : lv l ((rowsS p l).getD n [])[i] = n := by
    have h2 : ((rowsS p l).getD n [])[i] ∈ rowS p l (levL l l.length) n := by rw [← rowsS_getS]; exact List.getElem_mem hi
    exact (rowS_mem.1 h2).2.1
  have h1 := metN_le p l x n i
  have e : metN p l x n (i + 1) = max (metN p l x n i) (if touchB (xAt l ((rowsS p l).getD n [])[i]).b x.b = true then lv l ((rowsS p l).getD n [])[i] + 1 else 0) := by
    unfold metN
    rw [← metR_snoc, take_snoc _ i hi, List.append_assoc]
  rw [e, hlv]
  split <;> omega
theorem metN_next (p : Nat) (l : List Tri) (x : Tri) (n i : Nat) (hn : n < (rowsS p l).length) (hi : ((rowsS p l).getD n []).length ≤ i) : metN p l x (n + 1) 0 = metN p l x n i := by
  unfold metN
  have e : (rowsS p l)[n] = (rowsS p l).getD n [] := by rw [List.getD_eq_getElem?_getD, List.getElem?_eq_getElem hn]; rfl
  rw [List.take_zero, List.append_nil, take_snoc _ n hn, List.flatten_append, List.take_of_length_le hi, e]
  simp
theorem metN_end {p : Nat} {l : List Tri} (h : InP p l) (x : Tri) : metN p l x (rowsS p l).length 0 = growR l x := by
  unfold metN
  rw [List.take_zero, List.append_nil, List.take_length, metR_all h]
theorem okD_words {p : Nat} {l : List Tri} (h : OkD p l) : ∀ (k : Nat) (hk : k < l.length), l[k].s.size ≤ 16 := fun k hk => by
  have h1 := (chk_parts h.chk).1
  simp only [not_or] at h1
  have := any_not (by simpa using h1.2.2) k hk
  simpa [longW] using this
theorem chk_of {p : Int} {l : List Tri} (h : ¬ (24 < p ∨ 400 < l.length ∨ l.any longW = true) ∧ ¬ p < 2 ∧ ¬ l.any (badW p) = true ∧ ¬ l.any wrongW = true) : sheetE p l = 0 := by
  unfold sheetE
  rw [if_neg h.1, if_neg h.2.1, if_neg h.2.2.1, if_neg h.2.2.2]
/-- a work is appended to a sheet -/
theorem okD_snoc {p : Nat} {l : List Tri} {x : Tri} {q : Nat} (h : OkD p l) (hl : l.length < 400) (hb : x.b = (q : Int)) (hq : q + 1 < p) (hw : (x.a = 1 ∨ x.a = 2) ∧ (x.a = 2 → x.s.size = 0) ∧ wordE x.s = 0) : OkD p (l ++ [x]) := by
  obtain ⟨g1, g2, g3, g4⟩ := chk_parts h.chk
  have hs : x.s.size ≤ 16 := by
    have := hw.2.2
    unfold wordE at this
    split at this
    · cases this
    · omega
  have n1 : longW x = false := by unfold longW; simp; omega
  have n2 : badW p x = false := by
    unfold badW
    simp only [Bool.or_eq_false_iff, decide_eq_false_iff_not]
    refine ⟨⟨⟨?_, ?_⟩, ?_⟩, ?_⟩
    · rcases hw.1 with e | e <;> omega
    · omega
    · omega
    · rintro ⟨e1, e2⟩; exact e2 (hw.2.1 e1)
  have n3 : wrongW x = false := by unfold wrongW; simp [hw.2.2]
  refine ⟨chk_of ⟨?_, g2, ?_, ?_⟩, h.p2, h.p24, fun k hk => ?_, by simp; omega⟩
  · have := h.p24
    rintro (e | e | e)
    · omega
    · simp at e; omega
    · rw [List.any_append, List.any_cons, n1] at e
      exact g1 (.inr (.inr (by simpa using e)))
  · rw [List.any_append, List.any_cons, n2]; simpa using g3
  · rw [List.any_append, List.any_cons, n3]; simpa using g4
  · by_cases hkl : k < l.length
    · rw [List.getElem_append_left hkl]; exact h.bd k hkl
    · have e : k = l.length := by simp at hk; omega
      subst e
      simp only [List.getElem_concat_length]
      omega
end Go.Proofs.YtoccplfnjammjaaGreatDoor

namespace Go.Proofs.YtoccplfnjammjaaGreatDoor
open Go Go.RowKit Tor

def threeR (L F : List UInt8) : List UInt8 × List UInt8 × Bool := match threeP L F with | none => ([], [], false) | some (a, b) => (a, b, true)
theorem threeR_three {L F a b c : List UInt8} (h : spl 32 L = [a, b, c]) : threeR L F = if a = F then (b, c, true) else ([], [], false) := by
  unfold threeR
  rw [threeP_pick, h]
  unfold pick3
  by_cases e : a = F <;> simp [e]
theorem threeR_not {L F : List UInt8} (h : (spl 32 L).length ≠ 3) : threeR L F = ([], [], false) := by
  unfold threeR
  rw [threeP_pick, pick3_none F h]
set_option maxRecDepth 100000 in
set_option maxHeartbeats 4000000 in
theorem rthree_any (L F : List UInt8) (w : World) (hs : L.length ≤ 2000000) :
    Calls Tryz.prog 38 #[.string (bN L), .string (bN F)] w (Ret (.tuple #[.string (bN (threeR L F).1), .string (bN (threeR L F).2.1), .bool (threeR L F).2.2]) w) := by
  obtain ⟨i0, hi0, hz0', hz1', hz2'⟩ := info_parts infoTxt
  have hz : (bN L).size = L.length := rfl
  obtain ⟨R, hR⟩ : ∃ R, Hid (threeR L F = R) := ⟨_, Lib.hid rfl⟩
  rw [hR.out]
  go_enter Tryz.func38, Tryz.ntmps38
  go_wp2_with fail
  go_loopw [7, 8, 9] (fun ov fv iv wr => ∃ (j f : Nat) (O : List (List UInt8)), iv = .int .i64 j ∧ fv = .int .i64 f ∧ O.length ≤ j ∧ Tor.Own 1 tenc wr w.heap.size 9 ov O ∧ Below w.heap.size w wr ∧ Hid ((j ≤ L.length ∧ f ≤ j ∧ spl 32 (L.take j) = O ++ [(L.take j).drop f]) ∨ (j = L.length + 1 ∧ spl 32 L = O))) (fun _ _ iv _ => L.length + 1 - (intOf iv).toNat)
  case atStart => exact ⟨0, 0, [], rfl, rfl, Nat.le_refl _, Own.nil _ _ _, Below.refl _ _, Lib.hid (.inl ⟨Nat.zero_le _, Nat.le_refl _, by simp [spl]⟩)⟩
  case round =>
    obtain ⟨j, f, O, rfl, rfl, hOl, ho, hB, hO⟩ := hrel
    obtain ⟨W, rfl⟩ : ∃ wo : World, wo = wr := ⟨_, rfl⟩
    obtain ⟨Av, cv, rfl, _, hrO⟩ := Own.rd tenc_len ho
    have hs1 := hB.size
    rcases hO.out with ⟨hj, hf, hS⟩ | ⟨rfl, hS⟩
    · have a0 : (j : Int) ≤ (L.length : Int) := by omega
      have e1 : IntKind.i64.wrap ((j : Int) + 1) = (j : Int) + 1 := IntWalk.i64_in _ (by omega)
      obtain ⟨y, hy⟩ : ∃ y, Hid ((L.take j).drop f = y) := ⟨_, Lib.hid rfl⟩
      have HSl := rangeSl L f j hf hj (by omega) y hy.out
      by_cases hlt : j < L.length
      · have a2 : ((j : Int) == (L.length : Int)) = false := by rw [beq_eq_false_iff_ne]; omega
        have a3 : (j : Int) < (L.length : Int) := by omega
        obtain ⟨x, hx⟩ : ∃ c, Hid (L[j]'hlt = c) := ⟨_, Lib.hid rfl⟩
        have hsz : j < (bN L).size := hlt
        have hcb : (bN L)[j]'hsz = x := hx.out
        have hta : L.take (j + 1) = L.take j ++ [x] := by
          rw [List.take_add_one, List.getElem?_eq_getElem hlt, hx.out]; rfl
        obtain ⟨s1, s2⟩ := spl_snoc 32 (L.take j) O _ hS
        by_cases hx10 : x = 32
        · have e3 : (x.toNat : Int) = 32 := by rw [hx10]; rfl
          have hN : Hid (j + 1 ≤ L.length ∧ j + 1 ≤ j + 1 ∧ spl 32 (L.take (j + 1)) = (O ++ [y]) ++ [(L.take (j + 1)).drop (j + 1)]) := by
            refine Lib.hid ⟨by omega, Nat.le_refl _, ?_⟩
            rw [hta, hx10, s1, hy.out, List.drop_eq_nil_of_le (by simp; omega)]
          clear hO hta hy s1 s2 hx10 hS
          go_wp2_with (first
            | (at_builtin
               refine wpList_append_txt rfl (.tmp 26) (.tmp 31) _ rfl w.heap.size _ i0 _ Tryz.underlying55 hi0 hz0' hz1' hz2' rfl (.slice Av O.length cv) O rfl (ho.alloc _) W.heap.size y rfl (World.cell?_alloc_new _ _ _ 0) (by omega) (by simp; omega) ?_
               intro v8 w8 hown8 hg8)
            | fail)
          have hB8 := (ho.alloc (.cells #[.string (bN y)] 9)).grown (hB.alloc hs1 _) hg8 (by simp; omega)
          go_roundw
          case rel => exact ⟨j + 1, j + 1, O ++ [y], by go_num, by go_num, by simp; omega, hown8, hB8, Lib.hid (.inl hN.out)⟩
          case measure => simp [intOf]; omega
        · have e3 : ¬ (x.toNat : Int) = 32 := fun he => hx10 (UInt8.toNat.inj (by show x.toNat = 32; omega))
          have hN : Hid (j + 1 ≤ L.length ∧ f ≤ j + 1 ∧ spl 32 (L.take (j + 1)) = O ++ [(L.take (j + 1)).drop f]) := by
            refine Lib.hid ⟨by omega, by omega, ?_⟩
            rw [hta, s2 x hx10, List.drop_append_of_le_length (by simp; omega)]
          clear hO hta s1 s2 hx10 hS HSl
          go_wp2_with fail
          go_roundw
          case rel => exact ⟨j + 1, f, O, by go_num, rfl, by omega, ho, hB, Lib.hid (.inl hN.out)⟩
          case measure => simp [intOf]; omega
      · have a2 : ((j : Int) == (L.length : Int)) = true := by simp; omega
        have hjl : j = L.length := by omega
        have hN : Hid (j + 1 = L.length + 1 ∧ spl 32 L = O ++ [y]) := by
          refine Lib.hid ⟨by omega, ?_⟩
          rw [hjl, List.take_length] at hS
          rw [hS, ← hy.out, hjl, List.take_length]
        clear hO hS hjl hlt
        go_wp2_with (first
          | (at_builtin
             refine wpList_append_txt rfl (.tmp 26) (.tmp 31) _ rfl w.heap.size _ i0 _ Tryz.underlying55 hi0 hz0' hz1' hz2' rfl (.slice Av O.length cv) O rfl (ho.alloc _) W.heap.size y rfl (World.cell?_alloc_new _ _ _ 0) (by omega) (by simp; omega) ?_
             intro v8 w8 hown8 hg8)
          | fail)
        have hB8 := (ho.alloc (.cells #[.string (bN y)] 9)).grown (hB.alloc hs1 _) hg8 (by simp; omega)
        go_roundw
        case rel => exact ⟨j + 1, j + 1, O ++ [y], by go_num, by go_num, by simp; omega, hown8, hB8, Lib.hid (.inr hN.out)⟩
        case measure => simp [intOf]; omega
    · have a0 : ¬ ((L.length : Int) + 1) ≤ (L.length : Int) := by omega
      have hOe := Lib.hid hS
      clear hO hS
      by_cases h3 : O.length = 3
      · obtain ⟨a, b, c, rfl⟩ : ∃ a b c, O = [a, b, c] := by
          match O, h3 with
          | [a, b, c], _ => exact ⟨a, b, c, rfl⟩
        obtain ⟨b0, o0, rfl, hb0, g0⟩ := hrO.txt (k := 0) (by simp)
        obtain ⟨b1, o1, eA, hb1, g1⟩ := hrO.txt (k := 1) (by simp)
        simp only [Option.some.injEq, Addr.mk.injEq] at eA
        obtain ⟨rfl, rfl, _⟩ := eA
        obtain ⟨b2, o2, eA, hb2, g2⟩ := hrO.txt (k := 2) (by simp)
        simp only [Option.some.injEq, Addr.mk.injEq] at eA
        obtain ⟨rfl, rfl, _⟩ := eA
        simp only [List.getElem_cons_zero, List.getElem_cons_succ, Nat.add_zero] at g0 g1 g2
        have l0 := lt_of_cell g0
        have ta := bN_toList a
        have tF := bN_toList F
        have hR3 := hR.out
        rw [threeR_three hOe.out] at hR3
        clear h3 hOe
        by_cases he : a = F
        · rw [if_pos he] at hR3
          have HR := Lib.hid hR3
          subst he
          clear hR3
          go_wp2_with fail
          go_region
          go_wp2_with fail
          go_ret3
          rw [← HR.out]
          exact ⟨rfl, hB.drew⟩
        · rw [if_neg he] at hR3
          have HR := Lib.hid hR3
          have e1 : (a == F) = false := beq_eq_false_iff_ne.2 he
          clear hR3 he
          go_wp2_with fail
          go_ret3
          rw [← HR.out]
          exact ⟨rfl, hB⟩
      · have hR3 := hR.out
        rw [threeR_not (by rw [hOe.out]; exact h3)] at hR3
        have HR := Lib.hid hR3
        have e1 : ((O.length : Int) == 3) = false := by simp; omega
        have e2 : ((O.length : Int) != 3) = true := by simp; omega
        clear hR3 h3 hOe
        go_wp2_with fail
        go_ret3
        rw [← HR.out]
        exact ⟨rfl, hB⟩
end Go.Proofs.YtoccplfnjammjaaGreatDoor

namespace Go.Proofs.YtoccplfnjammjaaGreatDoor
open Go Go.RowKit Tor

theorem preSl (L : List UInt8) (n : Nat) (hn : n ≤ L.length) (hs : L.length ≤ 4000000) (W : World) : (Instr.slice 9 (.string (bN L)) none (some (.int .i64 (n : Int))) none).run Tryz.prog W = .ok (.string (bN (L.take n))) W := by
  have hz : (bN L).size = L.length := rfl
  have := run_slice_string (P := Tryz.prog) W 9 (bN L) .i64 .i64 0 (n : Int) Tryz.underlying9 (by omega) (by omega) (by rw [hz]; omega)
  have he : (bN L).extract 0 n = bN (L.take n) := by
    refine ByteArray.ext (Array.ext' ?_)
    rw [ByteArray.data_extract]
    simp only [bN, Array.toList_extract, List.extract_eq_take_drop]
    rfl
  rw [show (0 : Int).toNat = 0 from rfl, Int.toNat_natCast, he] at this
  exact this
theorem pre_take (F L : List UInt8) : F.isPrefixOf L = decide (F.length ≤ L.length ∧ L.take F.length = F) := by
  rw [Bool.eq_iff_iff, List.isPrefixOf_iff_prefix, decide_eq_true_eq, List.prefix_iff_eq_take]
  constructor
  · intro h
    have := congrArg List.length h
    rw [List.length_take] at this
    exact ⟨by omega, h.symm⟩
  · exact fun h => h.2.symm
theorem rbegins_any (L F : List UInt8) (w : World) (hs : L.length ≤ 4000000) (hF : F.length ≤ 4000000) :
    Calls Tryz.prog 40 #[.string (bN L), .string (bN F)] w (Ret (.bool (F.isPrefixOf L)) w) := by
  have hz : (bN L).size = L.length := rfl
  have hz2 : (bN F).size = F.length := rfl
  rw [pre_take]
  by_cases h : F.length ≤ L.length
  · have HS := preSl L F.length h hs
    have a1 : (F.length : Int) ≤ (L.length : Int) := by omega
    obtain ⟨y, hy⟩ : ∃ y, Hid (L.take F.length = y) := ⟨_, Lib.hid rfl⟩
    rw [hy.out] at HS ⊢
    have ty := bN_toList y
    have tF := bN_toList F
    have e : decide (F.length ≤ L.length ∧ y = F) = (y == F) := by
      by_cases q : y = F <;> simp [q, h]
    rw [e]
    clear e h
    go_enter Tryz.func40, Tryz.ntmps40
    go_wp2_with fail
    go_ret
    exact Ret.bool (by simp) (Below.refl _ _)
  · have a1 : ¬ (F.length : Int) ≤ (L.length : Int) := by omega
    rw [show decide (F.length ≤ L.length ∧ L.take F.length = F) = false by simp [h]]
    clear h
    go_enter Tryz.func40, Tryz.ntmps40
    go_wp2_with fail
    go_ret
    exact ⟨rfl, Below.refl _ _⟩
end Go.Proofs.YtoccplfnjammjaaGreatDoor

namespace Go.Proofs.YtoccplfnjammjaaGreatDoor
open Go Go.RowKit Tor

/-- the letter's number among the first n -/
def fAt (c : UInt8) (n : Nat) : Option Nat := (lettersL.take n).findIdx? (· == c)
theorem fAt_zero (c : UInt8) : fAt c 0 = none := rfl
theorem fAt_lt {c : UInt8} {n m : Nat} (h : fAt c n = some m) : m < n ∧ m < 52 ∧ letN m = c := by
  obtain ⟨h1, h2, _⟩ := List.findIdx?_eq_some_iff_getElem.1 h
  have hl := letters_len
  rw [List.length_take] at h1
  have hg := letters_get m (by omega)
  refine ⟨by omega, by omega, ?_⟩
  rw [List.getElem_take] at h2
  rw [List.getElem?_eq_getElem (by omega)] at hg
  have := Option.some.inj hg
  rw [← this]; simpa using h2
theorem fAt_step (c : UInt8) (n : Nat) (hn : n < 52) : fAt c (n + 1) = if letN n = c then some n else fAt c n := by
  have ht : lettersL.take (n + 1) = lettersL.take n ++ [letN n] := by
    rw [List.take_add_one, letters_get n hn]; rfl
  have hl : (lettersL.take n).length = n := by rw [List.length_take, letters_len]; omega
  have e : fAt c (n + 1) = (fAt c n).or (([letN n].findIdx? (· == c)).map (· + n)) := by
    unfold fAt
    rw [ht, List.findIdx?_append, hl]
  rw [e]
  by_cases hc : letN n = c
  · rw [if_pos hc]
    cases hf : fAt c n with
    | none => simp [hc]
    | some m =>
      obtain ⟨h1, h2, h3⟩ := fAt_lt hf
      have := letN_inj m h2 n hn (by rw [h3, hc])
      omega
  · rw [if_neg hc]
    have hb : (letN n == c) = false := beq_eq_false_iff_ne.2 hc
    cases hf : fAt c n with
    | none => simp [hb]
    | some m => simp
end Go.Proofs.YtoccplfnjammjaaGreatDoor

namespace Go.Proofs.YtoccplfnjammjaaGreatDoor
open Go Go.RowKit Tor

theorem byteSl14 (L : List UInt8) (j : Nat) (hlt : j < L.length) (hs : L.length ≤ 4000000) (c : UInt8) (hc : L[j]'hlt = c) (W : World) :
    (Instr.slice 9 (.string (bN L)) (some (.int .i64 (j : Int))) (some (.int .i64 ((j : Int) + 1))) none).run Tryz.prog W = .ok (.string (bN [c])) W := by
  have hz : (bN L).size = L.length := rfl
  have := run_slice_string (P := Tryz.prog) W 9 (bN L) .i64 .i64 (j : Int) ((j : Int) + 1) Tryz.underlying9 (by omega) (by omega) (by rw [hz]; omega)
  have he : (bN L).extract j (j + 1) = bN [c] := by
    refine ByteArray.ext (Array.ext' ?_)
    rw [ByteArray.data_extract]
    simp only [bN, Array.toList_extract, List.extract_eq_take_drop]
    rw [show j + 1 - j = 1 by omega, List.drop_eq_getElem_cons hlt, hc]
    rfl
  rw [Int.toNat_natCast, show ((j : Int) + 1).toNat = j + 1 by omega, he] at this
  exact this
theorem cell_new2 (w : World) (o : Obj) (cs : Array Value) (t : TypeId) (i : Nat) : ((w.alloc o).alloc (.cells cs t)).cell? ⟨w.heap.size + 1, i, none⟩ = cs[i]? := by
  simp
def numF (o : Option Nat) : Int := match o with | none => -1 | some m => (m : Int)
/-- what row returns -/
def QwRet (w : World) (r : Option (List Tri)) (e : Ending) (w' : World) : Prop :=
  Below w.heap.size w w' ∧ match r with
  | none => e = .returned (.tuple #[.slice none 0 0, .bool false])
  | some d => ∃ v, e = .returned (.tuple #[v, .bool true]) ∧ Own 3 Tri.enc w' w.heap.size 44 v d
set_option maxRecDepth 100000 in
set_option maxHeartbeats 8000000 in
theorem qrow_any (p : Nat) (h2 : 2 ≤ p) (h24 : p ≤ 24) (s : List UInt8) (hsl : s.length ≤ 1000000) (w : World) (AK : Option Addr) (K : List (List UInt8)) (cK H : Nat) (hK : Rd 1 tenc w H AK K) (hH : H ≤ w.heap.size) (hK52 : K.length ≤ 52) (hKl : ∀ x ∈ K, x.length ≤ 1000000) :
    Calls Tryz.prog 43 #[.string (bN s), .int .i64 p, .slice AK K.length cK] w (QwRet w (rowP p K s)) := by
  obtain ⟨i0, hi0, hz0', hz1', hz2'⟩ := info_parts infoWork
  have HKL := Lib.hid hKl
  clear hKl
  have hPE : Hid (rowP p K s = if s.length = 2 * p - 1 then rowO p K s 0 [] else none) := Lib.hid (by by_cases h : s.length = 2 * p - 1; rw [if_pos h, rowP_eq h]; rw [if_neg h]; unfold rowP; rw [if_neg h])
  obtain ⟨RP, hRP⟩ : ∃ RP, Hid (rowP p K s = RP) := ⟨_, Lib.hid rfl⟩
  rw [hRP.out] at hPE ⊢
  have e1 : IntKind.i64.wrap (2 * (p : Int)) = 2 * (p : Int) := IntWalk.i64_in _ (by omega)
  have e2 : IntKind.i64.wrap (2 * (p : Int) - 1) = 2 * (p : Int) - 1 := IntWalk.i64_in _ (by omega)
  have e3 : IntKind.i64.wrap ((p : Int) - 1) = (p : Int) - 1 := IntWalk.i64_in _ (by omega)
  have zs := bN_size s
  go_enter Tryz.func43, Tryz.ntmps43
  by_cases hlen : s.length = 2 * p - 1
  · have hq := hPE.out
    rw [if_pos hlen] at hq
    have HP := Lib.hid hq
    clear hq hPE
    have z1 : ((s.length : Int) == 2 * (p : Int) - 1) = true := by simp; omega
    have z1n : ((s.length : Int) != 2 * (p : Int) - 1) = false := by rw [bne_eq_false_iff_eq]; omega
    have HLEN := Lib.hid hlen
    clear hlen
    go_wp2_with fail
    go_loopw [8, 9] (fun v qv wr => ∃ (q : Nat) (acc : List Tri), q ≤ p + 1 ∧ qv = .int .i64 q ∧ acc.length ≤ q ∧ Hid (RP = rowO p K s q acc) ∧ Own 3 Tri.enc wr w.heap.size 44 v acc ∧ Below w.heap.size w wr) (fun _ qv _ => p + 1 - (intOf qv).toNat)
    case atStart => exact ⟨0, [], by omega, rfl, Nat.le_refl _, HP, Own.nil _ _ _, Below.refl _ _⟩
    case round =>
      obtain ⟨q, acc, hqp, rfl, hacc, hrow, hown, hB⟩ := hrel
      have hz := hB.size
      have hln := HLEN.out
      obtain ⟨Av, cv, rfl, hcv, _⟩ := Own.rd tri_len hown
      by_cases hlt : q < p
      · have i0' : (q : Int) < (p : Int) := by omega
        have hst := hrow.out
        rw [rowO_step hlt] at hst
        have w1 : IntKind.i64.wrap (2 * (q : Int)) = 2 * (q : Int) := IntWalk.i64_in _ (by omega)
        have w2 : IntKind.i64.wrap (2 * (q : Int) - 1) = 2 * (q : Int) - 1 := IntWalk.i64_in _ (by omega)
        have w3 : IntKind.i64.wrap (2 * (q : Int) + 1) = 2 * (q : Int) + 1 := IntWalk.i64_in _ (by omega)
        have w4 : IntKind.i64.wrap (2 * (q : Int) + 2) = 2 * (q : Int) + 2 := IntWalk.i64_in _ (by omega)
        have w5 : IntKind.i64.wrap ((q : Int) + 1) = (q : Int) + 1 := IntWalk.i64_in _ (by omega)
        have w6 : IntKind.i64.wrap ((q : Int) + 1 + 1) = (q : Int) + 1 + 1 := IntWalk.i64_in _ (by omega)
        have x0 := idx_run s (2 * q) (by omega) (2 * (q : Int)) (by omega)
        obtain ⟨c0, hc0⟩ : ∃ c, Hid (s.getD (2 * q) 0 = c) := ⟨_, Lib.hid rfl⟩
        rw [hc0.out] at hst x0
        obtain ⟨cp, hcp⟩ : ∃ c, Hid (s.getD (2 * q - 1) 0 = c) := ⟨_, Lib.hid rfl⟩
        rw [hcp.out] at hst
        have HST := Lib.hid hst
        clear hst
        by_cases hsep : 0 < q ∧ cp ≠ 32
        · have hf := HST.out
          rw [if_pos hsep] at hf
          have HF := Lib.hid hf
          clear hf
          obtain ⟨hq0, hc32⟩ := hsep
          have xp := idx_run s (2 * q - 1) (by omega) (2 * (q : Int) - 1) (by omega)
          rw [hcp.out] at xp
          have z2 : ((cp.toNat : Int) == 32) = false := u8_false (c := 32) hc32
          have z2p : ¬ (cp.toNat : Int) = 32 := beq_eq_false_iff_ne.1 z2
          have z2n : ((cp.toNat : Int) != 32) = true := bne_iff_ne.2 z2p
          have i3 : (0 : Int) < (q : Int) := by omega
          clear hq0 hc32 hlt hln
          go_wp2_with fail
          go_ret2
          rw [HF.out]
          exact ⟨hB, rfl⟩
        · have hf := HST.out
          rw [if_neg hsep] at hf
          have HF := Lib.hid hf
          clear hf
          have hpre : Hid ((q = 0) ∨ (0 < q ∧ cp = 32)) := Lib.hid (by
            by_cases h0 : q = 0
            · left; omega
            · right; exact ⟨by omega, Classical.byContradiction fun h => hsep ⟨by omega, h⟩⟩)
          clear hsep
          by_cases hA0 : q = 0
          · have i3 : ¬ (0 : Int) < (q : Int) := by omega
            have HA0 := Lib.hid hA0
            clear hA0
            by_cases hw : c0 = 124
            · have hf := HF.out
              rw [if_pos hw] at hf
              have HF2 := Lib.hid hf
              have z3 : ((c0.toNat : Int) == 124) = true := u8_true (c := 124) hw
              have z3p : (c0.toNat : Int) = 124 := by rw [hw]; rfl
              have z3n : ((c0.toNat : Int) != 124) = false := by rw [hw]; rfl
              have HW := Lib.hid hw
              clear hf hw hln
              go_wp2_with fail
              go_roundw
              case rel => exact ⟨q + 1, acc, by omega, by go_num, by omega, HF2, hown, hB⟩
              case measure => simp [intOf]; omega
            · have hf := HF.out
              rw [if_neg hw] at hf
              have HF2 := Lib.hid hf
              have z3 : ((c0.toNat : Int) == 124) = false := u8_false (c := 124) hw
              have z3p : ¬ (c0.toNat : Int) = 124 := beq_eq_false_iff_ne.1 z3
              have z3n : ((c0.toNat : Int) != 124) = true := bne_iff_ne.2 z3p
              clear hf hw HF
              by_cases hp : c0 = 40
              · have z4 : ((c0.toNat : Int) == 40) = true := u8_true (c := 40) hp
                have z4p : (c0.toNat : Int) = 40 := by rw [hp]; rfl
                have z4n : ((c0.toNat : Int) != 40) = false := by rw [hp]; rfl
                by_cases hl1 : q + 1 = p
                · have hf := HF2.out
                  rw [if_pos (.inr (.inl hl1))] at hf
                  have HF3 := Lib.hid hf
                  have i6 : ((q : Int) == (p : Int) - 1) = true := by simp; omega
                  have HP0 := Lib.hid hp
                  clear hf hp hl1 hlt hln
                  go_wp2_with fail
                  go_ret2
                  rw [HF3.out]
                  exact ⟨hB, rfl⟩
                · have i6 : ((q : Int) == (p : Int) - 1) = false := by rw [beq_eq_false_iff_ne]; omega
                  have x2 := idx_run s (2 * q + 2) (by omega) (2 * (q : Int) + 2) (by omega)
                  obtain ⟨c2, hc2⟩ : ∃ c, Hid (s.getD (2 * q + 2) 0 = c) := ⟨_, Lib.hid rfl⟩
                  rw [hc2.out] at x2
                  have hf := HF2.out
                  rw [hc2.out] at hf
                  by_cases hr : c2 = 41
                  · have hcond : ¬ (c0 ≠ 40 ∨ q + 1 = p ∨ c2 ≠ 41) := by
                      rintro (h | h | h)
                      · exact h hp
                      · exact hl1 h
                      · exact h hr
                    rw [if_neg hcond] at hf
                    clear hcond
                    have z5 : ((c2.toNat : Int) == 41) = true := u8_true (c := 41) hr
                    have z5p : (c2.toNat : Int) = 41 := by rw [hr]; rfl
                    have z5n : ((c2.toNat : Int) != 41) = false := by rw [hr]; rfl
                    obtain ⟨c1, hc1⟩ : ∃ c, Hid (s.getD (2 * q + 1) 0 = c) := ⟨_, Lib.hid rfl⟩
                    rw [hc1.out] at hf
                    have HF3 := Lib.hid hf
                    have HP0 := Lib.hid hp
                    have HR0 := Lib.hid hr
                    have HQ2 : Hid (2 * q + 2 < s.length ∧ q < 24) := Lib.hid (by omega)
                    clear hp hr hf hl1
                    clear hlt hln
                    have HF3 := HF3
                    have hcc : s[2 * q + 1]'(by have := HQ2.out; omega) = c1 := by have := hc1.out; rw [List.getD_eq_getElem?_getD, List.getElem?_eq_getElem (by have := HQ2.out; omega)] at this; exact this
                    have SL : ∀ W, (Instr.slice 9 (.string (bN s)) (some (.int .i64 (2 * (q : Int) + 1))) (some (.int .i64 (2 * (q : Int) + 2))) none).run Tryz.prog W = .ok (.string (bN [c1])) W := fun W => by
                      have := byteSl14 s (2 * q + 1) (by have := HQ2.out; omega) (by omega) c1 hcc W
                      rw [show ((2 * q + 1 : Nat) : Int) = 2 * (q : Int) + 1 by omega, show 2 * (q : Int) + 1 + 1 = 2 * (q : Int) + 2 by omega] at this; exact this
                    clear hcc
                    obtain ⟨Lc, hLc⟩ : ∃ x, Hid ([c1] = x) := ⟨_, Lib.hid rfl⟩
                    rw [hLc.out] at SL
                    have tLc := bN_toList Lc
                    go_wp2_with fail
                    obtain ⟨wo, hwo⟩ : ∃ wo : World, wo = wr := ⟨_, rfl⟩
                    obtain rfl := hwo
                    go_loopw [10, 11] (fun nv iv wr => ∃ i : Nat, i ≤ K.length ∧ iv = .int .i64 i ∧ nv = .int .i64 (numF (fAt c1 i)) ∧ Below wo.heap.size wo wr) (fun _ iv _ => K.length - (intOf iv).toNat)
                    case atStart => exact ⟨0, Nat.zero_le _, rfl, rfl, Below.refl _ _⟩
                    case round =>
                      obtain ⟨j, hj, rfl, rfl, hBj⟩ := hrel
                      have hzj := hBj.size
                      obtain ⟨NV, hNV⟩ : ∃ x, Hid (numF (fAt c1 j) = x) := ⟨_, Lib.hid rfl⟩
                      by_cases hjl : j < K.length
                      · rw [hNV.out]
                        have HL := Lib.hid (rletter14_any j (by omega))
                        obtain ⟨Li, hLi⟩ : ∃ x, Hid ([letN j] = x) := ⟨_, Lib.hid rfl⟩
                        rw [hLi.out] at HL
                        have tLi := bN_toList Li
                        have j1 : (j : Int) < (K.length : Int) := by omega
                        have e12 : IntKind.i64.wrap ((j : Int) + 1) = (j : Int) + 1 := IntWalk.i64_in _ (by omega)
                        by_cases hc : letN j = c1
                        · have zz : (Lc == Li) = true := by rw [← hLc.out, ← hLi.out]; simp [hc]
                          have HC := Lib.hid hc
                          clear hc
                          go_wp2_with fail
                          go_big_quiet ((go_at_call 41; exact Calls.quiet_of_same (HL.out _)))
                          have hBk := hBj.drewN nq
                          go_wp2_with fail
                          go_roundw
                          case rel => exact ⟨j + 1, by omega, by go_num, congrArg (Value.int .i64) (by rw [fAt_step c1 j (by omega), if_pos HC.out]; rfl), hBk⟩
                          case measure => simp [intOf]; omega
                        · have zz : (Lc == Li) = false := by rw [← hLc.out, ← hLi.out]; simp ; exact fun h => hc h.symm
                          have HC := Lib.hid hc
                          clear hc
                          go_wp2_with fail
                          go_big_quiet ((go_at_call 41; exact Calls.quiet_of_same (HL.out _)))
                          have hBk := hBj.drewN nq
                          go_wp2_with fail
                          go_roundw
                          case rel => exact ⟨j + 1, by omega, by go_num, congrArg (Value.int .i64) (by rw [fAt_step c1 j (by omega), if_neg HC.out]; exact hNV.out.symm), hBk⟩
                          case measure => simp [intOf]; omega
                      · have e0 : j = K.length := by omega
                        subst e0
                        have j1 : ¬ (K.length : Int) < (K.length : Int) := by omega
                        have hf3 := HF3.out
                        cases hfi : fAt c1 K.length with
                        | none =>
                          rw [hfi] at hNV
                          have hfi' : (lettersL.take K.length).findIdx? (· == c1) = none := hfi
                          rw [hfi'] at hf3
                          simp only [] at hf3
                          have HF4 := Lib.hid hf3
                          clear hf3 hfi hfi'
                          rw [show numF none = -1 from rfl]
                          go_wp2_with fail
                          go_ret2
                          rw [HF4.out]
                          exact ⟨hB.trans (hBj.mono hz), rfl⟩
                        | some ni =>
                          have hni := (fAt_lt hfi).1
                          have hfi' : (lettersL.take K.length).findIdx? (· == c1) = some ni := hfi
                          rw [hfi'] at hf3
                          simp only [] at hf3
                          have HF4 := Lib.hid hf3
                          clear hf3 hfi hfi'
                          have hBw := hB.trans (hBj.mono hz)
                          have hzw := hBw.size
                          have hKw := hK.below' hBw hH
                          obtain ⟨kb, ko, hAK, hkb, hk0⟩ := hKw.txt hni
                          subst hAK
                          have hkl := lt_of_cell hk0
                          have hgK : K.getD ni [] = K[ni] := by rw [List.getD_eq_getElem?_getD, List.getElem?_eq_getElem hni]; rfl
                          have hxl := HKL.out K[ni] (List.getElem_mem hni)
                          rw [← hgK] at hk0 hxl
                          obtain ⟨x, hx⟩ : ∃ x, Hid (K.getD ni [] = x) := ⟨_, Lib.hid rfl⟩
                          rw [hx.out] at hk0 HF4 hxl
                          clear hgK
                          have y1 : (ni : Int) < (K.length : Int) := by omega
                          have y2 : (0 : Int) ≤ (ni : Int) := by omega
                          have y3 : ¬ (ni : Int) < 0 := by omega
                          have hownj := hown.below hBj
                          have tx := bN_toList x
                          have hacc2 : acc.length ≤ 100 := by have := HQ2.out; omega
                          rw [show numF (some ni) = (ni : Int) from rfl]
                          by_cases h1 : x = [115, 101, 119]
                          · have z1 : (x == [115, 101, 119]) = true := by rw [h1]; rfl
                            have hW : Hid (workD x q = ⟨2, q, bN []⟩) := Lib.hid (by unfold workD; rw [if_pos h1])
                            have z2 : (x == [45]) = false := by rw [h1]; rfl
                            have H1 := Lib.hid h1
                            clear h1
                            go_wp2_with (first
                              | (at_builtin; refine wpList_append_tri rfl (.tmp 97) (.tmp 99) _ rfl w.heap.size _ i0 _ Tryz.underlying23 hi0 hz0' hz1' hz2' rfl (.slice Av acc.length cv) acc rfl ((hownj.alloc _).alloc _) (wr.heap.size + 1) (⟨2, (q : Int), bN []⟩ : Tri) rfl (cell_new2 _ _ _ _ 0) (cell_new2 _ _ _ _ 1) (cell_new2 _ _ _ _ 2) (by omega) (by simp; omega) ?_; intro v6 w6 ho6 hg6)
                              | fail)
                            go_roundw
                            case rel =>
                              have hB6 : Below w.heap.size w w6 := ((hownj.alloc (.cells #[.int .i64 ((⟨2, (q : Int), bN []⟩ : Tri)).a, .int .i64 ((⟨2, (q : Int), bN []⟩ : Tri)).b, .string ((⟨2, (q : Int), bN []⟩ : Tri)).s] 44)).alloc (.cells #[.int .i64 ((⟨2, (q : Int), bN []⟩ : Tri)).a, .int .i64 ((⟨2, (q : Int), bN []⟩ : Tri)).b, .string ((⟨2, (q : Int), bN []⟩ : Tri)).s] 44)).grown ((hBw.alloc hzw _).alloc (by simp; omega) _) hg6 (by simp; omega)
                              have hl8 := HLEN.out
                              have hq8 := HQ2.out
                              exact ⟨q + 2, acc ++ [(⟨2, (q : Int), bN []⟩ : Tri)], by omega, by go_num, by simp; omega, Lib.hid (by rw [HF4.out, hW.out]), ho6, hB6⟩
                            case measure => have hl8 := HLEN.out; have hq8 := HQ2.out; simp [intOf]; omega
                          · have z1 : (x == [115, 101, 119]) = false := beq_eq_false_iff_ne.2 h1
                            by_cases h2' : x = [45]
                            · have z2 : (x == [45]) = true := by rw [h2']; rfl
                              have hW : Hid (workD x q = ⟨1, q, bN []⟩) := Lib.hid (by unfold workD; rw [if_neg h1, if_pos h2'])
                              have H1 := Lib.hid h1
                              have H2 := Lib.hid h2'
                              clear h1 h2'
                              go_wp2_with (first
                                | (at_builtin; refine wpList_append_tri rfl (.tmp 97) (.tmp 99) _ rfl w.heap.size _ i0 _ Tryz.underlying23 hi0 hz0' hz1' hz2' rfl (.slice Av acc.length cv) acc rfl ((hownj.alloc _).alloc _) (wr.heap.size + 1) (⟨1, (q : Int), bN []⟩ : Tri) rfl (cell_new2 _ _ _ _ 0) (cell_new2 _ _ _ _ 1) (cell_new2 _ _ _ _ 2) (by omega) (by simp; omega) ?_; intro v6 w6 ho6 hg6)
                                | fail)
                              go_roundw
                              case rel =>
                                have hB6 : Below w.heap.size w w6 := ((hownj.alloc (.cells #[.int .i64 ((⟨1, (q : Int), bN []⟩ : Tri)).a, .int .i64 ((⟨1, (q : Int), bN []⟩ : Tri)).b, .string ((⟨1, (q : Int), bN []⟩ : Tri)).s] 44)).alloc (.cells #[.int .i64 ((⟨1, (q : Int), bN []⟩ : Tri)).a, .int .i64 ((⟨1, (q : Int), bN []⟩ : Tri)).b, .string ((⟨1, (q : Int), bN []⟩ : Tri)).s] 44)).grown ((hBw.alloc hzw _).alloc (by simp; omega) _) hg6 (by simp; omega)
                                have hl8 := HLEN.out
                                have hq8 := HQ2.out
                                exact ⟨q + 2, acc ++ [(⟨1, (q : Int), bN []⟩ : Tri)], by omega, by go_num, by simp; omega, Lib.hid (by rw [HF4.out, hW.out]), ho6, hB6⟩
                              case measure => have hl8 := HLEN.out; have hq8 := HQ2.out; simp [intOf]; omega
                            · have z2 : (x == [45]) = false := beq_eq_false_iff_ne.2 h2'
                              have hW : Hid (workD x q = ⟨1, q, bN x⟩) := Lib.hid (by unfold workD; rw [if_neg h1, if_neg h2'])
                              have H1 := Lib.hid h1
                              have H2 := Lib.hid h2'
                              clear h1 h2'
                              go_wp2_with (first
                                | (at_builtin; refine wpList_append_tri rfl (.tmp 97) (.tmp 99) _ rfl w.heap.size _ i0 _ Tryz.underlying23 hi0 hz0' hz1' hz2' rfl (.slice Av acc.length cv) acc rfl ((hownj.alloc _).alloc _) (wr.heap.size + 1) (⟨1, (q : Int), bN x⟩ : Tri) rfl (cell_new2 _ _ _ _ 0) (cell_new2 _ _ _ _ 1) (cell_new2 _ _ _ _ 2) (by omega) (by simp; omega) ?_; intro v6 w6 ho6 hg6)
                                | fail)
                              go_roundw
                              case rel =>
                                have hB6 : Below w.heap.size w w6 := ((hownj.alloc (.cells #[.int .i64 ((⟨1, (q : Int), bN x⟩ : Tri)).a, .int .i64 ((⟨1, (q : Int), bN x⟩ : Tri)).b, .string ((⟨1, (q : Int), bN x⟩ : Tri)).s] 44)).alloc (.cells #[.int .i64 ((⟨1, (q : Int), bN x⟩ : Tri)).a, .int .i64 ((⟨1, (q : Int), bN x⟩ : Tri)).b, .string ((⟨1, (q : Int), bN x⟩ : Tri)).s] 44)).grown ((hBw.alloc hzw _).alloc (by simp; omega) _) hg6 (by simp; omega)
                                have hl8 := HLEN.out
                                have hq8 := HQ2.out
                                exact ⟨q + 2, acc ++ [(⟨1, (q : Int), bN x⟩ : Tri)], by omega, by go_num, by simp; omega, Lib.hid (by rw [HF4.out, hW.out]), ho6, hB6⟩
                              case measure => have hl8 := HLEN.out; have hq8 := HQ2.out; simp [intOf]; omega
                  · rw [if_pos (.inr (.inr hr))] at hf
                    have HF3 := Lib.hid hf
                    have z5 : ((c2.toNat : Int) == 41) = false := u8_false (c := 41) hr
                    have z5p : ¬ (c2.toNat : Int) = 41 := beq_eq_false_iff_ne.1 z5
                    have z5n : ((c2.toNat : Int) != 41) = true := bne_iff_ne.2 z5p
                    have HP0 := Lib.hid hp
                    clear hf hp hr hl1 hlt hln
                    go_wp2_with fail
                    go_ret2
                    rw [HF3.out]
                    exact ⟨hB, rfl⟩
              · have hf := HF2.out
                rw [if_pos (.inl hp)] at hf
                have HF3 := Lib.hid hf
                have z4 : ((c0.toNat : Int) == 40) = false := u8_false (c := 40) hp
                have z4p : ¬ (c0.toNat : Int) = 40 := beq_eq_false_iff_ne.1 z4
                have z4n : ((c0.toNat : Int) != 40) = true := bne_iff_ne.2 z4p
                clear hf hp hlt hln
                go_wp2_with fail
                go_ret2
                rw [HF3.out]
                exact ⟨hB, rfl⟩
          · have i3 : (0 : Int) < (q : Int) := by omega
            have hc32 : cp = 32 := by rcases hpre.out with h | h; exact absurd h hA0; exact h.2
            have xp := idx_run s (2 * q - 1) (by omega) (2 * (q : Int) - 1) (by omega)
            rw [hcp.out] at xp
            have z2 : ((cp.toNat : Int) == 32) = true := u8_true (c := 32) hc32
            have z2p : (cp.toNat : Int) = 32 := by rw [hc32]; rfl
            have z2n : ((cp.toNat : Int) != 32) = false := by rw [hc32]; rfl
            clear hc32
            have HA0 := Lib.hid hA0
            clear hA0
            by_cases hw : c0 = 124
            · have hf := HF.out
              rw [if_pos hw] at hf
              have HF2 := Lib.hid hf
              have z3 : ((c0.toNat : Int) == 124) = true := u8_true (c := 124) hw
              have z3p : (c0.toNat : Int) = 124 := by rw [hw]; rfl
              have z3n : ((c0.toNat : Int) != 124) = false := by rw [hw]; rfl
              have HW := Lib.hid hw
              clear hf hw hln
              go_wp2_with fail
              go_roundw
              case rel => exact ⟨q + 1, acc, by omega, by go_num, by omega, HF2, hown, hB⟩
              case measure => simp [intOf]; omega
            · have hf := HF.out
              rw [if_neg hw] at hf
              have HF2 := Lib.hid hf
              have z3 : ((c0.toNat : Int) == 124) = false := u8_false (c := 124) hw
              have z3p : ¬ (c0.toNat : Int) = 124 := beq_eq_false_iff_ne.1 z3
              have z3n : ((c0.toNat : Int) != 124) = true := bne_iff_ne.2 z3p
              clear hf hw HF
              by_cases hp : c0 = 40
              · have z4 : ((c0.toNat : Int) == 40) = true := u8_true (c := 40) hp
                have z4p : (c0.toNat : Int) = 40 := by rw [hp]; rfl
                have z4n : ((c0.toNat : Int) != 40) = false := by rw [hp]; rfl
                by_cases hl1 : q + 1 = p
                · have hf := HF2.out
                  rw [if_pos (.inr (.inl hl1))] at hf
                  have HF3 := Lib.hid hf
                  have i6 : ((q : Int) == (p : Int) - 1) = true := by simp; omega
                  have HP0 := Lib.hid hp
                  clear hf hp hl1 hlt hln
                  go_wp2_with fail
                  go_ret2
                  rw [HF3.out]
                  exact ⟨hB, rfl⟩
                · have i6 : ((q : Int) == (p : Int) - 1) = false := by rw [beq_eq_false_iff_ne]; omega
                  have x2 := idx_run s (2 * q + 2) (by omega) (2 * (q : Int) + 2) (by omega)
                  obtain ⟨c2, hc2⟩ : ∃ c, Hid (s.getD (2 * q + 2) 0 = c) := ⟨_, Lib.hid rfl⟩
                  rw [hc2.out] at x2
                  have hf := HF2.out
                  rw [hc2.out] at hf
                  by_cases hr : c2 = 41
                  · have hcond : ¬ (c0 ≠ 40 ∨ q + 1 = p ∨ c2 ≠ 41) := by
                      rintro (h | h | h)
                      · exact h hp
                      · exact hl1 h
                      · exact h hr
                    rw [if_neg hcond] at hf
                    clear hcond
                    have z5 : ((c2.toNat : Int) == 41) = true := u8_true (c := 41) hr
                    have z5p : (c2.toNat : Int) = 41 := by rw [hr]; rfl
                    have z5n : ((c2.toNat : Int) != 41) = false := by rw [hr]; rfl
                    obtain ⟨c1, hc1⟩ : ∃ c, Hid (s.getD (2 * q + 1) 0 = c) := ⟨_, Lib.hid rfl⟩
                    rw [hc1.out] at hf
                    have HF3 := Lib.hid hf
                    have HP0 := Lib.hid hp
                    have HR0 := Lib.hid hr
                    have HQ2 : Hid (2 * q + 2 < s.length ∧ q < 24) := Lib.hid (by omega)
                    clear hp hr hf hl1
                    clear hlt hln
                    have HF3 := HF3
                    have hcc : s[2 * q + 1]'(by have := HQ2.out; omega) = c1 := by have := hc1.out; rw [List.getD_eq_getElem?_getD, List.getElem?_eq_getElem (by have := HQ2.out; omega)] at this; exact this
                    have SL : ∀ W, (Instr.slice 9 (.string (bN s)) (some (.int .i64 (2 * (q : Int) + 1))) (some (.int .i64 (2 * (q : Int) + 2))) none).run Tryz.prog W = .ok (.string (bN [c1])) W := fun W => by
                      have := byteSl14 s (2 * q + 1) (by have := HQ2.out; omega) (by omega) c1 hcc W
                      rw [show ((2 * q + 1 : Nat) : Int) = 2 * (q : Int) + 1 by omega, show 2 * (q : Int) + 1 + 1 = 2 * (q : Int) + 2 by omega] at this; exact this
                    clear hcc
                    obtain ⟨Lc, hLc⟩ : ∃ x, Hid ([c1] = x) := ⟨_, Lib.hid rfl⟩
                    rw [hLc.out] at SL
                    have tLc := bN_toList Lc
                    go_wp2_with fail
                    obtain ⟨wo, hwo⟩ : ∃ wo : World, wo = wr := ⟨_, rfl⟩
                    obtain rfl := hwo
                    go_loopw [10, 11] (fun nv iv wr => ∃ i : Nat, i ≤ K.length ∧ iv = .int .i64 i ∧ nv = .int .i64 (numF (fAt c1 i)) ∧ Below wo.heap.size wo wr) (fun _ iv _ => K.length - (intOf iv).toNat)
                    case atStart => exact ⟨0, Nat.zero_le _, rfl, rfl, Below.refl _ _⟩
                    case round =>
                      obtain ⟨j, hj, rfl, rfl, hBj⟩ := hrel
                      have hzj := hBj.size
                      obtain ⟨NV, hNV⟩ : ∃ x, Hid (numF (fAt c1 j) = x) := ⟨_, Lib.hid rfl⟩
                      by_cases hjl : j < K.length
                      · rw [hNV.out]
                        have HL := Lib.hid (rletter14_any j (by omega))
                        obtain ⟨Li, hLi⟩ : ∃ x, Hid ([letN j] = x) := ⟨_, Lib.hid rfl⟩
                        rw [hLi.out] at HL
                        have tLi := bN_toList Li
                        have j1 : (j : Int) < (K.length : Int) := by omega
                        have e12 : IntKind.i64.wrap ((j : Int) + 1) = (j : Int) + 1 := IntWalk.i64_in _ (by omega)
                        by_cases hc : letN j = c1
                        · have zz : (Lc == Li) = true := by rw [← hLc.out, ← hLi.out]; simp [hc]
                          have HC := Lib.hid hc
                          clear hc
                          go_wp2_with fail
                          go_big_quiet ((go_at_call 41; exact Calls.quiet_of_same (HL.out _)))
                          have hBk := hBj.drewN nq
                          go_wp2_with fail
                          go_roundw
                          case rel => exact ⟨j + 1, by omega, by go_num, congrArg (Value.int .i64) (by rw [fAt_step c1 j (by omega), if_pos HC.out]; rfl), hBk⟩
                          case measure => simp [intOf]; omega
                        · have zz : (Lc == Li) = false := by rw [← hLc.out, ← hLi.out]; simp ; exact fun h => hc h.symm
                          have HC := Lib.hid hc
                          clear hc
                          go_wp2_with fail
                          go_big_quiet ((go_at_call 41; exact Calls.quiet_of_same (HL.out _)))
                          have hBk := hBj.drewN nq
                          go_wp2_with fail
                          go_roundw
                          case rel => exact ⟨j + 1, by omega, by go_num, congrArg (Value.int .i64) (by rw [fAt_step c1 j (by omega), if_neg HC.out]; exact hNV.out.symm), hBk⟩
                          case measure => simp [intOf]; omega
                      · have e0 : j = K.length := by omega
                        subst e0
                        have j1 : ¬ (K.length : Int) < (K.length : Int) := by omega
                        have hf3 := HF3.out
                        cases hfi : fAt c1 K.length with
                        | none =>
                          rw [hfi] at hNV
                          have hfi' : (lettersL.take K.length).findIdx? (· == c1) = none := hfi
                          rw [hfi'] at hf3
                          simp only [] at hf3
                          have HF4 := Lib.hid hf3
                          clear hf3 hfi hfi'
                          rw [show numF none = -1 from rfl]
                          go_wp2_with fail
                          go_ret2
                          rw [HF4.out]
                          exact ⟨hB.trans (hBj.mono hz), rfl⟩
                        | some ni =>
                          have hni := (fAt_lt hfi).1
                          have hfi' : (lettersL.take K.length).findIdx? (· == c1) = some ni := hfi
                          rw [hfi'] at hf3
                          simp only [] at hf3
                          have HF4 := Lib.hid hf3
                          clear hf3 hfi hfi'
                          have hBw := hB.trans (hBj.mono hz)
                          have hzw := hBw.size
                          have hKw := hK.below' hBw hH
                          obtain ⟨kb, ko, hAK, hkb, hk0⟩ := hKw.txt hni
                          subst hAK
                          have hkl := lt_of_cell hk0
                          have hgK : K.getD ni [] = K[ni] := by rw [List.getD_eq_getElem?_getD, List.getElem?_eq_getElem hni]; rfl
                          have hxl := HKL.out K[ni] (List.getElem_mem hni)
                          rw [← hgK] at hk0 hxl
                          obtain ⟨x, hx⟩ : ∃ x, Hid (K.getD ni [] = x) := ⟨_, Lib.hid rfl⟩
                          rw [hx.out] at hk0 HF4 hxl
                          clear hgK
                          have y1 : (ni : Int) < (K.length : Int) := by omega
                          have y2 : (0 : Int) ≤ (ni : Int) := by omega
                          have y3 : ¬ (ni : Int) < 0 := by omega
                          have hownj := hown.below hBj
                          have tx := bN_toList x
                          have hacc2 : acc.length ≤ 100 := by have := HQ2.out; omega
                          rw [show numF (some ni) = (ni : Int) from rfl]
                          by_cases h1 : x = [115, 101, 119]
                          · have z1 : (x == [115, 101, 119]) = true := by rw [h1]; rfl
                            have hW : Hid (workD x q = ⟨2, q, bN []⟩) := Lib.hid (by unfold workD; rw [if_pos h1])
                            have z2 : (x == [45]) = false := by rw [h1]; rfl
                            have H1 := Lib.hid h1
                            clear h1
                            go_wp2_with (first
                              | (at_builtin; refine wpList_append_tri rfl (.tmp 97) (.tmp 99) _ rfl w.heap.size _ i0 _ Tryz.underlying23 hi0 hz0' hz1' hz2' rfl (.slice Av acc.length cv) acc rfl ((hownj.alloc _).alloc _) (wr.heap.size + 1) (⟨2, (q : Int), bN []⟩ : Tri) rfl (cell_new2 _ _ _ _ 0) (cell_new2 _ _ _ _ 1) (cell_new2 _ _ _ _ 2) (by omega) (by simp; omega) ?_; intro v6 w6 ho6 hg6)
                              | fail)
                            go_roundw
                            case rel =>
                              have hB6 : Below w.heap.size w w6 := ((hownj.alloc (.cells #[.int .i64 ((⟨2, (q : Int), bN []⟩ : Tri)).a, .int .i64 ((⟨2, (q : Int), bN []⟩ : Tri)).b, .string ((⟨2, (q : Int), bN []⟩ : Tri)).s] 44)).alloc (.cells #[.int .i64 ((⟨2, (q : Int), bN []⟩ : Tri)).a, .int .i64 ((⟨2, (q : Int), bN []⟩ : Tri)).b, .string ((⟨2, (q : Int), bN []⟩ : Tri)).s] 44)).grown ((hBw.alloc hzw _).alloc (by simp; omega) _) hg6 (by simp; omega)
                              have hl8 := HLEN.out
                              have hq8 := HQ2.out
                              exact ⟨q + 2, acc ++ [(⟨2, (q : Int), bN []⟩ : Tri)], by omega, by go_num, by simp; omega, Lib.hid (by rw [HF4.out, hW.out]), ho6, hB6⟩
                            case measure => have hl8 := HLEN.out; have hq8 := HQ2.out; simp [intOf]; omega
                          · have z1 : (x == [115, 101, 119]) = false := beq_eq_false_iff_ne.2 h1
                            by_cases h2' : x = [45]
                            · have z2 : (x == [45]) = true := by rw [h2']; rfl
                              have hW : Hid (workD x q = ⟨1, q, bN []⟩) := Lib.hid (by unfold workD; rw [if_neg h1, if_pos h2'])
                              have H1 := Lib.hid h1
                              have H2 := Lib.hid h2'
                              clear h1 h2'
                              go_wp2_with (first
                                | (at_builtin; refine wpList_append_tri rfl (.tmp 97) (.tmp 99) _ rfl w.heap.size _ i0 _ Tryz.underlying23 hi0 hz0' hz1' hz2' rfl (.slice Av acc.length cv) acc rfl ((hownj.alloc _).alloc _) (wr.heap.size + 1) (⟨1, (q : Int), bN []⟩ : Tri) rfl (cell_new2 _ _ _ _ 0) (cell_new2 _ _ _ _ 1) (cell_new2 _ _ _ _ 2) (by omega) (by simp; omega) ?_; intro v6 w6 ho6 hg6)
                                | fail)
                              go_roundw
                              case rel =>
                                have hB6 : Below w.heap.size w w6 := ((hownj.alloc (.cells #[.int .i64 ((⟨1, (q : Int), bN []⟩ : Tri)).a, .int .i64 ((⟨1, (q : Int), bN []⟩ : Tri)).b, .string ((⟨1, (q : Int), bN []⟩ : Tri)).s] 44)).alloc (.cells #[.int .i64 ((⟨1, (q : Int), bN []⟩ : Tri)).a, .int .i64 ((⟨1, (q : Int), bN []⟩ : Tri)).b, .string ((⟨1, (q : Int), bN []⟩ : Tri)).s] 44)).grown ((hBw.alloc hzw _).alloc (by simp; omega) _) hg6 (by simp; omega)
                                have hl8 := HLEN.out
                                have hq8 := HQ2.out
                                exact ⟨q + 2, acc ++ [(⟨1, (q : Int), bN []⟩ : Tri)], by omega, by go_num, by simp; omega, Lib.hid (by rw [HF4.out, hW.out]), ho6, hB6⟩
                              case measure => have hl8 := HLEN.out; have hq8 := HQ2.out; simp [intOf]; omega
                            · have z2 : (x == [45]) = false := beq_eq_false_iff_ne.2 h2'
                              have hW : Hid (workD x q = ⟨1, q, bN x⟩) := Lib.hid (by unfold workD; rw [if_neg h1, if_neg h2'])
                              have H1 := Lib.hid h1
                              have H2 := Lib.hid h2'
                              clear h1 h2'
                              go_wp2_with (first
                                | (at_builtin; refine wpList_append_tri rfl (.tmp 97) (.tmp 99) _ rfl w.heap.size _ i0 _ Tryz.underlying23 hi0 hz0' hz1' hz2' rfl (.slice Av acc.length cv) acc rfl ((hownj.alloc _).alloc _) (wr.heap.size + 1) (⟨1, (q : Int), bN x⟩ : Tri) rfl (cell_new2 _ _ _ _ 0) (cell_new2 _ _ _ _ 1) (cell_new2 _ _ _ _ 2) (by omega) (by simp; omega) ?_; intro v6 w6 ho6 hg6)
                                | fail)
                              go_roundw
                              case rel =>
                                have hB6 : Below w.heap.size w w6 := ((hownj.alloc (.cells #[.int .i64 ((⟨1, (q : Int), bN x⟩ : Tri)).a, .int .i64 ((⟨1, (q : Int), bN x⟩ : Tri)).b, .string ((⟨1, (q : Int), bN x⟩ : Tri)).s] 44)).alloc (.cells #[.int .i64 ((⟨1, (q : Int), bN x⟩ : Tri)).a, .int .i64 ((⟨1, (q : Int), bN x⟩ : Tri)).b, .string ((⟨1, (q : Int), bN x⟩ : Tri)).s] 44)).grown ((hBw.alloc hzw _).alloc (by simp; omega) _) hg6 (by simp; omega)
                                have hl8 := HLEN.out
                                have hq8 := HQ2.out
                                exact ⟨q + 2, acc ++ [(⟨1, (q : Int), bN x⟩ : Tri)], by omega, by go_num, by simp; omega, Lib.hid (by rw [HF4.out, hW.out]), ho6, hB6⟩
                              case measure => have hl8 := HLEN.out; have hq8 := HQ2.out; simp [intOf]; omega
                  · rw [if_pos (.inr (.inr hr))] at hf
                    have HF3 := Lib.hid hf
                    have z5 : ((c2.toNat : Int) == 41) = false := u8_false (c := 41) hr
                    have z5p : ¬ (c2.toNat : Int) = 41 := beq_eq_false_iff_ne.1 z5
                    have z5n : ((c2.toNat : Int) != 41) = true := bne_iff_ne.2 z5p
                    have HP0 := Lib.hid hp
                    clear hf hp hr hl1 hlt hln
                    go_wp2_with fail
                    go_ret2
                    rw [HF3.out]
                    exact ⟨hB, rfl⟩
              · have hf := HF2.out
                rw [if_pos (.inl hp)] at hf
                have HF3 := Lib.hid hf
                have z4 : ((c0.toNat : Int) == 40) = false := u8_false (c := 40) hp
                have z4p : ¬ (c0.toNat : Int) = 40 := beq_eq_false_iff_ne.1 z4
                have z4n : ((c0.toNat : Int) != 40) = true := bne_iff_ne.2 z4p
                clear hf hp hlt hln
                go_wp2_with fail
                go_ret2
                rw [HF3.out]
                exact ⟨hB, rfl⟩
      · have i0' : ¬ (q : Int) < (p : Int) := by omega
        have hf := hrow.out
        rw [rowO_end (by omega)] at hf
        have HF := Lib.hid hf
        clear hf hlt hln
        go_wp2_with fail
        go_ret2
        rw [HF.out]
        exact ⟨hB, _, rfl, hown⟩
  · have hq := hPE.out
    rw [if_neg hlen] at hq
    have HP := Lib.hid hq
    clear hq hPE
    have z1 : ((s.length : Int) == 2 * (p : Int) - 1) = false := by rw [beq_eq_false_iff_ne]; omega
    have z1n : ((s.length : Int) != 2 * (p : Int) - 1) = true := by rw [bne_iff_ne]; omega
    clear hlen
    go_wp2_with fail
    go_ret2
    rw [HP.out]
    exact ⟨Below.refl _ _, rfl⟩
end Go.Proofs.YtoccplfnjammjaaGreatDoor

namespace Go.Proofs.YtoccplfnjammjaaGreatDoor
open Go Go.RowKit Tor

theorem lookP_drop (K : List (List UInt8)) (X : List (List UInt8)) (k : Nat) (hk : k < X.length) : lookP K (X.drop k) = if ltB'.isPrefixOf (X.getD k []) then (match lookLn K.length (X.getD k []) with | none => .error (X.length - (k + 1)) | some x => lookP (K ++ [x]) (X.drop (k + 1))) else .ok (K, X.drop k) := by
  have hg : X.getD k [] = X[k] := by rw [List.getD_eq_getElem?_getD, List.getElem?_eq_getElem hk]; rfl
  rw [List.drop_eq_getElem_cons hk, lookP_cons, hg, List.length_drop]
  rfl
theorem lookP_out (K : List (List UInt8)) (X : List (List UInt8)) (k : Nat) (hk : X.length ≤ k) : lookP K (X.drop k) = .ok (K, X.drop k) := by
  rw [List.drop_eq_nil_of_le hk]; rfl
theorem lookLn_three (n : Nat) (s : List UInt8) : lookLn n s = if (threeR s ltB').2.2 = true ∧ n < 52 ∧ (threeR s ltB').1 = [letN n] ∧ (threeR s ltB').2.1 ≠ [] ∧ sayB (threeR s ltB').2.1 = true then some (threeR s ltB').2.1 else none := by
  unfold lookLn threeR
  cases threeP s ltB' with
  | none => simp
  | some ab => obtain ⟨a, x⟩ := ab; simp
theorem headR_cons (s : List UInt8) (r : List (List UInt8)) : headR (s :: r) = if (threeR s dgB).2.2 = true then ((intW (threeR s dgB).1 2 24).1, (intW (threeR s dgB).2.1 0 400).1, decide ((intW (threeR s dgB).1 2 24).2 = 0) && decide ((intW (threeR s dgB).2.1 0 400).2 = 0)) else (0, 0, false) := by
  unfold headR threeR
  simp only []
  cases threeP s dgB with
  | none => simp
  | some ab => obtain ⟨a, x⟩ := ab; simp
theorem three_len (s F : List UInt8) : (threeR s F).1.length ≤ s.length ∧ (threeR s F).2.1.length ≤ s.length := by
  unfold threeR
  cases h : threeP s F with
  | none => simp
  | some ab => obtain ⟨a, x⟩ := ab; have := threeP_len h; simp only []; omega
theorem drawI_nat (p : Nat) (l : List Tri) : drawI p l = drawA p l := by unfold drawI drawA; rw [Int.toNat_natCast]
theorem dgB_bN : (⟨#[100, 105, 97, 103, 114, 97, 109]⟩ : ByteArray) = bN dgB := rfl
theorem ltB_bN : (⟨#[108, 101, 116, 116, 101, 114]⟩ : ByteArray) = bN ltB' := rfl
set_option maxRecDepth 100000 in
set_option maxHeartbeats 16000000 in
theorem rread_any (L : List UInt8) (hL : L.length ≤ 1000000) (w : World) : Calls Tryz.prog 12 #[.string (bN L)] w (RdRet w (readA L)) := by
  obtain ⟨i0, hi0, hz0', hz1', hz2'⟩ := info_parts infoWork
  obtain ⟨j0, hj0, hy0', hy1', hy2'⟩ := info_parts infoTxt
  have hB1 : Below w.heap.size w (w.alloc (.cells #[.int .i64 0, .slice none 0 0] 25)) := (Below.refl _ _).alloc (Nat.le_refl _) _
  have kS1 : Blk (w.alloc (.cells #[.int .i64 0, .slice none 0 0] 25)) w.heap.size 25 #[.int .i64 0, .slice none 0 0] := Blk.new w _ _
  have HL := Lib.hid (rlines_any L (w.alloc (.cells #[.int .i64 0, .slice none 0 0] 25)) (by omega))
  obtain ⟨hX1, hX2⟩ := linesP_ok hL
  obtain ⟨RA, hRA⟩ : ∃ RA, Hid (readA L = RA) := ⟨_, Lib.hid rfl⟩
  have hRA2 : Hid (RA = if (linesP L).2 ≠ 0 then .error (0, (linesP L).2) else readE L (linesP L).1) := Lib.hid hRA.out.symm
  rw [hRA.out]
  obtain ⟨X, hX⟩ : ∃ X, (linesP L).1 = X := ⟨_, rfl⟩
  obtain ⟨E0, hE0⟩ : ∃ E0, (linesP L).2 = E0 := ⟨_, rfl⟩
  rw [hX, hE0] at HL hRA2
  rw [hX] at hX1 hX2
  clear hX hE0
  have HX2 := Lib.hid hX2
  clear hX2
  obtain ⟨w1, hw1⟩ : ∃ w1, Hid ((w.alloc (.cells #[.int .i64 0, .slice none 0 0] 25)) = w1) := ⟨_, Lib.hid rfl⟩
  have hws : w.heap.size < w1.heap.size := by rw [← hw1.out]; simp
  rw [hw1.out] at HL hB1 kS1
  go_enter Tryz.func12, Tryz.ntmps12
  by_cases hE : E0 = 0
  · have hf := hRA2.out
    rw [if_neg (by simpa using hE)] at hf
    rw [readE_eq] at hf
    have HF := Lib.hid hf
    clear hf hRA2
    subst hE
    by_cases hX0 : X = []
    · subst hX0
      have HG : Hid (RA = .error (1, 6)) := Lib.hid (by rw [HF.out]; rfl)
      clear HF
      go_wp2_with (first
        | (go_at_call 37; rw [hw1.out]; refine HL.out.mono ?_; rintro e w2 ⟨v, rfl, hown, hB2⟩
           obtain ⟨AX, cX, rfl, hcX, hrd⟩ := Own.rd tenc_len hown
           have kS2 := kS1.below' hB2
           have hBw2 := hB1.trans (hB2.mono hB1.size)
           have hz2 := hB2.size
           have s0 := kS2.cell 0 _ rfl
           have s1 := kS2.cell 1 _ rfl
           have f0 := kS2.frozen 0
           have f1 := kS2.frozen 1
           have sl := kS2.lt)
        | fail)
      (try simp only [Exit.inBlock, Exit.then])
      refine sheet_ret rfl rfl (g := w.heap.size) (x := .int .i64 0) (y := .slice none 0 0) (by simpa using (kS2.set_ 0 (.int .i64 0)).set_ 1 (.slice none 0 0)) rfl ?_
      rw [HG.out]
      exact ⟨(hBw2.setCell (Nat.le_refl _) _).setCell (Nat.le_refl _) _, by first | rfl | (congr 1; simp; omega)⟩
    · have hXn : 0 < X.length := List.length_pos_iff.2 hX0
      have z1 : ((X.length : Int) == 0) = false := by rw [beq_eq_false_iff_ne]; omega
      have hg0 : X.getD 0 [] = X[0] := by rw [List.getD_eq_getElem?_getD, List.getElem?_eq_getElem hXn]; rfl
      have hs0 : X[0].length ≤ 1000000 := HX2.out _ (List.getElem_mem hXn)
      have hHD : headR X = headR (X[0] :: X.drop 1) := by congr 1; rw [← List.drop_eq_getElem_cons hXn]; rfl
      rw [headR_cons] at hHD
      have HTH := Lib.hid (fun W => rthree_any X[0] dgB W (by omega))
      have h3l := three_len X[0] dgB
      obtain ⟨⟨ra, rb, ris⟩, h3⟩ : ∃ r, Hid (threeR X[0] dgB = r) := ⟨_, Lib.hid rfl⟩
      rw [h3.out] at hHD HTH h3l
      simp only [] at hHD h3l
      simp only [] at HTH
      have HIA := Lib.hid (fun W => rint_any ra 2 24 W (by omega))
      have HIB := Lib.hid (fun W => rint_any rb 0 400 W (by omega))
      obtain ⟨⟨pv, pe⟩, hpe⟩ : ∃ r, Hid (intW ra 2 24 = r) := ⟨_, Lib.hid rfl⟩
      obtain ⟨⟨nv, ne⟩, hne⟩ : ∃ r, Hid (intW rb 0 400 = r) := ⟨_, Lib.hid rfl⟩
      rw [hpe.out] at hHD HIA
      rw [hne.out] at hHD HIB
      simp only [] at hHD HIA HIB
      have hbd := headR_bd X
      have HX0 := Lib.hid hX0
      clear hX0
      obtain ⟨s00, hs00⟩ : ∃ s, Hid (X[0] = s) := ⟨_, Lib.hid rfl⟩
      rw [hs00.out] at HTH h3 hs0 h3l
      have HS00 : Hid (X[0] = s00) := hs00
      cases ris with
      | false =>
        have HG : Hid (RA = .error (1, 6)) := Lib.hid (by rw [HF.out, hHD]; first | rfl | simp [])
        clear HF hHD hbd
        go_wp2_with (first
          | (go_at_call 37; rw [hw1.out]; refine HL.out.mono ?_; rintro e w2 ⟨v, rfl, hown, hB2⟩
             obtain ⟨AX, cX, rfl, hcX, hrd⟩ := Own.rd tenc_len hown
             have kS2 := kS1.below' hB2
             have hBw2 := hB1.trans (hB2.mono hB1.size)
             have hz2 := hB2.size
             have s0 := kS2.cell 0 _ rfl
             have s1 := kS2.cell 1 _ rfl
             have f0 := kS2.frozen 0
             have f1 := kS2.frozen 1
             have sl := kS2.lt
             obtain ⟨xb, xo, hAX, hxb, hx0⟩ := hrd.txt hXn
             subst hAX
             rw [HS00.out, Nat.add_zero] at hx0
             have hxl := lt_of_cell hx0)
          | (go_at_call 38; rw [dgB_bN]; refine (HTH.out _).mono ?_; rintro e w3 ⟨rfl, hB3⟩; clear HTH
             have kS3 := kS2.below' hB3
             have hB23 := hB3
             have hz3 := hB3.size
             clear s0 s1 f0 f1 sl
             have s0 := kS3.cell 0 _ rfl
             have s1 := kS3.cell 1 _ rfl
             have f0 := kS3.frozen 0
             have f1 := kS3.frozen 1
             have sl := kS3.lt)
          | (go_at_call 39; refine (HIA.out _).mono ?_; rintro e w4 ⟨rfl, hB4⟩; clear HIA
             have kS4 := kS3.below' hB4
             have hB24 := hB23.trans (hB4.mono hz3)
             have hz4 := hB24.size
             clear s0 s1 f0 f1 sl
             have s0 := kS4.cell 0 _ rfl
             have s1 := kS4.cell 1 _ rfl
             have f0 := kS4.frozen 0
             have f1 := kS4.frozen 1
             have sl := kS4.lt)
          | (go_at_call 39; refine (HIB.out _).mono ?_; rintro e w5 ⟨rfl, hB5⟩; clear HIB
             have kS5 := kS4.below' hB5
             have hB25 := hB24.trans (hB5.mono hz4)
             have hz5 := hB25.size
             clear s0 s1 f0 f1 sl
             have s0 := kS5.cell 0 _ rfl
             have s1 := kS5.cell 1 _ rfl
             have f0 := kS5.frozen 0
             have f1 := kS5.frozen 1
             have sl := kS5.lt)
          | fail)
        (try simp only [Exit.inBlock, Exit.then])
        refine sheet_ret rfl rfl (g := w.heap.size) (x := .int .i64 0) (y := .slice none 0 0) (by simpa using (kS5.set_ 0 (.int .i64 0)).set_ 1 (.slice none 0 0)) rfl ?_
        rw [HG.out]
        exact ⟨((hBw2.trans (hB25.mono hBw2.size)).setCell (Nat.le_refl _) _).setCell (Nat.le_refl _) _, by first | rfl | (congr 1; simp; omega)⟩
      | true =>
        by_cases ye : pe = 0
        · by_cases yn : ne = 0
          · subst ye; subst yn
            simp only [if_true] at hHD
            rw [hHD] at hbd
            obtain ⟨P, N, _, h2, h24, h400, hP, hN⟩ := hbd rfl
            simp only [] at hP hN
            subst hP; subst hN
            have HF1 : Hid (RA = match lookP [] (X.drop 1) with | .error k => .error (X.length - k, 6) | .ok (K, r) => rowsE L X.length P (rowsP P K N [] r)) := Lib.hid (by rw [HF.out, hHD, if_neg (by simp)]; simp only [Int.toNat_natCast]; rfl)
            clear HF hHD hbd
            go_wp2_with (first
              | (go_at_call 37; rw [hw1.out]; refine HL.out.mono ?_; rintro e w2 ⟨v, rfl, hown, hB2⟩
                 obtain ⟨AX, cX, rfl, hcX, hrd⟩ := Own.rd tenc_len hown
                 have kS2 := kS1.below' hB2
                 have hBw2 := hB1.trans (hB2.mono hB1.size)
                 have hz2 := hB2.size
                 have s0 := kS2.cell 0 _ rfl
                 have s1 := kS2.cell 1 _ rfl
                 have f0 := kS2.frozen 0
                 have f1 := kS2.frozen 1
                 have sl := kS2.lt
                 obtain ⟨xb, xo, hAX, hxb, hx0⟩ := hrd.txt hXn
                 subst hAX
                 rw [HS00.out, Nat.add_zero] at hx0
                 have hxl := lt_of_cell hx0)
              | (go_at_call 38; rw [dgB_bN]; refine (HTH.out _).mono ?_; rintro e w3 ⟨rfl, hB3⟩; clear HTH
                 have kS3 := kS2.below' hB3
                 have hB23 := hB3
                 have hz3 := hB3.size
                 clear s0 s1 f0 f1 sl
                 have s0 := kS3.cell 0 _ rfl
                 have s1 := kS3.cell 1 _ rfl
                 have f0 := kS3.frozen 0
                 have f1 := kS3.frozen 1
                 have sl := kS3.lt)
              | (go_at_call 39; refine (HIA.out _).mono ?_; rintro e w4 ⟨rfl, hB4⟩; clear HIA
                 have kS4 := kS3.below' hB4
                 have hB24 := hB23.trans (hB4.mono hz3)
                 have hz4 := hB24.size
                 clear s0 s1 f0 f1 sl
                 have s0 := kS4.cell 0 _ rfl
                 have s1 := kS4.cell 1 _ rfl
                 have f0 := kS4.frozen 0
                 have f1 := kS4.frozen 1
                 have sl := kS4.lt)
              | (go_at_call 39; refine (HIB.out _).mono ?_; rintro e w5 ⟨rfl, hB5⟩; clear HIB
                 have kS5 := kS4.below' hB5
                 have hB25 := hB24.trans (hB5.mono hz4)
                 have hz5 := hB25.size
                 clear s0 s1 f0 f1 sl
                 have s0 := kS5.cell 0 _ rfl
                 have s1 := kS5.cell 1 _ rfl
                 have f0 := kS5.frozen 0
                 have f1 := kS5.frozen 1
                 have sl := kS5.lt)
              | fail)
            have hxl5 : xb < w5.heap.size := by omega
            clear s0 s1 f0 f1 sl hx0 hxl
            have hrd5 : Rd 1 tenc w5 w2.heap.size (some ⟨xb, xo, none⟩) X := hrd.below' hB25 (Nat.le_refl _)
            go_loopg [14, 15, 16, 17, 18] (X.length - 1) (fun gk vv av _ _ _ wr => ∃ (k : Nat) (K : List (List UInt8)), k + gk = X.length ∧ 1 ≤ k ∧ av = .int .i64 k ∧ K.length ≤ 52 ∧ Hid (∀ x ∈ K, x.length ≤ 1000000) ∧ Hid (lookP [] (X.drop 1) = lookP K (X.drop k)) ∧ Own 1 tenc wr w5.heap.size 9 vv K ∧ Below w5.heap.size w5 wr)
            case atStart => exact ⟨1, [], by omega, Nat.le_refl _, rfl, by simp, Lib.hid (by simp), Lib.hid rfl, Own.nil _ _ _, Below.refl _ _⟩
            case round =>
              obtain ⟨k, K, hkg, hk1, rfl, hK52, hKl, hLK, hownK, hB⟩ := hrel
              have hz := hB.size
              have kSr := kS5.below' hB
              have hBr := (hBw2.trans (hB25.mono hBw2.size)).trans (hB.mono (hBw2.trans (hB25.mono hBw2.size)).size)
              obtain ⟨AK, cK, rfl, hcK, hrK⟩ := Own.rd tenc_len hownK
              have hrX := (hrd5.below' hB (by omega)).more (show w2.heap.size ≤ w5.heap.size by omega)
              obtain ⟨B, hBB⟩ : ∃ B, Hid ((decide (k < X.length) && ltB'.isPrefixOf (X.getD k [])) = B) := ⟨_, Lib.hid rfl⟩
              go_upto_region 13 with fail
              go_cut [76] from 66 to 125 (fun bv wx => bv = .bool B ∧ Below wr.heap.size wr wx)
              case first =>
                by_cases hlt : k < X.length
                · obtain ⟨b1, o1, hA1, hb1, hx1⟩ := hrX.txt hlt
                  cases hA1
                  have hg : X.getD k [] = X[k] := by rw [List.getD_eq_getElem?_getD, List.getElem?_eq_getElem hlt]; rfl
                  have hsl : X[k].length ≤ 1000000 := HX2.out _ (List.getElem_mem hlt)
                  have HBG := Lib.hid (fun W => rbegins_any X[k] ltB' W (by omega) (by decide))
                  have hBe : ltB'.isPrefixOf X[k] = B := by rw [← hBB.out, hg, decide_eq_true hlt]; rfl
                  rw [hBe] at HBG
                  clear hBe hg
                  obtain ⟨sk, hsk⟩ : ∃ s, Hid (X[k] = s) := ⟨_, Lib.hid rfl⟩
                  rw [hsk.out] at HBG hx1
                  have lx := lt_of_cell hx1
                  have c1 : (k : Int) < (X.length : Int) := by omega
                  have c2 : (0 : Int) ≤ (k : Int) := by omega
                  go_wp2_with (first
                    | (go_at_call 40; rw [ltB_bN]; refine (HBG.out _).mono ?_; rintro e wb ⟨rfl, hBb⟩)
                    | fail)
                  go_meet
                  case rel => exact ⟨by cases B <;> rfl, hBb⟩
                · have c1 : ¬ (k : Int) < (X.length : Int) := by omega
                  have hBe : B = false := by rw [← hBB.out, decide_eq_false hlt]; rfl
                  subst hBe
                  go_wp2_with fail
                  go_meet
                  case rel => exact ⟨rfl, Below.refl _ _⟩
              case rest =>
                obtain ⟨rfl, hBc⟩ := hcut
                have hzc := hBc.size
                have hBc2 := hB.trans (hBc.mono hz)
                have hzc2 := hBc2.size
                have kSc := kSr.below' hBc
                have hBwc := hBr.trans (hBc.mono hBr.size)
                have hownc := hownK.below hBc
                have hrXc := hrX.below' hBc (by omega)
                have hrKc := hrK.below' hBc (Nat.le_refl _)
                clear hB hBr kSr hownK hrX hrK
                cases B with
                | true =>
                  have hBB2 := hBB.out
                  simp only [Bool.and_eq_true, decide_eq_true_eq] at hBB2
                  obtain ⟨hlt, hpre⟩ := hBB2
                  have hst := lookP_drop K X k hlt
                  rw [if_pos hpre] at hst
                  have hg : X.getD k [] = X[k] := by rw [List.getD_eq_getElem?_getD, List.getElem?_eq_getElem hlt]; rfl
                  rw [hg, lookLn_three] at hst
                  have hsl : X[k].length ≤ 1000000 := HX2.out _ (List.getElem_mem hlt)
                  have HTL := Lib.hid (fun W => rthree_any X[k] ltB' W (by omega))
                  have h3k := three_len X[k] ltB'
                  obtain ⟨⟨a, x, is⟩, h3e⟩ : ∃ r, Hid (threeR X[k] ltB' = r) := ⟨_, Lib.hid rfl⟩
                  rw [h3e.out] at HTL hst h3k
                  simp only [] at HTL hst h3k
                  obtain ⟨b1, o1, hA1, hb1, hx1⟩ := hrXc.txt hlt
                  cases hA1
                  obtain ⟨sk, hsk⟩ : ∃ s, Hid (X[k] = s) := ⟨_, Lib.hid rfl⟩
                  rw [hsk.out] at HTL hx1 h3k hsl
                  have lx := lt_of_cell hx1
                  have c1 : (k : Int) < (X.length : Int) := by omega
                  have c2 : (0 : Int) ≤ (k : Int) := by omega
                  have HST := Lib.hid hst
                  clear hst hpre hg
                  obtain ⟨w8, hw8⟩ : ∃ w8 : World, w8 = wc := ⟨_, rfl⟩
                  obtain rfl := hw8
                  go_upto_region 15 with (first
                    | (go_at_call 38; rw [ltB_bN]; refine (HTL.out _).mono ?_; rintro e w9 ⟨rfl, hB9⟩; clear HTL)
                    | fail)
                  have hz9 := hB9.size
                  have kS9 := kSc.below' hB9
                  have hB59 := hBc2.trans (hB9.mono hzc2)
                  have hBw9 := hBwc.trans (hB9.mono hBwc.size)
                  have hown9 := hownc.below hB9
                  clear hx1 lx hrXc hrKc
                  have ta := bN_toList a
                  have tx := bN_toList x
                  obtain ⟨BD, hBD⟩ : ∃ b, Hid ((!decide (is = true ∧ K.length < 52 ∧ a = [letN K.length] ∧ x ≠ [] ∧ sayB x = true)) = b) := ⟨_, Lib.hid rfl⟩
                  go_cut [116] from 66 to 125 (fun bv wx => bv = .bool BD ∧ Below w9.heap.size w9 wx)
                  case first =>
                    cases is with
                    | false =>
                      have hbd : BD = true := by rw [← hBD.out]; simp
                      subst hbd
                      go_wp2_with fail
                      go_meet
                      case rel => exact ⟨rfl, Below.refl _ _⟩
                    | true =>
                      by_cases y1 : K.length = 52
                      · have z1 : ((K.length : Int) == 52) = true := by simp [y1]
                        have Y1 := Lib.hid y1
                        clear y1
                        have hbd : BD = true := by rw [← hBD.out]; simp [Y1.out]
                        subst hbd
                        go_wp2_with fail
                        go_meet
                        case rel => exact ⟨rfl, Below.refl _ _⟩
                      · have z1 : ((K.length : Int) == 52) = false := by simp; omega
                        have hk52 : K.length < 52 := by omega
                        have HLT := Lib.hid (rletter14_any K.length hk52)
                        have tl := bN_toList [letN K.length]
                        by_cases y2 : a = [letN K.length]
                        · have z2 : (a == [letN K.length]) = true := by rw [y2]; simp
                          have z2n : (a != [letN K.length]) = false := by rw [y2]; simp
                          by_cases y3 : x = []
                          · have hbd : BD = true := by rw [← hBD.out]; simp [y3]
                            subst hbd; subst y3
                            have z3 : (([] : List UInt8).isEmpty) = true := rfl
                            have Y2 := Lib.hid y2
                            clear y2
                            go_wp2_with (first
                              | (go_at_call 41; refine (HLT.out _).mono ?_; rintro e wl ⟨rfl, rfl⟩)
                              | fail)
                            go_meet
                            case rel => exact ⟨rfl, Below.refl _ _⟩
                          · have z3 : (x == []) = false := beq_eq_false_iff_ne.2 y3
                            have z3' : x.isEmpty = false := by rw [List.isEmpty_eq_false_iff]; exact y3
                            have z3'' : decide (x = []) = false := decide_eq_false y3
                            have HWD := Lib.hid (fun W => wordRef_any (bN x) W (by rw [bN_size]; omega))
                            by_cases y6 : x = [45]
                            · have hbd : BD = false := by rw [← hBD.out]; simp [hk52, y2, y6, sayB]
                              subst hbd
                              have z6 : (x == [45]) = true := by rw [y6]; rfl
                              have Y2 := Lib.hid y2; have Y3 := Lib.hid y3; have Y6 := Lib.hid y6
                              clear y2 y3 y6
                              go_wp2_with (first
                                | (go_at_call 41; refine (HLT.out _).mono ?_; rintro e wl ⟨rfl, rfl⟩)
                                | fail)
                              go_meet
                              case rel => exact ⟨rfl, Below.refl _ _⟩
                            · have z6 : (x == [45]) = false := beq_eq_false_iff_ne.2 y6
                              by_cases y7 : x = [115, 101, 119]
                              · have hbd : BD = false := by rw [← hBD.out]; simp [hk52, y2, y7, sayB]
                                subst hbd
                                have z7 : (x == [115, 101, 119]) = true := by rw [y7]; rfl
                                have Y2 := Lib.hid y2; have Y3 := Lib.hid y3; have Y6 := Lib.hid y6; have Y7 := Lib.hid y7
                                clear y2 y3 y6 y7
                                go_wp2_with (first
                                  | (go_at_call 41; refine (HLT.out _).mono ?_; rintro e wl ⟨rfl, rfl⟩)
                                  | fail)
                                go_meet
                                case rel => exact ⟨rfl, Below.refl _ _⟩
                              · have z7 : (x == [115, 101, 119]) = false := beq_eq_false_iff_ne.2 y7
                                obtain ⟨we, hwe⟩ : ∃ we, Hid (wordE (bN x) = we) := ⟨_, Lib.hid rfl⟩
                                rw [hwe.out] at HWD
                                by_cases y8 : we = 0
                                · have hbd : BD = false := by rw [← hBD.out]; have := hwe.out; rw [y8] at this; simp [hk52, y2, y3, sayB, this]
                                  subst hbd
                                  subst y8
                                  have Y2 := Lib.hid y2; have Y3 := Lib.hid y3; have Y6 := Lib.hid y6; have Y7 := Lib.hid y7
                                  clear y2 y3 y6 y7
                                  go_wp2_with (first
                                    | (go_at_call 41; refine (HLT.out _).mono ?_; rintro e wl ⟨rfl, rfl⟩)
                                    | (go_at_call 42; refine (HWD.out _).mono ?_; rintro e wk ⟨rfl, hBk⟩)
                                    | fail)
                                  go_meet
                                  case rel => exact ⟨rfl, hBk⟩
                                · have hbd : BD = true := by rw [← hBD.out]; have := hwe.out; simp [sayB, y6, y7, this, y8]
                                  subst hbd
                                  have z8 : (we == 0) = false := by simpa using y8
                                  have z8n : (we != 0) = true := by simpa using y8
                                  have Y8 := Lib.hid y8; clear y8
                                  have Y2 := Lib.hid y2; have Y3 := Lib.hid y3; have Y6 := Lib.hid y6; have Y7 := Lib.hid y7
                                  clear y2 y3 y6 y7
                                  go_wp2_with (first
                                    | (go_at_call 41; refine (HLT.out _).mono ?_; rintro e wl ⟨rfl, rfl⟩)
                                    | (go_at_call 42; refine (HWD.out _).mono ?_; rintro e wk ⟨rfl, hBk⟩)
                                    | fail)
                                  go_meet
                                  case rel => exact ⟨rfl, hBk⟩
                        · have z2 : (a == [letN K.length]) = false := beq_eq_false_iff_ne.2 y2
                          have z2n : (a != [letN K.length]) = true := by simpa using y2
                          have hbd : BD = true := by rw [← hBD.out]; simp [y2]
                          subst hbd
                          have Y2 := Lib.hid y2
                          clear y2
                          go_wp2_with (first
                            | (go_at_call 41; refine (HLT.out _).mono ?_; rintro e wl ⟨rfl, rfl⟩)
                            | fail)
                          go_meet
                          case rel => exact ⟨rfl, Below.refl _ _⟩
                  case rest =>
                    obtain ⟨rfl, hBd⟩ := hcut
                    have kSd := kS9.below' hBd
                    have hBwd := hBw9.trans (hBd.mono hBw9.size)
                    have hownd := hown9.below hBd
                    have hB5d := hB59.trans (hBd.mono hB59.size)
                    have hzd := hB5d.size
                    have s0 := kSd.cell 0 _ rfl
                    have s1 := kSd.cell 1 _ rfl
                    have f0 := kSd.frozen 0
                    have f1 := kSd.frozen 1
                    have sl := kSd.lt
                    have e4 : IntKind.i64.wrap ((k : Int) + 1) = (k : Int) + 1 := IntWalk.i64_in _ (by omega)
                    cases BD with
                    | true =>
                      have hng : ¬ (is = true ∧ K.length < 52 ∧ a = [letN K.length] ∧ x ≠ [] ∧ sayB x = true) := fun h => by have := hBD.out; rw [decide_eq_true h] at this; cases this
                      have hs := HST.out
                      rw [if_neg hng] at hs
                      simp only [] at hs
                      have HG : Hid (RA = .error (k + 1, 6)) := Lib.hid (by rw [HF1.out, hLK.out, hs]; simp only []; congr 2; omega)
                      clear hng hs
                      go_wp2_with fail
                      (try simp only [Exit.inBlock, Exit.then])
                      refine sheet_ret rfl rfl (g := w.heap.size) (x := .int .i64 0) (y := .slice none 0 0) (by simpa using (kSd.set_ 0 (.int .i64 0)).set_ 1 (.slice none 0 0)) rfl ?_
                      rw [HG.out]
                      exact ⟨(hBwd.setCell (Nat.le_refl _) _).setCell (Nat.le_refl _) _, by first | rfl | (congr 1; simp; omega)⟩
                    | false =>
                      have hng : is = true ∧ K.length < 52 ∧ a = [letN K.length] ∧ x ≠ [] ∧ sayB x = true := by have := hBD.out; simpa using this
                      have hs := HST.out
                      rw [if_pos hng] at hs
                      simp only [] at hs
                      have hk52 := hng.2.1
                      have HS2 := Lib.hid hs
                      clear hng hs
                      have hxl2 := h3k.2
                      go_wp2_with (first
                        | (at_builtin; refine wpList_append_txt rfl (.tmp 120) (.tmp 122) _ rfl w5.heap.size _ j0 _ Tryz.underlying55 hj0 hy0' hy1' hy2' rfl (.slice AK K.length cK) K rfl (hownd.alloc _) wc.heap.size x rfl (cell_new rfl) (by omega) (by simp; omega) ?_; intro v6 w6 ho6 hg6)
                        | fail)
                      go_roundg (gk - 1)
                      case rel =>
                        have hB6 : Below w5.heap.size w5 w6 := (hownd.alloc (.cells #[.string (bN x)] 9)).grown (hB5d.alloc hzd (.cells #[.string (bN x)] 9)) hg6 (by simp; omega)
                        exact ⟨k + 1, K ++ [x], by omega, by omega, by go_num, by simp; omega, Lib.hid (fun y hy => by rcases List.mem_append.1 hy with h | h; exact hKl.out y h; rw [List.mem_singleton.1 h]; omega), Lib.hid (by rw [hLK.out, HS2.out]), ho6, hB6⟩
                      case measure => omega
                | false =>
                  have hLE : lookP [] (X.drop 1) = .ok (K, X.drop k) := by
                    rw [hLK.out]
                    by_cases hlt : k < X.length
                    · rw [lookP_drop K X k hlt, if_neg]
                      have h := hBB.out; rw [decide_eq_true hlt, Bool.true_and] at h; rw [h]; simp
                    · exact lookP_out K X k (by omega)
                  have HF2 : Hid (RA = rowsE L X.length P (rowsP P K N [] (X.drop k))) := Lib.hid (by rw [HF1.out, hLE])
                  have hkX : k ≤ X.length := by omega
                  clear hLE hBB HF1 hLK
                  obtain ⟨w6, hw6⟩ : ∃ w6 : World, w6 = wc := ⟨_, rfl⟩
                  obtain rfl := hw6
                  go_wp2_with fail
                  obtain ⟨wA, hwA⟩ : ∃ wA, Hid (w6.alloc (.cells #[.int .i64 P, .slice none 0 0] 25) = wA) := ⟨_, Lib.hid rfl⟩
                  have hBA : Below w6.heap.size w6 wA := by rw [← hwA.out]; exact (Below.refl _ _).alloc (Nat.le_refl _) _
                  have kBA : Blk wA w6.heap.size 25 #[.int .i64 P, .slice none 0 0] := by rw [← hwA.out]; exact Blk.new w6 _ _
                  rw [hwA.out]
                  clear hwA
                  have hrX6 := hrXc.more (show w5.heap.size ≤ w6.heap.size by omega)
                  have hrK6 := hrKc.more (show wr.heap.size ≤ w6.heap.size by omega)
                  clear hrXc hrKc hownc
                  go_loopw [15, 20, 21, 22] (fun av qv _ _ wr => ∃ (q k : Nat) (v : Value) (acc : List Tri), q ≤ N ∧ qv = .int .i64 q ∧ av = .int .i64 k ∧ k ≤ X.length ∧ Blk wr w6.heap.size 25 #[.int .i64 P, v] ∧ Own 3 Tri.enc wr (w6.heap.size + 1) 44 v acc ∧ acc.length ≤ 24 * q ∧ Hid (∀ x ∈ acc, x.s.size ≤ 1000000) ∧ Hid (RA = rowsE L X.length P (rowsP P K (N - q) acc (X.drop k))) ∧ Below w6.heap.size w6 wr) (fun _ qv _ _ _ => N - (intOf qv).toNat)
                  case atStart => exact ⟨0, k, .slice none 0 0, [], Nat.zero_le _, rfl, rfl, hkX, kBA, Own.nil _ _ _, by simp, Lib.hid (by simp), HF2, hBA⟩
                  case round =>
                    obtain ⟨q, k, v, acc, hqN, rfl, rfl, hk, kB, hown3, hacc, hwd, hRows, hB⟩ := hrel
                    obtain ⟨Av, cv, rfl, hcv, hrv⟩ := Own.rd tri_len hown3
                    have hz := hB.size
                    have kSr := kSc.below' hB
                    have hBwr := hBwc.trans (hB.mono hBwc.size)
                    have s0 := kSr.cell 0 _ rfl
                    have s1 := kSr.cell 1 _ rfl
                    have f0 := kSr.frozen 0
                    have f1 := kSr.frozen 1
                    have sl := kSr.lt
                    have bl := kB.lt
                    by_cases hlt : q < N
                    · have i0' : (q : Int) < (N : Int) := by omega
                      have e1 : IntKind.i64.wrap ((q : Int) + 1) = (q : Int) + 1 := IntWalk.i64_in _ (by omega)
                      by_cases hke : k = X.length
                      · have hg := hRows.out
                        rw [rowsP_miss _ _ _ _ _ _ (by omega) (by omega)] at hg
                        have HG := Lib.hid hg
                        clear hg hRows
                        have z1 : ((k : Int) == (X.length : Int)) = true := by simp; omega
                        have z1p : (k : Int) = (X.length : Int) := by omega
                        have e2 : IntKind.i64.wrap ((X.length : Int) + 1) = (X.length : Int) + 1 := IntWalk.i64_in _ (by omega)
                        clear z1p
                        subst hke
                        go_wp2_with fail
                        (try simp only [Exit.inBlock, Exit.then])
                        refine sheet_ret rfl rfl (g := w.heap.size) (x := .int .i64 0) (y := .slice none 0 0) (by simpa using (kSr.set_ 0 (.int .i64 0)).set_ 1 (.slice none 0 0)) rfl ?_
                        rw [HG.out]
                        exact ⟨(hBwr.setCell (Nat.le_refl _) _).setCell (Nat.le_refl _) _, by first | rfl | (congr 1; simp; omega)⟩
                      · have z1 : ((k : Int) == (X.length : Int)) = false := by rw [beq_eq_false_iff_ne]; omega
                        have hkl : k < X.length := by omega
                        have hg := hRows.out
                        rw [rowsP_step _ _ _ _ _ _ hkl (by omega)] at hg
                        have hgd : X.getD k [] = X[k] := by rw [List.getD_eq_getElem?_getD, List.getElem?_eq_getElem hkl]; rfl
                        rw [hgd] at hg
                        have hsl : X[k].length ≤ 1000000 := HX2.out _ (List.getElem_mem hkl)
                        have hrXr := hrX6.below' hB (Nat.le_refl _)
                        have hrKr := hrK6.below' hB (Nat.le_refl _)
                        obtain ⟨b1, o1, hA1, hb1, hx1⟩ := hrXr.txt hkl
                        cases hA1
                        obtain ⟨sk, hsk⟩ : ∃ s, Hid (X[k] = s) := ⟨_, Lib.hid rfl⟩
                        rw [hsk.out] at hg hx1 hsl
                        have hS1 : wr.drew.cell? ⟨xb, xo + k, none⟩ = some (.string (bN sk)) ∧ wr.drew.cell? ⟨w6.heap.size, 0, none⟩ = some (.int .i64 P) := ⟨hx1, kB.cell 0 _ rfl⟩
                        have hBD := (Below.refl wr.heap.size wr).drew
                        have HROW := Lib.hid (qrow_any P h2 h24 sk hsl wr.drew AK K cK w6.heap.size (hrKr.below' hBD hz) (by have := hBD.size; omega) hK52 hKl.out)
                        unfold QwRet at HROW
                        have e2 : IntKind.i64.wrap ((k : Int) + 1) = (k : Int) + 1 := IntWalk.i64_in _ (by omega)
                        have c1 : (k : Int) < (X.length : Int) := by omega
                        have c2 : (0 : Int) ≤ (k : Int) := by omega
                        cases hrow : rowP P K sk with
                        | none =>
                          rw [hrow] at hg HROW
                          simp only [rowsE] at hg
                          simp only [] at HROW
                          have HG := Lib.hid hg
                          clear hg hRows hrow hke hgd
                          go_wp2_with fail
                          refine wp_region_J (fun w' => w'.cell? ⟨xb, xo + k, none⟩ = some (.string (bN sk)) ∧ w'.cell? ⟨w6.heap.size, 0, none⟩ = some (.int .i64 P)) (fun _ => True) (fun _ => false) (by kernel_rfl) ?_
                          generalize wr.drew = wS at *
                          have hzS := hBD.size
                          refine wpAnyJ_take1 0 rfl (by kernel_rfl) (by kernel_rfl) rfl (by kernel_rfl) (fun _ _ _ h => h) (by first | kernel_rfl | rfl) hS1 (fun w' hSw => (by obtain ⟨z1, z2⟩ := hSw; go_simp; try (with_reducible rfl))) ?_
                          try simp only [Act.put, List.getElem_toArray, List.getElem_cons_succ, List.getElem_cons_zero, List.setIfInBounds_toArray, List.set_cons_zero, List.set_cons_succ]
                          refine wpAnyJ_take1 1 rfl (by kernel_rfl) (by kernel_rfl) rfl (by kernel_rfl) (fun _ _ _ h => h) (by first | kernel_rfl | rfl) hS1 (fun w' hSw => (by obtain ⟨z1, z2⟩ := hSw; go_simp; try (with_reducible rfl))) ?_
                          try simp only [Act.put, List.getElem_toArray, List.getElem_cons_succ, List.getElem_cons_zero, List.setIfInBounds_toArray, List.set_cons_zero, List.set_cons_succ]
                          refine wpAnyJ_take1 2 rfl (by kernel_rfl) (by kernel_rfl) rfl (by kernel_rfl) (fun _ _ _ h => h) (by first | kernel_rfl | rfl) hS1 (fun w' hSw => (by obtain ⟨z1, z2⟩ := hSw; go_simp; try (with_reducible rfl))) ?_
                          try simp only [Act.put, List.getElem_toArray, List.getElem_cons_succ, List.getElem_cons_zero, List.setIfInBounds_toArray, List.set_cons_zero, List.set_cons_succ]
                          refine wpAnyJ_take1 3 rfl (by kernel_rfl) (by kernel_rfl) rfl (by kernel_rfl) (fun _ _ _ h => h) (by first | kernel_rfl | rfl) hS1 (fun w' hSw => (by obtain ⟨z1, z2⟩ := hSw; go_simp; try (with_reducible rfl))) ?_
                          try simp only [Act.put, List.getElem_toArray, List.getElem_cons_succ, List.getElem_cons_zero, List.setIfInBounds_toArray, List.set_cons_zero, List.set_cons_succ]
                          refine wpAnyJ_take1 4 rfl (by kernel_rfl) (by kernel_rfl) rfl (by kernel_rfl) (fun _ _ _ h => h) (by first | kernel_rfl | rfl) hS1 (fun w' hSw => (by obtain ⟨z1, z2⟩ := hSw; go_simp; try (with_reducible rfl))) ?_
                          try simp only [Act.put, List.getElem_toArray, List.getElem_cons_succ, List.getElem_cons_zero, List.setIfInBounds_toArray, List.set_cons_zero, List.set_cons_succ]
                          refine wpAnyJ_take1 5 rfl (by kernel_rfl) (by kernel_rfl) rfl (by kernel_rfl) (fun _ _ _ h => h) (by first | kernel_rfl | rfl) hS1 (fun w' hSw => (by obtain ⟨z1, z2⟩ := hSw; go_simp; try (with_reducible rfl))) ?_
                          try simp only [Act.put, List.getElem_toArray, List.getElem_cons_succ, List.getElem_cons_zero, List.setIfInBounds_toArray, List.set_cons_zero, List.set_cons_succ]
                          refine wpAnyJ_take1 6 rfl (by kernel_rfl) (by kernel_rfl) rfl (by kernel_rfl) (fun _ _ _ h => h) (by first | kernel_rfl | rfl) hS1 (fun w' hSw => (by obtain ⟨z1, z2⟩ := hSw; go_simp; try (with_reducible rfl))) ?_
                          try simp only [Act.put, List.getElem_toArray, List.getElem_cons_succ, List.getElem_cons_zero, List.setIfInBounds_toArray, List.set_cons_zero, List.set_cons_succ]
                          refine wpAnyJ_ready [7] (by kernel_rfl) (by simp) (NextJ.cons rfl (fun K hK => ?_) NextJ.nil)
                          go_simp
                          refine HROW.out.mono ?_
                          rintro e we ⟨hBe, rfl⟩
                          have hSd : we.cell? ⟨xb, xo + k, none⟩ = some (.string (bN sk)) ∧ we.cell? ⟨w6.heap.size, 0, none⟩ = some (.int .i64 P) := ⟨(hBe.cell (lt_of_cell hS1.1)).trans hS1.1, (hBe.cell (lt_of_cell hS1.2)).trans hS1.2⟩
                          go_simp
                          refine hK.out _ _ hSd (fun _ => trivial) ?_
                          clear hK K
                          try simp only [Act.put, List.getElem_toArray, List.getElem_cons_succ, List.getElem_cons_zero, List.setIfInBounds_toArray, List.set_cons_zero, List.set_cons_succ]
                          refine wpAnyJ_take1 8 rfl (by kernel_rfl) (by kernel_rfl) rfl (by kernel_rfl) (fun _ _ _ h => h) (by first | kernel_rfl | rfl) hSd (fun w' hSw => (by obtain ⟨z1, z2⟩ := hSw; go_simp; try (with_reducible rfl))) ?_
                          try simp only [Act.put, List.getElem_toArray, List.getElem_cons_succ, List.getElem_cons_zero, List.setIfInBounds_toArray, List.set_cons_zero, List.set_cons_succ]
                          refine wpAnyJ_take1 9 rfl (by kernel_rfl) (by kernel_rfl) rfl (by kernel_rfl) (fun _ _ _ h => h) (by first | kernel_rfl | rfl) hSd (fun w' hSw => (by obtain ⟨z1, z2⟩ := hSw; go_simp; try (with_reducible rfl))) ?_
                          try simp only [Act.put, List.getElem_toArray, List.getElem_cons_succ, List.getElem_cons_zero, List.setIfInBounds_toArray, List.set_cons_zero, List.set_cons_succ]
                          refine wpAnyJ_take1 10 rfl (by kernel_rfl) (by kernel_rfl) rfl (by kernel_rfl) (fun _ _ _ h => h) (by first | kernel_rfl | rfl) hSd (fun w' hSw => (by obtain ⟨z1, z2⟩ := hSw; go_simp; try (with_reducible rfl))) ?_
                          try simp only [Act.put, List.getElem_toArray, List.getElem_cons_succ, List.getElem_cons_zero, List.setIfInBounds_toArray, List.set_cons_zero, List.set_cons_succ]
                          refine wpAnyJ_take1 11 rfl (by kernel_rfl) (by kernel_rfl) rfl (by kernel_rfl) (fun _ _ _ h => h) (by first | kernel_rfl | rfl) hSd (fun w' hSw => (by obtain ⟨z1, z2⟩ := hSw; go_simp; try (with_reducible rfl))) ?_
                          try simp only [Act.put, List.getElem_toArray, List.getElem_cons_succ, List.getElem_cons_zero, List.setIfInBounds_toArray, List.set_cons_zero, List.set_cons_succ]
                          refine wpAnyJ_take1 12 rfl (by kernel_rfl) (by kernel_rfl) rfl (by kernel_rfl) (fun _ _ _ h => h) (by first | kernel_rfl | rfl) hSd (fun w' hSw => (by obtain ⟨z1, z2⟩ := hSw; go_simp; try (with_reducible rfl))) ?_
                          try simp only [Act.put, List.getElem_toArray, List.getElem_cons_succ, List.getElem_cons_zero, List.setIfInBounds_toArray, List.set_cons_zero, List.set_cons_succ]
                          refine wpAnyJ_done (by kernel_rfl) ?_ _
                          have hBre := hBD.trans (hBe.mono hBD.size)
                          have kSe := kSr.below' hBre
                          have hBwe := hBwr.trans (hBre.mono hBwr.size)
                          clear s0 s1 f0 f1 sl
                          have s0 := kSe.cell 0 _ rfl
                          have s1 := kSe.cell 1 _ rfl
                          have f0 := kSe.frozen 0
                          have f1 := kSe.frozen 1
                          have sl := kSe.lt
                          go_wp2_with fail
                          (try simp only [Exit.inBlock, Exit.then])
                          refine sheet_ret rfl rfl (g := w.heap.size) (x := .int .i64 0) (y := .slice none 0 0) (by simpa using (kSe.set_ 0 (.int .i64 0)).set_ 1 (.slice none 0 0)) rfl ?_
                          rw [HG.out]
                          exact ⟨(hBwe.setCell (Nat.le_refl _) _).setCell (Nat.le_refl _) _, by first | rfl | (congr 1; simp; omega)⟩
                        | some ws =>
                          rw [hrow] at hg HROW
                          simp only [] at hg HROW
                          have HG := Lib.hid hg
                          have hwl := rowP_len hrow
                          have hww := Lib.hid (rowP_words hKl.out hrow)
                          clear hg hRows hrow hke hgd s0 s1 f0 f1 sl
                          go_wp2_with fail
                          refine wp_region_J (fun w' => w'.cell? ⟨xb, xo + k, none⟩ = some (.string (bN sk)) ∧ w'.cell? ⟨w6.heap.size, 0, none⟩ = some (.int .i64 P)) (fun _ => True) (fun _ => false) (by kernel_rfl) ?_
                          generalize wr.drew = wS at *
                          have hzS := hBD.size
                          refine wpAnyJ_take1 0 rfl (by kernel_rfl) (by kernel_rfl) rfl (by kernel_rfl) (fun _ _ _ h => h) (by first | kernel_rfl | rfl) hS1 (fun w' hSw => (by obtain ⟨z1, z2⟩ := hSw; go_simp; try (with_reducible rfl))) ?_
                          try simp only [Act.put, List.getElem_toArray, List.getElem_cons_succ, List.getElem_cons_zero, List.setIfInBounds_toArray, List.set_cons_zero, List.set_cons_succ]
                          refine wpAnyJ_take1 1 rfl (by kernel_rfl) (by kernel_rfl) rfl (by kernel_rfl) (fun _ _ _ h => h) (by first | kernel_rfl | rfl) hS1 (fun w' hSw => (by obtain ⟨z1, z2⟩ := hSw; go_simp; try (with_reducible rfl))) ?_
                          try simp only [Act.put, List.getElem_toArray, List.getElem_cons_succ, List.getElem_cons_zero, List.setIfInBounds_toArray, List.set_cons_zero, List.set_cons_succ]
                          refine wpAnyJ_take1 2 rfl (by kernel_rfl) (by kernel_rfl) rfl (by kernel_rfl) (fun _ _ _ h => h) (by first | kernel_rfl | rfl) hS1 (fun w' hSw => (by obtain ⟨z1, z2⟩ := hSw; go_simp; try (with_reducible rfl))) ?_
                          try simp only [Act.put, List.getElem_toArray, List.getElem_cons_succ, List.getElem_cons_zero, List.setIfInBounds_toArray, List.set_cons_zero, List.set_cons_succ]
                          refine wpAnyJ_take1 3 rfl (by kernel_rfl) (by kernel_rfl) rfl (by kernel_rfl) (fun _ _ _ h => h) (by first | kernel_rfl | rfl) hS1 (fun w' hSw => (by obtain ⟨z1, z2⟩ := hSw; go_simp; try (with_reducible rfl))) ?_
                          try simp only [Act.put, List.getElem_toArray, List.getElem_cons_succ, List.getElem_cons_zero, List.setIfInBounds_toArray, List.set_cons_zero, List.set_cons_succ]
                          refine wpAnyJ_take1 4 rfl (by kernel_rfl) (by kernel_rfl) rfl (by kernel_rfl) (fun _ _ _ h => h) (by first | kernel_rfl | rfl) hS1 (fun w' hSw => (by obtain ⟨z1, z2⟩ := hSw; go_simp; try (with_reducible rfl))) ?_
                          try simp only [Act.put, List.getElem_toArray, List.getElem_cons_succ, List.getElem_cons_zero, List.setIfInBounds_toArray, List.set_cons_zero, List.set_cons_succ]
                          refine wpAnyJ_take1 5 rfl (by kernel_rfl) (by kernel_rfl) rfl (by kernel_rfl) (fun _ _ _ h => h) (by first | kernel_rfl | rfl) hS1 (fun w' hSw => (by obtain ⟨z1, z2⟩ := hSw; go_simp; try (with_reducible rfl))) ?_
                          try simp only [Act.put, List.getElem_toArray, List.getElem_cons_succ, List.getElem_cons_zero, List.setIfInBounds_toArray, List.set_cons_zero, List.set_cons_succ]
                          refine wpAnyJ_take1 6 rfl (by kernel_rfl) (by kernel_rfl) rfl (by kernel_rfl) (fun _ _ _ h => h) (by first | kernel_rfl | rfl) hS1 (fun w' hSw => (by obtain ⟨z1, z2⟩ := hSw; go_simp; try (with_reducible rfl))) ?_
                          try simp only [Act.put, List.getElem_toArray, List.getElem_cons_succ, List.getElem_cons_zero, List.setIfInBounds_toArray, List.set_cons_zero, List.set_cons_succ]
                          refine wpAnyJ_ready [7] (by kernel_rfl) (by simp) (NextJ.cons rfl (fun K hK => ?_) NextJ.nil)
                          go_simp
                          refine HROW.out.mono ?_
                          rintro e we ⟨hBe, vw, rfl, how⟩
                          have hSd : we.cell? ⟨xb, xo + k, none⟩ = some (.string (bN sk)) ∧ we.cell? ⟨w6.heap.size, 0, none⟩ = some (.int .i64 P) := ⟨(hBe.cell (lt_of_cell hS1.1)).trans hS1.1, (hBe.cell (lt_of_cell hS1.2)).trans hS1.2⟩
                          go_simp
                          refine hK.out _ _ hSd (fun _ => trivial) ?_
                          clear hK K
                          try simp only [Act.put, List.getElem_toArray, List.getElem_cons_succ, List.getElem_cons_zero, List.setIfInBounds_toArray, List.set_cons_zero, List.set_cons_succ]
                          refine wpAnyJ_take1 8 rfl (by kernel_rfl) (by kernel_rfl) rfl (by kernel_rfl) (fun _ _ _ h => h) (by first | kernel_rfl | rfl) hSd (fun w' hSw => (by obtain ⟨z1, z2⟩ := hSw; go_simp; try (with_reducible rfl))) ?_
                          try simp only [Act.put, List.getElem_toArray, List.getElem_cons_succ, List.getElem_cons_zero, List.setIfInBounds_toArray, List.set_cons_zero, List.set_cons_succ]
                          refine wpAnyJ_take1 9 rfl (by kernel_rfl) (by kernel_rfl) rfl (by kernel_rfl) (fun _ _ _ h => h) (by first | kernel_rfl | rfl) hSd (fun w' hSw => (by obtain ⟨z1, z2⟩ := hSw; go_simp; try (with_reducible rfl))) ?_
                          try simp only [Act.put, List.getElem_toArray, List.getElem_cons_succ, List.getElem_cons_zero, List.setIfInBounds_toArray, List.set_cons_zero, List.set_cons_succ]
                          refine wpAnyJ_take1 10 rfl (by kernel_rfl) (by kernel_rfl) rfl (by kernel_rfl) (fun _ _ _ h => h) (by first | kernel_rfl | rfl) hSd (fun w' hSw => (by obtain ⟨z1, z2⟩ := hSw; go_simp; try (with_reducible rfl))) ?_
                          try simp only [Act.put, List.getElem_toArray, List.getElem_cons_succ, List.getElem_cons_zero, List.setIfInBounds_toArray, List.set_cons_zero, List.set_cons_succ]
                          refine wpAnyJ_take1 11 rfl (by kernel_rfl) (by kernel_rfl) rfl (by kernel_rfl) (fun _ _ _ h => h) (by first | kernel_rfl | rfl) hSd (fun w' hSw => (by obtain ⟨z1, z2⟩ := hSw; go_simp; try (with_reducible rfl))) ?_
                          try simp only [Act.put, List.getElem_toArray, List.getElem_cons_succ, List.getElem_cons_zero, List.setIfInBounds_toArray, List.set_cons_zero, List.set_cons_succ]
                          refine wpAnyJ_take1 12 rfl (by kernel_rfl) (by kernel_rfl) rfl (by kernel_rfl) (fun _ _ _ h => h) (by first | kernel_rfl | rfl) hSd (fun w' hSw => (by obtain ⟨z1, z2⟩ := hSw; go_simp; try (with_reducible rfl))) ?_
                          try simp only [Act.put, List.getElem_toArray, List.getElem_cons_succ, List.getElem_cons_zero, List.setIfInBounds_toArray, List.set_cons_zero, List.set_cons_succ]
                          refine wpAnyJ_done (by kernel_rfl) ?_ _
                          have hBre := hBD.trans (hBe.mono hBD.size)
                          have hzre := hBre.size
                          obtain ⟨Aw, cw, rfl, hcw, hrw⟩ := Own.rd tri_len how
                          have kBe := kB.below' hBre
                          have ho3 := hown3.below hBre
                          have d0 := kBe.cell 0 _ rfl
                          have d1 := kBe.cell 1 _ rfl
                          have d2 := kBe.frozen 1
                          have dl := kBe.lt
                          go_wp2_with (first
                            | (at_builtin; refine wpList_append_tris rfl (.tmp 157) (.tmp 158) _ rfl (w6.heap.size + 1) _ i0 _ Tryz.underlying23 hi0 hz0' hz1' hz2' rfl (.slice Av acc.length cv) acc rfl ho3 Aw ws cw we.heap.size rfl (fun h => own_none (h ▸ how)) hrw (by omega) (by omega) (by omega) ?_
                               intro v8 w8 ho8 hg8
                               obtain ⟨A8, n8, c8, rfl⟩ : ∃ A n c, v8 = .slice A n c := by
                                 rcases ho8.2 with ⟨h, _⟩ | ⟨g, cap, cur, h, _⟩
                                 · exact ⟨_, _, _, h⟩
                                 · exact ⟨_, _, _, h⟩
                               have kB8 := kBe.grown hg8 (Own.ne_block ho3 kBe (by decide))
                               have t0 := kB8.cell 0 _ rfl
                               have t1 := kB8.cell 1 _ rfl
                               have t2 := kB8.frozen 1
                               have tl := kB8.lt)
                            | fail)
                          have hSm := same_set (same_grown (B := w6.heap.size) hg8 (by omega) (fun k hk => by have := (World.ownsRow.lt ho3 k hk).1; omega)) w6.heap.size 1 (Nat.le_refl _) (.slice A8 n8 c8)
                          have hB8 : Below w6.heap.size w6 (w8.setCell ⟨w6.heap.size, 1, none⟩ (.slice A8 n8 c8)) := (hB.trans (hBre.mono hz)).trans ⟨hSm.os, hSm.tape, hSm.output, by have := hg8.size; simp; omega, fun k hk => hSm.block k hk⟩
                          go_roundw
                          case rel => exact ⟨q + 1, k + 1, .slice A8 n8 c8, acc ++ ws, by omega, by go_num, by go_num, by omega, by simpa using kB8.set_ 1 (.slice A8 n8 c8), ownsRow_setCell_below ho8 (by simp) _, by simp; omega, Lib.hid (fun x hx => by rcases List.mem_append.1 hx with h | h; exact hwd.out x h; exact hww.out x h), by rw [show N - (q + 1) = N - q - 1 from by omega]; exact HG, hB8⟩
                          case measure => simp [intOf]; omega
                    · have i0' : ¬ (q : Int) < (N : Int) := by omega
                      have hqe : N - q = 0 := by omega
                      have hg := hRows.out
                      rw [hqe] at hg
                      have b0 := kB.cell 0 _ rfl
                      have b1 := kB.cell 1 _ rfl
                      have b2 := kB.frozen 1
                      by_cases hkl : k < X.length
                      · have i1 : (k : Int) < (X.length : Int) := by omega
                        have hX3 : X.drop k = X[k] :: X.drop (k + 1) := List.drop_eq_getElem_cons hkl
                        rw [hX3] at hg
                        simp only [rowsP, rowsE, List.length_drop] at hg
                        have HG := Lib.hid hg
                        clear hg hRows hX3 hqe
                        have e2 : IntKind.i64.wrap ((k : Int) + 1) = (k : Int) + 1 := IntWalk.i64_in _ (by omega)
                        go_wp2_with fail
                        (try simp only [Exit.inBlock, Exit.then])
                        refine sheet_ret rfl rfl (g := w.heap.size) (x := .int .i64 0) (y := .slice none 0 0) (by simpa using (kSr.set_ 0 (.int .i64 0)).set_ 1 (.slice none 0 0)) rfl ?_
                        rw [HG.out]
                        exact ⟨(hBwr.setCell (Nat.le_refl _) _).setCell (Nat.le_refl _) _, by first | rfl | (congr 1; simp; omega)⟩
                      · have i1 : ¬ (k : Int) < (X.length : Int) := by omega
                        have hX3 : X.drop k = [] := List.drop_eq_nil_of_le (by omega)
                        rw [hX3] at hg
                        simp only [rowsP, rowsE, endE] at hg
                        clear hRows hX3 hqe
                        by_cases h400' : 400 < acc.length
                        · have hgE : sheetE P acc ≠ 0 := fun e => by have := (okD_of e).len; omega
                          have HG : Hid (RA = .error (0, 6)) := Lib.hid (by rw [hg, if_neg]; unfold drawA; rw [if_neg hgE]; simp [hgE])
                          clear hg
                          have i2 : (400 : Int) < (acc.length : Int) := by omega
                          go_wp2_with fail
                          (try simp only [Exit.inBlock, Exit.then])
                          refine sheet_ret rfl rfl (g := w.heap.size) (x := .int .i64 0) (y := .slice none 0 0) (by simpa using (kSr.set_ 0 (.int .i64 0)).set_ 1 (.slice none 0 0)) rfl ?_
                          rw [HG.out]
                          exact ⟨(hBwr.setCell (Nat.le_refl _) _).setCell (Nat.le_refl _) _, by first | rfl | (congr 1; simp; omega)⟩
                        · have i2 : ¬ (400 : Int) < (acc.length : Int) := by omega
                          have HDR := ur_draw (P : Int) Av acc cv wr wr.heap.size hrv (Nat.le_refl _) (fun i hi => by have := hwd.out _ (List.getElem_mem hi); omega) (by omega)
                          rw [drawI_nat] at HDR
                          obtain ⟨⟨T, E⟩, hTE⟩ : ∃ d, drawA P acc = d := ⟨_, rfl⟩
                          rw [hTE] at hg HDR
                          simp only [] at HDR
                          have HDR2 := Lib.hid HDR
                          clear HDR
                          have bl' := kB.lt
                          by_cases hE0 : E = 0
                          · by_cases hT : T = L
                            · subst hE0
                              subst hT
                              rw [if_pos rfl] at hg
                              have HG := Lib.hid hg
                              clear hg hTE
                              have tT := bN_toList T
                              clear s0 s1 f0 f1 sl
                              go_wp2_with (first
                                | (go_at_call 21; refine HDR2.out.mono ?_; rintro e w9 ⟨rfl, hB9⟩
                                   have kS9 := kSr.below' hB9
                                   have hBw9 := hBwr.trans (hB9.mono hBwr.size)
                                   have s0 := kS9.cell 0 _ rfl
                                   have s1 := kS9.cell 1 _ rfl
                                   have f0 := kS9.frozen 0
                                   have f1 := kS9.frozen 1
                                   have sl := kS9.lt
                                   have k9 := kB.below' hB9
                                   have g0 := k9.cell 0 _ rfl
                                   have g1 := k9.cell 1 _ rfl
                                   have gl := k9.lt
                                   have o9 := hown3.below hB9)
                                | fail)
                              (try simp only [Exit.inBlock, Exit.then])
                              refine sheet_ret rfl rfl (g := w.heap.size) (x := .int .i64 P) (y := .slice Av acc.length cv) (by simpa using (kS9.set_ 0 (.int .i64 P)).set_ 1 (.slice Av acc.length cv)) rfl ?_
                              rw [HG.out]
                              have hww := hBwc.size
                              exact ⟨(hBw9.setCell (Nat.le_refl _) _).setCell (Nat.le_refl _) _, _, rfl, Own.base (ownsRow_setCell_below (ownsRow_setCell_below o9 (by show w.heap.size < w6.heap.size + 1; omega) _) (by show w.heap.size < w6.heap.size + 1; omega) _) (by omega)⟩
                            · have q1 : (T == L) = false := beq_eq_false_iff_ne.2 hT
                              have q1n : (T != L) = true := by simpa using hT
                              have tT := bN_toList T
                              have tL := bN_toList L
                              subst hE0
                              rw [if_neg (by simp [hT])] at hg
                              have HG := Lib.hid hg
                              clear hg hTE hT s0 s1 f0 f1 sl
                              go_wp2_with (first
                                | (go_at_call 21; refine HDR2.out.mono ?_; rintro e w9 ⟨rfl, hB9⟩
                                   have kS9 := kSr.below' hB9
                                   have hBw9 := hBwr.trans (hB9.mono hBwr.size)
                                   have s0 := kS9.cell 0 _ rfl
                                   have s1 := kS9.cell 1 _ rfl
                                   have f0 := kS9.frozen 0
                                   have f1 := kS9.frozen 1
                                   have sl := kS9.lt
                                   have k9 := kB.below' hB9
                                   have g0 := k9.cell 0 _ rfl
                                   have g1 := k9.cell 1 _ rfl
                                   have gl := k9.lt
                                   have o9 := hown3.below hB9)
                                | fail)
                              (try simp only [Exit.inBlock, Exit.then])
                              refine sheet_ret rfl rfl (g := w.heap.size) (x := .int .i64 0) (y := .slice none 0 0) (by simpa using (kS9.set_ 0 (.int .i64 0)).set_ 1 (.slice none 0 0)) rfl ?_
                              rw [HG.out]
                              exact ⟨(hBw9.setCell (Nat.le_refl _) _).setCell (Nat.le_refl _) _, by first | rfl | (congr 1; simp; omega)⟩
                          · have z1 : (E == 0) = false := by simpa using hE0
                            have z2 : (E != 0) = true := by simpa using hE0
                            rw [if_neg (by simp [hE0])] at hg
                            have HG := Lib.hid hg
                            clear hg hTE s0 s1 f0 f1 sl
                            go_wp2_with (first
                              | (go_at_call 21; refine HDR2.out.mono ?_; rintro e w9 ⟨rfl, hB9⟩
                                 have kS9 := kSr.below' hB9
                                 have hBw9 := hBwr.trans (hB9.mono hBwr.size)
                                 have s0 := kS9.cell 0 _ rfl
                                 have s1 := kS9.cell 1 _ rfl
                                 have f0 := kS9.frozen 0
                                 have f1 := kS9.frozen 1
                                 have sl := kS9.lt
                                 have k9 := kB.below' hB9
                                 have g0 := k9.cell 0 _ rfl
                                 have g1 := k9.cell 1 _ rfl
                                 have gl := k9.lt
                                 have o9 := hown3.below hB9)
                              | fail)
                            (try simp only [Exit.inBlock, Exit.then])
                            refine sheet_ret rfl rfl (g := w.heap.size) (x := .int .i64 0) (y := .slice none 0 0) (by simpa using (kS9.set_ 0 (.int .i64 0)).set_ 1 (.slice none 0 0)) rfl ?_
                            rw [HG.out]
                            exact ⟨(hBw9.setCell (Nat.le_refl _) _).setCell (Nat.le_refl _) _, by first | rfl | (congr 1; simp; omega)⟩
          · have HNE : Hid (ne ≠ 0) := Lib.hid yn
            have y0 : (ne == 0) = false := by simpa using yn
            have y1 : (ne != 0) = true := by simpa using yn
            subst ye
            have HG : Hid (RA = .error (1, 6)) := Lib.hid (by rw [HF.out, hHD]; first | rfl | simp [yn])
            clear HF hHD hbd
            go_wp2_with (first
              | (go_at_call 37; rw [hw1.out]; refine HL.out.mono ?_; rintro e w2 ⟨v, rfl, hown, hB2⟩
                 obtain ⟨AX, cX, rfl, hcX, hrd⟩ := Own.rd tenc_len hown
                 have kS2 := kS1.below' hB2
                 have hBw2 := hB1.trans (hB2.mono hB1.size)
                 have hz2 := hB2.size
                 have s0 := kS2.cell 0 _ rfl
                 have s1 := kS2.cell 1 _ rfl
                 have f0 := kS2.frozen 0
                 have f1 := kS2.frozen 1
                 have sl := kS2.lt
                 obtain ⟨xb, xo, hAX, hxb, hx0⟩ := hrd.txt hXn
                 subst hAX
                 rw [HS00.out, Nat.add_zero] at hx0
                 have hxl := lt_of_cell hx0)
              | (go_at_call 38; rw [dgB_bN]; refine (HTH.out _).mono ?_; rintro e w3 ⟨rfl, hB3⟩; clear HTH
                 have kS3 := kS2.below' hB3
                 have hB23 := hB3
                 have hz3 := hB3.size
                 clear s0 s1 f0 f1 sl
                 have s0 := kS3.cell 0 _ rfl
                 have s1 := kS3.cell 1 _ rfl
                 have f0 := kS3.frozen 0
                 have f1 := kS3.frozen 1
                 have sl := kS3.lt)
              | (go_at_call 39; refine (HIA.out _).mono ?_; rintro e w4 ⟨rfl, hB4⟩; clear HIA
                 have kS4 := kS3.below' hB4
                 have hB24 := hB23.trans (hB4.mono hz3)
                 have hz4 := hB24.size
                 clear s0 s1 f0 f1 sl
                 have s0 := kS4.cell 0 _ rfl
                 have s1 := kS4.cell 1 _ rfl
                 have f0 := kS4.frozen 0
                 have f1 := kS4.frozen 1
                 have sl := kS4.lt)
              | (go_at_call 39; refine (HIB.out _).mono ?_; rintro e w5 ⟨rfl, hB5⟩; clear HIB
                 have kS5 := kS4.below' hB5
                 have hB25 := hB24.trans (hB5.mono hz4)
                 have hz5 := hB25.size
                 clear s0 s1 f0 f1 sl
                 have s0 := kS5.cell 0 _ rfl
                 have s1 := kS5.cell 1 _ rfl
                 have f0 := kS5.frozen 0
                 have f1 := kS5.frozen 1
                 have sl := kS5.lt)
              | fail)
            (try simp only [Exit.inBlock, Exit.then])
            refine sheet_ret rfl rfl (g := w.heap.size) (x := .int .i64 0) (y := .slice none 0 0) (by simpa using (kS5.set_ 0 (.int .i64 0)).set_ 1 (.slice none 0 0)) rfl ?_
            rw [HG.out]
            exact ⟨((hBw2.trans (hB25.mono hBw2.size)).setCell (Nat.le_refl _) _).setCell (Nat.le_refl _) _, by first | rfl | (congr 1; simp; omega)⟩
        · have y0 : (pe == 0) = false := by simpa using ye
          have y1 : (pe != 0) = true := by simpa using ye
          have HG : Hid (RA = .error (1, 6)) := Lib.hid (by rw [HF.out, hHD]; first | rfl | simp [ye])
          clear HF hHD hbd
          go_wp2_with (first
            | (go_at_call 37; rw [hw1.out]; refine HL.out.mono ?_; rintro e w2 ⟨v, rfl, hown, hB2⟩
               obtain ⟨AX, cX, rfl, hcX, hrd⟩ := Own.rd tenc_len hown
               have kS2 := kS1.below' hB2
               have hBw2 := hB1.trans (hB2.mono hB1.size)
               have hz2 := hB2.size
               have s0 := kS2.cell 0 _ rfl
               have s1 := kS2.cell 1 _ rfl
               have f0 := kS2.frozen 0
               have f1 := kS2.frozen 1
               have sl := kS2.lt
               obtain ⟨xb, xo, hAX, hxb, hx0⟩ := hrd.txt hXn
               subst hAX
               rw [HS00.out, Nat.add_zero] at hx0
               have hxl := lt_of_cell hx0)
            | (go_at_call 38; rw [dgB_bN]; refine (HTH.out _).mono ?_; rintro e w3 ⟨rfl, hB3⟩; clear HTH
               have kS3 := kS2.below' hB3
               have hB23 := hB3
               have hz3 := hB3.size
               clear s0 s1 f0 f1 sl
               have s0 := kS3.cell 0 _ rfl
               have s1 := kS3.cell 1 _ rfl
               have f0 := kS3.frozen 0
               have f1 := kS3.frozen 1
               have sl := kS3.lt)
            | (go_at_call 39; refine (HIA.out _).mono ?_; rintro e w4 ⟨rfl, hB4⟩; clear HIA
               have kS4 := kS3.below' hB4
               have hB24 := hB23.trans (hB4.mono hz3)
               have hz4 := hB24.size
               clear s0 s1 f0 f1 sl
               have s0 := kS4.cell 0 _ rfl
               have s1 := kS4.cell 1 _ rfl
               have f0 := kS4.frozen 0
               have f1 := kS4.frozen 1
               have sl := kS4.lt)
            | (go_at_call 39; refine (HIB.out _).mono ?_; rintro e w5 ⟨rfl, hB5⟩; clear HIB
               have kS5 := kS4.below' hB5
               have hB25 := hB24.trans (hB5.mono hz4)
               have hz5 := hB25.size
               clear s0 s1 f0 f1 sl
               have s0 := kS5.cell 0 _ rfl
               have s1 := kS5.cell 1 _ rfl
               have f0 := kS5.frozen 0
               have f1 := kS5.frozen 1
               have sl := kS5.lt)
            | fail)
          (try simp only [Exit.inBlock, Exit.then])
          refine sheet_ret rfl rfl (g := w.heap.size) (x := .int .i64 0) (y := .slice none 0 0) (by simpa using (kS5.set_ 0 (.int .i64 0)).set_ 1 (.slice none 0 0)) rfl ?_
          rw [HG.out]
          exact ⟨((hBw2.trans (hB25.mono hBw2.size)).setCell (Nat.le_refl _) _).setCell (Nat.le_refl _) _, by first | rfl | (congr 1; simp; omega)⟩
  · have hf := hRA2.out
    rw [if_pos hE] at hf
    have HF := Lib.hid hf
    clear hf hRA2
    have z0 : (E0 == 0) = false := by simpa using hE
    have z0n : (E0 != 0) = true := by simpa using hE
    go_wp2_with (first
      | (go_at_call 37; rw [hw1.out]; refine HL.out.mono ?_; rintro e w2 ⟨v, rfl, hown, hB2⟩
         obtain ⟨AX, cX, rfl, hcX, hrd⟩ := Own.rd tenc_len hown
         have kS2 := kS1.below' hB2
         have hBw2 := hB1.trans (hB2.mono hB1.size)
         have hz2 := hB2.size
         have s0 := kS2.cell 0 _ rfl
         have s1 := kS2.cell 1 _ rfl
         have f0 := kS2.frozen 0
         have f1 := kS2.frozen 1
         have sl := kS2.lt)
      | fail)
    (try simp only [Exit.inBlock, Exit.then])
    refine sheet_ret rfl rfl (g := w.heap.size) (x := .int .i64 0) (y := .slice none 0 0) (by simpa using (kS2.set_ 0 (.int .i64 0)).set_ 1 (.slice none 0 0)) rfl ?_
    rw [HF.out]
    exact ⟨(hBw2.setCell (Nat.le_refl _) _).setCell (Nat.le_refl _) _, by first | rfl | (congr 1; simp; omega)⟩
end Go.Proofs.YtoccplfnjammjaaGreatDoor

namespace Go.Proofs.YtoccplfnjammjaaGreatDoor
open Go Go.RowKit Tor

theorem rdA_ok {L : List UInt8} {p : Nat} {d : List Tri} (h : readA L = .ok (p, d)) : drawA p d = (L, 0) := by
  unfold readA at h
  split at h
  · cases h
  · unfold readE at h
    split at h
    · cases h
    · split at h
      · rename_i h1; cases h; exact h1
      · cases h
theorem rdA_err {L : List UInt8} {n : Nat} {c : Int} (h : readA L = .error (n, c)) : c ≠ 0 := by
  unfold readA at h
  split at h
  · rename_i h1; cases h; exact h1
  · unfold readE at h
    split at h
    · cases h; decide
    · split at h
      · cases h
      · cases h; decide
theorem same14_zero (w : World) : Calls Tryz.prog 13 #[.agg #[.int .i64 0, .slice none 0 0], .agg #[.int .i64 0, .slice none 0 0]] w (Ret (.bool true) w) :=
  same14_eq none none [] 0 0 0 w 0 (by simp) Rd.nil Rd.nil (Nat.zero_le _)

set_option maxRecDepth 100000 in
set_option maxHeartbeats 8000000 in
theorem lawReads_any (L : List UInt8) (hL9 : L.length ≤ 9223372036854775807) (w : World) (hDt : DtAt w) : Calls Tryz.prog 3 #[.string (bN L)] w (Ret (.bool true) w) := by
  have zs := bN_size L
  by_cases h8 : 8000 < L.length
  · have i1 : (8000 : Int) < (L.length : Int) := by omega
    go_enter Tryz.func3, Tryz.ntmps3
    go_wp2_with (first
      | (go_at_call 10; refine (shown_any w hDt).mono ?_; rintro e w1 ⟨rfl, hB1⟩)
      | fail)
    go_ret
    exact ⟨rfl, hB1⟩
  · have i1 : ¬ (8000 : Int) < (L.length : Int) := by omega
    have hRP := read_any L (by omega) w hDt
    have HRR := Lib.hid (fun W => rread_any L (by omega) W)
    unfold RdRet at hRP HRR
    cases hA : readA L with
    | error nc =>
      obtain ⟨n, c⟩ := nc
      have hc := rdA_err hA
      rw [hA] at hRP HRR
      simp only [] at hRP HRR
      have HRP := Lib.hid hRP
      clear hRP hA
      have z1 : (c == 0) = false := by simpa using hc
      have z2 : decide (c = 0) = false := decide_eq_false hc
      clear hc
      go_enter Tryz.func3, Tryz.ntmps3
      go_wp2_with (first
        | (go_at_call 11; refine HRP.out.mono ?_; rintro e w1 ⟨hB1, rfl⟩; clear HRP
           have hBw1 := hB1
           have hB1x : Below w1.heap.size w1 (w1.alloc (.cells #[.int .i64 0, .slice none 0 0] 25)) := (Below.refl _ _).alloc (Nat.le_refl _) _
           have k1x : Blk (w1.alloc (.cells #[.int .i64 0, .slice none 0 0] 25)) w1.heap.size 25 #[.int .i64 0, .slice none 0 0] := Blk.new w1 _ _
           have hBw1x := hBw1.trans (hB1x.mono hBw1.size)
           have b1l := k1x.lt)
        | (go_at_call 12; refine (HRR.out _).mono ?_; rintro e w2 ⟨hB2, rfl⟩; clear HRR
           have hBw2 := hBw1x.trans (hB2.mono hBw1x.size)
           have k12 := k1x.below' hB2
           have k1c0 := k12.cell 0 _ rfl
           have k1c1 := k12.cell 1 _ rfl
           have k1l := k12.lt
           have hB2x : Below w2.heap.size w2 (w2.alloc (.cells #[.int .i64 0, .slice none 0 0] 25)) := (Below.refl _ _).alloc (Nat.le_refl _) _
           have k2x : Blk (w2.alloc (.cells #[.int .i64 0, .slice none 0 0] 25)) w2.heap.size 25 #[.int .i64 0, .slice none 0 0] := Blk.new w2 _ _
           have hBw2x := hBw2.trans (hB2x.mono hBw2.size)
           have k12x := k12.below' hB2x
           have l0 := k12x.cell 0 _ rfl
           have l1 := k12x.cell 1 _ rfl
           have ll := k12x.lt)
        | (go_at_call 13; refine (same14_zero _).mono ?_; rintro e w3 ⟨rfl, hB3⟩
           have hBw3 := hBw2x.trans (hB3.mono hBw2x.size))
        | (go_at_call 10; refine (shown_any w3 (hDt.below hBw3)).mono ?_; rintro e w4 ⟨rfl, hB4⟩
           have hBw4 := hBw3.trans (hB4.mono hBw3.size))
        | fail)
      go_ret
      exact ⟨rfl, hBw4⟩
    | ok pd =>
      obtain ⟨p, d⟩ := pd
      have hdr := rdA_ok hA
      rw [hA] at hRP HRR
      simp only [] at hRP HRR
      have HRP := Lib.hid hRP
      clear hRP hA
      have hok : OkD p d := by
        have h2 := congrArg Prod.snd hdr
        unfold drawA at h2
        by_cases h0 : sheetE p d = 0
        · exact okD_of h0
        · rw [if_neg h0] at h2; exact absurd h2 h0
      have hdl := hok.len
      have hdw := okD_words hok
      have HDR := Lib.hid (fun (A : Option Addr) (c : Nat) (W : World) (hr : RdT W W.heap.size A d) (hD : DtAt W) => u_draw (p : Int) A d c W W.heap.size hr (Nat.le_refl _) (fun k hk => by have := hdw k hk; omega) (by omega) hD)
      rw [drawI_nat, hdr] at HDR
      simp only [] at HDR
      have tL := bN_toList L
      clear hok hdw hdr
      go_enter Tryz.func3, Tryz.ntmps3
      go_wp2_with (first
        | (go_at_call 11; refine HRP.out.mono ?_; rintro e w1 ⟨hB1, v1, rfl, o1⟩; clear HRP
           obtain ⟨A1, c1, rfl, hc1, d1⟩ := Own.rd tri_len o1
           have hBw1 := hB1
           have hB1x : Below w1.heap.size w1 (w1.alloc (.cells #[.int .i64 p, .slice A1 d.length c1] 25)) := (Below.refl _ _).alloc (Nat.le_refl _) _
           have k1x : Blk (w1.alloc (.cells #[.int .i64 p, .slice A1 d.length c1] 25)) w1.heap.size 25 #[.int .i64 p, .slice A1 d.length c1] := Blk.new w1 _ _
           have hBw1x := hBw1.trans (hB1x.mono hBw1.size)
           have b1l := k1x.lt
           have d1x := d1.below' hB1x (Nat.le_refl _)
           have hz1x := hB1x.size)
        | (go_at_call 12; refine (HRR.out _).mono ?_; rintro e w2 ⟨hB2, v2, rfl, o2⟩; clear HRR
           obtain ⟨A2, c2, rfl, hc2, d2⟩ := Own.rd tri_len o2
           have hBw2 := hBw1x.trans (hB2.mono hBw1x.size)
           have k12 := k1x.below' hB2
           have k1c0 := k12.cell 0 _ rfl
           have k1c1 := k12.cell 1 _ rfl
           have k1l := k12.lt
           have hB2x : Below w2.heap.size w2 (w2.alloc (.cells #[.int .i64 p, .slice A2 d.length c2] 25)) := (Below.refl _ _).alloc (Nat.le_refl _) _
           have k2x : Blk (w2.alloc (.cells #[.int .i64 p, .slice A2 d.length c2] 25)) w2.heap.size 25 #[.int .i64 p, .slice A2 d.length c2] := Blk.new w2 _ _
           have hBw2x := hBw2.trans (hB2x.mono hBw2.size)
           have d12 := d1x.below' hB2 (by omega)
           have hz2 := hB2.size
           have d12x := d12.below' hB2x (by omega)
           have d2x := d2.below' hB2x (Nat.le_refl _)
           have hz2x := hB2x.size
           have k12x := k12.below' hB2x
           have l0 := k12x.cell 0 _ rfl
           have l1 := k12x.cell 1 _ rfl
           have ll := k12x.lt)
        | (go_at_call 13; refine (same14_eq A1 A2 d p c1 c2 _ _ (by omega) (d12x.more (by omega)) (d2x.more (by omega)) (Nat.le_refl _)).mono ?_; rintro e w3 ⟨rfl, hB3⟩
           have hBw3 := hBw2x.trans (hB3.mono hBw2x.size)
           have k13 := k12x.below' hB3
           have m0 := k13.cell 0 _ rfl
           have m1 := k13.cell 1 _ rfl
           have ml := k13.lt
           have d13 := d12x.below' hB3 (by omega)
           have hz3 := hB3.size)
        | (go_at_call 14; refine (HDR.out A1 c1 w3 (d13.more (by omega)) (hDt.below hBw3)).mono ?_; rintro e w4 ⟨rfl, hB4⟩
           have hBw4 := hBw3.trans (hB4.mono hBw3.size))
        | (go_at_call 10; refine (shown_any w4 (hDt.below hBw4)).mono ?_; rintro e w5 ⟨rfl, hB5⟩
           have hBw5 := hBw4.trans (hB5.mono hBw4.size))
        | fail)
      go_ret
      exact ⟨rfl, hBw5⟩
end Go.Proofs.YtoccplfnjammjaaGreatDoor
