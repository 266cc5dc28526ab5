/- The law DiagramDraws, walked. -/
import Derived.Test.YtoccplfnjammjaaGreatDoorDTrA
import Derived.Test.YtoccplfnjammjaaGreatDoorRDDraw
set_option linter.unusedSimpArgs false
set_option linter.unusedVariables false
namespace Go.Proofs.YtoccplfnjammjaaGreatDoor
open Go Go.RowKit Tor

/-- what Draw answers of any sheet -/
def drawI (p : Int) (l : List Tri) : List UInt8 × Int := if sheetE p l = 0 then drawE p.toNat l else ([], sheetE p l)
section
variable (p : Int) (A : Option Addr) (l : List Tri) (c : Nat) (w : World) (H : Nat) (hr : RdT w H A l) (hH : H ≤ w.heap.size)
    (hw : ∀ (k : Nat) (hk : k < l.length), l[k].s.size ≤ 9223372036854775807) (hl : l.length ≤ 1000000)
include hr hH hw hl
theorem u_draw (hDt : DtAt w) : Calls Tryz.prog 14 #[.agg #[.int .i64 p, .slice A l.length c]] w (Ret (.tuple #[.string (bN (drawI p l).1), .int .i64 (drawI p l).2]) w) := by
  unfold drawI
  by_cases h : sheetE p l = 0
  · obtain ⟨P, rfl⟩ := pnat h
    rw [if_pos h, Int.toNat_natCast]
    exact draw_any P A l c w H hr hH hw (okD_of h) hDt
  · rw [if_neg h]; exact draw_bad p A l c w H hr hH hw hl h
theorem ur_draw : Calls Tryz.prog 21 #[.agg #[.int .i64 p, .slice A l.length c]] w (Ret (.tuple #[.string (bN (drawI p l).1), .int .i64 (drawI p l).2]) w) := by
  unfold drawI
  by_cases h : sheetE p l = 0
  · obtain ⟨P, rfl⟩ := pnat h
    rw [if_pos h, Int.toNat_natCast]
    exact rdraw_any P A l c w H hr hH hw (okD_of h)
  · rw [if_neg h]; exact rdraw_bad p A l c w H hr hH hw hl h
end
theorem u_sheet_ok (P : Nat) (A : Option Addr) (l : List Tri) (c : Nat) (w : World) (H : Nat) (hr : RdT w H A l) (hH : H ≤ w.heap.size)
    (hw : ∀ (k : Nat) (hk : k < l.length), l[k].s.size ≤ 9223372036854775807) (ok : OkD P l) : Calls Tryz.prog 22 #[.agg #[.int .i64 P, .slice A l.length c]] w (ShRet w P (sheetD P l) 0) := by
  have h := u_sheet P A l c w H hr hH hw (by have := ok.len; omega)
  unfold shP shL at h
  rw [if_pos ok.chk, if_pos ok.chk, ok.chk, Int.toNat_natCast] at h
  exact h
theorem drawI_ok {p : Int} {l : List Tri} (h : (drawI p l).2 = 0) : ∃ P : Nat, p = (P : Int) ∧ OkD P l ∧ (looksL (sheetD P l)).length ≤ 52 ∧ (drawI p l).1 = textD P l := by
  unfold drawI at h ⊢
  by_cases h0 : sheetE p l = 0
  · obtain ⟨P, rfl⟩ := pnat h0
    rw [if_pos h0, Int.toNat_natCast] at h
    rw [if_pos h0, Int.toNat_natCast]
    unfold drawE at h ⊢
    split at h
    · cases h
    · rename_i h5
      rw [if_neg h5]
      exact ⟨P, rfl, okD_of h0, by omega, rfl⟩
  · rw [if_neg h0] at h; exact absurd h h0
theorem drawI_bad {p : Int} {l : List Tri} (h : (drawI p l).2 ≠ 0) : (drawI p l).1 = [] := by
  unfold drawI at h ⊢
  by_cases h0 : sheetE p l = 0
  · rw [if_pos h0] at h ⊢
    unfold drawE at h ⊢
    split
    · rfl
    · rename_i h5; rw [if_neg h5] at h; exact absurd rfl h
  · rw [if_neg h0]
set_option maxRecDepth 100000 in
set_option maxHeartbeats 8000000 in
theorem lawDraws_any (p : Int) (A : Option Addr) (l : List Tri) (c : Nat) (w : World) (H : Nat) (hr : RdT w H A l) (hH : H ≤ w.heap.size)
    (hw : ∀ (k : Nat) (hk : k < l.length), l[k].s.size ≤ 9223372036854775807) (hl : l.length ≤ 9223372036854775807) (hDt : DtAt w) :
    Calls Tryz.prog 6 #[.agg #[.int .i64 p, .slice A l.length c]] w (Ret (.bool true) w) := by
  have hBA : Below w.heap.size w (w.alloc (.cells #[.int .i64 p, .slice A l.length c] 25)) := (Below.refl _ _).alloc (Nat.le_refl _) _
  have kSA : Blk (w.alloc (.cells #[.int .i64 p, .slice A l.length c] 25)) w.heap.size 25 #[.int .i64 p, .slice A l.length c] := Blk.new w _ _
  have HF := Lib.hid (far_any p A l c 100 _ H (hr.below' hBA hH) (by have := hBA.size; omega) hl hw)
  obtain ⟨wA, hwA⟩ : ∃ wA, Hid (w.alloc (.cells #[.int .i64 p, .slice A l.length c] 25) = wA) := ⟨_, Lib.hid rfl⟩
  rw [hwA.out] at hBA kSA HF
  have HW := Lib.hid hw
  clear hw
  have hlA := kSA.lt
  have A0 := kSA.cell 0 _ rfl
  have A1 := kSA.cell 1 _ rfl
  have hzA := hBA.size
  obtain ⟨FB, hFB⟩ : ∃ b, Hid (farD l 100 = b) := ⟨_, Lib.hid rfl⟩
  rw [hFB.out] at HF
  go_enter Tryz.func6, Tryz.ntmps6
  cases FB with
  | true =>
    go_wp2_with (first
      | (go_at_call 15; rw [hwA.out]; refine HF.out.mono ?_; rintro e w1 ⟨rfl, hB1⟩
         have hBw1 := hBA.trans (hB1.mono hzA))
      | (go_at_call 10; refine (shown_any w1 (hDt.below hBw1)).mono ?_; rintro e w2 ⟨rfl, hB2⟩
         have hBw2 := hBw1.trans (hB2.mono hBw1.size))
      | fail)
    go_ret
    exact ⟨rfl, hBw2⟩
  | false =>
    have hl6 : l.length ≤ 1000000 := by
      have hn := hFB.out
      unfold farD at hn
      simp only [Bool.or_eq_false_iff, decide_eq_false_iff_not] at hn
      omega
    clear hl
    have hD2 := @drawI_ok p l
    have hD3 := @drawI_bad p l
    obtain ⟨⟨T, E⟩, hTE⟩ : ∃ d, drawI p l = d := ⟨_, rfl⟩
    rw [hTE] at hD2 hD3
    simp only [] at hD2 hD3
    have HTE := Lib.hid hTE
    clear hTE
    have tT := bN_toList T
    by_cases hE : E = 0
    · obtain ⟨P, rfl, ok, h52, hT⟩ := hD2 hE
      subst hE
      have HRA := readA_draw ok h52
      rw [← hT] at HRA
      have hTl := textD_len ok h52
      rw [← hT] at hTl
      have hdl : (sheetD P l).length ≤ 1000000 := by rw [sheetD_len ok.inP]; exact hl6
      have HOK := Lib.hid ok
      have HRR := Lib.hid HRA
      obtain ⟨d, hd⟩ : ∃ d, Hid (sheetD P l = d) := ⟨_, Lib.hid rfl⟩
      rw [hd.out] at hdl HRR
      clear hD2 hD3 hT h52 ok HRA
      go_wp2_with (first
        | (go_at_call 15; rw [hwA.out]; refine HF.out.mono ?_; rintro e w1 ⟨rfl, hB1⟩
           have hBw1 := hBA.trans (hB1.mono hzA)
           have kS1 := kSA.below' hB1
           have hz1 := hB1.size
           have a01 := kS1.cell 0 _ rfl
           have a11 := kS1.cell 1 _ rfl
           have al1 := kS1.lt)
        | (go_at_call 14; refine (u_draw _ A l c w1 H (hr.below' hBw1 hH) (by have := (hBw1).size; omega) HW.out hl6 (hDt.below hBw1)).mono ?_; rw [HTE.out]; rintro e w2 ⟨rfl, hB2⟩
           have hBw2 := hBw1.trans (hB2.mono hBw1.size)
           have hz2 := hB2.size
           have kS2 := kS1.below' hB2
           have a02 := kS2.cell 0 _ rfl
           have a12 := kS2.cell 1 _ rfl
           have al2 := kS2.lt)
        | (go_at_call 21; refine (ur_draw _ A l c w2 H (hr.below' hBw2 hH) (by have := (hBw2).size; omega) HW.out hl6).mono ?_; rw [HTE.out]; rintro e w3 ⟨rfl, hB3⟩
           have hBw3 := hBw2.trans (hB3.mono hBw2.size)
           have hz3 := hB3.size
           have kS3 := kS2.below' hB3
           have a03 := kS3.cell 0 _ rfl
           have a13 := kS3.cell 1 _ rfl
           have al3 := kS3.lt)
        | (go_at_call 22; refine (u_sheet_ok P A l c w3 H (hr.below' hBw3 hH) (by have := hBw3.size; omega) HW.out HOK.out).mono ?_; rw [hd.out]; rintro e w4 ⟨A4, c4, rfl, d4_4, lo4, hB4⟩
           have hBw4 := hBw3.trans (hB4.mono hBw3.size)
           have hz4 := hB4.size
           have kS4 := kS3.below' hB4
           have a04 := kS4.cell 0 _ rfl
           have a14 := kS4.cell 1 _ rfl
           have al4 := kS4.lt
           have hBx : Below w4.heap.size w4 (w4.alloc (.cells #[.int .i64 P, .slice A4 d.length c4] 25)) := (Below.refl _ _).alloc (Nat.le_refl _) _
           have k11_x : Blk (w4.alloc (.cells #[.int .i64 P, .slice A4 d.length c4] 25)) w4.heap.size 25 #[.int .i64 P, .slice A4 d.length c4] := Blk.new w4 _ _
           have hBwx := hBw4.trans (hBx.mono hBw4.size)
           have hzx := hBx.size
           have kSx := kS4.below' hBx
           have a0x := kSx.cell 0 _ rfl
           have a1x := kSx.cell 1 _ rfl
           have alx := kSx.lt
           have d4_x := d4_4.below' hBx (by omega))
        | (go_at_call 11; refine (read_any T (by omega) _ (hDt.below hBwx)).mono ?_; rw [HRR.out]; rintro e w5 ⟨hB5, v5, rfl, o5⟩
           obtain ⟨A5, c5, rfl, hc5, d5_5⟩ := Own.rd tri_len o5
           have hBw5 := hBwx.trans (hB5.mono hBwx.size)
           have hz5 := hB5.size
           have kS5 := kSx.below' hB5
           have a05 := kS5.cell 0 _ rfl
           have a15 := kS5.cell 1 _ rfl
           have al5 := kS5.lt
           have d4_5 := d4_x.below' hB5 (by omega)
           have k11_5 := k11_x.below' hB5
           have k11c0_5 := k11_5.cell 0 _ rfl
           have k11c1_5 := k11_5.cell 1 _ rfl
           have k11l_5 := k11_5.lt
           have hBy : Below w5.heap.size w5 (w5.alloc (.cells #[.int .i64 P, .slice A5 d.length c5] 25)) := (Below.refl _ _).alloc (Nat.le_refl _) _
           have k13_y : Blk (w5.alloc (.cells #[.int .i64 P, .slice A5 d.length c5] 25)) w5.heap.size 25 #[.int .i64 P, .slice A5 d.length c5] := Blk.new w5 _ _
           have hBwy := hBw5.trans (hBy.mono hBw5.size)
           have hzy := hBy.size
           have kSy := kS5.below' hBy
           have a0y := kSy.cell 0 _ rfl
           have a1y := kSy.cell 1 _ rfl
           have aly := kSy.lt
           have d4_y := d4_5.below' hBy (by omega)
           have d5_y := d5_5.below' hBy (by omega)
           have k11_y := k11_5.below' hBy
           have k11c0_y := k11_y.cell 0 _ rfl
           have k11c1_y := k11_y.cell 1 _ rfl
           have k11l_y := k11_y.lt
           have k13c0_y := k13_y.cell 0 _ rfl
           have k13c1_y := k13_y.cell 1 _ rfl
           have k13l_y := k13_y.lt)
        | (go_at_call 13; refine (same14_eq A5 A4 d P c5 c4 _ _ hdl (d5_y.more (by omega)) (d4_y.more (by omega)) (Nat.le_refl _)).mono ?_; rintro e w6 ⟨rfl, hB6⟩
           have hBw6 := hBwy.trans (hB6.mono hBwy.size))
        | (go_at_call 10; refine (shown_any w6 (hDt.below hBw6)).mono ?_; rintro e w7 ⟨rfl, hB7⟩
           have hBw7 := hBw6.trans (hB7.mono hBw6.size))
        | fail)
      go_ret
      exact ⟨rfl, hBw7⟩
    · have hE1 : (E == 0) = false := by simpa using hE
      clear hD2 hD3
      go_wp2_with (first
        | (go_at_call 15; rw [hwA.out]; refine HF.out.mono ?_; rintro e w1 ⟨rfl, hB1⟩
           have hBw1 := hBA.trans (hB1.mono hzA)
           have kS1 := kSA.below' hB1
           have hz1 := hB1.size
           have a01 := kS1.cell 0 _ rfl
           have a11 := kS1.cell 1 _ rfl
           have al1 := kS1.lt)
        | (go_at_call 14; refine (u_draw _ A l c w1 H (hr.below' hBw1 hH) (by have := (hBw1).size; omega) HW.out hl6 (hDt.below hBw1)).mono ?_; rw [HTE.out]; rintro e w2 ⟨rfl, hB2⟩
           have hBw2 := hBw1.trans (hB2.mono hBw1.size)
           have hz2 := hB2.size
           have kS2 := kS1.below' hB2
           have a02 := kS2.cell 0 _ rfl
           have a12 := kS2.cell 1 _ rfl
           have al2 := kS2.lt)
        | (go_at_call 21; refine (ur_draw _ A l c w2 H (hr.below' hBw2 hH) (by have := (hBw2).size; omega) HW.out hl6).mono ?_; rw [HTE.out]; rintro e w3 ⟨rfl, hB3⟩
           have hBw3 := hBw2.trans (hB3.mono hBw2.size)
           have hz3 := hB3.size
           have kS3 := kS2.below' hB3
           have a03 := kS3.cell 0 _ rfl
           have a13 := kS3.cell 1 _ rfl
           have al3 := kS3.lt)
        | (go_at_call 10; refine (shown_any w3 (hDt.below hBw3)).mono ?_; rintro e w4 ⟨rfl, hB4⟩
           have hBw4 := hBw3.trans (hB4.mono hBw3.size))
        | fail)
      go_ret
      exact ⟨rfl, hBw4⟩
end Go.Proofs.YtoccplfnjammjaaGreatDoor
