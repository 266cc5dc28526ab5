/- Merged: DLawDraws DExch DLawSame. -/
import Derived.Test.YtoccplfnjammjaaGreatDoorDTrA
import Derived.Test.YtoccplfnjammjaaGreatDoorRDDraw
import Derived.Test.YtoccplfnjammjaaGreatDoorDSwA
import Derived.BigRegion
import Derived.Test.YtoccplfnjammjaaGreatDoorMatch5
set_option linter.unusedSimpArgs false
set_option linter.unusedVariables false
namespace Go.Proofs.YtoccplfnjammjaaGreatDoor
open Go Go.RowKit Tor

/-- what Draw answers of any sheet -/
def drawI (p : Int) (l : List Tri) : List UInt8 × Int := if sheetE p l = 0 then drawE p.toNat l else ([], sheetE p l)
section
variable (p : Int) (A : Option Addr) (l : List Tri) (c : Nat) (w : World) (H : Nat) (hr : RdT w H A l) (hH : H ≤ w.heap.size)
    (hw : ∀ (k : Nat) (hk : k < l.length), l[k].s.size ≤ 9223372036854775807) (hl : l.length ≤ 1000000)
include hr hH hw hl
theorem u_draw (hDt : DtAt w) : Calls Tryz.prog 14 #[.agg #[.int .i64 p, .slice A l.length c]] w (Ret (.tuple #[.string (bN (drawI p l).1), .int .i64 (drawI p l).2]) w) := by
  unfold drawI
  by_cases h : sheetE p l = 0
  · obtain ⟨P, rfl⟩ := pnat h
    rw [if_pos h, Int.toNat_natCast]
    exact draw_any P A l c w H hr hH hw (okD_of h) hDt
  · rw [if_neg h]; exact draw_bad p A l c w H hr hH hw hl h
theorem ur_draw : Calls Tryz.prog 21 #[.agg #[.int .i64 p, .slice A l.length c]] w (Ret (.tuple #[.string (bN (drawI p l).1), .int .i64 (drawI p l).2]) w) := by
  unfold drawI
  by_cases h : sheetE p l = 0
  · obtain ⟨P, rfl⟩ := pnat h
    rw [if_pos h, Int.toNat_natCast]
    exact rdraw_any P A l c w H hr hH hw (okD_of h)
  · rw [if_neg h]; exact rdraw_bad p A l c w H hr hH hw hl h
end
theorem u_sheet_ok (P : Nat) (A : Option Addr) (l : List Tri) (c : Nat) (w : World) (H : Nat) (hr : RdT w H A l) (hH : H ≤ w.heap.size)
    (hw : ∀ (k : Nat) (hk : k < l.length), l[k].s.size ≤ 9223372036854775807) (ok : OkD P l) : Calls Tryz.prog 22 #[.agg #[.int .i64 P, .slice A l.length c]] w (ShRet w P (sheetD P l) 0) := by
  have h := u_sheet P A l c w H hr hH hw (by have := ok.len; omega)
  unfold shP shL at h
  rw [if_pos ok.chk, if_pos ok.chk, ok.chk, Int.toNat_natCast] at h
  exact h
theorem drawI_ok {p : Int} {l : List Tri} (h : (drawI p l).2 = 0) : ∃ P : Nat, p = (P : Int) ∧ OkD P l ∧ (looksL (sheetD P l)).length ≤ 52 ∧ (drawI p l).1 = textD P l := by
  unfold drawI at h ⊢
  by_cases h0 : sheetE p l = 0
  · obtain ⟨P, rfl⟩ := pnat h0
    rw [if_pos h0, Int.toNat_natCast] at h
    rw [if_pos h0, Int.toNat_natCast]
    unfold drawE at h ⊢
    split at h
    · cases h
    · rename_i h5
      rw [if_neg h5]
      exact ⟨P, rfl, okD_of h0, by omega, rfl⟩
  · rw [if_neg h0] at h; exact absurd h h0
theorem drawI_bad {p : Int} {l : List Tri} (h : (drawI p l).2 ≠ 0) : (drawI p l).1 = [] := by
  unfold drawI at h ⊢
  by_cases h0 : sheetE p l = 0
  · rw [if_pos h0] at h ⊢
    unfold drawE at h ⊢
    split
    · rfl
    · rename_i h5; rw [if_neg h5] at h; exact absurd rfl h
  · rw [if_neg h0]
set_option maxRecDepth 100000 in
set_option maxHeartbeats 8000000 in
theorem lawDraws_any (p : Int) (A : Option Addr) (l : List Tri) (c : Nat) (w : World) (H : Nat) (hr : RdT w H A l) (hH : H ≤ w.heap.size)
    (hw : ∀ (k : Nat) (hk : k < l.length), l[k].s.size ≤ 9223372036854775807) (hl : l.length ≤ 9223372036854775807) (hDt : DtAt w) :
    Calls Tryz.prog 6 #[.agg #[.int .i64 p, .slice A l.length c]] w (Ret (.bool true) w) := by
  have hBA : Below w.heap.size w (w.alloc (.cells #[.int .i64 p, .slice A l.length c] 25)) := (Below.refl _ _).alloc (Nat.le_refl _) _
  have kSA : Blk (w.alloc (.cells #[.int .i64 p, .slice A l.length c] 25)) w.heap.size 25 #[.int .i64 p, .slice A l.length c] := Blk.new w _ _
  have HF := Lib.hid (far_any p A l c 100 _ H (hr.below' hBA hH) (by have := hBA.size; omega) hl hw)
  obtain ⟨wA, hwA⟩ : ∃ wA, Hid (w.alloc (.cells #[.int .i64 p, .slice A l.length c] 25) = wA) := ⟨_, Lib.hid rfl⟩
  rw [hwA.out] at hBA kSA HF
  have HW := Lib.hid hw
  clear hw
  have hlA := kSA.lt
  have A0 := kSA.cell 0 _ rfl
  have A1 := kSA.cell 1 _ rfl
  have hzA := hBA.size
  obtain ⟨FB, hFB⟩ : ∃ b, Hid (farD l 100 = b) := ⟨_, Lib.hid rfl⟩
  rw [hFB.out] at HF
  go_enter Tryz.func6, Tryz.ntmps6
  cases FB with
  | true =>
    go_wp2_with (first
      | (go_at_call 15; rw [hwA.out]; refine HF.out.mono ?_; rintro e w1 ⟨rfl, hB1⟩
         have hBw1 := hBA.trans (hB1.mono hzA))
      | (go_at_call 10; refine (shown_any w1 (hDt.below hBw1)).mono ?_; rintro e w2 ⟨rfl, hB2⟩
         have hBw2 := hBw1.trans (hB2.mono hBw1.size))
      | fail)
    go_ret
    exact ⟨rfl, hBw2⟩
  | false =>
    have hl6 : l.length ≤ 1000000 := by
      have hn := hFB.out
      unfold farD at hn
      simp only [Bool.or_eq_false_iff, decide_eq_false_iff_not] at hn
      omega
    clear hl
    have hD2 := @drawI_ok p l
    have hD3 := @drawI_bad p l
    obtain ⟨⟨T, E⟩, hTE⟩ : ∃ d, drawI p l = d := ⟨_, rfl⟩
    rw [hTE] at hD2 hD3
    simp only [] at hD2 hD3
    have HTE := Lib.hid hTE
    clear hTE
    have tT := bN_toList T
    by_cases hE : E = 0
    · obtain ⟨P, rfl, ok, h52, hT⟩ := hD2 hE
      subst hE
      have HRA := readA_draw ok h52
      rw [← hT] at HRA
      have hTl := textD_len ok h52
      rw [← hT] at hTl
      have hdl : (sheetD P l).length ≤ 1000000 := by rw [sheetD_len ok.inP]; exact hl6
      have HOK := Lib.hid ok
      have HRR := Lib.hid HRA
      obtain ⟨d, hd⟩ : ∃ d, Hid (sheetD P l = d) := ⟨_, Lib.hid rfl⟩
      rw [hd.out] at hdl HRR
      clear hD2 hD3 hT h52 ok HRA
      go_wp2_with (first
        | (go_at_call 15; rw [hwA.out]; refine HF.out.mono ?_; rintro e w1 ⟨rfl, hB1⟩
           have hBw1 := hBA.trans (hB1.mono hzA)
           have kS1 := kSA.below' hB1
           have hz1 := hB1.size
           have a01 := kS1.cell 0 _ rfl
           have a11 := kS1.cell 1 _ rfl
           have al1 := kS1.lt)
        | (go_at_call 14; refine (u_draw _ A l c w1 H (hr.below' hBw1 hH) (by have := (hBw1).size; omega) HW.out hl6 (hDt.below hBw1)).mono ?_; rw [HTE.out]; rintro e w2 ⟨rfl, hB2⟩
           have hBw2 := hBw1.trans (hB2.mono hBw1.size)
           have hz2 := hB2.size
           have kS2 := kS1.below' hB2
           have a02 := kS2.cell 0 _ rfl
           have a12 := kS2.cell 1 _ rfl
           have al2 := kS2.lt)
        | (go_at_call 21; refine (ur_draw _ A l c w2 H (hr.below' hBw2 hH) (by have := (hBw2).size; omega) HW.out hl6).mono ?_; rw [HTE.out]; rintro e w3 ⟨rfl, hB3⟩
           have hBw3 := hBw2.trans (hB3.mono hBw2.size)
           have hz3 := hB3.size
           have kS3 := kS2.below' hB3
           have a03 := kS3.cell 0 _ rfl
           have a13 := kS3.cell 1 _ rfl
           have al3 := kS3.lt)
        | (go_at_call 22; refine (u_sheet_ok P A l c w3 H (hr.below' hBw3 hH) (by have := hBw3.size; omega) HW.out HOK.out).mono ?_; rw [hd.out]; rintro e w4 ⟨A4, c4, rfl, d4_4, lo4, hB4⟩
           have hBw4 := hBw3.trans (hB4.mono hBw3.size)
           have hz4 := hB4.size
           have kS4 := kS3.below' hB4
           have a04 := kS4.cell 0 _ rfl
           have a14 := kS4.cell 1 _ rfl
           have al4 := kS4.lt
           have hBx : Below w4.heap.size w4 (w4.alloc (.cells #[.int .i64 P, .slice A4 d.length c4] 25)) := (Below.refl _ _).alloc (Nat.le_refl _) _
           have k11_x : Blk (w4.alloc (.cells #[.int .i64 P, .slice A4 d.length c4] 25)) w4.heap.size 25 #[.int .i64 P, .slice A4 d.length c4] := Blk.new w4 _ _
           have hBwx := hBw4.trans (hBx.mono hBw4.size)
           have hzx := hBx.size
           have kSx := kS4.below' hBx
           have a0x := kSx.cell 0 _ rfl
           have a1x := kSx.cell 1 _ rfl
           have alx := kSx.lt
           have d4_x := d4_4.below' hBx (by omega))
        | (go_at_call 11; refine (read_any T (by omega) _ (hDt.below hBwx)).mono ?_; rw [HRR.out]; rintro e w5 ⟨hB5, v5, rfl, o5⟩
           obtain ⟨A5, c5, rfl, hc5, d5_5⟩ := Own.rd tri_len o5
           have hBw5 := hBwx.trans (hB5.mono hBwx.size)
           have hz5 := hB5.size
           have kS5 := kSx.below' hB5
           have a05 := kS5.cell 0 _ rfl
           have a15 := kS5.cell 1 _ rfl
           have al5 := kS5.lt
           have d4_5 := d4_x.below' hB5 (by omega)
           have k11_5 := k11_x.below' hB5
           have k11c0_5 := k11_5.cell 0 _ rfl
           have k11c1_5 := k11_5.cell 1 _ rfl
           have k11l_5 := k11_5.lt
           have hBy : Below w5.heap.size w5 (w5.alloc (.cells #[.int .i64 P, .slice A5 d.length c5] 25)) := (Below.refl _ _).alloc (Nat.le_refl _) _
           have k13_y : Blk (w5.alloc (.cells #[.int .i64 P, .slice A5 d.length c5] 25)) w5.heap.size 25 #[.int .i64 P, .slice A5 d.length c5] := Blk.new w5 _ _
           have hBwy := hBw5.trans (hBy.mono hBw5.size)
           have hzy := hBy.size
           have kSy := kS5.below' hBy
           have a0y := kSy.cell 0 _ rfl
           have a1y := kSy.cell 1 _ rfl
           have aly := kSy.lt
           have d4_y := d4_5.below' hBy (by omega)
           have d5_y := d5_5.below' hBy (by omega)
           have k11_y := k11_5.below' hBy
           have k11c0_y := k11_y.cell 0 _ rfl
           have k11c1_y := k11_y.cell 1 _ rfl
           have k11l_y := k11_y.lt
           have k13c0_y := k13_y.cell 0 _ rfl
           have k13c1_y := k13_y.cell 1 _ rfl
           have k13l_y := k13_y.lt)
        | (go_at_call 13; refine (same14_eq A5 A4 d P c5 c4 _ _ hdl (d5_y.more (by omega)) (d4_y.more (by omega)) (Nat.le_refl _)).mono ?_; rintro e w6 ⟨rfl, hB6⟩
           have hBw6 := hBwy.trans (hB6.mono hBwy.size))
        | (go_at_call 10; refine (shown_any w6 (hDt.below hBw6)).mono ?_; rintro e w7 ⟨rfl, hB7⟩
           have hBw7 := hBw6.trans (hB7.mono hBw6.size))
        | fail)
      go_ret
      exact ⟨rfl, hBw7⟩
    · have hE1 : (E == 0) = false := by simpa using hE
      clear hD2 hD3
      go_wp2_with (first
        | (go_at_call 15; rw [hwA.out]; refine HF.out.mono ?_; rintro e w1 ⟨rfl, hB1⟩
           have hBw1 := hBA.trans (hB1.mono hzA)
           have kS1 := kSA.below' hB1
           have hz1 := hB1.size
           have a01 := kS1.cell 0 _ rfl
           have a11 := kS1.cell 1 _ rfl
           have al1 := kS1.lt)
        | (go_at_call 14; refine (u_draw _ A l c w1 H (hr.below' hBw1 hH) (by have := (hBw1).size; omega) HW.out hl6 (hDt.below hBw1)).mono ?_; rw [HTE.out]; rintro e w2 ⟨rfl, hB2⟩
           have hBw2 := hBw1.trans (hB2.mono hBw1.size)
           have hz2 := hB2.size
           have kS2 := kS1.below' hB2
           have a02 := kS2.cell 0 _ rfl
           have a12 := kS2.cell 1 _ rfl
           have al2 := kS2.lt)
        | (go_at_call 21; refine (ur_draw _ A l c w2 H (hr.below' hBw2 hH) (by have := (hBw2).size; omega) HW.out hl6).mono ?_; rw [HTE.out]; rintro e w3 ⟨rfl, hB3⟩
           have hBw3 := hBw2.trans (hB3.mono hBw2.size)
           have hz3 := hB3.size
           have kS3 := kS2.below' hB3
           have a03 := kS3.cell 0 _ rfl
           have a13 := kS3.cell 1 _ rfl
           have al3 := kS3.lt)
        | (go_at_call 10; refine (shown_any w3 (hDt.below hBw3)).mono ?_; rintro e w4 ⟨rfl, hB4⟩
           have hBw4 := hBw3.trans (hB4.mono hBw3.size))
        | fail)
      go_ret
      exact ⟨rfl, hBw4⟩
end Go.Proofs.YtoccplfnjammjaaGreatDoor

namespace Go.Proofs.YtoccplfnjammjaaGreatDoor
open Go Go.RowKit Tor

theorem own_len {T : TypeId} {w : World} {base g cap n : Nat} {m : List Tri} (h : TRow T w base g cap m) (hn : m.length = n) : Own 3 Tri.enc w base T (.slice (some ⟨g, 0, none⟩) n cap) m := by subst hn; exact h
/-- what exchanged returns: a sheet that is the same lace -/
def ExRet (w : World) (P : Nat) (l : List Tri) (e : Ending) (w' : World) : Prop := ∃ A m c, e = .returned (.agg #[.int .i64 P, .slice A m.length c]) ∧ RdT w' w'.heap.size A m ∧ TrEq l m ∧ Below w.heap.size w w'
theorem hrd {w : World} {H : Nat} {A : Option Addr} {L : List Int} (h : Rd 1 henc w H A L) {i : Nat} (hi : i < L.length) : ∃ b o, A = some ⟨b, o, none⟩ ∧ b < H ∧ w.cell? ⟨b, o + i, none⟩ = some (.int .u16 L[i]) := by
  obtain ⟨b, o, e, hb, hc⟩ := h (by intro e; subst e; simp at hi)
  have := hc i L[i] (List.getElem?_eq_getElem hi) 0 _ rfl
  simp only [Nat.mul_one, Nat.add_zero] at this
  exact ⟨b, o, e, hb, this⟩
set_option maxRecDepth 100000 in
set_option maxHeartbeats 8000000 in
theorem exchanged_any (P : Nat) (A : Option Addr) (l : List Tri) (c : Nat) (B : Option Addr) (L : List Int) (cB : Nat) (w : World) (H : Nat) (hr : RdT w H A l) (hat : Rd 1 henc w H B L) (hH : H ≤ w.heap.size) (ok : OkD P l) (hnil : A = none → c = 0) (hL : L.length ≤ 200) (hLb : ∀ x ∈ L, 0 ≤ x ∧ x ≤ 65535) :
    Calls Tryz.prog 16 #[.agg #[.int .i64 P, .slice A l.length c], .slice B L.length cB] w (ExRet w P l) := by
  obtain ⟨i0, hi0, hz0', hz1', hz2'⟩ := info_parts infoWork
  have hl4 := ok.len
  have hp24 := ok.p24
  have hB0 : Below w.heap.size w ((w.alloc (.cells #[.int .i64 P, .slice A l.length c] 25)).alloc (.cells #[.int .i64 0, .slice none 0 0] 25)) := ((Below.refl _ _).alloc (Nat.le_refl _) _).alloc (by simp) _
  have kS : Blk ((w.alloc (.cells #[.int .i64 P, .slice A l.length c] 25)).alloc (.cells #[.int .i64 0, .slice none 0 0] 25)) w.heap.size 25 #[.int .i64 P, .slice A l.length c] := (Blk.new w _ _).alloc _
  have kR : Blk ((w.alloc (.cells #[.int .i64 P, .slice A l.length c] 25)).alloc (.cells #[.int .i64 0, .slice none 0 0] 25)) (w.heap.size + 1) 25 #[.int .i64 0, .slice none 0 0] := by have := Blk.new (w.alloc (.cells #[.int .i64 P, .slice A l.length c] 25)) 25 #[.int .i64 0, .slice none 0 0]; rw [World.size_alloc] at this; exact this
  obtain ⟨wo, hwo⟩ : ∃ x, Hid (((w.alloc (.cells #[.int .i64 P, .slice A l.length c] 25)).alloc (.cells #[.int .i64 0, .slice none 0 0] 25)) = x) := ⟨_, Lib.hid rfl⟩
  have hsz : w.heap.size + 2 ≤ wo.heap.size := by rw [← hwo.out]; simp
  rw [hwo.out] at hB0 kS kR
  have HLB := Lib.hid hLb
  clear hLb
  have HOK := Lib.hid ok
  clear ok
  have hro := hr.below' hB0 hH
  have hato := hat.below' hB0 hH
  go_enter Tryz.func16, Tryz.ntmps16
  go_upto_region 1 with fail
  rw [hwo.out]
  go_cut [5] from 10 to 16 (fun gv wx => ∃ (g : Nat) (A5 : Option Addr) (c5 : Nat), gv = .pointer (some ⟨g, 0, none⟩) ∧ wo.heap.size ≤ g ∧ Blk wx g 25 #[.int .i64 P, .slice A5 l.length c5] ∧ Own 3 Tri.enc wx wo.heap.size 44 (.slice A5 l.length c5) l ∧ Below wo.heap.size wo wx)
  case first =>
    as_aux_lemma =>
    have hSS : wo.drew.cell? ⟨w.heap.size, 0, none⟩ = some (.int .i64 P) ∧ wo.drew.cell? ⟨w.heap.size, 1, none⟩ = some (.slice A l.length c) := ⟨kS.cell 0 _ rfl, kS.cell 1 _ rfl⟩
    refine wp_region_J (fun w' => w'.cell? ⟨w.heap.size, 0, none⟩ = some (.int .i64 P) ∧ w'.cell? ⟨w.heap.size, 1, none⟩ = some (.slice A l.length c)) (fun _ => True) (fun _ => false) (by kernel_rfl) ?_
    have hBS : Below wo.heap.size wo wo.drew := (Below.refl _ _).drew
    have hHS : H ≤ wo.heap.size := by omega
    have hrS := hro.below' hBS hHS
    replace hHS := Nat.le_trans hHS hBS.size
    generalize wo.drew = wS at *
    have hzS := hBS.size
    have hTwS : Below wS.heap.size wS wS := Below.refl _ _
    have hSwS := hSS
    have hzwS : wS.heap.size ≤ wS.heap.size := Nat.le_refl _
    (try clear kS)
    (try clear kR)
    (try clear hB0)
    (try clear hwo)
    (try clear hro)
    (try clear hato)
    (try clear HLB)
    (try clear HOK)
    refine wpAnyJ_take1 0 rfl (by kernel_rfl) (by kernel_rfl) rfl (by kernel_rfl) (fun _ _ _ h => h) (by first | kernel_rfl | rfl) hSS (fun w' hSw => (by obtain ⟨q0, q1⟩ := hSw; go_simp; try (with_reducible rfl))) ?_
    try simp only [Act.put, List.getElem_toArray, List.getElem_cons_succ, List.getElem_cons_zero, List.setIfInBounds_toArray, List.set_cons_zero, List.set_cons_succ]
    refine wpAnyJ_take1 1 rfl (by kernel_rfl) (by kernel_rfl) rfl (by kernel_rfl) (fun _ _ _ h => h) (by first | kernel_rfl | rfl) hSS (fun w' hSw => (by obtain ⟨q0, q1⟩ := hSw; go_simp; try (with_reducible rfl))) ?_
    try simp only [Act.put, List.getElem_toArray, List.getElem_cons_succ, List.getElem_cons_zero, List.setIfInBounds_toArray, List.set_cons_zero, List.set_cons_succ]
    refine wpAnyJ_take1 3 rfl (by kernel_rfl) (by kernel_rfl) rfl (by kernel_rfl) (fun _ _ _ h => h) (by first | kernel_rfl | rfl) hSS (fun w' hSw => (by obtain ⟨q0, q1⟩ := hSw; go_simp; try (with_reducible rfl))) ?_
    try simp only [Act.put, List.getElem_toArray, List.getElem_cons_succ, List.getElem_cons_zero, List.setIfInBounds_toArray, List.set_cons_zero, List.set_cons_succ]
    refine wpAnyJ_take1 4 rfl (by kernel_rfl) (by kernel_rfl) rfl (by kernel_rfl) (fun _ _ _ h => h) (by first | kernel_rfl | rfl) hSS (fun w' hSw => (by obtain ⟨q0, q1⟩ := hSw; go_simp; try (with_reducible rfl))) ?_
    try simp only [Act.put, List.getElem_toArray, List.getElem_cons_succ, List.getElem_cons_zero, List.setIfInBounds_toArray, List.set_cons_zero, List.set_cons_succ]
    refine wpAnyJ_ready [2, 7] (by kernel_rfl) (by simp) (NextJ.cons rfl (fun K hK => ?_) (NextJ.cons rfl (fun K hK => ?_) NextJ.nil))
    case' _ =>
      go_simp
      obtain ⟨wz1, hwz1⟩ : ∃ xx, Hid (wS.alloc (.cells #[] 44) = xx) := ⟨_, Lib.hid rfl⟩
      have hBwz1 : Below wS.heap.size wS wz1 := by rw [← hwz1.out]; exact (Below.refl _ _).alloc (Nat.le_refl _) _
      have hnwz1 : wS.heap.size < wz1.heap.size := by rw [← hwz1.out]; simp
      have oEwz1 : Own 3 Tri.enc wz1 wS.heap.size 44 (.slice (some ⟨wS.heap.size, 0, none⟩) 0 0) ([] : List Tri) := by rw [← hwz1.out]; exact own_empty wS _ (Nat.le_refl _) _
      have hTwz1 := hTwS.trans (hBwz1.mono hTwS.size)
      have hzwz1 := hTwz1.size
      have hSwz1 : wz1.cell? ⟨w.heap.size, 0, none⟩ = some (.int .i64 P) ∧ wz1.cell? ⟨w.heap.size, 1, none⟩ = some (.slice A l.length c) := by obtain ⟨q0, q1⟩ := hSS; exact ⟨(hTwz1.cell (lt_of_cell q0)).trans q0, (hTwz1.cell (lt_of_cell q1)).trans q1⟩
      rw [hwz1.out]
      refine hK.out _ _ hSwz1 (fun _ => trivial) ?_
      clear hK K
      try simp only [Act.put, List.getElem_toArray, List.getElem_cons_succ, List.getElem_cons_zero, List.setIfInBounds_toArray, List.set_cons_zero, List.set_cons_succ]
      refine wpAnyJ_ready [5, 7] (by kernel_rfl) (by simp) (NextJ.cons rfl (fun K hK => ?_) (NextJ.cons rfl (fun K hK => ?_) NextJ.nil))
      case' _ =>
        refine step_append_tris rfl _ _ _ rfl wS.heap.size _ i0 _ Tryz.underlying23 hi0 hz0' hz1' hz2' rfl _ [] rfl oEwz1 A l c H rfl hnil (hrS.below' hTwz1 hHS) (by simp) (by omega) (by have := hTwz1.size; omega) ?_
        intro v5 wz2 o5 hgwz2
        have hnwz2 : wz1.heap.size ≤ wz2.heap.size := hgwz2.size
        rw [List.nil_append] at o5
        obtain ⟨A5, c5, rfl, _, _⟩ := Own.rd tri_len o5
        have hTwz2 := oEwz1.grown hTwz1 hgwz2 (by have := hTwz1.size; omega)
        have hzwz2 := hTwz2.size
        have hSwz2 : wz2.cell? ⟨w.heap.size, 0, none⟩ = some (.int .i64 P) ∧ wz2.cell? ⟨w.heap.size, 1, none⟩ = some (.slice A l.length c) := by obtain ⟨q0, q1⟩ := hSS; exact ⟨(hTwz2.cell (lt_of_cell q0)).trans q0, (hTwz2.cell (lt_of_cell q1)).trans q1⟩
        refine hK.out _ _ hSwz2 (fun _ => trivial) ?_
        clear hK K
        try simp only [Act.put, List.getElem_toArray, List.getElem_cons_succ, List.getElem_cons_zero, List.setIfInBounds_toArray, List.set_cons_zero, List.set_cons_succ]
        refine wpAnyJ_take1 6 rfl (by kernel_rfl) (by kernel_rfl) rfl (by kernel_rfl) (fun _ _ _ h => h) (by first | kernel_rfl | rfl) hSwz2 (fun w' hSw => (by obtain ⟨q0, q1⟩ := hSw; go_simp; try (with_reducible rfl))) ?_
        try simp only [Act.put, List.getElem_toArray, List.getElem_cons_succ, List.getElem_cons_zero, List.setIfInBounds_toArray, List.set_cons_zero, List.set_cons_succ]
        refine wpAnyJ_ready [7] (by kernel_rfl) (by simp) (NextJ.cons rfl (fun K hK => ?_) NextJ.nil)
        go_simp
        obtain ⟨wz3, hwz3⟩ : ∃ xx, Hid (wz2.alloc (.cells #[.int .i64 0, .slice none 0 0] 25) = xx) := ⟨_, Lib.hid rfl⟩
        have hBwz3 : Below wz2.heap.size wz2 wz3 := by rw [← hwz3.out]; exact (Below.refl _ _).alloc (Nat.le_refl _) _
        have hnwz3 : wz2.heap.size < wz3.heap.size := by rw [← hwz3.out]; simp
        have k7wz3 : Blk wz3 wz2.heap.size 25 #[.int .i64 0, .slice none 0 0] := by rw [← hwz3.out]; exact Blk.new wz2 _ _
        have hTwz3 := hTwz2.trans (hBwz3.mono hTwz2.size)
        have hzwz3 := hTwz3.size
        have hSwz3 : wz3.cell? ⟨w.heap.size, 0, none⟩ = some (.int .i64 P) ∧ wz3.cell? ⟨w.heap.size, 1, none⟩ = some (.slice A l.length c) := by obtain ⟨q0, q1⟩ := hSS; exact ⟨(hTwz3.cell (lt_of_cell q0)).trans q0, (hTwz3.cell (lt_of_cell q1)).trans q1⟩
        have o5wz3 := o5.below hBwz3
        rw [hwz3.out]
        refine hK.out _ _ hSwz3 (fun _ => trivial) ?_
        clear hK K
        try simp only [Act.put, List.getElem_toArray, List.getElem_cons_succ, List.getElem_cons_zero, List.setIfInBounds_toArray, List.set_cons_zero, List.set_cons_succ]
        refine wpAnyJ_ready [8] (by kernel_rfl) (by simp) (NextJ.cons rfl (fun K hK => ?_) NextJ.nil)
        have qa := k7wz3.cell 0 _ rfl
        have qb := k7wz3.cell 1 _ rfl
        have qf := k7wz3.frozen 0
        have qg := k7wz3.frozen 1
        have ql := k7wz3.lt
        have qt := hTwz3.size
        go_simp
        have kF : Blk ((wz3.setCell ⟨wz2.heap.size, 0, none⟩ (.int .i64 P)).setCell ⟨wz2.heap.size, 1, none⟩ (.slice A5 l.length c5)) wz2.heap.size 25 #[.int .i64 P, (.slice A5 l.length c5)] := by simpa using (k7wz3.set_ 0 (.int .i64 P)).set_ 1 (.slice A5 l.length c5)
        have ne7 : (Value.slice A5 l.length c5).ownBlock ≠ some wz2.heap.size := fun e => (o5wz3.ne_block k7wz3 (by decide)) e.symm
        have oF : Own 3 Tri.enc ((wz3.setCell ⟨wz2.heap.size, 0, none⟩ (.int .i64 P)).setCell ⟨wz2.heap.size, 1, none⟩ (.slice A5 l.length c5)) wS.heap.size 44 (.slice A5 l.length c5) l := ownsRow_setCell_other (ownsRow_setCell_other o5wz3 (by exact ne7) _) (by exact ne7) _
        have hTF : Below wS.heap.size wS ((wz3.setCell ⟨wz2.heap.size, 0, none⟩ (.int .i64 P)).setCell ⟨wz2.heap.size, 1, none⟩ (.slice A5 l.length c5)) := (hTwz3.setCell (by show wS.heap.size ≤ wz2.heap.size; omega) _).setCell (by show wS.heap.size ≤ wz2.heap.size; omega) _
        refine hK.out _ _ (by obtain ⟨q0, q1⟩ := hSS; exact ⟨(hTF.cell (lt_of_cell q0)).trans q0, (hTF.cell (lt_of_cell q1)).trans q1⟩) (fun _ => trivial) ?_
        clear hK K
        try simp only [Act.put, List.getElem_toArray, List.getElem_cons_succ, List.getElem_cons_zero, List.setIfInBounds_toArray, List.set_cons_zero, List.set_cons_succ]
        refine wpAnyJ_done (by kernel_rfl) ?_ _
        clear qa qb qf qg
        go_wp2_with fail
        go_meet
        case rel => exact ⟨wz2.heap.size, A5, c5, rfl, by omega, kF, Own.base oF hzS, hBS.trans (hTF.mono hzS)⟩
      case' _ =>
        go_simp
        obtain ⟨wz4, hwz4⟩ : ∃ xx, Hid (wz1.alloc (.cells #[.int .i64 0, .slice none 0 0] 25) = xx) := ⟨_, Lib.hid rfl⟩
        have hBwz4 : Below wz1.heap.size wz1 wz4 := by rw [← hwz4.out]; exact (Below.refl _ _).alloc (Nat.le_refl _) _
        have hnwz4 : wz1.heap.size < wz4.heap.size := by rw [← hwz4.out]; simp
        have k7wz4 : Blk wz4 wz1.heap.size 25 #[.int .i64 0, .slice none 0 0] := by rw [← hwz4.out]; exact Blk.new wz1 _ _
        have hTwz4 := hTwz1.trans (hBwz4.mono hTwz1.size)
        have hzwz4 := hTwz4.size
        have hSwz4 : wz4.cell? ⟨w.heap.size, 0, none⟩ = some (.int .i64 P) ∧ wz4.cell? ⟨w.heap.size, 1, none⟩ = some (.slice A l.length c) := by obtain ⟨q0, q1⟩ := hSS; exact ⟨(hTwz4.cell (lt_of_cell q0)).trans q0, (hTwz4.cell (lt_of_cell q1)).trans q1⟩
        have oEwz4 := oEwz1.below hBwz4
        rw [hwz4.out]
        refine hK.out _ _ hSwz4 (fun _ => trivial) ?_
        clear hK K
        try simp only [Act.put, List.getElem_toArray, List.getElem_cons_succ, List.getElem_cons_zero, List.setIfInBounds_toArray, List.set_cons_zero, List.set_cons_succ]
        refine wpAnyJ_ready [5] (by kernel_rfl) (by simp) (NextJ.cons rfl (fun K hK => ?_) NextJ.nil)
        refine step_append_tris rfl _ _ _ rfl wS.heap.size _ i0 _ Tryz.underlying23 hi0 hz0' hz1' hz2' rfl _ [] rfl oEwz4 A l c H rfl hnil (hrS.below' hTwz4 hHS) (by simp) (by omega) (by have := hTwz4.size; omega) ?_
        intro v5 wz5 o5 hgwz5
        have hnwz5 : wz4.heap.size ≤ wz5.heap.size := hgwz5.size
        rw [List.nil_append] at o5
        obtain ⟨A5, c5, rfl, _, _⟩ := Own.rd tri_len o5
        have hTwz5 := oEwz4.grown hTwz4 hgwz5 (by have := hTwz4.size; omega)
        have hzwz5 := hTwz5.size
        have hSwz5 : wz5.cell? ⟨w.heap.size, 0, none⟩ = some (.int .i64 P) ∧ wz5.cell? ⟨w.heap.size, 1, none⟩ = some (.slice A l.length c) := by obtain ⟨q0, q1⟩ := hSS; exact ⟨(hTwz5.cell (lt_of_cell q0)).trans q0, (hTwz5.cell (lt_of_cell q1)).trans q1⟩
        have k7wz5 := k7wz4.grown hgwz5 (fun e => by have e2 : wz1.heap.size = wS.heap.size := Option.some.inj e; omega)
        refine hK.out _ _ hSwz5 (fun _ => trivial) ?_
        clear hK K
        try simp only [Act.put, List.getElem_toArray, List.getElem_cons_succ, List.getElem_cons_zero, List.setIfInBounds_toArray, List.set_cons_zero, List.set_cons_succ]
        refine wpAnyJ_take1 6 rfl (by kernel_rfl) (by kernel_rfl) rfl (by kernel_rfl) (fun _ _ _ h => h) (by first | kernel_rfl | rfl) hSwz5 (fun w' hSw => (by obtain ⟨q0, q1⟩ := hSw; go_simp; try (with_reducible rfl))) ?_
        try simp only [Act.put, List.getElem_toArray, List.getElem_cons_succ, List.getElem_cons_zero, List.setIfInBounds_toArray, List.set_cons_zero, List.set_cons_succ]
        refine wpAnyJ_ready [8] (by kernel_rfl) (by simp) (NextJ.cons rfl (fun K hK => ?_) NextJ.nil)
        have qa := k7wz5.cell 0 _ rfl
        have qb := k7wz5.cell 1 _ rfl
        have qf := k7wz5.frozen 0
        have qg := k7wz5.frozen 1
        have ql := k7wz5.lt
        have qt := hTwz5.size
        go_simp
        have kF : Blk ((wz5.setCell ⟨wz1.heap.size, 0, none⟩ (.int .i64 P)).setCell ⟨wz1.heap.size, 1, none⟩ (.slice A5 l.length c5)) wz1.heap.size 25 #[.int .i64 P, (.slice A5 l.length c5)] := by simpa using (k7wz5.set_ 0 (.int .i64 P)).set_ 1 (.slice A5 l.length c5)
        have ne7 : (Value.slice A5 l.length c5).ownBlock ≠ some wz1.heap.size := fun e => (o5.ne_block k7wz5 (by decide)) e.symm
        have oF : Own 3 Tri.enc ((wz5.setCell ⟨wz1.heap.size, 0, none⟩ (.int .i64 P)).setCell ⟨wz1.heap.size, 1, none⟩ (.slice A5 l.length c5)) wS.heap.size 44 (.slice A5 l.length c5) l := ownsRow_setCell_other (ownsRow_setCell_other o5 (by exact ne7) _) (by exact ne7) _
        have hTF : Below wS.heap.size wS ((wz5.setCell ⟨wz1.heap.size, 0, none⟩ (.int .i64 P)).setCell ⟨wz1.heap.size, 1, none⟩ (.slice A5 l.length c5)) := (hTwz5.setCell (by show wS.heap.size ≤ wz1.heap.size; omega) _).setCell (by show wS.heap.size ≤ wz1.heap.size; omega) _
        refine hK.out _ _ (by obtain ⟨q0, q1⟩ := hSS; exact ⟨(hTF.cell (lt_of_cell q0)).trans q0, (hTF.cell (lt_of_cell q1)).trans q1⟩) (fun _ => trivial) ?_
        clear hK K
        try simp only [Act.put, List.getElem_toArray, List.getElem_cons_succ, List.getElem_cons_zero, List.setIfInBounds_toArray, List.set_cons_zero, List.set_cons_succ]
        refine wpAnyJ_done (by kernel_rfl) ?_ _
        clear qa qb qf qg
        go_wp2_with fail
        go_meet
        case rel => exact ⟨wz1.heap.size, A5, c5, rfl, by omega, kF, Own.base oF hzS, hBS.trans (hTF.mono hzS)⟩
    case' _ =>
      go_simp
      obtain ⟨wz6, hwz6⟩ : ∃ xx, Hid (wS.alloc (.cells #[.int .i64 0, .slice none 0 0] 25) = xx) := ⟨_, Lib.hid rfl⟩
      have hBwz6 : Below wS.heap.size wS wz6 := by rw [← hwz6.out]; exact (Below.refl _ _).alloc (Nat.le_refl _) _
      have hnwz6 : wS.heap.size < wz6.heap.size := by rw [← hwz6.out]; simp
      have k7wz6 : Blk wz6 wS.heap.size 25 #[.int .i64 0, .slice none 0 0] := by rw [← hwz6.out]; exact Blk.new wS _ _
      have hTwz6 := hTwS.trans (hBwz6.mono hTwS.size)
      have hzwz6 := hTwz6.size
      have hSwz6 : wz6.cell? ⟨w.heap.size, 0, none⟩ = some (.int .i64 P) ∧ wz6.cell? ⟨w.heap.size, 1, none⟩ = some (.slice A l.length c) := by obtain ⟨q0, q1⟩ := hSS; exact ⟨(hTwz6.cell (lt_of_cell q0)).trans q0, (hTwz6.cell (lt_of_cell q1)).trans q1⟩
      rw [hwz6.out]
      refine hK.out _ _ hSwz6 (fun _ => trivial) ?_
      clear hK K
      try simp only [Act.put, List.getElem_toArray, List.getElem_cons_succ, List.getElem_cons_zero, List.setIfInBounds_toArray, List.set_cons_zero, List.set_cons_succ]
      refine wpAnyJ_ready [2] (by kernel_rfl) (by simp) (NextJ.cons rfl (fun K hK => ?_) NextJ.nil)
      go_simp
      obtain ⟨wz7, hwz7⟩ : ∃ xx, Hid (wz6.alloc (.cells #[] 44) = xx) := ⟨_, Lib.hid rfl⟩
      have hBwz7 : Below wz6.heap.size wz6 wz7 := by rw [← hwz7.out]; exact (Below.refl _ _).alloc (Nat.le_refl _) _
      have hnwz7 : wz6.heap.size < wz7.heap.size := by rw [← hwz7.out]; simp
      have oEwz7 : Own 3 Tri.enc wz7 wS.heap.size 44 (.slice (some ⟨wz6.heap.size, 0, none⟩) 0 0) ([] : List Tri) := by rw [← hwz7.out]; exact own_empty wz6 _ (by have := hTwz6.size; omega) _
      have hTwz7 := hTwz6.trans (hBwz7.mono hTwz6.size)
      have hzwz7 := hTwz7.size
      have hSwz7 : wz7.cell? ⟨w.heap.size, 0, none⟩ = some (.int .i64 P) ∧ wz7.cell? ⟨w.heap.size, 1, none⟩ = some (.slice A l.length c) := by obtain ⟨q0, q1⟩ := hSS; exact ⟨(hTwz7.cell (lt_of_cell q0)).trans q0, (hTwz7.cell (lt_of_cell q1)).trans q1⟩
      have k7wz7 := k7wz6.below' hBwz7
      rw [hwz7.out]
      refine hK.out _ _ hSwz7 (fun _ => trivial) ?_
      clear hK K
      try simp only [Act.put, List.getElem_toArray, List.getElem_cons_succ, List.getElem_cons_zero, List.setIfInBounds_toArray, List.set_cons_zero, List.set_cons_succ]
      refine wpAnyJ_ready [5] (by kernel_rfl) (by simp) (NextJ.cons rfl (fun K hK => ?_) NextJ.nil)
      refine step_append_tris rfl _ _ _ rfl wS.heap.size _ i0 _ Tryz.underlying23 hi0 hz0' hz1' hz2' rfl _ [] rfl oEwz7 A l c H rfl hnil (hrS.below' hTwz7 hHS) (by simp) (by omega) (by have := hTwz7.size; omega) ?_
      intro v5 wz8 o5 hgwz8
      have hnwz8 : wz7.heap.size ≤ wz8.heap.size := hgwz8.size
      rw [List.nil_append] at o5
      obtain ⟨A5, c5, rfl, _, _⟩ := Own.rd tri_len o5
      have hTwz8 := oEwz7.grown hTwz7 hgwz8 (by have := hTwz7.size; omega)
      have hzwz8 := hTwz8.size
      have hSwz8 : wz8.cell? ⟨w.heap.size, 0, none⟩ = some (.int .i64 P) ∧ wz8.cell? ⟨w.heap.size, 1, none⟩ = some (.slice A l.length c) := by obtain ⟨q0, q1⟩ := hSS; exact ⟨(hTwz8.cell (lt_of_cell q0)).trans q0, (hTwz8.cell (lt_of_cell q1)).trans q1⟩
      have k7wz8 := k7wz7.grown hgwz8 (fun e => by have e2 : wS.heap.size = wz6.heap.size := Option.some.inj e; omega)
      refine hK.out _ _ hSwz8 (fun _ => trivial) ?_
      clear hK K
      try simp only [Act.put, List.getElem_toArray, List.getElem_cons_succ, List.getElem_cons_zero, List.setIfInBounds_toArray, List.set_cons_zero, List.set_cons_succ]
      refine wpAnyJ_take1 6 rfl (by kernel_rfl) (by kernel_rfl) rfl (by kernel_rfl) (fun _ _ _ h => h) (by first | kernel_rfl | rfl) hSwz8 (fun w' hSw => (by obtain ⟨q0, q1⟩ := hSw; go_simp; try (with_reducible rfl))) ?_
      try simp only [Act.put, List.getElem_toArray, List.getElem_cons_succ, List.getElem_cons_zero, List.setIfInBounds_toArray, List.set_cons_zero, List.set_cons_succ]
      refine wpAnyJ_ready [8] (by kernel_rfl) (by simp) (NextJ.cons rfl (fun K hK => ?_) NextJ.nil)
      have qa := k7wz8.cell 0 _ rfl
      have qb := k7wz8.cell 1 _ rfl
      have qf := k7wz8.frozen 0
      have qg := k7wz8.frozen 1
      have ql := k7wz8.lt
      have qt := hTwz8.size
      go_simp
      have kF : Blk ((wz8.setCell ⟨wS.heap.size, 0, none⟩ (.int .i64 P)).setCell ⟨wS.heap.size, 1, none⟩ (.slice A5 l.length c5)) wS.heap.size 25 #[.int .i64 P, (.slice A5 l.length c5)] := by simpa using (k7wz8.set_ 0 (.int .i64 P)).set_ 1 (.slice A5 l.length c5)
      have ne7 : (Value.slice A5 l.length c5).ownBlock ≠ some wS.heap.size := fun e => (o5.ne_block k7wz8 (by decide)) e.symm
      have oF : Own 3 Tri.enc ((wz8.setCell ⟨wS.heap.size, 0, none⟩ (.int .i64 P)).setCell ⟨wS.heap.size, 1, none⟩ (.slice A5 l.length c5)) wS.heap.size 44 (.slice A5 l.length c5) l := ownsRow_setCell_other (ownsRow_setCell_other o5 (by exact ne7) _) (by exact ne7) _
      have hTF : Below wS.heap.size wS ((wz8.setCell ⟨wS.heap.size, 0, none⟩ (.int .i64 P)).setCell ⟨wS.heap.size, 1, none⟩ (.slice A5 l.length c5)) := (hTwz8.setCell (by show wS.heap.size ≤ wS.heap.size; omega) _).setCell (by show wS.heap.size ≤ wS.heap.size; omega) _
      refine hK.out _ _ (by obtain ⟨q0, q1⟩ := hSS; exact ⟨(hTF.cell (lt_of_cell q0)).trans q0, (hTF.cell (lt_of_cell q1)).trans q1⟩) (fun _ => trivial) ?_
      clear hK K
      try simp only [Act.put, List.getElem_toArray, List.getElem_cons_succ, List.getElem_cons_zero, List.setIfInBounds_toArray, List.set_cons_zero, List.set_cons_succ]
      refine wpAnyJ_done (by kernel_rfl) ?_ _
      clear qa qb qf qg
      go_wp2_with fail
      go_meet
      case rel => exact ⟨wS.heap.size, A5, c5, rfl, by omega, kF, Own.base oF hzS, hBS.trans (hTF.mono hzS)⟩
  case rest =>
    obtain ⟨g, A5, c5, rfl, hg, kT, oT, hBT⟩ := hcut
    have hBwc := hB0.trans (hBT.mono (by omega))
    have kRc := kR.below' hBT
    have hatc := hato.below' hBT (by omega)
    go_wp2_with fail
    clear kS kR hro hato hwo
    obtain ⟨wb, hwb⟩ : ∃ wb : World, wb = wc := ⟨_, rfl⟩
    obtain rfl := hwb
    go_loopg [6] L.length (fun gk iv wr => ∃ (i : Nat) (m : List Tri), i + gk = L.length ∧ iv = .int .i64 i ∧ Hid (TrEq l m) ∧ Hid (m.length = l.length) ∧ Own 3 Tri.enc wr wo.heap.size 44 (.slice A5 l.length c5) m ∧ Blk wr g 25 #[.int .i64 P, .slice A5 l.length c5] ∧ Below wo.heap.size wb wr)
    case atStart => exact ⟨0, l, by omega, rfl, Lib.hid (TrEq.refl l), Lib.hid rfl, oT, kT, Below.refl _ _⟩
    case round =>
      obtain ⟨i, m, hig, rfl, htr, hml, hown, kB, hB⟩ := hrel
      have hz := hB.size
      have hBz := hBT.size
      have hBw := hBwc.trans (hB.mono (by omega))
      have kRr := kRc.below hB (by omega)
      have s0 := kB.cell 0 _ rfl
      have s1 := kB.cell 1 _ rfl
      have sl := kB.lt
      by_cases hi : i < L.length
      · by_cases hl1 : 1 < l.length
        · have hm2 := hml.out
          obtain ⟨gb, cap, hv, hT⟩ := TRow.of (T := 44) (by intro e; rw [e] at hm2; simp at hm2; omega) hown
          injection hv with e1 e2 e3
          subst e1
          subst e3
          clear e2
          obtain ⟨bL, oL, hBL, hbL, a0⟩ := hrd (hatc.below (hB.mono (show H ≤ wo.heap.size by omega))) hi
          subst hBL
          have hab := HLB.out L[i] (List.getElem_mem hi)
          obtain ⟨a, ha⟩ : ∃ a, Hid (L[i] = a) := ⟨_, Lib.hid rfl⟩
          rw [ha.out] at hab a0
          obtain ⟨k, hk⟩ : ∃ k : Nat, Hid (a % ((l.length : Int) - 1) = (k : Int)) := ⟨(a % ((l.length : Int) - 1)).toNat, Lib.hid (by have := Int.emod_nonneg a (show (l.length : Int) - 1 ≠ 0 by omega); omega)⟩
          have hk1 := hk.out
          have hkl : k + 1 < l.length := by have := Int.emod_lt_of_pos a (show (0 : Int) < (l.length : Int) - 1 by omega); omega
          have e5 : IntKind.i64.wrap ((i : Int) + 1) = (i : Int) + 1 := IntWalk.i64_in _ (by omega)
          have e6 : IntKind.i64.wrap ((k : Int) + 1) = (k : Int) + 1 := IntWalk.i64_in _ (by omega)
          have e7 : IntKind.i64.wrap ((l.length : Int) - 1) = (l.length : Int) - 1 := IntWalk.i64_in _ (by omega)
          have i1 : (i : Int) < (L.length : Int) := by omega
          have i2 : (0 : Int) ≤ (i : Int) := by omega
          have l1 : (1 : Int) < (l.length : Int) := by omega
          have al := lt_of_cell a0
          clear hbL
          have HM2 := Lib.hid hm2
          clear hm2
          go_wp2_with fail
          go_quiet (fail)
          have hBqr : Below wr.heap.size wr (wr.drewN nq) := (Below.refl _ _).drewN nq
          have hBq := hB.drewN nq
          have hTq := hT.below hBqr
          have kBq := kB.below' hBqr
          have kRq := kRr.below' hBqr
          generalize wr.drewN nq = wq at hBq hTq kBq kRq hBqr ⊢
          clear s0 s1 sl a0 al hT kB kRr hown
          have hzq := hBq.size
          have hzq' : wo.heap.size ≤ wq.heap.size := by omega
          go_upto_region 6 with fail
          go_cut [7, 8, 9] from 17 to 64 (fun kv av bv wx => kv = .int .i64 (k : Int) ∧ ∃ ga gd : Nat, av = .pointer (some ⟨ga, 0, none⟩) ∧ bv = .pointer (some ⟨gd, 0, none⟩) ∧ wq.heap.size ≤ ga ∧ wq.heap.size ≤ gd ∧ Blk wx ga 44 #[.int .i64 (xAt m k).a, .int .i64 (xAt m k).b, .string (xAt m k).s] ∧ Blk wx gd 44 #[.int .i64 (xAt m (k + 1)).a, .int .i64 (xAt m (k + 1)).b, .string (xAt m (k + 1)).s] ∧ Below wq.heap.size wq wx)
          case first =>
            as_aux_lemma =>
              have hkm : k < m.length := by rw [HM2.out]; omega
              have hkm1 : k + 1 < m.length := by rw [HM2.out]; omega
              obtain ⟨c0, c1, c2⟩ := hTq.cells hkm
              obtain ⟨d0, d1, d2⟩ := hTq.cells hkm1
              have hck := kBq.cell 1 _ rfl
              have lg := kBq.lt
              have lb := hTq.lt
              have k0 : (0 : Int) ≤ (k : Int) := by omega
              have k1 : (k : Int) < (l.length : Int) := by omega
              have k2 : ¬ (k : Int) < 0 := by omega
              have k3 : (k : Int) + 1 < (l.length : Int) := by omega
              have k4 : (0 : Int) ≤ (k : Int) + 1 := by omega
              have k5 : ¬ (k : Int) + 1 < 0 := by omega
              generalize xAt m k = x at *
              generalize xAt m (k + 1) = y at *
              have hSS : wq.drew.cell? ⟨g, 1, none⟩ = some (.slice (some ⟨gb, 0, none⟩) l.length c5) ∧ wq.drew.cell? ⟨gb, k * 3, none⟩ = some (.int .i64 x.a) ∧ wq.drew.cell? ⟨gb, k * 3 + 1, none⟩ = some (.int .i64 x.b) ∧ wq.drew.cell? ⟨gb, k * 3 + 2, none⟩ = some (.string x.s) ∧ wq.drew.cell? ⟨gb, (k + 1) * 3, none⟩ = some (.int .i64 y.a) ∧ wq.drew.cell? ⟨gb, (k + 1) * 3 + 1, none⟩ = some (.int .i64 y.b) ∧ wq.drew.cell? ⟨gb, (k + 1) * 3 + 2, none⟩ = some (.string y.s) := ⟨hck, c0, c1, c2, d0, d1, d2⟩
              refine wp_region_J (fun w' => w'.cell? ⟨g, 1, none⟩ = some (.slice (some ⟨gb, 0, none⟩) l.length c5) ∧ w'.cell? ⟨gb, k * 3, none⟩ = some (.int .i64 x.a) ∧ w'.cell? ⟨gb, k * 3 + 1, none⟩ = some (.int .i64 x.b) ∧ w'.cell? ⟨gb, k * 3 + 2, none⟩ = some (.string x.s) ∧ w'.cell? ⟨gb, (k + 1) * 3, none⟩ = some (.int .i64 y.a) ∧ w'.cell? ⟨gb, (k + 1) * 3 + 1, none⟩ = some (.int .i64 y.b) ∧ w'.cell? ⟨gb, (k + 1) * 3 + 2, none⟩ = some (.string y.s)) (fun _ => True) (fun _ => false) (by kernel_rfl) ?_
              have hBS : Below wq.heap.size wq wq.drew := (Below.refl _ _).drew
              clear hck c0 c1 c2 d0 d1 d2 kBq kRq hTq hBqr
              generalize wq.drew = wS at *
              have hzS := hBS.size
              have hTwS : Below wS.heap.size wS wS := Below.refl _ _
              have hSwS := hSS
              refine wpAnyJ_take1 0 rfl (by kernel_rfl) (by kernel_rfl) rfl (by kernel_rfl) (fun _ _ _ h => h) (by first | kernel_rfl | rfl) hSS (fun w' hSw => (by obtain ⟨q0, q1, q2, q3, q4, q5, q6⟩ := hSw; go_simp; try (with_reducible rfl))) ?_
              try simp only [Act.put, List.getElem_toArray, List.getElem_cons_succ, List.getElem_cons_zero, List.setIfInBounds_toArray, List.set_cons_zero, List.set_cons_succ]
              refine wpAnyJ_take1 1 rfl (by kernel_rfl) (by kernel_rfl) rfl (by kernel_rfl) (fun _ _ _ h => h) (by first | kernel_rfl | rfl) hSS (fun w' hSw => (by obtain ⟨q0, q1, q2, q3, q4, q5, q6⟩ := hSw; go_simp; try (with_reducible rfl))) ?_
              try simp only [Act.put, List.getElem_toArray, List.getElem_cons_succ, List.getElem_cons_zero, List.setIfInBounds_toArray, List.set_cons_zero, List.set_cons_succ]
              refine wpAnyJ_take1 2 rfl (by kernel_rfl) (by kernel_rfl) rfl (by kernel_rfl) (fun _ _ _ h => h) (by first | kernel_rfl | rfl) hSS (fun w' hSw => (by obtain ⟨q0, q1, q2, q3, q4, q5, q6⟩ := hSw; go_simp; try (with_reducible rfl))) ?_
              try simp only [Act.put, List.getElem_toArray, List.getElem_cons_succ, List.getElem_cons_zero, List.setIfInBounds_toArray, List.set_cons_zero, List.set_cons_succ]
              refine wpAnyJ_take1 3 rfl (by kernel_rfl) (by kernel_rfl) rfl (by kernel_rfl) (fun _ _ _ h => h) (by first | kernel_rfl | rfl) hSS (fun w' hSw => (by obtain ⟨q0, q1, q2, q3, q4, q5, q6⟩ := hSw; go_simp; try (with_reducible rfl))) ?_
              try simp only [Act.put, List.getElem_toArray, List.getElem_cons_succ, List.getElem_cons_zero, List.setIfInBounds_toArray, List.set_cons_zero, List.set_cons_succ]
              refine wpAnyJ_take1 4 rfl (by kernel_rfl) (by kernel_rfl) rfl (by kernel_rfl) (fun _ _ _ h => h) (by first | kernel_rfl | rfl) hSS (fun w' hSw => (by obtain ⟨q0, q1, q2, q3, q4, q5, q6⟩ := hSw; go_simp; try (with_reducible rfl))) ?_
              try simp only [Act.put, List.getElem_toArray, List.getElem_cons_succ, List.getElem_cons_zero, List.setIfInBounds_toArray, List.set_cons_zero, List.set_cons_succ]
              refine wpAnyJ_take1 5 rfl (by kernel_rfl) (by kernel_rfl) rfl (by kernel_rfl) (fun _ _ _ h => h) (by first | kernel_rfl | rfl) hSS (fun w' hSw => (by obtain ⟨q0, q1, q2, q3, q4, q5, q6⟩ := hSw; go_simp; try (with_reducible rfl))) ?_
              try simp only [Act.put, List.getElem_toArray, List.getElem_cons_succ, List.getElem_cons_zero, List.setIfInBounds_toArray, List.set_cons_zero, List.set_cons_succ]
              refine wpAnyJ_take1 6 rfl (by kernel_rfl) (by kernel_rfl) rfl (by kernel_rfl) (fun _ _ _ h => h) (by first | kernel_rfl | rfl) hSS (fun w' hSw => (by obtain ⟨q0, q1, q2, q3, q4, q5, q6⟩ := hSw; go_simp; try (with_reducible rfl))) ?_
              try simp only [Act.put, List.getElem_toArray, List.getElem_cons_succ, List.getElem_cons_zero, List.setIfInBounds_toArray, List.set_cons_zero, List.set_cons_succ]
              refine wpAnyJ_take1 7 rfl (by kernel_rfl) (by kernel_rfl) rfl (by kernel_rfl) (fun _ _ _ h => h) (by first | kernel_rfl | rfl) hSS (fun w' hSw => (by obtain ⟨q0, q1, q2, q3, q4, q5, q6⟩ := hSw; go_simp; try (with_reducible rfl))) ?_
              try simp only [Act.put, List.getElem_toArray, List.getElem_cons_succ, List.getElem_cons_zero, List.setIfInBounds_toArray, List.set_cons_zero, List.set_cons_succ]
              refine wpAnyJ_take1 8 rfl (by kernel_rfl) (by kernel_rfl) rfl (by kernel_rfl) (fun _ _ _ h => h) (by first | kernel_rfl | rfl) hSS (fun w' hSw => (by obtain ⟨q0, q1, q2, q3, q4, q5, q6⟩ := hSw; go_simp; try (with_reducible rfl))) ?_
              try simp only [Act.put, List.getElem_toArray, List.getElem_cons_succ, List.getElem_cons_zero, List.setIfInBounds_toArray, List.set_cons_zero, List.set_cons_succ]
              refine wpAnyJ_take1 9 rfl (by kernel_rfl) (by kernel_rfl) rfl (by kernel_rfl) (fun _ _ _ h => h) (by first | kernel_rfl | rfl) hSS (fun w' hSw => (by obtain ⟨q0, q1, q2, q3, q4, q5, q6⟩ := hSw; go_simp; try (with_reducible rfl))) ?_
              try simp only [Act.put, List.getElem_toArray, List.getElem_cons_succ, List.getElem_cons_zero, List.setIfInBounds_toArray, List.set_cons_zero, List.set_cons_succ]
              refine wpAnyJ_take1 10 rfl (by kernel_rfl) (by kernel_rfl) rfl (by kernel_rfl) (fun _ _ _ h => h) (by first | kernel_rfl | rfl) hSS (fun w' hSw => (by obtain ⟨q0, q1, q2, q3, q4, q5, q6⟩ := hSw; go_simp; try (with_reducible rfl))) ?_
              try simp only [Act.put, List.getElem_toArray, List.getElem_cons_succ, List.getElem_cons_zero, List.setIfInBounds_toArray, List.set_cons_zero, List.set_cons_succ]
              refine wpAnyJ_ready [11, 12] (by kernel_rfl) (by simp) (NextJ.cons rfl (fun K hK => ?_) (NextJ.cons rfl (fun K hK => ?_) NextJ.nil))
              case' _ =>
                go_simp
                obtain ⟨wz9, hwz9⟩ : ∃ xx, Hid (wS.alloc (.cells #[.int .i64 0, .int .i64 0, .string ⟨#[]⟩] 44) = xx) := ⟨_, Lib.hid rfl⟩
                have hBwz9 : Below wS.heap.size wS wz9 := by rw [← hwz9.out]; exact (Below.refl _ _).alloc (Nat.le_refl _) _
                have hnwz9 : wS.heap.size < wz9.heap.size := by rw [← hwz9.out]; simp
                have kawz9 : Blk wz9 wS.heap.size 44 #[.int .i64 0, .int .i64 0, .string ⟨#[]⟩] := by rw [← hwz9.out]; exact Blk.new wS _ _
                have hTwz9 := hTwS.trans (hBwz9.mono hTwS.size)
                have hzwz9 := hTwz9.size
                have hSwz9 : wz9.cell? ⟨g, 1, none⟩ = some (.slice (some ⟨gb, 0, none⟩) l.length c5) ∧ wz9.cell? ⟨gb, k * 3, none⟩ = some (.int .i64 x.a) ∧ wz9.cell? ⟨gb, k * 3 + 1, none⟩ = some (.int .i64 x.b) ∧ wz9.cell? ⟨gb, k * 3 + 2, none⟩ = some (.string x.s) ∧ wz9.cell? ⟨gb, (k + 1) * 3, none⟩ = some (.int .i64 y.a) ∧ wz9.cell? ⟨gb, (k + 1) * 3 + 1, none⟩ = some (.int .i64 y.b) ∧ wz9.cell? ⟨gb, (k + 1) * 3 + 2, none⟩ = some (.string y.s) := by obtain ⟨q0, q1, q2, q3, q4, q5, q6⟩ := hSS; exact ⟨(hTwz9.cell (lt_of_cell q0)).trans q0, (hTwz9.cell (lt_of_cell q1)).trans q1, (hTwz9.cell (lt_of_cell q2)).trans q2, (hTwz9.cell (lt_of_cell q3)).trans q3, (hTwz9.cell (lt_of_cell q4)).trans q4, (hTwz9.cell (lt_of_cell q5)).trans q5, (hTwz9.cell (lt_of_cell q6)).trans q6⟩
                rw [hwz9.out]
                refine hK.out _ _ hSwz9 (fun _ => trivial) ?_
                clear hK K
                try simp only [Act.put, List.getElem_toArray, List.getElem_cons_succ, List.getElem_cons_zero, List.setIfInBounds_toArray, List.set_cons_zero, List.set_cons_succ]
                refine wpAnyJ_ready [12] (by kernel_rfl) (by simp) (NextJ.cons rfl (fun K hK => ?_) NextJ.nil)
                go_simp
                obtain ⟨wz10, hwz10⟩ : ∃ xx, Hid (wz9.alloc (.cells #[.int .i64 0, .int .i64 0, .string ⟨#[]⟩] 44) = xx) := ⟨_, Lib.hid rfl⟩
                have hBwz10 : Below wz9.heap.size wz9 wz10 := by rw [← hwz10.out]; exact (Below.refl _ _).alloc (Nat.le_refl _) _
                have hnwz10 : wz9.heap.size < wz10.heap.size := by rw [← hwz10.out]; simp
                have kbwz10 : Blk wz10 wz9.heap.size 44 #[.int .i64 0, .int .i64 0, .string ⟨#[]⟩] := by rw [← hwz10.out]; exact Blk.new wz9 _ _
                have hTwz10 := hTwz9.trans (hBwz10.mono hTwz9.size)
                have kawz10 := kawz9.below' hBwz10
                have hzwz10 := hTwz10.size
                have hSwz10 : wz10.cell? ⟨g, 1, none⟩ = some (.slice (some ⟨gb, 0, none⟩) l.length c5) ∧ wz10.cell? ⟨gb, k * 3, none⟩ = some (.int .i64 x.a) ∧ wz10.cell? ⟨gb, k * 3 + 1, none⟩ = some (.int .i64 x.b) ∧ wz10.cell? ⟨gb, k * 3 + 2, none⟩ = some (.string x.s) ∧ wz10.cell? ⟨gb, (k + 1) * 3, none⟩ = some (.int .i64 y.a) ∧ wz10.cell? ⟨gb, (k + 1) * 3 + 1, none⟩ = some (.int .i64 y.b) ∧ wz10.cell? ⟨gb, (k + 1) * 3 + 2, none⟩ = some (.string y.s) := by obtain ⟨q0, q1, q2, q3, q4, q5, q6⟩ := hSS; exact ⟨(hTwz10.cell (lt_of_cell q0)).trans q0, (hTwz10.cell (lt_of_cell q1)).trans q1, (hTwz10.cell (lt_of_cell q2)).trans q2, (hTwz10.cell (lt_of_cell q3)).trans q3, (hTwz10.cell (lt_of_cell q4)).trans q4, (hTwz10.cell (lt_of_cell q5)).trans q5, (hTwz10.cell (lt_of_cell q6)).trans q6⟩
                rw [hwz10.out]
                refine hK.out _ _ hSwz10 (fun _ => trivial) ?_
                clear hK K
                try simp only [Act.put, List.getElem_toArray, List.getElem_cons_succ, List.getElem_cons_zero, List.setIfInBounds_toArray, List.set_cons_zero, List.set_cons_succ]
                refine wpAnyJ_ready [13] (by kernel_rfl) (by simp) (NextJ.cons rfl (fun K hK => ?_) NextJ.nil)
                have qa0 := kawz10.cell 0 _ rfl
                have qa1 := kawz10.cell 1 _ rfl
                have qa2 := kawz10.cell 2 _ rfl
                have qf0 := kawz10.frozen 0
                have qf1 := kawz10.frozen 1
                have qf2 := kawz10.frozen 2
                have ql := kawz10.lt
                have qt := hTwz10.size
                go_simp
                obtain ⟨wz11, hwz11⟩ : ∃ xx, Hid ((((wz10.setCell ⟨wS.heap.size, 0, none⟩ (.int .i64 x.a)).setCell ⟨wS.heap.size, 1, none⟩ (.int .i64 x.b)).setCell ⟨wS.heap.size, 2, none⟩ (.string x.s)) = xx) := ⟨_, Lib.hid rfl⟩
                have kawz11 : Blk wz11 wS.heap.size 44 #[.int .i64 x.a, .int .i64 x.b, .string x.s] := by rw [← hwz11.out]; simpa using ((kawz10.set_ 0 (.int .i64 x.a)).set_ 1 (.int .i64 x.b)).set_ 2 (.string x.s)
                have hTwz11 : Below wS.heap.size wS wz11 := by rw [← hwz11.out]; exact ((hTwz10.setCell (by show wS.heap.size ≤ wS.heap.size; omega) _).setCell (by show wS.heap.size ≤ wS.heap.size; omega) _).setCell (by show wS.heap.size ≤ wS.heap.size; omega) _
                have hnwz11 : wz10.heap.size ≤ wz11.heap.size := by rw [← hwz11.out]; simp
                have hzwz11 := hTwz11.size
                have kbwz11 : Blk wz11 wz9.heap.size 44 #[.int .i64 0, .int .i64 0, .string ⟨#[]⟩] := by rw [← hwz11.out]; exact ((kbwz10.far (p := ⟨wS.heap.size, 0, none⟩) (by show wz9.heap.size ≠ wS.heap.size; omega) _).far (p := ⟨wS.heap.size, 1, none⟩) (by show wz9.heap.size ≠ wS.heap.size; omega) _).far (p := ⟨wS.heap.size, 2, none⟩) (by show wz9.heap.size ≠ wS.heap.size; omega) _
                have hSwz11 : wz11.cell? ⟨g, 1, none⟩ = some (.slice (some ⟨gb, 0, none⟩) l.length c5) ∧ wz11.cell? ⟨gb, k * 3, none⟩ = some (.int .i64 x.a) ∧ wz11.cell? ⟨gb, k * 3 + 1, none⟩ = some (.int .i64 x.b) ∧ wz11.cell? ⟨gb, k * 3 + 2, none⟩ = some (.string x.s) ∧ wz11.cell? ⟨gb, (k + 1) * 3, none⟩ = some (.int .i64 y.a) ∧ wz11.cell? ⟨gb, (k + 1) * 3 + 1, none⟩ = some (.int .i64 y.b) ∧ wz11.cell? ⟨gb, (k + 1) * 3 + 2, none⟩ = some (.string y.s) := by obtain ⟨q0, q1, q2, q3, q4, q5, q6⟩ := hSS; exact ⟨(hTwz11.cell (lt_of_cell q0)).trans q0, (hTwz11.cell (lt_of_cell q1)).trans q1, (hTwz11.cell (lt_of_cell q2)).trans q2, (hTwz11.cell (lt_of_cell q3)).trans q3, (hTwz11.cell (lt_of_cell q4)).trans q4, (hTwz11.cell (lt_of_cell q5)).trans q5, (hTwz11.cell (lt_of_cell q6)).trans q6⟩
                clear qa0 qa1 qa2 qf0 qf1 qf2
                rw [hwz11.out]
                refine hK.out _ _ hSwz11 (fun _ => trivial) ?_
                clear hK K
                try simp only [Act.put, List.getElem_toArray, List.getElem_cons_succ, List.getElem_cons_zero, List.setIfInBounds_toArray, List.set_cons_zero, List.set_cons_succ]
                refine wpAnyJ_ready [14] (by kernel_rfl) (by simp) (NextJ.cons rfl (fun K hK => ?_) NextJ.nil)
                have qa0 := kbwz11.cell 0 _ rfl
                have qa1 := kbwz11.cell 1 _ rfl
                have qa2 := kbwz11.cell 2 _ rfl
                have qf0 := kbwz11.frozen 0
                have qf1 := kbwz11.frozen 1
                have qf2 := kbwz11.frozen 2
                have ql := kbwz11.lt
                have qt := hTwz11.size
                go_simp
                obtain ⟨wz12, hwz12⟩ : ∃ xx, Hid ((((wz11.setCell ⟨wz9.heap.size, 0, none⟩ (.int .i64 y.a)).setCell ⟨wz9.heap.size, 1, none⟩ (.int .i64 y.b)).setCell ⟨wz9.heap.size, 2, none⟩ (.string y.s)) = xx) := ⟨_, Lib.hid rfl⟩
                have kbwz12 : Blk wz12 wz9.heap.size 44 #[.int .i64 y.a, .int .i64 y.b, .string y.s] := by rw [← hwz12.out]; simpa using ((kbwz11.set_ 0 (.int .i64 y.a)).set_ 1 (.int .i64 y.b)).set_ 2 (.string y.s)
                have hTwz12 : Below wS.heap.size wS wz12 := by rw [← hwz12.out]; exact ((hTwz11.setCell (by show wS.heap.size ≤ wz9.heap.size; omega) _).setCell (by show wS.heap.size ≤ wz9.heap.size; omega) _).setCell (by show wS.heap.size ≤ wz9.heap.size; omega) _
                have hnwz12 : wz11.heap.size ≤ wz12.heap.size := by rw [← hwz12.out]; simp
                have hzwz12 := hTwz12.size
                have kawz12 : Blk wz12 wS.heap.size 44 #[.int .i64 x.a, .int .i64 x.b, .string x.s] := by rw [← hwz12.out]; exact ((kawz11.far (p := ⟨wz9.heap.size, 0, none⟩) (by show wS.heap.size ≠ wz9.heap.size; omega) _).far (p := ⟨wz9.heap.size, 1, none⟩) (by show wS.heap.size ≠ wz9.heap.size; omega) _).far (p := ⟨wz9.heap.size, 2, none⟩) (by show wS.heap.size ≠ wz9.heap.size; omega) _
                have hSwz12 : wz12.cell? ⟨g, 1, none⟩ = some (.slice (some ⟨gb, 0, none⟩) l.length c5) ∧ wz12.cell? ⟨gb, k * 3, none⟩ = some (.int .i64 x.a) ∧ wz12.cell? ⟨gb, k * 3 + 1, none⟩ = some (.int .i64 x.b) ∧ wz12.cell? ⟨gb, k * 3 + 2, none⟩ = some (.string x.s) ∧ wz12.cell? ⟨gb, (k + 1) * 3, none⟩ = some (.int .i64 y.a) ∧ wz12.cell? ⟨gb, (k + 1) * 3 + 1, none⟩ = some (.int .i64 y.b) ∧ wz12.cell? ⟨gb, (k + 1) * 3 + 2, none⟩ = some (.string y.s) := by obtain ⟨q0, q1, q2, q3, q4, q5, q6⟩ := hSS; exact ⟨(hTwz12.cell (lt_of_cell q0)).trans q0, (hTwz12.cell (lt_of_cell q1)).trans q1, (hTwz12.cell (lt_of_cell q2)).trans q2, (hTwz12.cell (lt_of_cell q3)).trans q3, (hTwz12.cell (lt_of_cell q4)).trans q4, (hTwz12.cell (lt_of_cell q5)).trans q5, (hTwz12.cell (lt_of_cell q6)).trans q6⟩
                clear qa0 qa1 qa2 qf0 qf1 qf2
                rw [hwz12.out]
                refine hK.out _ _ hSwz12 (fun _ => trivial) ?_
                clear hK K
                try simp only [Act.put, List.getElem_toArray, List.getElem_cons_succ, List.getElem_cons_zero, List.setIfInBounds_toArray, List.set_cons_zero, List.set_cons_succ]
                refine wpAnyJ_done (by kernel_rfl) ?_ _
                go_wp2_with fail
                go_meet
                case rel => exact ⟨by first | rfl | rw [hk.out], wS.heap.size, wz9.heap.size, rfl, rfl, by omega, by omega, kawz12, kbwz12, hBS.trans (hTwz12.mono hzS)⟩
              case' _ =>
                go_simp
                obtain ⟨wz13, hwz13⟩ : ∃ xx, Hid (wS.alloc (.cells #[.int .i64 0, .int .i64 0, .string ⟨#[]⟩] 44) = xx) := ⟨_, Lib.hid rfl⟩
                have hBwz13 : Below wS.heap.size wS wz13 := by rw [← hwz13.out]; exact (Below.refl _ _).alloc (Nat.le_refl _) _
                have hnwz13 : wS.heap.size < wz13.heap.size := by rw [← hwz13.out]; simp
                have kbwz13 : Blk wz13 wS.heap.size 44 #[.int .i64 0, .int .i64 0, .string ⟨#[]⟩] := by rw [← hwz13.out]; exact Blk.new wS _ _
                have hTwz13 := hTwS.trans (hBwz13.mono hTwS.size)
                have hzwz13 := hTwz13.size
                have hSwz13 : wz13.cell? ⟨g, 1, none⟩ = some (.slice (some ⟨gb, 0, none⟩) l.length c5) ∧ wz13.cell? ⟨gb, k * 3, none⟩ = some (.int .i64 x.a) ∧ wz13.cell? ⟨gb, k * 3 + 1, none⟩ = some (.int .i64 x.b) ∧ wz13.cell? ⟨gb, k * 3 + 2, none⟩ = some (.string x.s) ∧ wz13.cell? ⟨gb, (k + 1) * 3, none⟩ = some (.int .i64 y.a) ∧ wz13.cell? ⟨gb, (k + 1) * 3 + 1, none⟩ = some (.int .i64 y.b) ∧ wz13.cell? ⟨gb, (k + 1) * 3 + 2, none⟩ = some (.string y.s) := by obtain ⟨q0, q1, q2, q3, q4, q5, q6⟩ := hSS; exact ⟨(hTwz13.cell (lt_of_cell q0)).trans q0, (hTwz13.cell (lt_of_cell q1)).trans q1, (hTwz13.cell (lt_of_cell q2)).trans q2, (hTwz13.cell (lt_of_cell q3)).trans q3, (hTwz13.cell (lt_of_cell q4)).trans q4, (hTwz13.cell (lt_of_cell q5)).trans q5, (hTwz13.cell (lt_of_cell q6)).trans q6⟩
                rw [hwz13.out]
                refine hK.out _ _ hSwz13 (fun _ => trivial) ?_
                clear hK K
                try simp only [Act.put, List.getElem_toArray, List.getElem_cons_succ, List.getElem_cons_zero, List.setIfInBounds_toArray, List.set_cons_zero, List.set_cons_succ]
                refine wpAnyJ_ready [11] (by kernel_rfl) (by simp) (NextJ.cons rfl (fun K hK => ?_) NextJ.nil)
                go_simp
                obtain ⟨wz14, hwz14⟩ : ∃ xx, Hid (wz13.alloc (.cells #[.int .i64 0, .int .i64 0, .string ⟨#[]⟩] 44) = xx) := ⟨_, Lib.hid rfl⟩
                have hBwz14 : Below wz13.heap.size wz13 wz14 := by rw [← hwz14.out]; exact (Below.refl _ _).alloc (Nat.le_refl _) _
                have hnwz14 : wz13.heap.size < wz14.heap.size := by rw [← hwz14.out]; simp
                have kawz14 : Blk wz14 wz13.heap.size 44 #[.int .i64 0, .int .i64 0, .string ⟨#[]⟩] := by rw [← hwz14.out]; exact Blk.new wz13 _ _
                have hTwz14 := hTwz13.trans (hBwz14.mono hTwz13.size)
                have kbwz14 := kbwz13.below' hBwz14
                have hzwz14 := hTwz14.size
                have hSwz14 : wz14.cell? ⟨g, 1, none⟩ = some (.slice (some ⟨gb, 0, none⟩) l.length c5) ∧ wz14.cell? ⟨gb, k * 3, none⟩ = some (.int .i64 x.a) ∧ wz14.cell? ⟨gb, k * 3 + 1, none⟩ = some (.int .i64 x.b) ∧ wz14.cell? ⟨gb, k * 3 + 2, none⟩ = some (.string x.s) ∧ wz14.cell? ⟨gb, (k + 1) * 3, none⟩ = some (.int .i64 y.a) ∧ wz14.cell? ⟨gb, (k + 1) * 3 + 1, none⟩ = some (.int .i64 y.b) ∧ wz14.cell? ⟨gb, (k + 1) * 3 + 2, none⟩ = some (.string y.s) := by obtain ⟨q0, q1, q2, q3, q4, q5, q6⟩ := hSS; exact ⟨(hTwz14.cell (lt_of_cell q0)).trans q0, (hTwz14.cell (lt_of_cell q1)).trans q1, (hTwz14.cell (lt_of_cell q2)).trans q2, (hTwz14.cell (lt_of_cell q3)).trans q3, (hTwz14.cell (lt_of_cell q4)).trans q4, (hTwz14.cell (lt_of_cell q5)).trans q5, (hTwz14.cell (lt_of_cell q6)).trans q6⟩
                rw [hwz14.out]
                refine hK.out _ _ hSwz14 (fun _ => trivial) ?_
                clear hK K
                try simp only [Act.put, List.getElem_toArray, List.getElem_cons_succ, List.getElem_cons_zero, List.setIfInBounds_toArray, List.set_cons_zero, List.set_cons_succ]
                refine wpAnyJ_ready [13] (by kernel_rfl) (by simp) (NextJ.cons rfl (fun K hK => ?_) NextJ.nil)
                have qa0 := kawz14.cell 0 _ rfl
                have qa1 := kawz14.cell 1 _ rfl
                have qa2 := kawz14.cell 2 _ rfl
                have qf0 := kawz14.frozen 0
                have qf1 := kawz14.frozen 1
                have qf2 := kawz14.frozen 2
                have ql := kawz14.lt
                have qt := hTwz14.size
                go_simp
                obtain ⟨wz15, hwz15⟩ : ∃ xx, Hid ((((wz14.setCell ⟨wz13.heap.size, 0, none⟩ (.int .i64 x.a)).setCell ⟨wz13.heap.size, 1, none⟩ (.int .i64 x.b)).setCell ⟨wz13.heap.size, 2, none⟩ (.string x.s)) = xx) := ⟨_, Lib.hid rfl⟩
                have kawz15 : Blk wz15 wz13.heap.size 44 #[.int .i64 x.a, .int .i64 x.b, .string x.s] := by rw [← hwz15.out]; simpa using ((kawz14.set_ 0 (.int .i64 x.a)).set_ 1 (.int .i64 x.b)).set_ 2 (.string x.s)
                have hTwz15 : Below wS.heap.size wS wz15 := by rw [← hwz15.out]; exact ((hTwz14.setCell (by show wS.heap.size ≤ wz13.heap.size; omega) _).setCell (by show wS.heap.size ≤ wz13.heap.size; omega) _).setCell (by show wS.heap.size ≤ wz13.heap.size; omega) _
                have hnwz15 : wz14.heap.size ≤ wz15.heap.size := by rw [← hwz15.out]; simp
                have hzwz15 := hTwz15.size
                have kbwz15 : Blk wz15 wS.heap.size 44 #[.int .i64 0, .int .i64 0, .string ⟨#[]⟩] := by rw [← hwz15.out]; exact ((kbwz14.far (p := ⟨wz13.heap.size, 0, none⟩) (by show wS.heap.size ≠ wz13.heap.size; omega) _).far (p := ⟨wz13.heap.size, 1, none⟩) (by show wS.heap.size ≠ wz13.heap.size; omega) _).far (p := ⟨wz13.heap.size, 2, none⟩) (by show wS.heap.size ≠ wz13.heap.size; omega) _
                have hSwz15 : wz15.cell? ⟨g, 1, none⟩ = some (.slice (some ⟨gb, 0, none⟩) l.length c5) ∧ wz15.cell? ⟨gb, k * 3, none⟩ = some (.int .i64 x.a) ∧ wz15.cell? ⟨gb, k * 3 + 1, none⟩ = some (.int .i64 x.b) ∧ wz15.cell? ⟨gb, k * 3 + 2, none⟩ = some (.string x.s) ∧ wz15.cell? ⟨gb, (k + 1) * 3, none⟩ = some (.int .i64 y.a) ∧ wz15.cell? ⟨gb, (k + 1) * 3 + 1, none⟩ = some (.int .i64 y.b) ∧ wz15.cell? ⟨gb, (k + 1) * 3 + 2, none⟩ = some (.string y.s) := by obtain ⟨q0, q1, q2, q3, q4, q5, q6⟩ := hSS; exact ⟨(hTwz15.cell (lt_of_cell q0)).trans q0, (hTwz15.cell (lt_of_cell q1)).trans q1, (hTwz15.cell (lt_of_cell q2)).trans q2, (hTwz15.cell (lt_of_cell q3)).trans q3, (hTwz15.cell (lt_of_cell q4)).trans q4, (hTwz15.cell (lt_of_cell q5)).trans q5, (hTwz15.cell (lt_of_cell q6)).trans q6⟩
                clear qa0 qa1 qa2 qf0 qf1 qf2
                rw [hwz15.out]
                refine hK.out _ _ hSwz15 (fun _ => trivial) ?_
                clear hK K
                try simp only [Act.put, List.getElem_toArray, List.getElem_cons_succ, List.getElem_cons_zero, List.setIfInBounds_toArray, List.set_cons_zero, List.set_cons_succ]
                refine wpAnyJ_ready [14] (by kernel_rfl) (by simp) (NextJ.cons rfl (fun K hK => ?_) NextJ.nil)
                have qa0 := kbwz15.cell 0 _ rfl
                have qa1 := kbwz15.cell 1 _ rfl
                have qa2 := kbwz15.cell 2 _ rfl
                have qf0 := kbwz15.frozen 0
                have qf1 := kbwz15.frozen 1
                have qf2 := kbwz15.frozen 2
                have ql := kbwz15.lt
                have qt := hTwz15.size
                go_simp
                obtain ⟨wz16, hwz16⟩ : ∃ xx, Hid ((((wz15.setCell ⟨wS.heap.size, 0, none⟩ (.int .i64 y.a)).setCell ⟨wS.heap.size, 1, none⟩ (.int .i64 y.b)).setCell ⟨wS.heap.size, 2, none⟩ (.string y.s)) = xx) := ⟨_, Lib.hid rfl⟩
                have kbwz16 : Blk wz16 wS.heap.size 44 #[.int .i64 y.a, .int .i64 y.b, .string y.s] := by rw [← hwz16.out]; simpa using ((kbwz15.set_ 0 (.int .i64 y.a)).set_ 1 (.int .i64 y.b)).set_ 2 (.string y.s)
                have hTwz16 : Below wS.heap.size wS wz16 := by rw [← hwz16.out]; exact ((hTwz15.setCell (by show wS.heap.size ≤ wS.heap.size; omega) _).setCell (by show wS.heap.size ≤ wS.heap.size; omega) _).setCell (by show wS.heap.size ≤ wS.heap.size; omega) _
                have hnwz16 : wz15.heap.size ≤ wz16.heap.size := by rw [← hwz16.out]; simp
                have hzwz16 := hTwz16.size
                have kawz16 : Blk wz16 wz13.heap.size 44 #[.int .i64 x.a, .int .i64 x.b, .string x.s] := by rw [← hwz16.out]; exact ((kawz15.far (p := ⟨wS.heap.size, 0, none⟩) (by show wz13.heap.size ≠ wS.heap.size; omega) _).far (p := ⟨wS.heap.size, 1, none⟩) (by show wz13.heap.size ≠ wS.heap.size; omega) _).far (p := ⟨wS.heap.size, 2, none⟩) (by show wz13.heap.size ≠ wS.heap.size; omega) _
                have hSwz16 : wz16.cell? ⟨g, 1, none⟩ = some (.slice (some ⟨gb, 0, none⟩) l.length c5) ∧ wz16.cell? ⟨gb, k * 3, none⟩ = some (.int .i64 x.a) ∧ wz16.cell? ⟨gb, k * 3 + 1, none⟩ = some (.int .i64 x.b) ∧ wz16.cell? ⟨gb, k * 3 + 2, none⟩ = some (.string x.s) ∧ wz16.cell? ⟨gb, (k + 1) * 3, none⟩ = some (.int .i64 y.a) ∧ wz16.cell? ⟨gb, (k + 1) * 3 + 1, none⟩ = some (.int .i64 y.b) ∧ wz16.cell? ⟨gb, (k + 1) * 3 + 2, none⟩ = some (.string y.s) := by obtain ⟨q0, q1, q2, q3, q4, q5, q6⟩ := hSS; exact ⟨(hTwz16.cell (lt_of_cell q0)).trans q0, (hTwz16.cell (lt_of_cell q1)).trans q1, (hTwz16.cell (lt_of_cell q2)).trans q2, (hTwz16.cell (lt_of_cell q3)).trans q3, (hTwz16.cell (lt_of_cell q4)).trans q4, (hTwz16.cell (lt_of_cell q5)).trans q5, (hTwz16.cell (lt_of_cell q6)).trans q6⟩
                clear qa0 qa1 qa2 qf0 qf1 qf2
                rw [hwz16.out]
                refine hK.out _ _ hSwz16 (fun _ => trivial) ?_
                clear hK K
                try simp only [Act.put, List.getElem_toArray, List.getElem_cons_succ, List.getElem_cons_zero, List.setIfInBounds_toArray, List.set_cons_zero, List.set_cons_succ]
                refine wpAnyJ_done (by kernel_rfl) ?_ _
                go_wp2_with fail
                go_meet
                case rel => exact ⟨by first | rfl | rw [hk.out], wz13.heap.size, wS.heap.size, rfl, rfl, by omega, by omega, kawz16, kbwz16, hBS.trans (hTwz16.mono hzS)⟩
          case rest =>
            obtain ⟨rfl, ga, gd, rfl, rfl, h1, h2, kx, ky, hBx⟩ := hcut
            clear hk1
            obtain ⟨wd, hwd⟩ : ∃ wd : World, wd = wc := ⟨_, rfl⟩
            obtain rfl := hwd
            have hTd := hTq.below hBx
            have kBd := kBq.below' hBx
            have kRd := kRq.below' hBx
            have hBd := hBq.trans (hBx.mono hzq')
            have hkm : k < m.length := by rw [HM2.out]; omega
            have hkm1 : k + 1 < m.length := by rw [HM2.out]; omega
            have hbx := (htr.out.okD HOK.out).bd k hkm
            have hby := (htr.out.okD HOK.out).bd (k + 1) hkm1
            rw [← xAt_of hkm] at hbx
            rw [← xAt_of hkm1] at hby
            have HSW : Hid (touchB (xAt m k).b (xAt m (k + 1)).b = false → TrEq m (swapL m k)) := Lib.hid (fun h => trEq_swapL hkm1 h)
            have hs3 := (hTd.set3 hkm (xAt m (k + 1))).set3 (i := k + 1) (by simpa using hkm1) (xAt m k)
            rw [show (m.set k (xAt m (k + 1))).set (k + 1) (xAt m k) = swapL m k from rfl] at hs3
            have HS3 := Lib.hid hs3
            clear hs3
            obtain ⟨c0, c1, c2⟩ := hTd.cells hkm
            obtain ⟨d0, d1, d2⟩ := hTd.cells hkm1
            have f0 := hTd.frozen (k * 3)
            have f1 := hTd.frozen (k * 3 + 1)
            have f2 := hTd.frozen (k * 3 + 2)
            have g0 := hTd.frozen ((k + 1) * 3)
            have g1 := hTd.frozen ((k + 1) * 3 + 1)
            have g2 := hTd.frozen ((k + 1) * 3 + 2)
            obtain ⟨x, hxv0⟩ : ∃ x, Hid (x = xAt m k) := ⟨_, Lib.hid rfl⟩
            obtain ⟨y, hyv0⟩ : ∃ y, Hid (y = xAt m (k + 1)) := ⟨_, Lib.hid rfl⟩
            rw [← hxv0.out] at c0 c1 c2 kx hbx
            rw [← hyv0.out] at d0 d1 d2 ky hby
            rw [← hxv0.out, ← hyv0.out] at HSW
            have x0 := kx.cell 0 _ rfl
            have x1 := kx.cell 1 _ rfl
            have x2 := kx.cell 2 _ rfl
            have xl := kx.lt
            have y0 := ky.cell 0 _ rfl
            have y1 := ky.cell 1 _ rfl
            have y2 := ky.cell 2 _ rfl
            have yl := ky.lt
            have s1 := kBd.cell 1 _ rfl
            have sl := kBd.lt
            have lb := hTd.lt
            have lbq := hTq.lt
            have k0 : (0 : Int) ≤ (k : Int) := by omega
            have k1 : (k : Int) < (l.length : Int) := by omega
            have k2 : ¬ (k : Int) < 0 := by omega
            have k3 : (k : Int) + 1 < (l.length : Int) := by omega
            have k4 : (0 : Int) ≤ (k : Int) + 1 := by omega
            have k5 : ¬ (k : Int) + 1 < 0 := by omega
            have HT := Lib.hid (touch_any x y wd (by omega) (by omega) (by omega) (by omega))
            obtain ⟨TB, hTB⟩ : ∃ TB, Hid (touchB x.b y.b = TB) := ⟨_, Lib.hid rfl⟩
            rw [hTB.out] at HT HSW
            cases TB with
            | true =>
              go_wp2_with (first
                | (go_at_call 19; refine HT.out.mono ?_; rintro e w5 ⟨rfl, hB5⟩)
                | fail)
              go_roundg (gk - 1)
              case measure => omega
              case rel => exact ⟨i + 1, m, by omega, by go_num, htr, hml, own_len (hTd.below hB5) hml.out, kBd.below' hB5, hBd.trans (hB5.mono (by omega))⟩
            | false =>
              go_wp2_with (first
                | (go_at_call 19; refine HT.out.mono ?_; rintro e w5 ⟨rfl, hB5⟩)
                | fail)
              have hz5 := hB5.size
              have hgb := hTd.heap.1
              have hT5 : TRow 44 w5.drew wo.heap.size gb c5 m := (hTd.below hB5).drew
              have kB5 : Blk w5.drew g 25 #[.int .i64 P, .slice (some ⟨gb, 0, none⟩) l.length c5] := kBd.below' hB5.drew
              have kx5 : Blk w5.drew ga 44 #[.int .i64 x.a, .int .i64 x.b, .string x.s] := kx.below' hB5.drew
              have ky5 : Blk w5.drew gd 44 #[.int .i64 y.a, .int .i64 y.b, .string y.s] := ky.below' hB5.drew
              have hB5' : Below wo.heap.size wb w5.drew := (hBd.trans (hB5.mono (by omega))).drew
              have nga : ga ≠ gb := by omega
              have ngd : gd ≠ gb := by omega
              have ngg : g ≠ gb := fun e => by have := (hTd.own.ne_block kBd (by decide)); exact this (by rw [e]; rfl)
              clear c0 c1 c2 d0 d1 d2 f0 f1 f2 g0 g1 g2 s1 sl lb lbq x0 x1 x2 xl y0 y1 y2 yl hTd kBd kx ky kBq kRq hTq hBqr hB5 hBd hBx HS3 HT kRd
              have hSS : w5.drew.cell? ⟨g, 1, none⟩ = some (.slice (some ⟨gb, 0, none⟩) l.length c5) ∧ w5.drew.cell? ⟨ga, 0, none⟩ = some (.int .i64 x.a) ∧ w5.drew.cell? ⟨ga, 1, none⟩ = some (.int .i64 x.b) ∧ w5.drew.cell? ⟨ga, 2, none⟩ = some (.string x.s) ∧ w5.drew.cell? ⟨gd, 0, none⟩ = some (.int .i64 y.a) ∧ w5.drew.cell? ⟨gd, 1, none⟩ = some (.int .i64 y.b) ∧ w5.drew.cell? ⟨gd, 2, none⟩ = some (.string y.s) := ⟨kB5.cell 1 _ rfl, kx5.cell 0 _ rfl, kx5.cell 1 _ rfl, kx5.cell 2 _ rfl, ky5.cell 0 _ rfl, ky5.cell 1 _ rfl, ky5.cell 2 _ rfl⟩
              refine wp_region_J (fun w' => w'.cell? ⟨g, 1, none⟩ = some (.slice (some ⟨gb, 0, none⟩) l.length c5) ∧ w'.cell? ⟨ga, 0, none⟩ = some (.int .i64 x.a) ∧ w'.cell? ⟨ga, 1, none⟩ = some (.int .i64 x.b) ∧ w'.cell? ⟨ga, 2, none⟩ = some (.string x.s) ∧ w'.cell? ⟨gd, 0, none⟩ = some (.int .i64 y.a) ∧ w'.cell? ⟨gd, 1, none⟩ = some (.int .i64 y.b) ∧ w'.cell? ⟨gd, 2, none⟩ = some (.string y.s)) (fun _ => True) (fun _ => false) (by kernel_rfl) ?_
              generalize w5.drew = wS at *
              refine wpAnyJ_take1 0 rfl (by kernel_rfl) (by kernel_rfl) rfl (by kernel_rfl) (fun _ _ _ h => h) (by first | kernel_rfl | rfl) hSS (fun w' hSw => (by obtain ⟨q0, q1, q2, q3, q4, q5, q6⟩ := hSw; go_simp; try (with_reducible rfl))) ?_
              try simp only [Act.put, List.getElem_toArray, List.getElem_cons_succ, List.getElem_cons_zero, List.setIfInBounds_toArray, List.set_cons_zero, List.set_cons_succ]
              refine wpAnyJ_take1 1 rfl (by kernel_rfl) (by kernel_rfl) rfl (by kernel_rfl) (fun _ _ _ h => h) (by first | kernel_rfl | rfl) hSS (fun w' hSw => (by obtain ⟨q0, q1, q2, q3, q4, q5, q6⟩ := hSw; go_simp; try (with_reducible rfl))) ?_
              try simp only [Act.put, List.getElem_toArray, List.getElem_cons_succ, List.getElem_cons_zero, List.setIfInBounds_toArray, List.set_cons_zero, List.set_cons_succ]
              refine wpAnyJ_take1 2 rfl (by kernel_rfl) (by kernel_rfl) rfl (by kernel_rfl) (fun _ _ _ h => h) (by first | kernel_rfl | rfl) hSS (fun w' hSw => (by obtain ⟨q0, q1, q2, q3, q4, q5, q6⟩ := hSw; go_simp; try (with_reducible rfl))) ?_
              try simp only [Act.put, List.getElem_toArray, List.getElem_cons_succ, List.getElem_cons_zero, List.setIfInBounds_toArray, List.set_cons_zero, List.set_cons_succ]
              refine wpAnyJ_take1 3 rfl (by kernel_rfl) (by kernel_rfl) rfl (by kernel_rfl) (fun _ _ _ h => h) (by first | kernel_rfl | rfl) hSS (fun w' hSw => (by obtain ⟨q0, q1, q2, q3, q4, q5, q6⟩ := hSw; go_simp; try (with_reducible rfl))) ?_
              try simp only [Act.put, List.getElem_toArray, List.getElem_cons_succ, List.getElem_cons_zero, List.setIfInBounds_toArray, List.set_cons_zero, List.set_cons_succ]
              refine wpAnyJ_take1 4 rfl (by kernel_rfl) (by kernel_rfl) rfl (by kernel_rfl) (fun _ _ _ h => h) (by first | kernel_rfl | rfl) hSS (fun w' hSw => (by obtain ⟨q0, q1, q2, q3, q4, q5, q6⟩ := hSw; go_simp; try (with_reducible rfl))) ?_
              try simp only [Act.put, List.getElem_toArray, List.getElem_cons_succ, List.getElem_cons_zero, List.setIfInBounds_toArray, List.set_cons_zero, List.set_cons_succ]
              refine wpAnyJ_take1 5 rfl (by kernel_rfl) (by kernel_rfl) rfl (by kernel_rfl) (fun _ _ _ h => h) (by first | kernel_rfl | rfl) hSS (fun w' hSw => (by obtain ⟨q0, q1, q2, q3, q4, q5, q6⟩ := hSw; go_simp; try (with_reducible rfl))) ?_
              try simp only [Act.put, List.getElem_toArray, List.getElem_cons_succ, List.getElem_cons_zero, List.setIfInBounds_toArray, List.set_cons_zero, List.set_cons_succ]
              refine wpAnyJ_take1 6 rfl (by kernel_rfl) (by kernel_rfl) rfl (by kernel_rfl) (fun _ _ _ h => h) (by first | kernel_rfl | rfl) hSS (fun w' hSw => (by obtain ⟨q0, q1, q2, q3, q4, q5, q6⟩ := hSw; go_simp; try (with_reducible rfl))) ?_
              try simp only [Act.put, List.getElem_toArray, List.getElem_cons_succ, List.getElem_cons_zero, List.setIfInBounds_toArray, List.set_cons_zero, List.set_cons_succ]
              refine wpAnyJ_take1 7 rfl (by kernel_rfl) (by kernel_rfl) rfl (by kernel_rfl) (fun _ _ _ h => h) (by first | kernel_rfl | rfl) hSS (fun w' hSw => (by obtain ⟨q0, q1, q2, q3, q4, q5, q6⟩ := hSw; go_simp; try (with_reducible rfl))) ?_
              try simp only [Act.put, List.getElem_toArray, List.getElem_cons_succ, List.getElem_cons_zero, List.setIfInBounds_toArray, List.set_cons_zero, List.set_cons_succ]
              refine wpAnyJ_take1 8 rfl (by kernel_rfl) (by kernel_rfl) rfl (by kernel_rfl) (fun _ _ _ h => h) (by first | kernel_rfl | rfl) hSS (fun w' hSw => (by obtain ⟨q0, q1, q2, q3, q4, q5, q6⟩ := hSw; go_simp; try (with_reducible rfl))) ?_
              try simp only [Act.put, List.getElem_toArray, List.getElem_cons_succ, List.getElem_cons_zero, List.setIfInBounds_toArray, List.set_cons_zero, List.set_cons_succ]
              refine wpAnyJ_take1 9 rfl (by kernel_rfl) (by kernel_rfl) rfl (by kernel_rfl) (fun _ _ _ h => h) (by first | kernel_rfl | rfl) hSS (fun w' hSw => (by obtain ⟨q0, q1, q2, q3, q4, q5, q6⟩ := hSw; go_simp; try (with_reducible rfl))) ?_
              try simp only [Act.put, List.getElem_toArray, List.getElem_cons_succ, List.getElem_cons_zero, List.setIfInBounds_toArray, List.set_cons_zero, List.set_cons_succ]
              refine wpAnyJ_ready [10] (by kernel_rfl) (by simp) (NextJ.cons rfl (fun K hK => ?_) NextJ.nil)
              obtain ⟨c0, c1, c2⟩ := hT5.cells hkm
              have f0 := hT5.frozen (k * 3)
              have f1 := hT5.frozen (k * 3 + 1)
              have f2 := hT5.frozen (k * 3 + 2)
              have ql := hT5.lt
              go_simp
              obtain ⟨wt10, hwt10⟩ : ∃ xx, Hid ((((wS.setCell ⟨gb, k * 3, none⟩ (.int .i64 y.a)).setCell ⟨gb, k * 3 + 1, none⟩ (.int .i64 y.b)).setCell ⟨gb, k * 3 + 2, none⟩ (.string y.s)) = xx) := ⟨_, Lib.hid rfl⟩
              have hTwt10 := hT5.set3 hkm y
              rw [hwt10.out] at hTwt10
              have kB510 := ((kB5.far (p := ⟨gb, k * 3, none⟩) (by exact ngg) (.int .i64 y.a)).far (p := ⟨gb, k * 3 + 1, none⟩) (by exact ngg) (.int .i64 y.b)).far (p := ⟨gb, k * 3 + 2, none⟩) (by exact ngg) (.string y.s)
              rw [hwt10.out] at kB510
              have kx510 := ((kx5.far (p := ⟨gb, k * 3, none⟩) (by exact nga) (.int .i64 y.a)).far (p := ⟨gb, k * 3 + 1, none⟩) (by exact nga) (.int .i64 y.b)).far (p := ⟨gb, k * 3 + 2, none⟩) (by exact nga) (.string y.s)
              rw [hwt10.out] at kx510
              have ky510 := ((ky5.far (p := ⟨gb, k * 3, none⟩) (by exact ngd) (.int .i64 y.a)).far (p := ⟨gb, k * 3 + 1, none⟩) (by exact ngd) (.int .i64 y.b)).far (p := ⟨gb, k * 3 + 2, none⟩) (by exact ngd) (.string y.s)
              rw [hwt10.out] at ky510
              have hBwt10 : Below wo.heap.size wb wt10 := by rw [← hwt10.out]; exact ((hB5'.setCell (by exact hgb) _).setCell (by exact hgb) _).setCell (by exact hgb) _
              have hSwt10 : wt10.cell? ⟨g, 1, none⟩ = some (.slice (some ⟨gb, 0, none⟩) l.length c5) ∧ wt10.cell? ⟨ga, 0, none⟩ = some (.int .i64 x.a) ∧ wt10.cell? ⟨ga, 1, none⟩ = some (.int .i64 x.b) ∧ wt10.cell? ⟨ga, 2, none⟩ = some (.string x.s) ∧ wt10.cell? ⟨gd, 0, none⟩ = some (.int .i64 y.a) ∧ wt10.cell? ⟨gd, 1, none⟩ = some (.int .i64 y.b) ∧ wt10.cell? ⟨gd, 2, none⟩ = some (.string y.s) := ⟨kB510.cell 1 _ rfl, kx510.cell 0 _ rfl, kx510.cell 1 _ rfl, kx510.cell 2 _ rfl, ky510.cell 0 _ rfl, ky510.cell 1 _ rfl, ky510.cell 2 _ rfl⟩
              clear c0 c1 c2 f0 f1 f2 ql
              rw [hwt10.out]
              refine hK.out _ _ hSwt10 (fun _ => trivial) ?_
              clear hK K
              try simp only [Act.put, List.getElem_toArray, List.getElem_cons_succ, List.getElem_cons_zero, List.setIfInBounds_toArray, List.set_cons_zero, List.set_cons_succ]
              refine wpAnyJ_take1 11 rfl (by kernel_rfl) (by kernel_rfl) rfl (by kernel_rfl) (fun _ _ _ h => h) (by first | kernel_rfl | rfl) hSwt10 (fun w' hSw => (by obtain ⟨q0, q1, q2, q3, q4, q5, q6⟩ := hSw; go_simp; try (with_reducible rfl))) ?_
              try simp only [Act.put, List.getElem_toArray, List.getElem_cons_succ, List.getElem_cons_zero, List.setIfInBounds_toArray, List.set_cons_zero, List.set_cons_succ]
              refine wpAnyJ_ready [12] (by kernel_rfl) (by simp) (NextJ.cons rfl (fun K hK => ?_) NextJ.nil)
              obtain ⟨c0, c1, c2⟩ := hTwt10.cells (by simpa using hkm1)
              have f0 := hTwt10.frozen ((k + 1) * 3)
              have f1 := hTwt10.frozen ((k + 1) * 3 + 1)
              have f2 := hTwt10.frozen ((k + 1) * 3 + 2)
              have ql := hTwt10.lt
              go_simp
              obtain ⟨wt12, hwt12⟩ : ∃ xx, Hid ((((wt10.setCell ⟨gb, (k + 1) * 3, none⟩ (.int .i64 x.a)).setCell ⟨gb, (k + 1) * 3 + 1, none⟩ (.int .i64 x.b)).setCell ⟨gb, (k + 1) * 3 + 2, none⟩ (.string x.s)) = xx) := ⟨_, Lib.hid rfl⟩
              have hTwt12 := hTwt10.set3 (by simpa using hkm1) x
              rw [hwt12.out] at hTwt12
              have kB51012 := ((kB510.far (p := ⟨gb, (k + 1) * 3, none⟩) (by exact ngg) (.int .i64 x.a)).far (p := ⟨gb, (k + 1) * 3 + 1, none⟩) (by exact ngg) (.int .i64 x.b)).far (p := ⟨gb, (k + 1) * 3 + 2, none⟩) (by exact ngg) (.string x.s)
              rw [hwt12.out] at kB51012
              have kx51012 := ((kx510.far (p := ⟨gb, (k + 1) * 3, none⟩) (by exact nga) (.int .i64 x.a)).far (p := ⟨gb, (k + 1) * 3 + 1, none⟩) (by exact nga) (.int .i64 x.b)).far (p := ⟨gb, (k + 1) * 3 + 2, none⟩) (by exact nga) (.string x.s)
              rw [hwt12.out] at kx51012
              have ky51012 := ((ky510.far (p := ⟨gb, (k + 1) * 3, none⟩) (by exact ngd) (.int .i64 x.a)).far (p := ⟨gb, (k + 1) * 3 + 1, none⟩) (by exact ngd) (.int .i64 x.b)).far (p := ⟨gb, (k + 1) * 3 + 2, none⟩) (by exact ngd) (.string x.s)
              rw [hwt12.out] at ky51012
              have hBwt12 : Below wo.heap.size wb wt12 := by rw [← hwt12.out]; exact ((hBwt10.setCell (by exact hgb) _).setCell (by exact hgb) _).setCell (by exact hgb) _
              have hSwt12 : wt12.cell? ⟨g, 1, none⟩ = some (.slice (some ⟨gb, 0, none⟩) l.length c5) ∧ wt12.cell? ⟨ga, 0, none⟩ = some (.int .i64 x.a) ∧ wt12.cell? ⟨ga, 1, none⟩ = some (.int .i64 x.b) ∧ wt12.cell? ⟨ga, 2, none⟩ = some (.string x.s) ∧ wt12.cell? ⟨gd, 0, none⟩ = some (.int .i64 y.a) ∧ wt12.cell? ⟨gd, 1, none⟩ = some (.int .i64 y.b) ∧ wt12.cell? ⟨gd, 2, none⟩ = some (.string y.s) := ⟨kB51012.cell 1 _ rfl, kx51012.cell 0 _ rfl, kx51012.cell 1 _ rfl, kx51012.cell 2 _ rfl, ky51012.cell 0 _ rfl, ky51012.cell 1 _ rfl, ky51012.cell 2 _ rfl⟩
              clear c0 c1 c2 f0 f1 f2 ql
              rw [hwt12.out]
              refine hK.out _ _ hSwt12 (fun _ => trivial) ?_
              clear hK K
              try simp only [Act.put, List.getElem_toArray, List.getElem_cons_succ, List.getElem_cons_zero, List.setIfInBounds_toArray, List.set_cons_zero, List.set_cons_succ]
              refine wpAnyJ_done (by kernel_rfl) ?_ _
              have hfin : (m.set k y).set (k + 1) x = swapL m k := by rw [hyv0.out, hxv0.out]; rfl
              rw [hfin] at hTwt12
              have HTF := Lib.hid hTwt12
              clear hTwt12 hfin hTwt10 hT5
              go_wp2_with fail
              go_roundg (gk - 1)
              case measure => omega
              case rel => exact ⟨i + 1, swapL m k, by omega, by go_num, htr.out.trans (HSW.out (by first | trivial | rfl)), by rw [Hid, swapL_len]; exact hml, own_len HTF.out (by rw [swapL_len]; exact hml.out), kB51012, hBwt12⟩
        · have l1 : ¬ (1 : Int) < (l.length : Int) := by omega
          have i1 : (i : Int) < (L.length : Int) := by omega
          have r0 := kRr.cell 0 _ rfl
          have r1 := kRr.cell 1 _ rfl
          have rf0 := kRr.frozen 0
          have rf1 := kRr.frozen 1
          have rl := kRr.lt
          have kF : Blk ((wr.setCell ⟨w.heap.size + 1, 0, none⟩ (.int .i64 P)).setCell ⟨w.heap.size + 1, 1, none⟩ (.slice A5 l.length c5)) (w.heap.size + 1) 25 #[.int .i64 P, .slice A5 l.length c5] := by simpa using (kRr.set_ 0 (.int .i64 P)).set_ 1 (.slice A5 l.length c5)
          have oF : Own 3 Tri.enc ((wr.setCell ⟨w.heap.size + 1, 0, none⟩ (.int .i64 P)).setCell ⟨w.heap.size + 1, 1, none⟩ (.slice A5 l.length c5)) wo.heap.size 44 (.slice A5 l.length c5) m := ownsRow_setCell_below (ownsRow_setCell_below hown (by show w.heap.size + 1 < wo.heap.size; omega) _) (by show w.heap.size + 1 < wo.heap.size; omega) _
          have hBF : Below w.heap.size w ((wr.setCell ⟨w.heap.size + 1, 0, none⟩ (.int .i64 P)).setCell ⟨w.heap.size + 1, 1, none⟩ (.slice A5 l.length c5)) := (hBw.setCell (by show w.heap.size ≤ w.heap.size + 1; omega) _).setCell (by show w.heap.size ≤ w.heap.size + 1; omega) _
          have HKF := Lib.hid kF
          clear kF
          go_wp2_with fail
          (try simp only [Exit.inBlock, Exit.then])
          refine sheet_ret1 rfl rfl (g := w.heap.size + 1) (x := .int .i64 P) (y := .slice A5 l.length c5) HKF.out rfl ?_
          exact ⟨A5, m, c5, by rw [hml.out], Own.rd' tri_len oF, htr.out, hBF⟩
      · have i1 : ¬ (i : Int) < (L.length : Int) := by omega
        have r0 := kRr.cell 0 _ rfl
        have r1 := kRr.cell 1 _ rfl
        have rf0 := kRr.frozen 0
        have rf1 := kRr.frozen 1
        have rl := kRr.lt
        have kF : Blk ((wr.setCell ⟨w.heap.size + 1, 0, none⟩ (.int .i64 P)).setCell ⟨w.heap.size + 1, 1, none⟩ (.slice A5 l.length c5)) (w.heap.size + 1) 25 #[.int .i64 P, .slice A5 l.length c5] := by simpa using (kRr.set_ 0 (.int .i64 P)).set_ 1 (.slice A5 l.length c5)
        have oF : Own 3 Tri.enc ((wr.setCell ⟨w.heap.size + 1, 0, none⟩ (.int .i64 P)).setCell ⟨w.heap.size + 1, 1, none⟩ (.slice A5 l.length c5)) wo.heap.size 44 (.slice A5 l.length c5) m := ownsRow_setCell_below (ownsRow_setCell_below hown (by show w.heap.size + 1 < wo.heap.size; omega) _) (by show w.heap.size + 1 < wo.heap.size; omega) _
        have hBF : Below w.heap.size w ((wr.setCell ⟨w.heap.size + 1, 0, none⟩ (.int .i64 P)).setCell ⟨w.heap.size + 1, 1, none⟩ (.slice A5 l.length c5)) := (hBw.setCell (by show w.heap.size ≤ w.heap.size + 1; omega) _).setCell (by show w.heap.size ≤ w.heap.size + 1; omega) _
        have HKF := Lib.hid kF
        clear kF
        go_wp2_with fail
        (try simp only [Exit.inBlock, Exit.then])
        refine sheet_ret1 rfl rfl (g := w.heap.size + 1) (x := .int .i64 P) (y := .slice A5 l.length c5) HKF.out rfl ?_
        exact ⟨A5, m, c5, by rw [hml.out], Own.rd' tri_len oF, htr.out, hBF⟩
end Go.Proofs.YtoccplfnjammjaaGreatDoor

namespace Go.Proofs.YtoccplfnjammjaaGreatDoor
open Go Go.RowKit Tor

/-- a sheet that is the same lace has the same drawing -/
theorem drawI_tr {P : Nat} {l m : List Tri} {T : List UInt8} (ok : OkD P l) (h : drawI P l = (T, 0)) (ht : TrEq l m) : drawI P m = (T, 0) := by
  have ok2 := ht.okD ok
  unfold drawI at h ⊢
  rw [if_pos ok.chk, Int.toNat_natCast] at h
  rw [if_pos ok2.chk, Int.toNat_natCast]
  unfold drawE at h ⊢
  rw [ht.sheetD ok.inP, ht.textD ok.inP]
  exact h
theorem rsame_ok (P Q : Nat) (A : Option Addr) (l : List Tri) (c : Nat) (B : Option Addr) (m : List Tri) (c2 : Nat) (w : World) (H : Nat) (hr : RdT w H A l) (hr2 : RdT w H B m) (hH : H ≤ w.heap.size) (ok : OkD P l) (ok2 : OkD Q m) (h52 : (looksL (sheetD P l)).length ≤ 52) (g52 : (looksL (sheetD Q m)).length ≤ 52) :
    Calls Tryz.prog 17 #[.agg #[.int .i64 P, .slice A l.length c], .agg #[.int .i64 Q, .slice B m.length c2]] w (Ret (.tuple #[.bool (decide (textD P l = textD Q m)), .int .i64 0]) w) := by
  have h1 := ok.len
  have h2 := ok2.len
  have := rsame05_any P Q A l c B m c2 w H hr hr2 hH (fun k hk => by have := okD_w16 ok k hk; omega) (fun k hk => by have := okD_w16 ok2 k hk; omega) (by omega) (by omega) ok.chk ok2.chk ok.bd100 ok2.bd100
  rw [trace_text ok ok2 h52 g52] at this
  exact this
set_option maxRecDepth 100000 in
set_option maxHeartbeats 8000000 in
theorem lawSame_any (p q : Int) (A : Option Addr) (l : List Tri) (c : Nat) (A' : Option Addr) (l' : List Tri) (c' : Nat) (B : Option Addr) (L : List Int) (cB : Nat) (w : World) (H : Nat) (hr : RdT w H A l) (hr' : RdT w H A' l') (hat : Rd 1 henc w H B L) (hH : H ≤ w.heap.size)
    (hw : ∀ (k : Nat) (hk : k < l.length), l[k].s.size ≤ 9223372036854775807) (hl : l.length ≤ 9223372036854775807) (hw' : ∀ (k : Nat) (hk : k < l'.length), l'[k].s.size ≤ 9223372036854775807) (hl' : l'.length ≤ 9223372036854775807) (hLl : L.length ≤ 9223372036854775807) (hLb : ∀ x ∈ L, 0 ≤ x ∧ x ≤ 65535) (hnil : A = none → c = 0) (hDt : DtAt w) :
    Calls Tryz.prog 4 #[.agg #[.int .i64 p, .slice A l.length c], .agg #[.int .i64 q, .slice A' l'.length c'], .slice B L.length cB] w (Ret (.bool true) w) := by
  have hBA : Below w.heap.size w ((w.alloc (.cells #[.int .i64 p, .slice A l.length c] 25)).alloc (.cells #[.int .i64 q, .slice A' l'.length c'] 25)) := ((Below.refl _ _).alloc (Nat.le_refl _) _).alloc (by simp) _
  have kS : Blk ((w.alloc (.cells #[.int .i64 p, .slice A l.length c] 25)).alloc (.cells #[.int .i64 q, .slice A' l'.length c'] 25)) w.heap.size 25 #[.int .i64 p, .slice A l.length c] := (Blk.new w _ _).alloc _
  have kT : Blk ((w.alloc (.cells #[.int .i64 p, .slice A l.length c] 25)).alloc (.cells #[.int .i64 q, .slice A' l'.length c'] 25)) (w.heap.size + 1) 25 #[.int .i64 q, .slice A' l'.length c'] := by have := Blk.new (w.alloc (.cells #[.int .i64 p, .slice A l.length c] 25)) 25 #[.int .i64 q, .slice A' l'.length c']; rw [World.size_alloc] at this; exact this
  obtain ⟨wA, hwA⟩ : ∃ wA, Hid (((w.alloc (.cells #[.int .i64 p, .slice A l.length c] 25)).alloc (.cells #[.int .i64 q, .slice A' l'.length c'] 25)) = wA) := ⟨_, Lib.hid rfl⟩
  rw [hwA.out] at hBA kS kT
  have HW := Lib.hid hw
  have HW' := Lib.hid hw'
  have HLB := Lib.hid hLb
  clear hw hw' hLb
  have hzA := hBA.size
  have A0 := kS.cell 0 _ rfl
  have A1 := kS.cell 1 _ rfl
  have Al := kS.lt
  have T0 := kT.cell 0 _ rfl
  have T1 := kT.cell 1 _ rfl
  have Tl := kT.lt
  have HF1 := Lib.hid (far_any p A l c 60 wA H (hr.below' hBA hH) (Nat.le_trans hH hzA) hl HW.out)
  have HF2 := Lib.hid (fun w' (hB : Below w.heap.size w w') => far_any q A' l' c' 60 w' H (hr'.below' hB hH) (Nat.le_trans hH hB.size) hl' HW'.out)
  obtain ⟨F1, hF1⟩ : ∃ b, Hid (farD l 60 = b) := ⟨_, Lib.hid rfl⟩
  obtain ⟨F2, hF2⟩ : ∃ b, Hid (farD l' 60 = b) := ⟨_, Lib.hid rfl⟩
  rw [hF1.out] at HF1
  rw [hF2.out] at HF2
  go_enter Tryz.func4, Tryz.ntmps4
  have tk1 : True := trivial
  cases F1 with
  | true =>
    go_wp2_with (first
      | (go_at_call 15; have := tk1; rw [hwA.out]; refine HF1.out.mono ?_; rintro e w1 ⟨rfl, hB1⟩
         clear tk1
         have hBw1 := hBA.trans (hB1.mono hBA.size)
         have hz1 := hB1.size
         have kS1 := kS.below' hB1
         have kT1 := kT.below' hB1
         have a01 := kS1.cell 0 _ rfl
         have a11 := kS1.cell 1 _ rfl
         have al1 := kS1.lt
         have b01 := kT1.cell 0 _ rfl
         have b11 := kT1.cell 1 _ rfl
         have bl1 := kT1.lt)
      | (go_at_call 10; refine (shown_any w1 (hDt.below hBw1)).mono ?_; rintro e w21 ⟨rfl, hB21⟩
         have hBw21 := hBw1.trans (hB21.mono hBw1.size))
      | fail)
    go_ret
    exact ⟨rfl, hBw21⟩
  | false =>
    cases F2 with
    | true =>
      go_wp2_with (first
        | (go_at_call 15; have := tk1; rw [hwA.out]; refine HF1.out.mono ?_; rintro e w1 ⟨rfl, hB1⟩
           clear tk1
           have hBw1 := hBA.trans (hB1.mono hBA.size)
           have hz1 := hB1.size
           have kS1 := kS.below' hB1
           have kT1 := kT.below' hB1
           have a01 := kS1.cell 0 _ rfl
           have a11 := kS1.cell 1 _ rfl
           have al1 := kS1.lt
           have b01 := kT1.cell 0 _ rfl
           have b11 := kT1.cell 1 _ rfl
           have bl1 := kT1.lt)
        | (go_at_call 15; refine (HF2.out w1 hBw1).mono ?_; rintro e w2 ⟨rfl, hB2⟩
           have hBw2 := hBw1.trans (hB2.mono hBw1.size)
           have hz2 := hB2.size
           have kS2 := kS1.below' hB2
           have kT2 := kT1.below' hB2
           have a02 := kS2.cell 0 _ rfl
           have a12 := kS2.cell 1 _ rfl
           have al2 := kS2.lt
           have b02 := kT2.cell 0 _ rfl
           have b12 := kT2.cell 1 _ rfl
           have bl2 := kT2.lt)
        | (go_at_call 10; refine (shown_any w2 (hDt.below hBw2)).mono ?_; rintro e w22 ⟨rfl, hB22⟩
           have hBw22 := hBw2.trans (hB22.mono hBw2.size))
        | fail)
      go_ret
      exact ⟨rfl, hBw22⟩
    | false =>
      by_cases hL : (200 : Int) < (L.length : Int)
      · skip
        go_wp2_with (first
          | (go_at_call 15; have := tk1; rw [hwA.out]; refine HF1.out.mono ?_; rintro e w1 ⟨rfl, hB1⟩
             clear tk1
             have hBw1 := hBA.trans (hB1.mono hBA.size)
             have hz1 := hB1.size
             have kS1 := kS.below' hB1
             have kT1 := kT.below' hB1
             have a01 := kS1.cell 0 _ rfl
             have a11 := kS1.cell 1 _ rfl
             have al1 := kS1.lt
             have b01 := kT1.cell 0 _ rfl
             have b11 := kT1.cell 1 _ rfl
             have bl1 := kT1.lt)
          | (go_at_call 15; refine (HF2.out w1 hBw1).mono ?_; rintro e w2 ⟨rfl, hB2⟩
             have hBw2 := hBw1.trans (hB2.mono hBw1.size)
             have hz2 := hB2.size
             have kS2 := kS1.below' hB2
             have kT2 := kT1.below' hB2
             have a02 := kS2.cell 0 _ rfl
             have a12 := kS2.cell 1 _ rfl
             have al2 := kS2.lt
             have b02 := kT2.cell 0 _ rfl
             have b12 := kT2.cell 1 _ rfl
             have bl2 := kT2.lt)
          | (go_at_call 10; refine (shown_any w2 (hDt.below hBw2)).mono ?_; rintro e w22 ⟨rfl, hB22⟩
             have hBw22 := hBw2.trans (hB22.mono hBw2.size))
          | fail)
        go_ret
        exact ⟨rfl, hBw22⟩
      · have hl6 : l.length ≤ 1000000 := by
          have hn := hF1.out
          unfold farD at hn
          simp only [Bool.or_eq_false_iff, decide_eq_false_iff_not] at hn
          omega
        have hl6' : l'.length ≤ 1000000 := by
          have hn := hF2.out
          unfold farD at hn
          simp only [Bool.or_eq_false_iff, decide_eq_false_iff_not] at hn
          omega
        have hL2 : L.length ≤ 200 := by omega
        have hD2 := @drawI_ok p l
        have hD3 := @drawI_bad p l
        have gD2 := @drawI_ok q l'
        have gD3 := @drawI_bad q l'
        obtain ⟨⟨T, E⟩, hTE⟩ : ∃ d, drawI p l = d := ⟨_, rfl⟩
        obtain ⟨⟨T', E'⟩, hTE'⟩ : ∃ d, drawI q l' = d := ⟨_, rfl⟩
        rw [hTE] at hD2 hD3
        rw [hTE'] at gD2 gD3
        simp only [] at hD2 hD3 gD2 gD3
        have HTE := Lib.hid hTE
        have HTE' := Lib.hid hTE'
        clear hTE hTE' hl hl'
        have tT := bN_toList T
        have tT' := bN_toList T'
        by_cases hE : E = 0
        · obtain ⟨P, rfl, ok, h52, hT⟩ := hD2 hE
          subst hE
          have HDM := Lib.hid (fun m (h : TrEq l m) => drawI_tr ok HTE.out h)
          have HMO := Lib.hid (fun m (h : TrEq l m) => h.okD ok)
          have HOK := Lib.hid ok
          have HT := Lib.hid hT
          have tk2 : True := trivial
          have tk3 : True := trivial
          clear hD2 hD3 hT ok
          by_cases hE' : E' = 0
          · obtain ⟨Q, rfl, ok', h52', hT'⟩ := gD2 hE'
            subst hE'
            have HRS := Lib.hid (fun w' (hB : Below w.heap.size w w') => rsame_ok P Q A l c A' l' c' w' H (hr.below' hB hH) (hr'.below' hB hH) (Nat.le_trans hH hB.size) HOK.out ok' h52 h52')
            rw [← HT.out, ← hT'] at HRS
            clear gD2 gD3 h52 h52' hT' ok'
            by_cases hTT : T = T'
            · have z1 : (T == T') = true := beq_iff_eq.2 hTT
              rw [show decide (T = T') = true by simp [hTT]] at HRS
              have HTT := Lib.hid hTT
              clear hTT
              go_wp2_with (first
                | (go_at_call 15; have := tk1; rw [hwA.out]; refine HF1.out.mono ?_; rintro e w1 ⟨rfl, hB1⟩
                   clear tk1
                   have hBw1 := hBA.trans (hB1.mono hBA.size)
                   have hz1 := hB1.size
                   have kS1 := kS.below' hB1
                   have kT1 := kT.below' hB1
                   have a01 := kS1.cell 0 _ rfl
                   have a11 := kS1.cell 1 _ rfl
                   have al1 := kS1.lt
                   have b01 := kT1.cell 0 _ rfl
                   have b11 := kT1.cell 1 _ rfl
                   have bl1 := kT1.lt)
                | (go_at_call 15; refine (HF2.out w1 hBw1).mono ?_; rintro e w2 ⟨rfl, hB2⟩
                   have hBw2 := hBw1.trans (hB2.mono hBw1.size)
                   have hz2 := hB2.size
                   have kS2 := kS1.below' hB2
                   have kT2 := kT1.below' hB2
                   have a02 := kS2.cell 0 _ rfl
                   have a12 := kS2.cell 1 _ rfl
                   have al2 := kS2.lt
                   have b02 := kT2.cell 0 _ rfl
                   have b12 := kT2.cell 1 _ rfl
                   have bl2 := kT2.lt)
                | (go_at_call 14; have := tk2; refine (u_draw _ A l c w2 H (hr.below' hBw2 hH) (by have := hBw2.size; omega) HW.out hl6 (hDt.below hBw2)).mono ?_; rw [HTE.out]; rintro e w3 ⟨rfl, hB3⟩
                   clear tk2
                   have hBw3 := hBw2.trans (hB3.mono hBw2.size)
                   have hz3 := hB3.size
                   have kS3 := kS2.below' hB3
                   have kT3 := kT2.below' hB3
                   have a03 := kS3.cell 0 _ rfl
                   have a13 := kS3.cell 1 _ rfl
                   have al3 := kS3.lt
                   have b03 := kT3.cell 0 _ rfl
                   have b13 := kT3.cell 1 _ rfl
                   have bl3 := kT3.lt)
                | (go_at_call 16; refine (exchanged_any P A l c B L cB w3 H (hr.below' hBw3 hH) (hat.below' hBw3 hH) (by have := hBw3.size; omega) HOK.out hnil hL2 HLB.out).mono ?_; rintro e w4 ⟨A4, m, c4, rfl, rm, hm, hB4⟩
                   have hBw4 := hBw3.trans (hB4.mono hBw3.size)
                   have hz4 := hB4.size
                   have kS4 := kS3.below' hB4
                   have kT4 := kT3.below' hB4
                   have a04 := kS4.cell 0 _ rfl
                   have a14 := kS4.cell 1 _ rfl
                   have al4 := kS4.lt
                   have b04 := kT4.cell 0 _ rfl
                   have b14 := kT4.cell 1 _ rfl
                   have bl4 := kT4.lt
                   have HDM4 := Lib.hid (HDM.out m hm)
                   have HMO4 := Lib.hid (HMO.out m hm))
                | (go_at_call 14; have := tk3; refine (u_draw _ A4 m c4 w4 _ rm (Nat.le_refl _) (fun k hk => by have := okD_w16 HMO4.out k hk; omega) (by have := HMO4.out.len; omega) (hDt.below hBw4)).mono ?_; rw [HDM4.out]; rintro e w5 ⟨rfl, hB5⟩
                   clear tk3
                   have hBw5 := hBw4.trans (hB5.mono hBw4.size)
                   have hz5 := hB5.size
                   have kS5 := kS4.below' hB5
                   have kT5 := kT4.below' hB5
                   have a05 := kS5.cell 0 _ rfl
                   have a15 := kS5.cell 1 _ rfl
                   have al5 := kS5.lt
                   have b05 := kT5.cell 0 _ rfl
                   have b15 := kT5.cell 1 _ rfl
                   have bl5 := kT5.lt)
                | (go_at_call 14; refine (u_draw _ A' l' c' w5 H (hr'.below' hBw5 hH) (by have := hBw5.size; omega) HW'.out hl6' (hDt.below hBw5)).mono ?_; rw [HTE'.out]; rintro e w6 ⟨rfl, hB6⟩
                   have hBw6 := hBw5.trans (hB6.mono hBw5.size)
                   have hz6 := hB6.size
                   have kS6 := kS5.below' hB6
                   have kT6 := kT5.below' hB6
                   have a06 := kS6.cell 0 _ rfl
                   have a16 := kS6.cell 1 _ rfl
                   have al6 := kS6.lt
                   have b06 := kT6.cell 0 _ rfl
                   have b16 := kT6.cell 1 _ rfl
                   have bl6 := kT6.lt)
                | (go_at_call 17; refine (HRS.out w6 hBw6).mono ?_; rintro e w7 ⟨rfl, hB7⟩
                   have hBw7 := hBw6.trans (hB7.mono hBw6.size)
                   have hz7 := hB7.size
                   have kS7 := kS6.below' hB7
                   have kT7 := kT6.below' hB7
                   have a07 := kS7.cell 0 _ rfl
                   have a17 := kS7.cell 1 _ rfl
                   have al7 := kS7.lt
                   have b07 := kT7.cell 0 _ rfl
                   have b17 := kT7.cell 1 _ rfl
                   have bl7 := kT7.lt)
                | (go_at_call 10; refine (shown_any w7 (hDt.below hBw7)).mono ?_; rintro e w27 ⟨rfl, hB27⟩
                   have hBw27 := hBw7.trans (hB27.mono hBw7.size))
                | fail)
              go_ret
              exact ⟨rfl, hBw27⟩
            · have z1 : (T == T') = false := beq_eq_false_iff_ne.2 hTT
              rw [show decide (T = T') = false by simp [hTT]] at HRS
              have HTT := Lib.hid hTT
              clear hTT
              go_wp2_with (first
                | (go_at_call 15; have := tk1; rw [hwA.out]; refine HF1.out.mono ?_; rintro e w1 ⟨rfl, hB1⟩
                   clear tk1
                   have hBw1 := hBA.trans (hB1.mono hBA.size)
                   have hz1 := hB1.size
                   have kS1 := kS.below' hB1
                   have kT1 := kT.below' hB1
                   have a01 := kS1.cell 0 _ rfl
                   have a11 := kS1.cell 1 _ rfl
                   have al1 := kS1.lt
                   have b01 := kT1.cell 0 _ rfl
                   have b11 := kT1.cell 1 _ rfl
                   have bl1 := kT1.lt)
                | (go_at_call 15; refine (HF2.out w1 hBw1).mono ?_; rintro e w2 ⟨rfl, hB2⟩
                   have hBw2 := hBw1.trans (hB2.mono hBw1.size)
                   have hz2 := hB2.size
                   have kS2 := kS1.below' hB2
                   have kT2 := kT1.below' hB2
                   have a02 := kS2.cell 0 _ rfl
                   have a12 := kS2.cell 1 _ rfl
                   have al2 := kS2.lt
                   have b02 := kT2.cell 0 _ rfl
                   have b12 := kT2.cell 1 _ rfl
                   have bl2 := kT2.lt)
                | (go_at_call 14; have := tk2; refine (u_draw _ A l c w2 H (hr.below' hBw2 hH) (by have := hBw2.size; omega) HW.out hl6 (hDt.below hBw2)).mono ?_; rw [HTE.out]; rintro e w3 ⟨rfl, hB3⟩
                   clear tk2
                   have hBw3 := hBw2.trans (hB3.mono hBw2.size)
                   have hz3 := hB3.size
                   have kS3 := kS2.below' hB3
                   have kT3 := kT2.below' hB3
                   have a03 := kS3.cell 0 _ rfl
                   have a13 := kS3.cell 1 _ rfl
                   have al3 := kS3.lt
                   have b03 := kT3.cell 0 _ rfl
                   have b13 := kT3.cell 1 _ rfl
                   have bl3 := kT3.lt)
                | (go_at_call 16; refine (exchanged_any P A l c B L cB w3 H (hr.below' hBw3 hH) (hat.below' hBw3 hH) (by have := hBw3.size; omega) HOK.out hnil hL2 HLB.out).mono ?_; rintro e w4 ⟨A4, m, c4, rfl, rm, hm, hB4⟩
                   have hBw4 := hBw3.trans (hB4.mono hBw3.size)
                   have hz4 := hB4.size
                   have kS4 := kS3.below' hB4
                   have kT4 := kT3.below' hB4
                   have a04 := kS4.cell 0 _ rfl
                   have a14 := kS4.cell 1 _ rfl
                   have al4 := kS4.lt
                   have b04 := kT4.cell 0 _ rfl
                   have b14 := kT4.cell 1 _ rfl
                   have bl4 := kT4.lt
                   have HDM4 := Lib.hid (HDM.out m hm)
                   have HMO4 := Lib.hid (HMO.out m hm))
                | (go_at_call 14; have := tk3; refine (u_draw _ A4 m c4 w4 _ rm (Nat.le_refl _) (fun k hk => by have := okD_w16 HMO4.out k hk; omega) (by have := HMO4.out.len; omega) (hDt.below hBw4)).mono ?_; rw [HDM4.out]; rintro e w5 ⟨rfl, hB5⟩
                   clear tk3
                   have hBw5 := hBw4.trans (hB5.mono hBw4.size)
                   have hz5 := hB5.size
                   have kS5 := kS4.below' hB5
                   have kT5 := kT4.below' hB5
                   have a05 := kS5.cell 0 _ rfl
                   have a15 := kS5.cell 1 _ rfl
                   have al5 := kS5.lt
                   have b05 := kT5.cell 0 _ rfl
                   have b15 := kT5.cell 1 _ rfl
                   have bl5 := kT5.lt)
                | (go_at_call 14; refine (u_draw _ A' l' c' w5 H (hr'.below' hBw5 hH) (by have := hBw5.size; omega) HW'.out hl6' (hDt.below hBw5)).mono ?_; rw [HTE'.out]; rintro e w6 ⟨rfl, hB6⟩
                   have hBw6 := hBw5.trans (hB6.mono hBw5.size)
                   have hz6 := hB6.size
                   have kS6 := kS5.below' hB6
                   have kT6 := kT5.below' hB6
                   have a06 := kS6.cell 0 _ rfl
                   have a16 := kS6.cell 1 _ rfl
                   have al6 := kS6.lt
                   have b06 := kT6.cell 0 _ rfl
                   have b16 := kT6.cell 1 _ rfl
                   have bl6 := kT6.lt)
                | (go_at_call 17; refine (HRS.out w6 hBw6).mono ?_; rintro e w7 ⟨rfl, hB7⟩
                   have hBw7 := hBw6.trans (hB7.mono hBw6.size)
                   have hz7 := hB7.size
                   have kS7 := kS6.below' hB7
                   have kT7 := kT6.below' hB7
                   have a07 := kS7.cell 0 _ rfl
                   have a17 := kS7.cell 1 _ rfl
                   have al7 := kS7.lt
                   have b07 := kT7.cell 0 _ rfl
                   have b17 := kT7.cell 1 _ rfl
                   have bl7 := kT7.lt)
                | (go_at_call 10; refine (shown_any w7 (hDt.below hBw7)).mono ?_; rintro e w27 ⟨rfl, hB27⟩
                   have hBw27 := hBw7.trans (hB27.mono hBw7.size))
                | fail)
              go_ret
              exact ⟨rfl, hBw27⟩
          · have z2 : (E' == 0) = false := by simpa using hE'
            have z2n : (E' != 0) = true := by simpa using hE'
            have hT0 := gD3 hE'
            have z3 : (T' == []) = true := by rw [hT0]; rfl
            have HT0 := Lib.hid hT0
            clear hT0 gD2 gD3
            go_wp2_with (first
              | (go_at_call 15; have := tk1; rw [hwA.out]; refine HF1.out.mono ?_; rintro e w1 ⟨rfl, hB1⟩
                 clear tk1
                 have hBw1 := hBA.trans (hB1.mono hBA.size)
                 have hz1 := hB1.size
                 have kS1 := kS.below' hB1
                 have kT1 := kT.below' hB1
                 have a01 := kS1.cell 0 _ rfl
                 have a11 := kS1.cell 1 _ rfl
                 have al1 := kS1.lt
                 have b01 := kT1.cell 0 _ rfl
                 have b11 := kT1.cell 1 _ rfl
                 have bl1 := kT1.lt)
              | (go_at_call 15; refine (HF2.out w1 hBw1).mono ?_; rintro e w2 ⟨rfl, hB2⟩
                 have hBw2 := hBw1.trans (hB2.mono hBw1.size)
                 have hz2 := hB2.size
                 have kS2 := kS1.below' hB2
                 have kT2 := kT1.below' hB2
                 have a02 := kS2.cell 0 _ rfl
                 have a12 := kS2.cell 1 _ rfl
                 have al2 := kS2.lt
                 have b02 := kT2.cell 0 _ rfl
                 have b12 := kT2.cell 1 _ rfl
                 have bl2 := kT2.lt)
              | (go_at_call 14; have := tk2; refine (u_draw _ A l c w2 H (hr.below' hBw2 hH) (by have := hBw2.size; omega) HW.out hl6 (hDt.below hBw2)).mono ?_; rw [HTE.out]; rintro e w3 ⟨rfl, hB3⟩
                 clear tk2
                 have hBw3 := hBw2.trans (hB3.mono hBw2.size)
                 have hz3 := hB3.size
                 have kS3 := kS2.below' hB3
                 have kT3 := kT2.below' hB3
                 have a03 := kS3.cell 0 _ rfl
                 have a13 := kS3.cell 1 _ rfl
                 have al3 := kS3.lt
                 have b03 := kT3.cell 0 _ rfl
                 have b13 := kT3.cell 1 _ rfl
                 have bl3 := kT3.lt)
              | (go_at_call 16; refine (exchanged_any P A l c B L cB w3 H (hr.below' hBw3 hH) (hat.below' hBw3 hH) (by have := hBw3.size; omega) HOK.out hnil hL2 HLB.out).mono ?_; rintro e w4 ⟨A4, m, c4, rfl, rm, hm, hB4⟩
                 have hBw4 := hBw3.trans (hB4.mono hBw3.size)
                 have hz4 := hB4.size
                 have kS4 := kS3.below' hB4
                 have kT4 := kT3.below' hB4
                 have a04 := kS4.cell 0 _ rfl
                 have a14 := kS4.cell 1 _ rfl
                 have al4 := kS4.lt
                 have b04 := kT4.cell 0 _ rfl
                 have b14 := kT4.cell 1 _ rfl
                 have bl4 := kT4.lt
                 have HDM4 := Lib.hid (HDM.out m hm)
                 have HMO4 := Lib.hid (HMO.out m hm))
              | (go_at_call 14; have := tk3; refine (u_draw _ A4 m c4 w4 _ rm (Nat.le_refl _) (fun k hk => by have := okD_w16 HMO4.out k hk; omega) (by have := HMO4.out.len; omega) (hDt.below hBw4)).mono ?_; rw [HDM4.out]; rintro e w5 ⟨rfl, hB5⟩
                 clear tk3
                 have hBw5 := hBw4.trans (hB5.mono hBw4.size)
                 have hz5 := hB5.size
                 have kS5 := kS4.below' hB5
                 have kT5 := kT4.below' hB5
                 have a05 := kS5.cell 0 _ rfl
                 have a15 := kS5.cell 1 _ rfl
                 have al5 := kS5.lt
                 have b05 := kT5.cell 0 _ rfl
                 have b15 := kT5.cell 1 _ rfl
                 have bl5 := kT5.lt)
              | (go_at_call 14; refine (u_draw _ A' l' c' w5 H (hr'.below' hBw5 hH) (by have := hBw5.size; omega) HW'.out hl6' (hDt.below hBw5)).mono ?_; rw [HTE'.out]; rintro e w6 ⟨rfl, hB6⟩
                 have hBw6 := hBw5.trans (hB6.mono hBw5.size)
                 have hz6 := hB6.size
                 have kS6 := kS5.below' hB6
                 have kT6 := kT5.below' hB6
                 have a06 := kS6.cell 0 _ rfl
                 have a16 := kS6.cell 1 _ rfl
                 have al6 := kS6.lt
                 have b06 := kT6.cell 0 _ rfl
                 have b16 := kT6.cell 1 _ rfl
                 have bl6 := kT6.lt)
              | (go_at_call 10; refine (shown_any w6 (hDt.below hBw6)).mono ?_; rintro e w26 ⟨rfl, hB26⟩
                 have hBw26 := hBw6.trans (hB26.mono hBw6.size))
              | fail)
            go_ret
            exact ⟨rfl, hBw26⟩
        · have z2 : (E == 0) = false := by simpa using hE
          have z2n : (E != 0) = true := by simpa using hE
          have hT0 := hD3 hE
          have z3 : (T == []) = true := by rw [hT0]; rfl
          have HT0 := Lib.hid hT0
          have tk2 : True := trivial
          clear hT0 hD2 hD3 gD2 gD3
          go_wp2_with (first
            | (go_at_call 15; have := tk1; rw [hwA.out]; refine HF1.out.mono ?_; rintro e w1 ⟨rfl, hB1⟩
               clear tk1
               have hBw1 := hBA.trans (hB1.mono hBA.size)
               have hz1 := hB1.size
               have kS1 := kS.below' hB1
               have kT1 := kT.below' hB1
               have a01 := kS1.cell 0 _ rfl
               have a11 := kS1.cell 1 _ rfl
               have al1 := kS1.lt
               have b01 := kT1.cell 0 _ rfl
               have b11 := kT1.cell 1 _ rfl
               have bl1 := kT1.lt)
            | (go_at_call 15; refine (HF2.out w1 hBw1).mono ?_; rintro e w2 ⟨rfl, hB2⟩
               have hBw2 := hBw1.trans (hB2.mono hBw1.size)
               have hz2 := hB2.size
               have kS2 := kS1.below' hB2
               have kT2 := kT1.below' hB2
               have a02 := kS2.cell 0 _ rfl
               have a12 := kS2.cell 1 _ rfl
               have al2 := kS2.lt
               have b02 := kT2.cell 0 _ rfl
               have b12 := kT2.cell 1 _ rfl
               have bl2 := kT2.lt)
            | (go_at_call 14; have := tk2; refine (u_draw _ A l c w2 H (hr.below' hBw2 hH) (by have := hBw2.size; omega) HW.out hl6 (hDt.below hBw2)).mono ?_; rw [HTE.out]; rintro e w3 ⟨rfl, hB3⟩
               clear tk2
               have hBw3 := hBw2.trans (hB3.mono hBw2.size)
               have hz3 := hB3.size
               have kS3 := kS2.below' hB3
               have kT3 := kT2.below' hB3
               have a03 := kS3.cell 0 _ rfl
               have a13 := kS3.cell 1 _ rfl
               have al3 := kS3.lt
               have b03 := kT3.cell 0 _ rfl
               have b13 := kT3.cell 1 _ rfl
               have bl3 := kT3.lt)
            | (go_at_call 10; refine (shown_any w3 (hDt.below hBw3)).mono ?_; rintro e w23 ⟨rfl, hB23⟩
               have hBw23 := hBw3.trans (hB23.mono hBw3.size))
            | fail)
          go_ret
          exact ⟨rfl, hBw23⟩
end Go.Proofs.YtoccplfnjammjaaGreatDoor
