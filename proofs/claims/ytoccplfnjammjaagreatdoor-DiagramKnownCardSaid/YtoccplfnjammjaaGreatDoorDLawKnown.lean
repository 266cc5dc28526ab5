/- The law DiagramKnown, walked. -/
import Derived.Test.YtoccplfnjammjaaGreatDoorDLawDraws
set_option linter.unusedSimpArgs false
set_option linter.unusedVariables false
namespace Go.Proofs.YtoccplfnjammjaaGreatDoor
open Go Go.RowKit Tor

def knT1 : List UInt8 := [100, 105, 97, 103, 114, 97, 109, 32, 52, 32, 50, 10, 108, 101, 116, 116, 101, 114, 32, 65, 32, 67, 84, 10, 40, 65, 41, 32, 124, 32, 124, 10, 124, 32, 124, 32, 40, 65, 41, 10]
def knT2 : List UInt8 := [100, 105, 97, 103, 114, 97, 109, 32, 52, 32, 50, 10, 108, 101, 116, 116, 101, 114, 32, 65, 32, 67, 84, 10, 40, 65, 41, 32, 124, 32, 124, 10]
def knT3 : List UInt8 := [100, 105, 97, 103, 114, 97, 109, 32, 51, 32, 50, 10, 108, 101, 116, 116, 101, 114, 32, 65, 32, 115, 101, 119, 10, 108, 101, 116, 116, 101, 114, 32, 66, 32, 45, 10, 124, 32, 40, 65, 41, 10, 40, 66, 41, 32, 124, 10]
def knE : List Tri := [⟨2, 1, ⟨#[]⟩⟩, ⟨1, 0, ⟨#[]⟩⟩]
def knL : List (List UInt8) := [[67, 84], [67, 84, 67]]
theorem knE_draw : drawI 3 knE = (knT3, 0) := by decide +kernel
theorem knT1_read : readA knT1 = .error (0, 6) := by kernel_rfl
theorem knT2_read : readA knT2 = .error (4, 6) := by kernel_rfl
theorem kn_le : leL 4 exD = knL ∧ leE 4 exD = 0 := by decide +kernel
theorem kn_c11 : cuP 4 exD 1 1 = 4 ∧ cuL 4 exD 1 1 = [] ∧ cuE 4 exD 1 1 = 0 := by decide +kernel
theorem kn_c02 : cuP 4 exD 0 2 = 4 ∧ cuL 4 exD 0 2 = exD ∧ cuE 4 exD 0 2 = 0 := by decide +kernel
theorem kn_c03 : cuP 4 exD 0 3 = 0 ∧ cuL 4 exD 0 3 = [] ∧ cuE 4 exD 0 3 = 7 := by decide +kernel
theorem letters_kn (A : Option Addr) (w : World) (hr : RdT w w.heap.size A exD) : Calls Tryz.prog 24 #[.agg #[.int .i64 4, .slice A exD.length 3]] w fun e w' => ∃ B c, e = .returned (.tuple #[.slice B 2 c, .int .i64 0]) ∧ Rd 1 tenc w' w'.heap.size B knL ∧ Below w.heap.size w w' := by
  refine (u_letters 4 A exD 3 w _ hr (Nat.le_refl _) exD_words (by decide)).mono ?_
  rw [kn_le.1, kn_le.2]
  rintro e w' ⟨B, c, rfl, h, _, hB⟩
  exact ⟨B, c, rfl, h, hB⟩
theorem cut_kn (f t P E : Int) (d : List Tri) (h : cuP 4 exD f t = P ∧ cuL 4 exD f t = d ∧ cuE 4 exD f t = E) (A : Option Addr) (w : World) (hr : RdT w w.heap.size A exD) : Calls Tryz.prog 23 #[.agg #[.int .i64 4, .slice A exD.length 3], .int .i64 f, .int .i64 t] w (ShRet w P d E) := by
  have := u_cut 4 A exD 3 w _ hr (Nat.le_refl _) exD_words (by decide) f t
  rw [h.1, h.2.1, h.2.2] at this
  exact this
theorem read_kn {T : List UInt8} {c : Int} {k : Nat} (h : readA T = .error (k, c)) (hl : T.length ≤ 1000000) (w : World) (hDt : DtAt w) : Calls Tryz.prog 11 #[.string (bN T)] w (Ret (.tuple #[.agg #[.int .i64 0, .slice none 0 0], .int .i64 k, .int .i64 c]) w) := by
  refine (read_any T hl w hDt).mono ?_
  rw [h]
  rintro e w' ⟨hB, he⟩
  exact ⟨he, hB⟩
theorem read_kn1 (w : World) (hDt : DtAt w) : Calls Tryz.prog 11 #[.string ⟨#[100, 105, 97, 103, 114, 97, 109, 32, 52, 32, 50, 10, 108, 101, 116, 116, 101, 114, 32, 65, 32, 67, 84, 10, 40, 65, 41, 32, 124, 32, 124, 10, 124, 32, 124, 32, 40, 65, 41, 10]⟩] w (Ret (.tuple #[.agg #[.int .i64 0, .slice none 0 0], .int .i64 0, .int .i64 6]) w) := by
  have h := read_kn knT1_read (by decide) w hDt
  rw [show bN knT1 = ⟨#[100, 105, 97, 103, 114, 97, 109, 32, 52, 32, 50, 10, 108, 101, 116, 116, 101, 114, 32, 65, 32, 67, 84, 10, 40, 65, 41, 32, 124, 32, 124, 10, 124, 32, 124, 32, 40, 65, 41, 10]⟩ from rfl] at h
  exact h
theorem read_kn2 (w : World) (hDt : DtAt w) : Calls Tryz.prog 11 #[.string ⟨#[100, 105, 97, 103, 114, 97, 109, 32, 52, 32, 50, 10, 108, 101, 116, 116, 101, 114, 32, 65, 32, 67, 84, 10, 40, 65, 41, 32, 124, 32, 124, 10]⟩] w (Ret (.tuple #[.agg #[.int .i64 0, .slice none 0 0], .int .i64 4, .int .i64 6]) w) := by
  have h := read_kn knT2_read (by decide) w hDt
  rw [show bN knT2 = ⟨#[100, 105, 97, 103, 114, 97, 109, 32, 52, 32, 50, 10, 108, 101, 116, 116, 101, 114, 32, 65, 32, 67, 84, 10, 40, 65, 41, 32, 124, 32, 124, 10]⟩ from rfl] at h
  exact h
theorem draw_kn (A : Option Addr) (w : World) (hr : RdT w w.heap.size A knE) (hDt : DtAt w) : Calls Tryz.prog 14 #[.agg #[.int .i64 3, .slice A 2 2]] w (Ret (.tuple #[.string (bN knT3), .int .i64 0]) w) := by
  have := u_draw 3 A knE 2 w _ hr (Nat.le_refl _) (by decide) (by decide) hDt
  rw [knE_draw] at this
  exact this
theorem rdT_knE {w : World} {g : Nat} {t : TypeId} (h : Blk w g t #[.int .i64 2, .int .i64 1, .string ⟨#[]⟩, .int .i64 1, .int .i64 0, .string ⟨#[]⟩]) : RdT w w.heap.size (some ⟨g, 0, none⟩) knE := fun _ => by
  refine ⟨g, 0, rfl, h.lt, ?_⟩
  intro k x hx j u hu
  have hk : k < 2 := (List.getElem?_eq_some_iff.1 hx).1
  have hcase : k = 0 ∨ k = 1 := by omega
  rcases hcase with rfl | rfl <;>
    (cases hx
     have hj : j < 3 := (List.getElem?_eq_some_iff.1 hu).1
     have hjc : j = 0 ∨ j = 1 ∨ j = 2 := by omega
     rcases hjc with rfl | rfl | rfl <;> (cases hu; exact h.cell _ _ rfl))
set_option maxRecDepth 100000 in
set_option maxHeartbeats 8000000 in
theorem lawKnown_any (w : World) (hDt : DtAt w) : Calls Tryz.prog 8 #[] w (Ret (.bool true) w) := by
  go_enter Tryz.func8, Tryz.ntmps8
  go_wp2_with fail
  go_at_call 25
  refine (example_any w).mono ?_
  rintro e w1 ⟨A1, rfl, r1, hB1⟩
  have hBw1 := hB1
  have hz1 := hB1.size
  go_wp2_with fail
  go_at_call 24
  refine (letters_kn A1 w1 r1).mono ?_
  rintro e w2 ⟨BL, cL, rfl, sL, hB2⟩
  have hBw2 := hBw1.trans (hB2.mono hBw1.size)
  have hz2 := hB2.size
  go_wp2_with fail
  go_at_call 25
  refine (example_any w2).mono ?_
  rintro e w3 ⟨A3, rfl, r3, hB3⟩
  have hBw3 := hBw2.trans (hB3.mono hBw2.size)
  have hz3 := hB3.size
  replace sL := sL.below' hB3 (by omega)
  go_wp2_with fail
  go_at_call 23
  refine (cut_kn 1 1 _ _ _ kn_c11 A3 w3 r3).mono ?_
  rintro e w4 ⟨B4, c4, rfl, r4, lo4, hB4⟩
  have hBw4 := hBw3.trans (hB4.mono hBw3.size)
  have hz4 := hB4.size
  replace sL := sL.below' hB4 (by omega)
  have hB5 : Below w4.heap.size w4 (w4.alloc (.cells #[.int .i64 4, .slice B4 0 c4] 25)) := (Below.refl _ _).alloc (Nat.le_refl _) _
  have k3 : Blk (w4.alloc (.cells #[.int .i64 4, .slice B4 0 c4] 25)) w4.heap.size 25 #[.int .i64 4, .slice B4 0 c4] := Blk.new w4 _ _
  obtain ⟨w5, hw5⟩ : ∃ x, Hid (w4.alloc (.cells #[.int .i64 4, .slice B4 0 c4] 25) = x) := ⟨_, Lib.hid rfl⟩
  rw [hw5.out] at hB5 k3
  have hBw5 := hBw4.trans (hB5.mono hBw4.size)
  have hz5 := hB5.size
  replace sL := sL.below' hB5 (by omega)
  go_wp2_with fail
  rw [hw5.out]
  go_at_call 25
  refine (example_any w5).mono ?_
  rintro e w6 ⟨A6, rfl, r6, hB6⟩
  have hBw6 := hBw5.trans (hB6.mono hBw5.size)
  have hz6 := hB6.size
  replace sL := sL.below' hB6 (by omega)
  replace k3 := k3.below' hB6
  go_wp2_with fail
  go_at_call 23
  refine (cut_kn 0 2 _ _ _ kn_c02 A6 w6 r6).mono ?_
  rintro e w7 ⟨B7, c7, rfl, d5, lo7, hB7⟩
  have hBw7 := hBw6.trans (hB7.mono hBw6.size)
  have hz7 := hB7.size
  replace sL := sL.below' hB7 (by omega)
  replace k3 := k3.below' hB7
  have hB8 : Below w7.heap.size w7 (w7.alloc (.cells #[.int .i64 4, .slice B7 exD.length c7] 25)) := (Below.refl _ _).alloc (Nat.le_refl _) _
  have k5 : Blk (w7.alloc (.cells #[.int .i64 4, .slice B7 exD.length c7] 25)) w7.heap.size 25 #[.int .i64 4, .slice B7 exD.length c7] := Blk.new w7 _ _
  obtain ⟨w8, hw8⟩ : ∃ x, Hid (w7.alloc (.cells #[.int .i64 4, .slice B7 exD.length c7] 25) = x) := ⟨_, Lib.hid rfl⟩
  rw [hw8.out] at hB8 k5
  have hBw8 := hBw7.trans (hB8.mono hBw7.size)
  have hz8 := hB8.size
  replace sL := sL.below' hB8 (by omega)
  replace k3 := k3.below' hB8
  replace d5 := d5.below' hB8 (by omega)
  go_wp2_with fail
  rw [hw8.out]
  go_at_call 25
  refine (example_any w8).mono ?_
  rintro e w9 ⟨A9, rfl, r9, hB9⟩
  have hBw9 := hBw8.trans (hB9.mono hBw8.size)
  have hz9 := hB9.size
  replace sL := sL.below' hB9 (by omega)
  replace k3 := k3.below' hB9
  replace d5 := d5.below' hB9 (by omega)
  replace k5 := k5.below' hB9
  go_wp2_with fail
  go_at_call 23
  refine (cut_kn 0 3 _ _ _ kn_c03 A9 w9 r9).mono ?_
  rintro e w10 ⟨B10, c10, rfl, r10, lo10, hB10⟩
  have hBw10 := hBw9.trans (hB10.mono hBw9.size)
  have hz10 := hB10.size
  replace sL := sL.below' hB10 (by omega)
  replace k3 := k3.below' hB10
  replace d5 := d5.below' hB10 (by omega)
  replace k5 := k5.below' hB10
  have hB11 : Below w10.heap.size w10 (w10.alloc (.cells #[.int .i64 0, .slice B10 0 c10] 25)) := (Below.refl _ _).alloc (Nat.le_refl _) _
  have k7 : Blk (w10.alloc (.cells #[.int .i64 0, .slice B10 0 c10] 25)) w10.heap.size 25 #[.int .i64 0, .slice B10 0 c10] := Blk.new w10 _ _
  obtain ⟨w11, hw11⟩ : ∃ x, Hid (w10.alloc (.cells #[.int .i64 0, .slice B10 0 c10] 25) = x) := ⟨_, Lib.hid rfl⟩
  rw [hw11.out] at hB11 k7
  have hBw11 := hBw10.trans (hB11.mono hBw10.size)
  have hz11 := hB11.size
  replace sL := sL.below' hB11 (by omega)
  replace k3 := k3.below' hB11
  replace d5 := d5.below' hB11 (by omega)
  replace k5 := k5.below' hB11
  go_wp2_with fail
  rw [hw11.out]
  go_at_call 11
  refine (read_kn1 w11 (hDt.below hBw11)).mono ?_
  rintro e w12 ⟨rfl, hB12⟩
  have hBw12 := hBw11.trans (hB12.mono hBw11.size)
  have hz12 := hB12.size
  replace sL := sL.below' hB12 (by omega)
  replace k3 := k3.below' hB12
  replace d5 := d5.below' hB12 (by omega)
  replace k5 := k5.below' hB12
  replace k7 := k7.below' hB12
  have hB13 : Below w12.heap.size w12 (w12.alloc (.cells #[.int .i64 0, .slice none 0 0] 25)) := (Below.refl _ _).alloc (Nat.le_refl _) _
  have k9 : Blk (w12.alloc (.cells #[.int .i64 0, .slice none 0 0] 25)) w12.heap.size 25 #[.int .i64 0, .slice none 0 0] := Blk.new w12 _ _
  obtain ⟨w13, hw13⟩ : ∃ x, Hid (w12.alloc (.cells #[.int .i64 0, .slice none 0 0] 25) = x) := ⟨_, Lib.hid rfl⟩
  rw [hw13.out] at hB13 k9
  have hBw13 := hBw12.trans (hB13.mono hBw12.size)
  have hz13 := hB13.size
  replace sL := sL.below' hB13 (by omega)
  replace k3 := k3.below' hB13
  replace d5 := d5.below' hB13 (by omega)
  replace k5 := k5.below' hB13
  replace k7 := k7.below' hB13
  go_wp2_with fail
  rw [hw13.out]
  go_at_call 11
  refine (read_kn2 w13 (hDt.below hBw13)).mono ?_
  rintro e w14 ⟨rfl, hB14⟩
  have hBw14 := hBw13.trans (hB14.mono hBw13.size)
  have hz14 := hB14.size
  replace sL := sL.below' hB14 (by omega)
  replace k3 := k3.below' hB14
  replace d5 := d5.below' hB14 (by omega)
  replace k5 := k5.below' hB14
  replace k7 := k7.below' hB14
  replace k9 := k9.below' hB14
  have hB15 : Below w14.heap.size w14 (w14.alloc (.cells #[.int .i64 0, .slice none 0 0] 25)) := (Below.refl _ _).alloc (Nat.le_refl _) _
  have k12 : Blk (w14.alloc (.cells #[.int .i64 0, .slice none 0 0] 25)) w14.heap.size 25 #[.int .i64 0, .slice none 0 0] := Blk.new w14 _ _
  obtain ⟨w15, hw15⟩ : ∃ x, Hid (w14.alloc (.cells #[.int .i64 0, .slice none 0 0] 25) = x) := ⟨_, Lib.hid rfl⟩
  rw [hw15.out] at hB15 k12
  have hBw15 := hBw14.trans (hB15.mono hBw14.size)
  have hz15 := hB15.size
  replace sL := sL.below' hB15 (by omega)
  replace k3 := k3.below' hB15
  replace d5 := d5.below' hB15 (by omega)
  replace k5 := k5.below' hB15
  replace k7 := k7.below' hB15
  replace k9 := k9.below' hB15
  have hB16 : Below w15.heap.size w15 (w15.alloc (.cells #[.int .i64 2, .int .i64 1, .string ⟨#[]⟩, .int .i64 1, .int .i64 0, .string ⟨#[]⟩] 44)) := (Below.refl _ _).alloc (Nat.le_refl _) _
  have kE : Blk (w15.alloc (.cells #[.int .i64 2, .int .i64 1, .string ⟨#[]⟩, .int .i64 1, .int .i64 0, .string ⟨#[]⟩] 44)) w15.heap.size 44 #[.int .i64 2, .int .i64 1, .string ⟨#[]⟩, .int .i64 1, .int .i64 0, .string ⟨#[]⟩] := Blk.new w15 _ _
  obtain ⟨w16, hw16⟩ : ∃ x, Hid (w15.alloc (.cells #[.int .i64 2, .int .i64 1, .string ⟨#[]⟩, .int .i64 1, .int .i64 0, .string ⟨#[]⟩] 44) = x) := ⟨_, Lib.hid rfl⟩
  rw [hw16.out] at hB16 kE
  have hBw16 := hBw15.trans (hB16.mono hBw15.size)
  have hz16 := hB16.size
  have hsE : w15.heap.size = w14.heap.size + 1 := by rw [← hw15.out]; simp
  rw [hsE] at kE
  have rE := rdT_knE kE
  replace sL := sL.below' hB16 (by omega)
  replace k3 := k3.below' hB16
  replace d5 := d5.below' hB16 (by omega)
  replace k5 := k5.below' hB16
  replace k7 := k7.below' hB16
  replace k9 := k9.below' hB16
  replace k12 := k12.below' hB16
  go_wp2_with fail
  rw [hw15.out]
  rw [hw16.out]
  go_at_call 14
  refine (draw_kn _ w16 rE (hDt.below hBw16)).mono ?_
  rintro e w17 ⟨rfl, hB17⟩
  have hBw17 := hBw16.trans (hB17.mono hBw16.size)
  have hz17 := hB17.size
  replace sL := sL.below' hB17 (by omega)
  replace k3 := k3.below' hB17
  replace d5 := d5.below' hB17 (by omega)
  replace k5 := k5.below' hB17
  replace k7 := k7.below' hB17
  replace k9 := k9.below' hB17
  replace k12 := k12.below' hB17
  obtain ⟨b0, o0, hA0, hb0, x0⟩ := sL.txt (k := 0) (by decide)
  obtain ⟨b1, o1, hA1, hb1, x1⟩ := sL.txt (k := 1) (by decide)
  subst hA0
  obtain ⟨rfl, rfl⟩ : b0 = b1 ∧ o0 = o1 := by injection hA1 with h; injection h with h1 h2 _; exact ⟨h1, h2⟩
  have l0 := lt_of_cell x0
  obtain ⟨y0, hy0⟩ : ∃ y, Hid (knL[0] = y) := ⟨_, Lib.hid rfl⟩
  obtain ⟨y1, hy1⟩ : ∃ y, Hid (knL[1] = y) := ⟨_, Lib.hid rfl⟩
  obtain ⟨y3, hy3⟩ : ∃ y, Hid (knT3 = y) := ⟨_, Lib.hid rfl⟩
  rw [hy0.out] at x0
  rw [hy1.out] at x1
  rw [hy3.out]
  have z0 : (y0 == [67, 84]) = true := by rw [← hy0.out]; rfl
  have z1 : (y1 == [67, 84, 67]) = true := by rw [← hy1.out]; rfl
  have z3 : (y3 == [100, 105, 97, 103, 114, 97, 109, 32, 51, 32, 50, 10, 108, 101, 116, 116, 101, 114, 32, 65, 32, 115, 101, 119, 10, 108, 101, 116, 116, 101, 114, 32, 66, 32, 45, 10, 124, 32, 40, 65, 41, 10, 40, 66, 41, 32, 124, 10]) = true := by rw [← hy3.out]; rfl
  have t0 := bN_toList y0
  have t1 := bN_toList y1
  have t3 := bN_toList y3
  have a30 := k3.cell 0 _ rfl
  have a31 := k3.cell 1 _ rfl
  have a3l := k3.lt
  have a50 := k5.cell 0 _ rfl
  have a51 := k5.cell 1 _ rfl
  have a5l := k5.lt
  go_wp2_with fail
  have hS1 : w17.drew.cell? ⟨b0, o0, none⟩ = some (.string (bN y0)) ∧ w17.drew.cell? ⟨b0, o0 + 1, none⟩ = some (.string (bN y1)) ∧ w17.drew.cell? ⟨w4.heap.size, 0, none⟩ = some (.int .i64 4) ∧ w17.drew.cell? ⟨w4.heap.size, 1, none⟩ = some (.slice B4 0 c4) ∧ w17.drew.cell? ⟨w7.heap.size, 0, none⟩ = some (.int .i64 4) ∧ w17.drew.cell? ⟨w7.heap.size, 1, none⟩ = some (.slice B7 exD.length c7) := ⟨x0, x1, a30, a31, a50, a51⟩
  refine wp_region_J (fun w' => w'.cell? ⟨b0, o0, none⟩ = some (.string (bN y0)) ∧ w'.cell? ⟨b0, o0 + 1, none⟩ = some (.string (bN y1)) ∧ w'.cell? ⟨w4.heap.size, 0, none⟩ = some (.int .i64 4) ∧ w'.cell? ⟨w4.heap.size, 1, none⟩ = some (.slice B4 0 c4) ∧ w'.cell? ⟨w7.heap.size, 0, none⟩ = some (.int .i64 4) ∧ w'.cell? ⟨w7.heap.size, 1, none⟩ = some (.slice B7 exD.length c7)) (fun _ => True) (fun _ => false) (by kernel_rfl) ?_
  have hBS : Below w17.heap.size w17 w17.drew := (Below.refl _ _).drew
  have hBwS := hBw17.trans (hBS.mono hBw17.size)
  replace d5 := d5.below' hBS (by omega)
  generalize w17.drew = wS at *
  have hzS := hBS.size
  try clear k3
  try clear k5
  try clear k7
  try clear k9
  try clear k12
  try clear kE
  try clear sL
  try clear rE
  try clear x0
  try clear x1
  try clear a30
  try clear a31
  try clear a3l
  try clear a50
  try clear a51
  try clear a5l
  try clear hA1
  try clear hb0
  try clear hb1
  try clear l0
  try clear hBS
  try clear hsE
  try clear hy0
  try clear hy1
  try clear hy3
  try clear lo20
  try clear hBw20
  try clear hB20
  try clear hw20
  try clear r20
  try clear lo19
  try clear hBw19
  try clear hB19
  try clear hw19
  try clear r19
  try clear lo18
  try clear hBw18
  try clear hB18
  try clear hw18
  try clear r18
  try clear lo17
  try clear hBw17
  try clear hB17
  try clear hw17
  try clear r17
  try clear lo16
  try clear hBw16
  try clear hB16
  try clear hw16
  try clear r16
  try clear lo15
  try clear hBw15
  try clear hB15
  try clear hw15
  try clear r15
  try clear lo14
  try clear hBw14
  try clear hB14
  try clear hw14
  try clear r14
  try clear lo13
  try clear hBw13
  try clear hB13
  try clear hw13
  try clear r13
  try clear lo12
  try clear hBw12
  try clear hB12
  try clear hw12
  try clear r12
  try clear lo11
  try clear hBw11
  try clear hB11
  try clear hw11
  try clear r11
  try clear lo10
  try clear hBw10
  try clear hB10
  try clear hw10
  try clear r10
  try clear lo9
  try clear hBw9
  try clear hB9
  try clear hw9
  try clear r9
  try clear lo8
  try clear hBw8
  try clear hB8
  try clear hw8
  try clear r8
  try clear lo7
  try clear hBw7
  try clear hB7
  try clear hw7
  try clear r7
  try clear lo6
  try clear hBw6
  try clear hB6
  try clear hw6
  try clear r6
  try clear lo5
  try clear hBw5
  try clear hB5
  try clear hw5
  try clear r5
  try clear lo4
  try clear hBw4
  try clear hB4
  try clear hw4
  try clear r4
  try clear lo3
  try clear hBw3
  try clear hB3
  try clear hw3
  try clear r3
  try clear lo2
  try clear hBw2
  try clear hB2
  try clear hw2
  try clear r2
  try clear lo1
  try clear hBw1
  try clear hB1
  try clear hw1
  try clear r1
  refine wpAnyJ_take1 0 rfl (by kernel_rfl) (by kernel_rfl) rfl (by kernel_rfl) (fun _ _ _ h => h) (by first | kernel_rfl | rfl) hS1 (fun w' hSw => (by obtain ⟨q0, q1, q2, q3, q4, q5⟩ := hSw; go_simp; try (with_reducible rfl))) ?_
  try simp only [Act.put, List.getElem_toArray, List.getElem_cons_succ, List.getElem_cons_zero, List.setIfInBounds_toArray, List.set_cons_zero, List.set_cons_succ]
  refine wpAnyJ_take1 1 rfl (by kernel_rfl) (by kernel_rfl) rfl (by kernel_rfl) (fun _ _ _ h => h) (by first | kernel_rfl | rfl) hS1 (fun w' hSw => (by obtain ⟨q0, q1, q2, q3, q4, q5⟩ := hSw; go_simp; try (with_reducible rfl))) ?_
  try simp only [Act.put, List.getElem_toArray, List.getElem_cons_succ, List.getElem_cons_zero, List.setIfInBounds_toArray, List.set_cons_zero, List.set_cons_succ]
  refine wpAnyJ_take1 2 rfl (by kernel_rfl) (by kernel_rfl) rfl (by kernel_rfl) (fun _ _ _ h => h) (by first | kernel_rfl | rfl) hS1 (fun w' hSw => (by obtain ⟨q0, q1, q2, q3, q4, q5⟩ := hSw; go_simp; try (with_reducible rfl))) ?_
  try simp only [Act.put, List.getElem_toArray, List.getElem_cons_succ, List.getElem_cons_zero, List.setIfInBounds_toArray, List.set_cons_zero, List.set_cons_succ]
  refine wpAnyJ_take1 3 rfl (by kernel_rfl) (by kernel_rfl) rfl (by kernel_rfl) (fun _ _ _ h => h) (by first | kernel_rfl | rfl) hS1 (fun w' hSw => (by obtain ⟨q0, q1, q2, q3, q4, q5⟩ := hSw; go_simp; try (with_reducible rfl))) ?_
  try simp only [Act.put, List.getElem_toArray, List.getElem_cons_succ, List.getElem_cons_zero, List.setIfInBounds_toArray, List.set_cons_zero, List.set_cons_succ]
  refine wpAnyJ_take1 4 rfl (by kernel_rfl) (by kernel_rfl) rfl (by kernel_rfl) (fun _ _ _ h => h) (by first | kernel_rfl | rfl) hS1 (fun w' hSw => (by obtain ⟨q0, q1, q2, q3, q4, q5⟩ := hSw; go_simp; try (with_reducible rfl))) ?_
  try simp only [Act.put, List.getElem_toArray, List.getElem_cons_succ, List.getElem_cons_zero, List.setIfInBounds_toArray, List.set_cons_zero, List.set_cons_succ]
  refine wpAnyJ_take1 5 rfl (by kernel_rfl) (by kernel_rfl) rfl (by kernel_rfl) (fun _ _ _ h => h) (by first | kernel_rfl | rfl) hS1 (fun w' hSw => (by obtain ⟨q0, q1, q2, q3, q4, q5⟩ := hSw; go_simp; try (with_reducible rfl))) ?_
  try simp only [Act.put, List.getElem_toArray, List.getElem_cons_succ, List.getElem_cons_zero, List.setIfInBounds_toArray, List.set_cons_zero, List.set_cons_succ]
  refine wpAnyJ_take1 6 rfl (by kernel_rfl) (by kernel_rfl) rfl (by kernel_rfl) (fun _ _ _ h => h) (by first | kernel_rfl | rfl) hS1 (fun w' hSw => (by obtain ⟨q0, q1, q2, q3, q4, q5⟩ := hSw; go_simp; try (with_reducible rfl))) ?_
  try simp only [Act.put, List.getElem_toArray, List.getElem_cons_succ, List.getElem_cons_zero, List.setIfInBounds_toArray, List.set_cons_zero, List.set_cons_succ]
  refine wpAnyJ_take1 7 rfl (by kernel_rfl) (by kernel_rfl) rfl (by kernel_rfl) (fun _ _ _ h => h) (by first | kernel_rfl | rfl) hS1 (fun w' hSw => (by obtain ⟨q0, q1, q2, q3, q4, q5⟩ := hSw; go_simp; try (with_reducible rfl))) ?_
  try simp only [Act.put, List.getElem_toArray, List.getElem_cons_succ, List.getElem_cons_zero, List.setIfInBounds_toArray, List.set_cons_zero, List.set_cons_succ]
  refine wpAnyJ_take1 8 rfl (by kernel_rfl) (by kernel_rfl) rfl (by kernel_rfl) (fun _ _ _ h => h) (by first | kernel_rfl | rfl) hS1 (fun w' hSw => (by obtain ⟨q0, q1, q2, q3, q4, q5⟩ := hSw; go_simp; try (with_reducible rfl))) ?_
  try simp only [Act.put, List.getElem_toArray, List.getElem_cons_succ, List.getElem_cons_zero, List.setIfInBounds_toArray, List.set_cons_zero, List.set_cons_succ]
  refine wpAnyJ_take1 9 rfl (by kernel_rfl) (by kernel_rfl) rfl (by kernel_rfl) (fun _ _ _ h => h) (by first | kernel_rfl | rfl) hS1 (fun w' hSw => (by obtain ⟨q0, q1, q2, q3, q4, q5⟩ := hSw; go_simp; try (with_reducible rfl))) ?_
  try simp only [Act.put, List.getElem_toArray, List.getElem_cons_succ, List.getElem_cons_zero, List.setIfInBounds_toArray, List.set_cons_zero, List.set_cons_succ]
  refine wpAnyJ_take1 10 rfl (by kernel_rfl) (by kernel_rfl) rfl (by kernel_rfl) (fun _ _ _ h => h) (by first | kernel_rfl | rfl) hS1 (fun w' hSw => (by obtain ⟨q0, q1, q2, q3, q4, q5⟩ := hSw; go_simp; try (with_reducible rfl))) ?_
  try simp only [Act.put, List.getElem_toArray, List.getElem_cons_succ, List.getElem_cons_zero, List.setIfInBounds_toArray, List.set_cons_zero, List.set_cons_succ]
  refine wpAnyJ_take1 11 rfl (by kernel_rfl) (by kernel_rfl) rfl (by kernel_rfl) (fun _ _ _ h => h) (by first | kernel_rfl | rfl) hS1 (fun w' hSw => (by obtain ⟨q0, q1, q2, q3, q4, q5⟩ := hSw; go_simp; try (with_reducible rfl))) ?_
  try simp only [Act.put, List.getElem_toArray, List.getElem_cons_succ, List.getElem_cons_zero, List.setIfInBounds_toArray, List.set_cons_zero, List.set_cons_succ]
  refine wpAnyJ_take1 12 rfl (by kernel_rfl) (by kernel_rfl) rfl (by kernel_rfl) (fun _ _ _ h => h) (by first | kernel_rfl | rfl) hS1 (fun w' hSw => (by obtain ⟨q0, q1, q2, q3, q4, q5⟩ := hSw; go_simp; try (with_reducible rfl))) ?_
  try simp only [Act.put, List.getElem_toArray, List.getElem_cons_succ, List.getElem_cons_zero, List.setIfInBounds_toArray, List.set_cons_zero, List.set_cons_succ]
  refine wpAnyJ_take1 13 rfl (by kernel_rfl) (by kernel_rfl) rfl (by kernel_rfl) (fun _ _ _ h => h) (by first | kernel_rfl | rfl) hS1 (fun w' hSw => (by obtain ⟨q0, q1, q2, q3, q4, q5⟩ := hSw; go_simp; try (with_reducible rfl))) ?_
  try simp only [Act.put, List.getElem_toArray, List.getElem_cons_succ, List.getElem_cons_zero, List.setIfInBounds_toArray, List.set_cons_zero, List.set_cons_succ]
  refine wpAnyJ_take1 14 rfl (by kernel_rfl) (by kernel_rfl) rfl (by kernel_rfl) (fun _ _ _ h => h) (by first | kernel_rfl | rfl) hS1 (fun w' hSw => (by obtain ⟨q0, q1, q2, q3, q4, q5⟩ := hSw; go_simp; try (with_reducible rfl))) ?_
  try simp only [Act.put, List.getElem_toArray, List.getElem_cons_succ, List.getElem_cons_zero, List.setIfInBounds_toArray, List.set_cons_zero, List.set_cons_succ]
  refine wpAnyJ_take1 15 rfl (by kernel_rfl) (by kernel_rfl) rfl (by kernel_rfl) (fun _ _ _ h => h) (by first | kernel_rfl | rfl) hS1 (fun w' hSw => (by obtain ⟨q0, q1, q2, q3, q4, q5⟩ := hSw; go_simp; try (with_reducible rfl))) ?_
  try simp only [Act.put, List.getElem_toArray, List.getElem_cons_succ, List.getElem_cons_zero, List.setIfInBounds_toArray, List.set_cons_zero, List.set_cons_succ]
  refine wpAnyJ_take1 16 rfl (by kernel_rfl) (by kernel_rfl) rfl (by kernel_rfl) (fun _ _ _ h => h) (by first | kernel_rfl | rfl) hS1 (fun w' hSw => (by obtain ⟨q0, q1, q2, q3, q4, q5⟩ := hSw; go_simp; try (with_reducible rfl))) ?_
  try simp only [Act.put, List.getElem_toArray, List.getElem_cons_succ, List.getElem_cons_zero, List.setIfInBounds_toArray, List.set_cons_zero, List.set_cons_succ]
  refine wpAnyJ_take1 17 rfl (by kernel_rfl) (by kernel_rfl) rfl (by kernel_rfl) (fun _ _ _ h => h) (by first | kernel_rfl | rfl) hS1 (fun w' hSw => (by obtain ⟨q0, q1, q2, q3, q4, q5⟩ := hSw; go_simp; try (with_reducible rfl))) ?_
  try simp only [Act.put, List.getElem_toArray, List.getElem_cons_succ, List.getElem_cons_zero, List.setIfInBounds_toArray, List.set_cons_zero, List.set_cons_succ]
  refine wpAnyJ_take1 18 rfl (by kernel_rfl) (by kernel_rfl) rfl (by kernel_rfl) (fun _ _ _ h => h) (by first | kernel_rfl | rfl) hS1 (fun w' hSw => (by obtain ⟨q0, q1, q2, q3, q4, q5⟩ := hSw; go_simp; try (with_reducible rfl))) ?_
  try simp only [Act.put, List.getElem_toArray, List.getElem_cons_succ, List.getElem_cons_zero, List.setIfInBounds_toArray, List.set_cons_zero, List.set_cons_succ]
  refine wpAnyJ_take1 19 rfl (by kernel_rfl) (by kernel_rfl) rfl (by kernel_rfl) (fun _ _ _ h => h) (by first | kernel_rfl | rfl) hS1 (fun w' hSw => (by obtain ⟨q0, q1, q2, q3, q4, q5⟩ := hSw; go_simp; try (with_reducible rfl))) ?_
  try simp only [Act.put, List.getElem_toArray, List.getElem_cons_succ, List.getElem_cons_zero, List.setIfInBounds_toArray, List.set_cons_zero, List.set_cons_succ]
  refine wpAnyJ_take1 20 rfl (by kernel_rfl) (by kernel_rfl) rfl (by kernel_rfl) (fun _ _ _ h => h) (by first | kernel_rfl | rfl) hS1 (fun w' hSw => (by obtain ⟨q0, q1, q2, q3, q4, q5⟩ := hSw; go_simp; try (with_reducible rfl))) ?_
  try simp only [Act.put, List.getElem_toArray, List.getElem_cons_succ, List.getElem_cons_zero, List.setIfInBounds_toArray, List.set_cons_zero, List.set_cons_succ]
  refine wpAnyJ_take1 21 rfl (by kernel_rfl) (by kernel_rfl) rfl (by kernel_rfl) (fun _ _ _ h => h) (by first | kernel_rfl | rfl) hS1 (fun w' hSw => (by obtain ⟨q0, q1, q2, q3, q4, q5⟩ := hSw; go_simp; try (with_reducible rfl))) ?_
  try simp only [Act.put, List.getElem_toArray, List.getElem_cons_succ, List.getElem_cons_zero, List.setIfInBounds_toArray, List.set_cons_zero, List.set_cons_succ]
  refine wpAnyJ_take1 22 rfl (by kernel_rfl) (by kernel_rfl) rfl (by kernel_rfl) (fun _ _ _ h => h) (by first | kernel_rfl | rfl) hS1 (fun w' hSw => (by obtain ⟨q0, q1, q2, q3, q4, q5⟩ := hSw; go_simp; try (with_reducible rfl))) ?_
  try simp only [Act.put, List.getElem_toArray, List.getElem_cons_succ, List.getElem_cons_zero, List.setIfInBounds_toArray, List.set_cons_zero, List.set_cons_succ]
  refine wpAnyJ_take1 23 rfl (by kernel_rfl) (by kernel_rfl) rfl (by kernel_rfl) (fun _ _ _ h => h) (by first | kernel_rfl | rfl) hS1 (fun w' hSw => (by obtain ⟨q0, q1, q2, q3, q4, q5⟩ := hSw; go_simp; try (with_reducible rfl))) ?_
  try simp only [Act.put, List.getElem_toArray, List.getElem_cons_succ, List.getElem_cons_zero, List.setIfInBounds_toArray, List.set_cons_zero, List.set_cons_succ]
  refine wpAnyJ_take1 24 rfl (by kernel_rfl) (by kernel_rfl) rfl (by kernel_rfl) (fun _ _ _ h => h) (by first | kernel_rfl | rfl) hS1 (fun w' hSw => (by obtain ⟨q0, q1, q2, q3, q4, q5⟩ := hSw; go_simp; try (with_reducible rfl))) ?_
  try simp only [Act.put, List.getElem_toArray, List.getElem_cons_succ, List.getElem_cons_zero, List.setIfInBounds_toArray, List.set_cons_zero, List.set_cons_succ]
  refine wpAnyJ_take1 25 rfl (by kernel_rfl) (by kernel_rfl) rfl (by kernel_rfl) (fun _ _ _ h => h) (by first | kernel_rfl | rfl) hS1 (fun w' hSw => (by obtain ⟨q0, q1, q2, q3, q4, q5⟩ := hSw; go_simp; try (with_reducible rfl))) ?_
  try simp only [Act.put, List.getElem_toArray, List.getElem_cons_succ, List.getElem_cons_zero, List.setIfInBounds_toArray, List.set_cons_zero, List.set_cons_succ]
  refine wpAnyJ_take1 26 rfl (by kernel_rfl) (by kernel_rfl) rfl (by kernel_rfl) (fun _ _ _ h => h) (by first | kernel_rfl | rfl) hS1 (fun w' hSw => (by obtain ⟨q0, q1, q2, q3, q4, q5⟩ := hSw; go_simp; try (with_reducible rfl))) ?_
  try simp only [Act.put, List.getElem_toArray, List.getElem_cons_succ, List.getElem_cons_zero, List.setIfInBounds_toArray, List.set_cons_zero, List.set_cons_succ]
  refine wpAnyJ_take1 27 rfl (by kernel_rfl) (by kernel_rfl) rfl (by kernel_rfl) (fun _ _ _ h => h) (by first | kernel_rfl | rfl) hS1 (fun w' hSw => (by obtain ⟨q0, q1, q2, q3, q4, q5⟩ := hSw; go_simp; try (with_reducible rfl))) ?_
  try simp only [Act.put, List.getElem_toArray, List.getElem_cons_succ, List.getElem_cons_zero, List.setIfInBounds_toArray, List.set_cons_zero, List.set_cons_succ]
  refine wpAnyJ_ready [28] (by kernel_rfl) (by simp) (NextJ.cons rfl (fun K hK => ?_) NextJ.nil)
  go_simp
  refine (example_any wS).mono ?_
  rintro e wx ⟨Ax, rfl, rX, hBwx⟩
  have hBwwx := hBwS.trans (hBwx.mono hBwS.size)
  have hzwx := hBwx.size
  have hSwx : wx.cell? ⟨b0, o0, none⟩ = some (.string (bN y0)) ∧ wx.cell? ⟨b0, o0 + 1, none⟩ = some (.string (bN y1)) ∧ wx.cell? ⟨w4.heap.size, 0, none⟩ = some (.int .i64 4) ∧ wx.cell? ⟨w4.heap.size, 1, none⟩ = some (.slice B4 0 c4) ∧ wx.cell? ⟨w7.heap.size, 0, none⟩ = some (.int .i64 4) ∧ wx.cell? ⟨w7.heap.size, 1, none⟩ = some (.slice B7 exD.length c7) := by obtain ⟨q0, q1, q2, q3, q4, q5⟩ := hS1; exact ⟨(hBwx.cell (lt_of_cell q0)).trans q0, (hBwx.cell (lt_of_cell q1)).trans q1, (hBwx.cell (lt_of_cell q2)).trans q2, (hBwx.cell (lt_of_cell q3)).trans q3, (hBwx.cell (lt_of_cell q4)).trans q4, (hBwx.cell (lt_of_cell q5)).trans q5⟩
  replace d5 := d5.below' hBwx (by omega)
  go_simp
  refine hK.out _ _ hSwx (fun _ => trivial) ?_
  clear hK K
  try simp only [Act.put, List.getElem_toArray, List.getElem_cons_succ, List.getElem_cons_zero, List.setIfInBounds_toArray, List.set_cons_zero, List.set_cons_succ]
  refine wpAnyJ_ready [29] (by kernel_rfl) (by simp) (NextJ.cons rfl (fun K hK => ?_) NextJ.nil)
  go_simp
  refine (sheet_same B7 Ax c7 3 wx wx.heap.size (d5.more (by omega)) rX (Nat.le_refl _)).mono ?_
  rintro e wy ⟨rfl, hBwy⟩
  have hBwwy := hBwwx.trans (hBwy.mono hBwwx.size)
  have hzwy := hBwy.size
  have hSwy : wy.cell? ⟨b0, o0, none⟩ = some (.string (bN y0)) ∧ wy.cell? ⟨b0, o0 + 1, none⟩ = some (.string (bN y1)) ∧ wy.cell? ⟨w4.heap.size, 0, none⟩ = some (.int .i64 4) ∧ wy.cell? ⟨w4.heap.size, 1, none⟩ = some (.slice B4 0 c4) ∧ wy.cell? ⟨w7.heap.size, 0, none⟩ = some (.int .i64 4) ∧ wy.cell? ⟨w7.heap.size, 1, none⟩ = some (.slice B7 exD.length c7) := by obtain ⟨q0, q1, q2, q3, q4, q5⟩ := hSwx; exact ⟨(hBwy.cell (lt_of_cell q0)).trans q0, (hBwy.cell (lt_of_cell q1)).trans q1, (hBwy.cell (lt_of_cell q2)).trans q2, (hBwy.cell (lt_of_cell q3)).trans q3, (hBwy.cell (lt_of_cell q4)).trans q4, (hBwy.cell (lt_of_cell q5)).trans q5⟩
  replace d5 := d5.below' hBwy (by omega)
  go_simp
  refine hK.out _ _ hSwy (fun _ => trivial) ?_
  clear hK K
  try simp only [Act.put, List.getElem_toArray, List.getElem_cons_succ, List.getElem_cons_zero, List.setIfInBounds_toArray, List.set_cons_zero, List.set_cons_succ]
  refine wpAnyJ_take1 30 rfl (by kernel_rfl) (by kernel_rfl) rfl (by kernel_rfl) (fun _ _ _ h => h) (by first | kernel_rfl | rfl) hSwy (fun w' hSw => (by obtain ⟨q0, q1, q2, q3, q4, q5⟩ := hSw; go_simp; try (with_reducible rfl))) ?_
  try simp only [Act.put, List.getElem_toArray, List.getElem_cons_succ, List.getElem_cons_zero, List.setIfInBounds_toArray, List.set_cons_zero, List.set_cons_succ]
  refine wpAnyJ_take1 31 rfl (by kernel_rfl) (by kernel_rfl) rfl (by kernel_rfl) (fun _ _ _ h => h) (by first | kernel_rfl | rfl) hSwy (fun w' hSw => (by obtain ⟨q0, q1, q2, q3, q4, q5⟩ := hSw; go_simp; try (with_reducible rfl))) ?_
  try simp only [Act.put, List.getElem_toArray, List.getElem_cons_succ, List.getElem_cons_zero, List.setIfInBounds_toArray, List.set_cons_zero, List.set_cons_succ]
  refine wpAnyJ_take1 32 rfl (by kernel_rfl) (by kernel_rfl) rfl (by kernel_rfl) (fun _ _ _ h => h) (by first | kernel_rfl | rfl) hSwy (fun w' hSw => (by obtain ⟨q0, q1, q2, q3, q4, q5⟩ := hSw; go_simp; try (with_reducible rfl))) ?_
  try simp only [Act.put, List.getElem_toArray, List.getElem_cons_succ, List.getElem_cons_zero, List.setIfInBounds_toArray, List.set_cons_zero, List.set_cons_succ]
  refine wpAnyJ_take1 33 rfl (by kernel_rfl) (by kernel_rfl) rfl (by kernel_rfl) (fun _ _ _ h => h) (by first | kernel_rfl | rfl) hSwy (fun w' hSw => (by obtain ⟨q0, q1, q2, q3, q4, q5⟩ := hSw; go_simp; try (with_reducible rfl))) ?_
  try simp only [Act.put, List.getElem_toArray, List.getElem_cons_succ, List.getElem_cons_zero, List.setIfInBounds_toArray, List.set_cons_zero, List.set_cons_succ]
  refine wpAnyJ_take1 34 rfl (by kernel_rfl) (by kernel_rfl) rfl (by kernel_rfl) (fun _ _ _ h => h) (by first | kernel_rfl | rfl) hSwy (fun w' hSw => (by obtain ⟨q0, q1, q2, q3, q4, q5⟩ := hSw; go_simp; try (with_reducible rfl))) ?_
  try simp only [Act.put, List.getElem_toArray, List.getElem_cons_succ, List.getElem_cons_zero, List.setIfInBounds_toArray, List.set_cons_zero, List.set_cons_succ]
  refine wpAnyJ_take1 35 rfl (by kernel_rfl) (by kernel_rfl) rfl (by kernel_rfl) (fun _ _ _ h => h) (by first | kernel_rfl | rfl) hSwy (fun w' hSw => (by obtain ⟨q0, q1, q2, q3, q4, q5⟩ := hSw; go_simp; try (with_reducible rfl))) ?_
  try simp only [Act.put, List.getElem_toArray, List.getElem_cons_succ, List.getElem_cons_zero, List.setIfInBounds_toArray, List.set_cons_zero, List.set_cons_succ]
  refine wpAnyJ_take1 36 rfl (by kernel_rfl) (by kernel_rfl) rfl (by kernel_rfl) (fun _ _ _ h => h) (by first | kernel_rfl | rfl) hSwy (fun w' hSw => (by obtain ⟨q0, q1, q2, q3, q4, q5⟩ := hSw; go_simp; try (with_reducible rfl))) ?_
  try simp only [Act.put, List.getElem_toArray, List.getElem_cons_succ, List.getElem_cons_zero, List.setIfInBounds_toArray, List.set_cons_zero, List.set_cons_succ]
  refine wpAnyJ_take1 37 rfl (by kernel_rfl) (by kernel_rfl) rfl (by kernel_rfl) (fun _ _ _ h => h) (by first | kernel_rfl | rfl) hSwy (fun w' hSw => (by obtain ⟨q0, q1, q2, q3, q4, q5⟩ := hSw; go_simp; try (with_reducible rfl))) ?_
  try simp only [Act.put, List.getElem_toArray, List.getElem_cons_succ, List.getElem_cons_zero, List.setIfInBounds_toArray, List.set_cons_zero, List.set_cons_succ]
  refine wpAnyJ_take1 38 rfl (by kernel_rfl) (by kernel_rfl) rfl (by kernel_rfl) (fun _ _ _ h => h) (by first | kernel_rfl | rfl) hSwy (fun w' hSw => (by obtain ⟨q0, q1, q2, q3, q4, q5⟩ := hSw; go_simp; try (with_reducible rfl))) ?_
  try simp only [Act.put, List.getElem_toArray, List.getElem_cons_succ, List.getElem_cons_zero, List.setIfInBounds_toArray, List.set_cons_zero, List.set_cons_succ]
  refine wpAnyJ_take1 39 rfl (by kernel_rfl) (by kernel_rfl) rfl (by kernel_rfl) (fun _ _ _ h => h) (by first | kernel_rfl | rfl) hSwy (fun w' hSw => (by obtain ⟨q0, q1, q2, q3, q4, q5⟩ := hSw; go_simp; try (with_reducible rfl))) ?_
  try simp only [Act.put, List.getElem_toArray, List.getElem_cons_succ, List.getElem_cons_zero, List.setIfInBounds_toArray, List.set_cons_zero, List.set_cons_succ]
  refine wpAnyJ_take1 40 rfl (by kernel_rfl) (by kernel_rfl) rfl (by kernel_rfl) (fun _ _ _ h => h) (by first | kernel_rfl | rfl) hSwy (fun w' hSw => (by obtain ⟨q0, q1, q2, q3, q4, q5⟩ := hSw; go_simp; try (with_reducible rfl))) ?_
  try simp only [Act.put, List.getElem_toArray, List.getElem_cons_succ, List.getElem_cons_zero, List.setIfInBounds_toArray, List.set_cons_zero, List.set_cons_succ]
  refine wpAnyJ_take1 41 rfl (by kernel_rfl) (by kernel_rfl) rfl (by kernel_rfl) (fun _ _ _ h => h) (by first | kernel_rfl | rfl) hSwy (fun w' hSw => (by obtain ⟨q0, q1, q2, q3, q4, q5⟩ := hSw; go_simp; try (with_reducible rfl))) ?_
  try simp only [Act.put, List.getElem_toArray, List.getElem_cons_succ, List.getElem_cons_zero, List.setIfInBounds_toArray, List.set_cons_zero, List.set_cons_succ]
  refine wpAnyJ_take1 42 rfl (by kernel_rfl) (by kernel_rfl) rfl (by kernel_rfl) (fun _ _ _ h => h) (by first | kernel_rfl | rfl) hSwy (fun w' hSw => (by obtain ⟨q0, q1, q2, q3, q4, q5⟩ := hSw; go_simp; try (with_reducible rfl))) ?_
  try simp only [Act.put, List.getElem_toArray, List.getElem_cons_succ, List.getElem_cons_zero, List.setIfInBounds_toArray, List.set_cons_zero, List.set_cons_succ]
  refine wpAnyJ_take1 43 rfl (by kernel_rfl) (by kernel_rfl) rfl (by kernel_rfl) (fun _ _ _ h => h) (by first | kernel_rfl | rfl) hSwy (fun w' hSw => (by obtain ⟨q0, q1, q2, q3, q4, q5⟩ := hSw; go_simp; try (with_reducible rfl))) ?_
  try simp only [Act.put, List.getElem_toArray, List.getElem_cons_succ, List.getElem_cons_zero, List.setIfInBounds_toArray, List.set_cons_zero, List.set_cons_succ]
  refine wpAnyJ_take1 44 rfl (by kernel_rfl) (by kernel_rfl) rfl (by kernel_rfl) (fun _ _ _ h => h) (by first | kernel_rfl | rfl) hSwy (fun w' hSw => (by obtain ⟨q0, q1, q2, q3, q4, q5⟩ := hSw; go_simp; try (with_reducible rfl))) ?_
  try simp only [Act.put, List.getElem_toArray, List.getElem_cons_succ, List.getElem_cons_zero, List.setIfInBounds_toArray, List.set_cons_zero, List.set_cons_succ]
  refine wpAnyJ_take1 45 rfl (by kernel_rfl) (by kernel_rfl) rfl (by kernel_rfl) (fun _ _ _ h => h) (by first | kernel_rfl | rfl) hSwy (fun w' hSw => (by obtain ⟨q0, q1, q2, q3, q4, q5⟩ := hSw; go_simp; try (with_reducible rfl))) ?_
  try simp only [Act.put, List.getElem_toArray, List.getElem_cons_succ, List.getElem_cons_zero, List.setIfInBounds_toArray, List.set_cons_zero, List.set_cons_succ]
  refine wpAnyJ_take1 46 rfl (by kernel_rfl) (by kernel_rfl) rfl (by kernel_rfl) (fun _ _ _ h => h) (by first | kernel_rfl | rfl) hSwy (fun w' hSw => (by obtain ⟨q0, q1, q2, q3, q4, q5⟩ := hSw; go_simp; try (with_reducible rfl))) ?_
  try simp only [Act.put, List.getElem_toArray, List.getElem_cons_succ, List.getElem_cons_zero, List.setIfInBounds_toArray, List.set_cons_zero, List.set_cons_succ]
  refine wpAnyJ_take1 47 rfl (by kernel_rfl) (by kernel_rfl) rfl (by kernel_rfl) (fun _ _ _ h => h) (by first | kernel_rfl | rfl) hSwy (fun w' hSw => (by obtain ⟨q0, q1, q2, q3, q4, q5⟩ := hSw; go_simp; try (with_reducible rfl))) ?_
  try simp only [Act.put, List.getElem_toArray, List.getElem_cons_succ, List.getElem_cons_zero, List.setIfInBounds_toArray, List.set_cons_zero, List.set_cons_succ]
  refine wpAnyJ_take1 48 rfl (by kernel_rfl) (by kernel_rfl) rfl (by kernel_rfl) (fun _ _ _ h => h) (by first | kernel_rfl | rfl) hSwy (fun w' hSw => (by obtain ⟨q0, q1, q2, q3, q4, q5⟩ := hSw; go_simp; try (with_reducible rfl))) ?_
  try simp only [Act.put, List.getElem_toArray, List.getElem_cons_succ, List.getElem_cons_zero, List.setIfInBounds_toArray, List.set_cons_zero, List.set_cons_succ]
  refine wpAnyJ_take1 49 rfl (by kernel_rfl) (by kernel_rfl) rfl (by kernel_rfl) (fun _ _ _ h => h) (by first | kernel_rfl | rfl) hSwy (fun w' hSw => (by obtain ⟨q0, q1, q2, q3, q4, q5⟩ := hSw; go_simp; try (with_reducible rfl))) ?_
  try simp only [Act.put, List.getElem_toArray, List.getElem_cons_succ, List.getElem_cons_zero, List.setIfInBounds_toArray, List.set_cons_zero, List.set_cons_succ]
  refine wpAnyJ_take1 50 rfl (by kernel_rfl) (by kernel_rfl) rfl (by kernel_rfl) (fun _ _ _ h => h) (by first | kernel_rfl | rfl) hSwy (fun w' hSw => (by obtain ⟨q0, q1, q2, q3, q4, q5⟩ := hSw; go_simp; try (with_reducible rfl))) ?_
  try simp only [Act.put, List.getElem_toArray, List.getElem_cons_succ, List.getElem_cons_zero, List.setIfInBounds_toArray, List.set_cons_zero, List.set_cons_succ]
  refine wpAnyJ_take1 51 rfl (by kernel_rfl) (by kernel_rfl) rfl (by kernel_rfl) (fun _ _ _ h => h) (by first | kernel_rfl | rfl) hSwy (fun w' hSw => (by obtain ⟨q0, q1, q2, q3, q4, q5⟩ := hSw; go_simp; try (with_reducible rfl))) ?_
  try simp only [Act.put, List.getElem_toArray, List.getElem_cons_succ, List.getElem_cons_zero, List.setIfInBounds_toArray, List.set_cons_zero, List.set_cons_succ]
  refine wpAnyJ_take1 52 rfl (by kernel_rfl) (by kernel_rfl) rfl (by kernel_rfl) (fun _ _ _ h => h) (by first | kernel_rfl | rfl) hSwy (fun w' hSw => (by obtain ⟨q0, q1, q2, q3, q4, q5⟩ := hSw; go_simp; try (with_reducible rfl))) ?_
  try simp only [Act.put, List.getElem_toArray, List.getElem_cons_succ, List.getElem_cons_zero, List.setIfInBounds_toArray, List.set_cons_zero, List.set_cons_succ]
  refine wpAnyJ_take1 53 rfl (by kernel_rfl) (by kernel_rfl) rfl (by kernel_rfl) (fun _ _ _ h => h) (by first | kernel_rfl | rfl) hSwy (fun w' hSw => (by obtain ⟨q0, q1, q2, q3, q4, q5⟩ := hSw; go_simp; try (with_reducible rfl))) ?_
  try simp only [Act.put, List.getElem_toArray, List.getElem_cons_succ, List.getElem_cons_zero, List.setIfInBounds_toArray, List.set_cons_zero, List.set_cons_succ]
  refine wpAnyJ_take1 54 rfl (by kernel_rfl) (by kernel_rfl) rfl (by kernel_rfl) (fun _ _ _ h => h) (by first | kernel_rfl | rfl) hSwy (fun w' hSw => (by obtain ⟨q0, q1, q2, q3, q4, q5⟩ := hSw; go_simp; try (with_reducible rfl))) ?_
  try simp only [Act.put, List.getElem_toArray, List.getElem_cons_succ, List.getElem_cons_zero, List.setIfInBounds_toArray, List.set_cons_zero, List.set_cons_succ]
  refine wpAnyJ_take1 55 rfl (by kernel_rfl) (by kernel_rfl) rfl (by kernel_rfl) (fun _ _ _ h => h) (by first | kernel_rfl | rfl) hSwy (fun w' hSw => (by obtain ⟨q0, q1, q2, q3, q4, q5⟩ := hSw; go_simp; try (with_reducible rfl))) ?_
  try simp only [Act.put, List.getElem_toArray, List.getElem_cons_succ, List.getElem_cons_zero, List.setIfInBounds_toArray, List.set_cons_zero, List.set_cons_succ]
  refine wpAnyJ_take1 56 rfl (by kernel_rfl) (by kernel_rfl) rfl (by kernel_rfl) (fun _ _ _ h => h) (by first | kernel_rfl | rfl) hSwy (fun w' hSw => (by obtain ⟨q0, q1, q2, q3, q4, q5⟩ := hSw; go_simp; try (with_reducible rfl))) ?_
  try simp only [Act.put, List.getElem_toArray, List.getElem_cons_succ, List.getElem_cons_zero, List.setIfInBounds_toArray, List.set_cons_zero, List.set_cons_succ]
  refine wpAnyJ_take1 57 rfl (by kernel_rfl) (by kernel_rfl) rfl (by kernel_rfl) (fun _ _ _ h => h) (by first | kernel_rfl | rfl) hSwy (fun w' hSw => (by obtain ⟨q0, q1, q2, q3, q4, q5⟩ := hSw; go_simp; try (with_reducible rfl))) ?_
  try simp only [Act.put, List.getElem_toArray, List.getElem_cons_succ, List.getElem_cons_zero, List.setIfInBounds_toArray, List.set_cons_zero, List.set_cons_succ]
  refine wpAnyJ_take1 58 rfl (by kernel_rfl) (by kernel_rfl) rfl (by kernel_rfl) (fun _ _ _ h => h) (by first | kernel_rfl | rfl) hSwy (fun w' hSw => (by obtain ⟨q0, q1, q2, q3, q4, q5⟩ := hSw; go_simp; try (with_reducible rfl))) ?_
  try simp only [Act.put, List.getElem_toArray, List.getElem_cons_succ, List.getElem_cons_zero, List.setIfInBounds_toArray, List.set_cons_zero, List.set_cons_succ]
  refine wpAnyJ_take1 59 rfl (by kernel_rfl) (by kernel_rfl) rfl (by kernel_rfl) (fun _ _ _ h => h) (by first | kernel_rfl | rfl) hSwy (fun w' hSw => (by obtain ⟨q0, q1, q2, q3, q4, q5⟩ := hSw; go_simp; try (with_reducible rfl))) ?_
  try simp only [Act.put, List.getElem_toArray, List.getElem_cons_succ, List.getElem_cons_zero, List.setIfInBounds_toArray, List.set_cons_zero, List.set_cons_succ]
  refine wpAnyJ_take1 60 rfl (by kernel_rfl) (by kernel_rfl) rfl (by kernel_rfl) (fun _ _ _ h => h) (by first | kernel_rfl | rfl) hSwy (fun w' hSw => (by obtain ⟨q0, q1, q2, q3, q4, q5⟩ := hSw; go_simp; try (with_reducible rfl))) ?_
  try simp only [Act.put, List.getElem_toArray, List.getElem_cons_succ, List.getElem_cons_zero, List.setIfInBounds_toArray, List.set_cons_zero, List.set_cons_succ]
  refine wpAnyJ_take1 61 rfl (by kernel_rfl) (by kernel_rfl) rfl (by kernel_rfl) (fun _ _ _ h => h) (by first | kernel_rfl | rfl) hSwy (fun w' hSw => (by obtain ⟨q0, q1, q2, q3, q4, q5⟩ := hSw; go_simp; try (with_reducible rfl))) ?_
  try simp only [Act.put, List.getElem_toArray, List.getElem_cons_succ, List.getElem_cons_zero, List.setIfInBounds_toArray, List.set_cons_zero, List.set_cons_succ]
  refine wpAnyJ_take1 62 rfl (by kernel_rfl) (by kernel_rfl) rfl (by kernel_rfl) (fun _ _ _ h => h) (by first | kernel_rfl | rfl) hSwy (fun w' hSw => (by obtain ⟨q0, q1, q2, q3, q4, q5⟩ := hSw; go_simp; try (with_reducible rfl))) ?_
  try simp only [Act.put, List.getElem_toArray, List.getElem_cons_succ, List.getElem_cons_zero, List.setIfInBounds_toArray, List.set_cons_zero, List.set_cons_succ]
  refine wpAnyJ_take1 63 rfl (by kernel_rfl) (by kernel_rfl) rfl (by kernel_rfl) (fun _ _ _ h => h) (by first | kernel_rfl | rfl) hSwy (fun w' hSw => (by obtain ⟨q0, q1, q2, q3, q4, q5⟩ := hSw; go_simp; try (with_reducible rfl))) ?_
  try simp only [Act.put, List.getElem_toArray, List.getElem_cons_succ, List.getElem_cons_zero, List.setIfInBounds_toArray, List.set_cons_zero, List.set_cons_succ]
  refine wpAnyJ_take1 64 rfl (by kernel_rfl) (by kernel_rfl) rfl (by kernel_rfl) (fun _ _ _ h => h) (by first | kernel_rfl | rfl) hSwy (fun w' hSw => (by obtain ⟨q0, q1, q2, q3, q4, q5⟩ := hSw; go_simp; try (with_reducible rfl))) ?_
  try simp only [Act.put, List.getElem_toArray, List.getElem_cons_succ, List.getElem_cons_zero, List.setIfInBounds_toArray, List.set_cons_zero, List.set_cons_succ]
  refine wpAnyJ_take1 65 rfl (by kernel_rfl) (by kernel_rfl) rfl (by kernel_rfl) (fun _ _ _ h => h) (by first | kernel_rfl | rfl) hSwy (fun w' hSw => (by obtain ⟨q0, q1, q2, q3, q4, q5⟩ := hSw; go_simp; try (with_reducible rfl))) ?_
  try simp only [Act.put, List.getElem_toArray, List.getElem_cons_succ, List.getElem_cons_zero, List.setIfInBounds_toArray, List.set_cons_zero, List.set_cons_succ]
  refine wpAnyJ_take1 66 rfl (by kernel_rfl) (by kernel_rfl) rfl (by kernel_rfl) (fun _ _ _ h => h) (by first | kernel_rfl | rfl) hSwy (fun w' hSw => (by obtain ⟨q0, q1, q2, q3, q4, q5⟩ := hSw; go_simp; try (with_reducible rfl))) ?_
  try simp only [Act.put, List.getElem_toArray, List.getElem_cons_succ, List.getElem_cons_zero, List.setIfInBounds_toArray, List.set_cons_zero, List.set_cons_succ]
  refine wpAnyJ_take1 67 rfl (by kernel_rfl) (by kernel_rfl) rfl (by kernel_rfl) (fun _ _ _ h => h) (by first | kernel_rfl | rfl) hSwy (fun w' hSw => (by obtain ⟨q0, q1, q2, q3, q4, q5⟩ := hSw; go_simp; try (with_reducible rfl))) ?_
  try simp only [Act.put, List.getElem_toArray, List.getElem_cons_succ, List.getElem_cons_zero, List.setIfInBounds_toArray, List.set_cons_zero, List.set_cons_succ]
  refine wpAnyJ_take1 68 rfl (by kernel_rfl) (by kernel_rfl) rfl (by kernel_rfl) (fun _ _ _ h => h) (by first | kernel_rfl | rfl) hSwy (fun w' hSw => (by obtain ⟨q0, q1, q2, q3, q4, q5⟩ := hSw; go_simp; try (with_reducible rfl))) ?_
  try simp only [Act.put, List.getElem_toArray, List.getElem_cons_succ, List.getElem_cons_zero, List.setIfInBounds_toArray, List.set_cons_zero, List.set_cons_succ]
  refine wpAnyJ_take1 69 rfl (by kernel_rfl) (by kernel_rfl) rfl (by kernel_rfl) (fun _ _ _ h => h) (by first | kernel_rfl | rfl) hSwy (fun w' hSw => (by obtain ⟨q0, q1, q2, q3, q4, q5⟩ := hSw; go_simp; try (with_reducible rfl))) ?_
  try simp only [Act.put, List.getElem_toArray, List.getElem_cons_succ, List.getElem_cons_zero, List.setIfInBounds_toArray, List.set_cons_zero, List.set_cons_succ]
  refine wpAnyJ_take1 70 rfl (by kernel_rfl) (by kernel_rfl) rfl (by kernel_rfl) (fun _ _ _ h => h) (by first | kernel_rfl | rfl) hSwy (fun w' hSw => (by obtain ⟨q0, q1, q2, q3, q4, q5⟩ := hSw; go_simp; try (with_reducible rfl))) ?_
  try simp only [Act.put, List.getElem_toArray, List.getElem_cons_succ, List.getElem_cons_zero, List.setIfInBounds_toArray, List.set_cons_zero, List.set_cons_succ]
  refine wpAnyJ_take1 71 rfl (by kernel_rfl) (by kernel_rfl) rfl (by kernel_rfl) (fun _ _ _ h => h) (by first | kernel_rfl | rfl) hSwy (fun w' hSw => (by obtain ⟨q0, q1, q2, q3, q4, q5⟩ := hSw; go_simp; try (with_reducible rfl))) ?_
  try simp only [Act.put, List.getElem_toArray, List.getElem_cons_succ, List.getElem_cons_zero, List.setIfInBounds_toArray, List.set_cons_zero, List.set_cons_succ]
  refine wpAnyJ_ready [72] (by kernel_rfl) (by simp) (NextJ.cons rfl (fun K hK => ?_) NextJ.nil)
  go_simp
  refine (shown_any wy (hDt.below hBwwy)).mono ?_
  rintro e wz ⟨rfl, hBwz⟩
  have hBwwz := hBwwy.trans (hBwz.mono hBwwy.size)
  have hzwz := hBwz.size
  have hSwz : wz.cell? ⟨b0, o0, none⟩ = some (.string (bN y0)) ∧ wz.cell? ⟨b0, o0 + 1, none⟩ = some (.string (bN y1)) ∧ wz.cell? ⟨w4.heap.size, 0, none⟩ = some (.int .i64 4) ∧ wz.cell? ⟨w4.heap.size, 1, none⟩ = some (.slice B4 0 c4) ∧ wz.cell? ⟨w7.heap.size, 0, none⟩ = some (.int .i64 4) ∧ wz.cell? ⟨w7.heap.size, 1, none⟩ = some (.slice B7 exD.length c7) := by obtain ⟨q0, q1, q2, q3, q4, q5⟩ := hSwy; exact ⟨(hBwz.cell (lt_of_cell q0)).trans q0, (hBwz.cell (lt_of_cell q1)).trans q1, (hBwz.cell (lt_of_cell q2)).trans q2, (hBwz.cell (lt_of_cell q3)).trans q3, (hBwz.cell (lt_of_cell q4)).trans q4, (hBwz.cell (lt_of_cell q5)).trans q5⟩
  replace d5 := d5.below' hBwz (by omega)
  go_simp
  refine hK.out _ _ hSwz (fun _ => trivial) ?_
  clear hK K
  try simp only [Act.put, List.getElem_toArray, List.getElem_cons_succ, List.getElem_cons_zero, List.setIfInBounds_toArray, List.set_cons_zero, List.set_cons_succ]
  refine wpAnyJ_take1 73 rfl (by kernel_rfl) (by kernel_rfl) rfl (by kernel_rfl) (fun _ _ _ h => h) (by first | kernel_rfl | rfl) hSwz (fun w' hSw => (by obtain ⟨q0, q1, q2, q3, q4, q5⟩ := hSw; go_simp; try (with_reducible rfl))) ?_
  try simp only [Act.put, List.getElem_toArray, List.getElem_cons_succ, List.getElem_cons_zero, List.setIfInBounds_toArray, List.set_cons_zero, List.set_cons_succ]
  refine wpAnyJ_take1 74 rfl (by kernel_rfl) (by kernel_rfl) rfl (by kernel_rfl) (fun _ _ _ h => h) (by first | kernel_rfl | rfl) hSwz (fun w' hSw => (by obtain ⟨q0, q1, q2, q3, q4, q5⟩ := hSw; go_simp; try (with_reducible rfl))) ?_
  try simp only [Act.put, List.getElem_toArray, List.getElem_cons_succ, List.getElem_cons_zero, List.setIfInBounds_toArray, List.set_cons_zero, List.set_cons_succ]
  refine wpAnyJ_done (by kernel_rfl) ?_ _
  go_wp2_with fail
  go_ret
  rename_i x1 d1 q1 x0 d0 q0
  have e1 : (0 : Nat) = d1 := Option.some.inj q1
  have e0 : (128 : Nat) = d0 := Option.some.inj q0
  subst e1
  subst e0
  first | exact ⟨rfl, hBwwz⟩ | exact ⟨by simp, hBwwz⟩ | exact ⟨by kernel_rfl, hBwwz⟩
end Go.Proofs.YtoccplfnjammjaaGreatDoor
