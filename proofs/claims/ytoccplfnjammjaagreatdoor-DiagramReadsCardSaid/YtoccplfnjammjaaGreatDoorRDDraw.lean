/- torchonref14.Draw. -/
import Derived.Test.YtoccplfnjammjaaGreatDoorRDrawnA
import Derived.Test.YtoccplfnjammjaaGreatDoorRNumA
set_option linter.unusedSimpArgs false
set_option linter.unusedVariables false
namespace Go.Proofs.YtoccplfnjammjaaGreatDoor
open Go Go.RowKit Tor

theorem rdraw_bad (p : Int) (A : Option Addr) (l : List Tri) (c : Nat) (w : World) (H : Nat) (hr : RdT w H A l) (hH : H ≤ w.heap.size)
    (hw : ∀ (k : Nat) (hk : k < l.length), l[k].s.size ≤ 9223372036854775807) (hl : l.length ≤ 1000000) (he : sheetE p l ≠ 0) :
    Calls Tryz.prog 21 #[.agg #[.int .i64 p, .slice A l.length c]] w (Ret (.tuple #[.string (bN []), .int .i64 (sheetE p l)]) w) := by
  have hB0 : Below w.heap.size w (w.alloc (.cells #[.int .i64 p, .slice A l.length c] 25)) := (Below.refl _ _).alloc (Nat.le_refl _) _
  have HSH := Lib.hid (rletters_bad p A l c (w.alloc (.cells #[.int .i64 p, .slice A l.length c] 25)) H (hr.below' hB0 hH) (Nat.le_trans hH hB0.size) hw hl he)
  generalize sheetE p l = E at *
  have hE := bad_ne he
  go_enter Tryz.func21, Tryz.ntmps21
  go_wp2_with (first | (go_at_call 29; refine HSH.out.mono ?_; rintro e w1 ⟨rfl, hB1⟩) | fail)
  go_ret2
  exact ⟨rfl, hB0.trans (hB1.mono hB0.size)⟩
theorem rd_draw_row {w : World} {H : Nat} {A : Option Addr} {R : List (List Nat)} (h : RdG w H A R) {B : Nat} {w' : World} (hB : Below B w w') (hH : H ≤ B) {k : Nat} (hk : k < R.length) : ∃ b o, A = some ⟨b, o, none⟩ ∧ b < H ∧ ∃ (Ak : Option Addr) (ck : Nat), w'.cell? ⟨b, o + k, none⟩ = some (.slice Ak R[k].length ck) ∧ Rd 1 nenc w' H Ak R[k] := (h.below' hB hH).row hk
set_option maxRecDepth 100000 in
set_option maxHeartbeats 8000000 in
theorem rdraw_any (p : Nat) (A : Option Addr) (l : List Tri) (c : Nat) (w : World) (H : Nat) (hr : RdT w H A l) (hH : H ≤ w.heap.size)
    (hw : ∀ (k : Nat) (hk : k < l.length), l[k].s.size ≤ 9223372036854775807) (ok : OkD p l) :
    Calls Tryz.prog 21 #[.agg #[.int .i64 p, .slice A l.length c]] w (Ret (.tuple #[.string (bN (drawE p l).1), .int .i64 (drawE p l).2]) w) := by
  have hB0 : Below w.heap.size w (w.alloc (.cells #[.int .i64 p, .slice A l.length c] 25)) := (Below.refl _ _).alloc (Nat.le_refl _) _
  have kA0 : Blk (w.alloc (.cells #[.int .i64 p, .slice A l.length c] 25)) w.heap.size 25 #[.int .i64 p, .slice A l.length c] := Blk.new w _ _
  have HSH := Lib.hid (rletters_any p A l c (w.alloc (.cells #[.int .i64 p, .slice A l.length c] 25)) H (hr.below' hB0 hH) (Nat.le_trans hH hB0.size) hw ok)
  have HRW := Lib.hid (fun (W : World) (hB : Below w.heap.size w W) => rrows_any p A l c W H (hr.below' hB hH) (Nat.le_trans hH hB.size) hw ok.chk ok.p24 ok.bd100 ok.len)
  have HDE : Hid (drawE p l = if 52 < (looksL (sheetD p l)).length then ([], 5) else (partD p l (1 + (looksL (sheetD p l)).length + (rowsS p l).length), 0)) := Lib.hid (by rw [partD_all]; rfl)
  have HPL := fun h k => Lib.hid (partD_len ok h k)
  have HP0 : Hid (partD p l 1 = headL p (rowsS p l).length ++ [10]) := Lib.hid (by rw [partD_next p l 0 _ (linesD_head p l)]; rfl)
  have HPK : Hid (∀ k (hk : k < (looksL (sheetD p l)).length), partD p l (k + 1 + 1) = partD p l (k + 1) ++ (letL k (looksL (sheetD p l))[k] ++ [10])) := Lib.hid (fun k hk => partD_next p l (k + 1) _ (linesD_let p l k hk))
  have HPR : Hid (∀ j (hj : j < (rowsS p l).length), partD p l (1 + (looksL (sheetD p l)).length + (j + 1)) = partD p l (1 + (looksL (sheetD p l)).length + j) ++ (drawR p l (looksL (sheetD p l)) (rowsS p l)[j] ++ [10])) := Lib.hid (fun j hj => by
    rw [show 1 + (looksL (sheetD p l)).length + (j + 1) = (looksL (sheetD p l)).length + j + 1 + 1 by omega, show 1 + (looksL (sheetD p l)).length + j = (looksL (sheetD p l)).length + j + 1 by omega]
    exact partD_next p l _ _ (linesD_row p l j hj))
  have HL16 : Hid (∀ x ∈ looksL (sheetD p l), x.length ≤ 16) := Lib.hid (fun x hx => looks16 ok hx)
  have hRL : (rowsS p l).length ≤ 400 := Nat.le_trans (rowsS_len p l) ok.len
  have h24 := ok.p24
  have h2 := ok.p2
  have HOK := Lib.hid ok
  clear ok
  generalize partD p l = PD at *
  have hz0 := hB0.size
  go_enter Tryz.func21, Tryz.ntmps21
  by_cases h52 : 52 < (looksL (sheetD p l)).length
  · go_wp2_with (first
      | (go_at_call 29; refine HSH.out.mono ?_; rintro e w1 ⟨v, rfl, ho1, hB1⟩; rw [if_pos h52])
      | fail)
    go_ret2
    have e9 := HDE.out
    rw [if_pos h52] at e9
    exact ⟨by rw [e9]; rfl, hB0.trans (hB1.mono hz0)⟩
  · have e9 := HDE.out
    rw [if_neg h52] at e9
    have HDE2 := Lib.hid e9
    clear HDE e9
    have h52' : (looksL (sheetD p l)).length ≤ 52 := by omega
    have HPL2 := HPL h52'
    clear HPL
    generalize hLdef : looksL (sheetD p l) = L at *
    have HLD := Lib.hid hLdef
    clear hLdef
    obtain ⟨D1, hD1⟩ : ∃ D1, Hid (Lib.itoa (p : Int) = D1) := ⟨_, Lib.hid rfl⟩
    obtain ⟨D2, hD2⟩ : ∃ D2, Hid (Lib.itoa ((rowsS p l).length : Int) = D2) := ⟨_, Lib.hid rfl⟩
    have d1 : D1.length ≤ 20 := by rw [← hD1.out]; exact itoa_len p (by omega)
    have d2 : D2.length ≤ 20 := by rw [← hD2.out]; exact itoa_len _ (by omega)
    have HG1 := Lib.hid (fun W => rdig_any (p : Int) (by omega) (by omega) W)
    have HG2 := Lib.hid (fun W => rdig_any ((rowsS p l).length : Int) (by omega) (by omega) W)
    rw [hD1.out] at HG1
    rw [hD2.out] at HG2
    obtain ⟨X1, hX1⟩ : ∃ X, Hid ([100, 105, 97, 103, 114, 97, 109, 32] ++ D1 = X) := ⟨_, Lib.hid rfl⟩
    obtain ⟨X2, hX2⟩ : ∃ X, Hid (X1 ++ [32] = X) := ⟨_, Lib.hid rfl⟩
    obtain ⟨X3, hX3⟩ : ∃ X, Hid (X2 ++ D2 = X) := ⟨_, Lib.hid rfl⟩
    have l1 : X1.length ≤ 28 := by rw [← hX1.out]; simp; omega
    have l2 : X2.length ≤ 29 := by rw [← hX2.out]; simp; omega
    have l3 : X3.length ≤ 49 := by rw [← hX3.out]; simp; omega
    have HP1 : Hid (X3 ++ [10] = PD 1) := Lib.hid (by rw [HP0.out, ← hX3.out, ← hX2.out, ← hX1.out, ← hD1.out, ← hD2.out]; unfold headL; simp)
    have s1 : ¬ 9223372036854775807 < 8 + (bN D1).size := by rw [bN_size]; omega
    have c1 : (⟨#[100, 105, 97, 103, 114, 97, 109, 32]⟩ : ByteArray) ++ bN D1 = bN X1 := by rw [← hX1.out]; exact bN_app [100, 105, 97, 103, 114, 97, 109, 32] D1
    have s2 : ¬ 9223372036854775807 < (bN X1).size + 1 := by rw [bN_size]; omega
    have c2 : bN X1 ++ (⟨#[32]⟩ : ByteArray) = bN X2 := by rw [← hX2.out]; exact bN_app X1 [32]
    have s3 : ¬ 9223372036854775807 < (bN X2).size + (bN D2).size := by rw [bN_size, bN_size]; omega
    have c3 : bN X2 ++ bN D2 = bN X3 := by rw [← hX3.out]; exact bN_app X2 D2
    have s4 : ¬ 9223372036854775807 < (bN X3).size + 1 := by rw [bN_size]; omega
    have c4 : bN X3 ++ (⟨#[10]⟩ : ByteArray) = bN (PD 1) := by rw [← HP1.out]; exact bN_app X3 [10]
    have tk1 := True.intro
    go_wp2_with (first
      | (go_at_call 29; refine HSH.out.mono ?_; rintro e w1 ⟨v, rfl, ho1, hB1⟩; rw [if_neg h52]; rw [if_neg h52] at ho1
         obtain ⟨AL, cL, rfl, hcL, hrL⟩ := Own.rd tenc_len ho1
         have kA := kA0.below' hB1
         have a0 := kA.cell 0 _ rfl
         have a1 := kA.cell 1 _ rfl
         have al := kA.lt
         have hBf := hB0.trans (hB1.mono hz0)
         have hzf := hBf.size)
      | (go_at_call 26; refine (HRW.out w1 hBf).mono ?_; rintro e w2 ⟨v, vs, rfl, hG, hB2⟩
         obtain ⟨AR, cR, rfl, hcR, hrG⟩ := hG.rd2
         have kA2 := kA.below' hB2
         have a02 := kA2.cell 0 _ rfl
         have a12 := kA2.cell 1 _ rfl
         have al2 := kA2.lt
         have hBg := hBf.trans (hB2.mono hzf)
         have hzg := hBg.size
         clear tk1
         have tk2 := True.intro)
      | (go_at_call 59; have := tk2; refine (HG1.out w2).mono ?_; rintro e w3 ⟨rfl, hB3⟩
         clear tk2
         have tk3 := True.intro)
      | (go_at_call 59; have := tk3; refine (HG2.out w3).mono ?_; rintro e w4 ⟨rfl, hB4⟩
         clear tk3)
      | fail)
    have hB5 := (hB3.trans (hB4.mono hB3.size))
    have hz5 := hB5.size
    clear a0 a1 al a02 a12 al2 s1 c1 s2 c2 s3 c3 s4 c4
    obtain ⟨RS, hRS⟩ : ∃ RS, Hid (rowsS p l = RS) := ⟨_, Lib.hid rfl⟩
    have hRS4 : RS.length ≤ 400 := by rw [← hRS.out]; exact hRL
    have hrG2 : RdG w2 w2.heap.size AR RS := by rw [← hRS.out]; exact hrG
    clear hrG
    go_loopw [8, 9] (fun tv kv wr => ∃ k : Nat, k ≤ L.length ∧ kv = .int .i64 k ∧ tv = .string (bN (PD (k + 1))) ∧ Below w2.heap.size w2 wr) (fun _ kv _ => L.length - (intOf kv).toNat)
    case atStart => exact ⟨0, Nat.zero_le _, rfl, rfl, hB5⟩
    case round =>
      clear hB5 hz5 hB3 hB4
      obtain ⟨k, hk, rfl, rfl, hB⟩ := hrel
      have hz := hB.size
      have HPLk := HPL2 (k + 1)
      by_cases hlt : k < L.length
      · have hBx := hB2.trans (hB.mono (hB2.size))
        obtain ⟨b, o, hAL, hb, h0⟩ := (hrL.below hBx).txt hlt
        subst hAL
        have hbl := lt_of_cell h0
        have HN := Lib.hid (HPK.out k hlt)
        have hx16 := HL16.out L[k] (List.getElem_mem hlt)
        obtain ⟨x, hx⟩ : ∃ x, Hid (L[k] = x) := ⟨_, Lib.hid rfl⟩
        rw [hx.out] at h0 HN hx16
        have hTl := HPLk.out
        obtain ⟨T0, hT0⟩ : ∃ T, Hid (PD (k + 1) = T) := ⟨_, Lib.hid rfl⟩
        rw [hT0.out] at hTl HN
        rw [hT0.out]
        obtain ⟨T1, hT1⟩ : ∃ T, Hid (T0 ++ [108, 101, 116, 116, 101, 114, 32] = T) := ⟨_, Lib.hid rfl⟩
        obtain ⟨T2, hT2⟩ : ∃ T, Hid (T1 ++ [letN k] = T) := ⟨_, Lib.hid rfl⟩
        obtain ⟨T3, hT3⟩ : ∃ T, Hid (T2 ++ [32] = T) := ⟨_, Lib.hid rfl⟩
        obtain ⟨T4, hT4⟩ : ∃ T, Hid (T3 ++ x = T) := ⟨_, Lib.hid rfl⟩
        obtain ⟨T5, hT5⟩ : ∃ T, Hid (T4 ++ [10] = T) := ⟨_, Lib.hid rfl⟩
        have l1' : T1.length ≤ 30007 := by rw [← hT1.out]; simp; omega
        have l2' : T2.length ≤ 30008 := by rw [← hT2.out]; simp; omega
        have l3' : T3.length ≤ 30009 := by rw [← hT3.out]; simp; omega
        have l4' : T4.length ≤ 30025 := by rw [← hT4.out]; simp; omega
        have HN5 : Hid (PD (k + 1 + 1) = T5) := Lib.hid (by rw [HN.out, ← hT5.out, ← hT4.out, ← hT3.out, ← hT2.out, ← hT1.out]; unfold letL; simp)
        have s1 : ¬ 9223372036854775807 < (bN T0).size + 7 := by rw [bN_size]; omega
        have c1 : bN T0 ++ (⟨#[108, 101, 116, 116, 101, 114, 32]⟩ : ByteArray) = bN T1 := by rw [← hT1.out]; exact bN_app T0 [108, 101, 116, 116, 101, 114, 32]
        have s2 : ¬ 9223372036854775807 < (bN T1).size + (bN [letN k]).size := by rw [bN_size, bN_size]; simp; omega
        have c2 : bN T1 ++ bN [letN k] = bN T2 := by rw [← hT2.out]; exact bN_app _ _
        have s3 : ¬ 9223372036854775807 < (bN T2).size + 1 := by rw [bN_size]; omega
        have c3 : bN T2 ++ (⟨#[32]⟩ : ByteArray) = bN T3 := by rw [← hT3.out]; exact bN_app _ [32]
        have s4 : ¬ 9223372036854775807 < (bN T3).size + (bN x).size := by rw [bN_size, bN_size]; omega
        have c4 : bN T3 ++ bN x = bN T4 := by rw [← hT4.out]; exact bN_app _ _
        have s5 : ¬ 9223372036854775807 < (bN T4).size + 1 := by rw [bN_size]; omega
        have c5 : bN T4 ++ (⟨#[10]⟩ : ByteArray) = bN T5 := by rw [← hT5.out]; exact bN_app _ [10]
        have i1 : (k : Int) < (L.length : Int) := by omega
        have i2 : (0 : Int) ≤ (k : Int) := by omega
        have HLT := Lib.hid (fun (g : Ex wr) => calls_ex (P := Tryz.prog) ((rletter14_any k (by omega) g.w).mono (fun e w' h => (⟨h.1, by rw [h.2]; exact Below.refl _ _⟩ : Ret (.string (bN [letN k])) g.w e w'))))
        go_wp2_with fail
        refine wp_region_ex (by kernel_rfl) (by kernel_rfl) ?_
        repeat (go_big_quiet_step ((go_at_call 41; refine (HLT.out _).mono ?_; rintro e w' ⟨rfl, hg⟩; exact ⟨rfl, hg⟩)))
        refine wpQuiet_nil ?_
        intro _ hw'
        obtain ⟨g, hw''⟩ := hw'
        subst hw''
        have hq := g.h
        go_wp2_with fail
        go_roundw
        case rel => exact ⟨k + 1, by omega, by go_num, by rw [HN5.out], hB.trans (hq.mono hz)⟩
        case measure => simp [intOf]; omega
      · obtain rfl : k = L.length := by omega
        rw [Nat.add_comm L.length 1]
        go_wp2_with fail
        obtain ⟨wo, hwo⟩ : ∃ wo : World, wo = wr := ⟨_, rfl⟩
        obtain rfl := hwo
        rw [hRS.out]
        go_loopw [8, 10] (fun tv kv wr => ∃ j : Nat, j ≤ RS.length ∧ kv = .int .i64 j ∧ tv = .string (bN (PD (1 + L.length + j))) ∧ Below w2.heap.size w2 wr) (fun _ kv _ => RS.length - (intOf kv).toNat)
        case atStart => exact ⟨0, Nat.zero_le _, rfl, rfl, hB⟩
        case round =>
          clear hB hz HPLk
          obtain ⟨j, hj, rfl, rfl, hB⟩ := hrel
          have hz := hB.size
          have hBx := hB2.trans (hB.mono (hB2.size))
          have kA3 := kA2.below' hB
          have a03 := kA3.cell 0 _ rfl
          have a13 := kA3.cell 1 _ rfl
          have al3 := kA3.lt
          have HPLk := HPL2 (1 + L.length + j)
          by_cases hjl : j < RS.length
          · have hjm : RS[j] ∈ rowsS p l := by rw [hRS.out]; exact List.getElem_mem hjl
            have HROW := Lib.hid (HPR.out j (by rw [hRS.out]; exact hjl))
            have hRj : (rowsS p l)[j]'(by rw [hRS.out]; exact hjl) = RS[j] := by congr 1
            rw [hRj] at HROW
            obtain ⟨gb, go, hAR, hgb, Ak, ck, g0, hrow⟩ := rd_draw_row hrG2 hB (Nat.le_refl _) hjl
            subst hAR
            obtain ⟨r, hr0⟩ : ∃ r, Hid (RS[j] = r) := ⟨_, Lib.hid rfl⟩
            rw [hr0.out] at g0 hrow HROW hjm
            have hgbl := lt_of_cell g0
            have i1 : (j : Int) < (RS.length : Int) := by omega
            have i2 : (0 : Int) ≤ (j : Int) := by omega
            have hTl := HPLk.out
            obtain ⟨T0, hT0⟩ : ∃ T, Hid (PD (1 + L.length + j) = T) := ⟨_, Lib.hid rfl⟩
            rw [hT0.out] at hTl HROW
            rw [hT0.out]
            obtain ⟨DR, hDR⟩ : ∃ DR, Hid (drawR p l L r = DR) := ⟨_, Lib.hid rfl⟩
            rw [hDR.out] at HROW
            have hDl : DR.length ≤ 47 := by rw [← hDR.out, drawR_len]; omega
            obtain ⟨T1, hT1⟩ : ∃ T, Hid (T0 ++ DR = T) := ⟨_, Lib.hid rfl⟩
            obtain ⟨T2, hT2⟩ : ∃ T, Hid (T1 ++ [10] = T) := ⟨_, Lib.hid rfl⟩
            have l1' : T1.length ≤ 30047 := by rw [← hT1.out]; simp; omega
            have HN5 : Hid (PD (1 + L.length + (j + 1)) = T2) := Lib.hid (by rw [HROW.out, ← hT2.out, ← hT1.out]; simp)
            have s1 : ¬ 9223372036854775807 < (bN T0).size + (bN DR).size := by rw [bN_size, bN_size]; omega
            have c1 : bN T0 ++ bN DR = bN T1 := by rw [← hT1.out]; exact bN_app _ _
            have s2 : ¬ 9223372036854775807 < (bN T1).size + 1 := by rw [bN_size]; omega
            have c2 : bN T1 ++ (⟨#[10]⟩ : ByteArray) = bN T2 := by rw [← hT2.out]; exact bN_app _ [10]
            have h1w : w1.heap.size ≤ w2.heap.size := hB2.size
            have HDW := Lib.hid (fun (g : Ex wr) => calls_ex (P := Tryz.prog) (rdrawn_any p A l c Ak r ck AL L cL g.w w2.heap.size ((hr.below' (hBg.trans ((hB.trans (g.h.mono hz)).mono hzg)) hH).more (by omega)) (hrow.below' g.h hz) (((hrL.below (hB2.trans ((hB.trans (g.h.mono hz)).mono h1w)))).more h1w) (Nat.le_trans hz g.h.size) (row_in hjm) (by have := row_apart_take hjm r.length; rw [List.take_length] at this; exact this) HOK.out.inP (fun i hi => by have := look_in hjm hi; rw [HLD.out] at this; exact this) h52' HOK.out.len (Nat.le_trans (row_len HOK.out.inP hjm) HOK.out.len) h24))
            rw [hDR.out] at HDW
            go_wp2_with fail
            refine wp_region_ex (by kernel_rfl) (by kernel_rfl) ?_
            repeat (go_big_quiet_step ((go_at_call 60; refine (HDW.out _).mono ?_; rintro e w' ⟨rfl, hg⟩; exact ⟨rfl, hg⟩)))
            refine wpQuiet_nil ?_
            intro _ hw'
            obtain ⟨g, hw''⟩ := hw'
            subst hw''
            have hq := g.h
            go_wp2_with fail
            go_roundw
            case rel => exact ⟨j + 1, by omega, by go_num, by rw [HN5.out], hB.trans (hq.mono hz)⟩
            case measure => simp [intOf]; omega
          · have hjR : j = RS.length := by omega
            subst hjR
            go_wp2_with fail
            go_ret2
            refine ⟨?_, hBg.trans (hB.mono hzg)⟩
            rw [HDE2.out, hRS.out]; rfl
end Go.Proofs.YtoccplfnjammjaaGreatDoor
