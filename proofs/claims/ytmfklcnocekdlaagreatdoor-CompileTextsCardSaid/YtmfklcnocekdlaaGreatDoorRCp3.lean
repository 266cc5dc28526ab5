/- torchonref15: read. -/
import Derived.Test.YtmfklcnocekdlaaGreatDoorRCp
import Derived.Test.YtmfklcnocekdlaaGreatDoorCRead2
set_option linter.unusedSimpArgs false
set_option linter.unusedVariables false
namespace Go.Proofs.YtmfklcnocekdlaaGreatDoor
open Go Go.RowKit Tor

/-- the word behind the next blank; behind the next but one -/
def w1C (t : List UInt8) : List UInt8 := match after1 t with
  | none => []
  | some w => w
def w0C (t : List UInt8) : List UInt8 := match after1 t with
  | none => []
  | some u => w1C u
theorem wordR_raw (L : List UInt8) : wordR L = if w0C L = [45] then [] else w0C L := by
  unfold wordR w0C w1C
  cases after1 L with
  | none => rfl
  | some t =>
    simp only
    cases after1 t with
    | none => rfl
    | some w => rfl
theorem w0C_blank (r : List UInt8) : w0C (32 :: r) = w1C r := by unfold w0C; rw [after1, if_pos rfl]
theorem w1C_blank (r : List UInt8) : w1C (32 :: r) = r := by unfold w1C; rw [after1, if_pos rfl]
theorem w0C_other {c : UInt8} (h : c ≠ 32) (r : List UInt8) : w0C (c :: r) = w0C r := by unfold w0C; rw [after1, if_neg h]
theorem w1C_other {c : UInt8} (h : c ≠ 32) (r : List UInt8) : w1C (c :: r) = w1C r := by unfold w1C; rw [after1, if_neg h]
theorem after1_len : ∀ (t u : List UInt8), after1 t = some u → u.length ≤ t.length
  | [], u, h => by cases h
  | c :: r, u, h => by
    rw [after1] at h
    split at h
    · cases h; simp
    · have := after1_len r u h; simp; omega
theorem w0C_len (t : List UInt8) : (w0C t).length ≤ t.length := by
  unfold w0C w1C
  cases h : after1 t with
  | none => simp
  | some u =>
    simp only
    have h1 := after1_len _ _ h
    cases h2 : after1 u with
    | none => simp
    | some v => have := after1_len _ _ h2; simp only; omega
set_option maxRecDepth 100000 in
set_option maxHeartbeats 8000000 in
theorem rread15_any (L : List UInt8) (w : World) (hl : L.length ≤ 1000000) : Calls Tryz.prog 41 #[.string (bN L)] w (CRead w L) := by
  have hz : (bN L).size = L.length := rfl
  have tL : (bN L).toList = L := Lib.toList_data _
  have kR := Blk.new w 52 #[.int .i64 0, .int .i64 0, .string ByteArray.empty]
  have hBB : Below w.heap.size w (w.alloc (.cells #[.int .i64 0, .int .i64 0, .string ByteArray.empty] 52)) := (Below.refl _ _).alloc (Nat.le_refl _) _
  have hwl := w0C_len L
  obtain ⟨V, hV⟩ : ∃ V, Hid (w0C L = V) := ⟨_, Lib.hid rfl⟩
  rw [hV.out] at hwl
  have hWR : Hid (wordR L = if V = [45] then [] else V) := by rw [Hid, wordR_raw, hV.out]
  go_enter Tryz.func41, Tryz.ntmps41
  go_wp2_with fail
  go_loopw [4, 5, 6] (fun sv bv iv wr => ∃ (j c : Nat), j ≤ L.length ∧ c ≤ 1 ∧ iv = .int .i64 j ∧ bv = .int .i64 c ∧ sv = .string ByteArray.empty ∧ Hid (V = if c = 0 then w0C (L.drop j) else w1C (L.drop j)) ∧ w.alloc (.cells #[.int .i64 0, .int .i64 0, .string ByteArray.empty] 52) = wr) (fun _ _ i _ => L.length - (intOf i).toNat)
  case atStart => exact ⟨0, 0, Nat.zero_le _, by omega, rfl, rfl, rfl, Lib.hid (by rw [if_pos rfl]; exact hV.out.symm), rfl⟩
  case round =>
    obtain ⟨j, c, hj, hc, rfl, rfl, rfl, hst, rfl⟩ := hrel
    by_cases hlt : j < L.length
    · have a1 : (j : Int) < (L.length : Int) := by omega
      obtain ⟨d, hd⟩ : ∃ d, Hid (L[j]'hlt = d) := ⟨_, Lib.hid rfl⟩
      have hsz : j < (bN L).size := hlt
      have hcb : (bN L)[j]'hsz = d := hd.out
      have hdr : L.drop j = d :: L.drop (j + 1) := by rw [List.drop_eq_getElem_cons hlt, hd.out]
      by_cases h32 : d = 32
      · have e1 : ((d.toNat : Int) == 32) = true := by rw [h32]; rfl
        by_cases hc0 : c = 0
        · subst hc0
          have hst2 : Hid (V = if 1 = 0 then w0C (L.drop (j + 1)) else w1C (L.drop (j + 1))) := by
            rw [Hid, hst.out, if_pos rfl, hdr, h32, w0C_blank, if_neg (by omega)]
          clear hst hdr h32 hd
          go_wp2_with fail
          go_roundw
          case rel => exact ⟨j + 1, 1, by omega, by omega, by go_num, rfl, rfl, hst2, trivial⟩
          case measure => simp [intOf]; omega
        · obtain rfl : c = 1 := by omega
          have hVd : V = L.drop (j + 1) := by rw [hst.out, if_neg (by omega), hdr, h32, w1C_blank]
          have e2 : (bN L).extract (j + 1) L.length = bN V := by rw [bN_dropC, hVd]
          clear hst hdr h32 hd hVd hc0
          have tV : (bN V).toList = V := Lib.toList_data _
          by_cases h45 : V = [45]
          · have v1 : (V == [45]) = true := by rw [h45]; rfl
            have hW : Hid (wordR L = []) := by rw [Hid, hWR.out, if_pos h45]
            clear h45 hWR
            go_wp2_with fail
            have hWl : Hid (([] : List UInt8).length ≤ 1000000) := Lib.hid (by first | omega | simp)
            obtain ⟨E, hE⟩ : ∃ E, Hid (wordE (bN []) = E) := ⟨_, Lib.hid rfl⟩
            refine (wordRef_any (bN []) _ (by have := hWl.out; show ([] : List UInt8).length ≤ _; omega)).mono ?_
            rintro e w1 ⟨rfl, hB1⟩
            rw [hE.out]
            have kR1 := kR.below' hB1
            have hB1' := hBB.trans (hB1.mono hBB.size)
            clear kR
            by_cases hE0 : E = 0
            · subst hE0
              go_wp2_with fail
              go_loopw [7] (fun av wr => ∃ a : Nat, a ≤ 23 ∧ av = .int .i64 a ∧ Hid (∀ p q : Nat, p < a → (q = 1 ∨ q = 2 ∨ q = 3) → lineR (candC [] p q) ≠ L) ∧ Blk wr w.heap.size 52 #[.int .i64 0, .int .i64 0, .string ByteArray.empty] ∧ Below w.heap.size w wr) (fun av _ => 23 - (intOf av).toNat)
              case atStart => exact ⟨0, by omega, rfl, Lib.hid (fun p q hp => absurd hp (by omega)), kR1, hB1'⟩
              case round =>
                obtain ⟨a, ha, rfl, hma, kA, hBA⟩ := hrel
                obtain ⟨wa, rfl⟩ : ∃ wa : World, wa = wr := ⟨_, rfl⟩
                by_cases hla : a ≤ 22
                · have c1 : (a : Int) ≤ 22 := by omega
                  go_wp2_with fail
                  go_loopw [8] (fun ov wr => ∃ o : Nat, 1 ≤ o ∧ o ≤ 4 ∧ ov = .int .i64 o ∧ Hid (∀ q : Nat, 1 ≤ q → q < o → lineR (candC [] a q) ≠ L) ∧ Blk wr w.heap.size 52 #[.int .i64 0, .int .i64 0, .string ByteArray.empty] ∧ Below w.heap.size w wr) (fun ov _ => 4 - (intOf ov).toNat)
                  case atStart => exact ⟨1, by omega, by omega, rfl, Lib.hid (fun q h1 h2 => absurd h1 (by omega)), kA, hBA⟩
                  case round =>
                    obtain ⟨o, ho1, ho4, rfl, hmo, kO, hBO⟩ := hrel
                    obtain ⟨wo, rfl⟩ : ∃ wo : World, wo = wr := ⟨_, rfl⟩
                    rcases (show o = 1 ∨ o = 2 ∨ o = 3 ∨ o = 4 by omega) with rfl | rfl | rfl | rfl
                    · skip
                      obtain ⟨Y, hY⟩ : ∃ Y, Hid (lineR (candC [] a 1) = Y) := ⟨_, Lib.hid rfl⟩
                      have HL : Hid (∀ w', Calls Tryz.prog 38 #[.agg #[.int .i64 1, .int .i64 a, .string (⟨#[]⟩)]] w' (Ret (.string (bN Y)) w')) := Lib.hid (fun w' => by
                        have := rline_any (candC [] a 1) w' (by simp [candC]) (by simp [candC]) (by simp [candC]; omega) (by first | exact hWl.out | exact Nat.zero_le _ | (simp [candC]; done) | (simp [candC]; decide))
                        rw [hY.out] at this
                        exact this)
                      have tY : (bN Y).toList = Y := Lib.toList_data _
                      by_cases hyl : Y = L
                      · have v3 : (Y == L) = true := by rw [hyl]; exact beq_self_eq_true _
                        have hin : Hid (readC L = some (candC [] a 1)) := by
                          have := read_hit (s := L) (by rw [hW.out]; exact hE.out) hla (op := 1) (by omega) (by rw [hW.out, hY.out, hyl])
                          rw [hW.out] at this
                          exact this
                        clear hyl hmo
                        go_wp2_with fail
                        refine (HL.out _).mono ?_
                        rintro e w3 ⟨rfl, hB3⟩
                        have kX0 := Blk.new wo 52 #[.int .i64 1, .int .i64 a, .string ⟨#[]⟩]
                        have kO0 := kO.alloc (.cells #[.int .i64 1, .int .i64 a, .string ⟨#[]⟩] 52)
                        have hB0 := hBO.alloc hBO.size (.cells #[.int .i64 1, .int .i64 a, .string ⟨#[]⟩] 52)
                        have kX3 := kX0.below' hB3
                        have kO3 := kO0.below' hB3
                        have hB3' := hB0.trans (hB3.mono hB0.size)
                        have x0 := kX3.cell 0 _ rfl
                        have x1 := kX3.cell 1 _ rfl
                        have x2 := kX3.cell 2 _ rfl
                        have f0 := kO3.frozen 0
                        have f1 := kO3.frozen 1
                        have f2 := kO3.frozen 2
                        have q0 := kO3.cell 0 _ rfl
                        have q1 := kO3.cell 1 _ rfl
                        have q2 := kO3.cell 2 _ rfl
                        have l0 := kO3.lt
                        go_wp2_with fail
                        refine cps_ret2 rfl rfl (((kO3.set_ 0 _).set_ 1 _).set_ 2 _) rfl ?_
                        refine ⟨candC [] a 1, by rw [hin.out]; rfl, fun y hy => (by rw [hin.out] at hy; exact Option.some.inj hy), ?_⟩
                        exact ((hB3'.setCell (p := ⟨w.heap.size, 0, none⟩) (Nat.le_refl _) _).setCell (p := ⟨w.heap.size, 1, none⟩) (Nat.le_refl _) _).setCell (p := ⟨w.heap.size, 2, none⟩) (Nat.le_refl _) _
                      · have v3 : (Y == L) = false := beq_eq_false_iff_ne.2 hyl
                        have hmo2 : Hid (∀ q : Nat, 1 ≤ q → q < 1 + 1 → lineR (candC [] a q) ≠ L) := Lib.hid (fun q h1 h2 => by
                          rcases Nat.lt_or_ge q 1 with h | h
                          · exact hmo.out q h1 h
                          · obtain rfl : q = 1 := by omega
                            rw [hY.out]; exact hyl)
                        clear hyl hmo
                        go_wp2_with fail
                        refine (HL.out _).mono ?_
                        rintro e w3 ⟨rfl, hB3⟩
                        have kX0 := Blk.new wo 52 #[.int .i64 1, .int .i64 a, .string ⟨#[]⟩]
                        have kO0 := kO.alloc (.cells #[.int .i64 1, .int .i64 a, .string ⟨#[]⟩] 52)
                        have hB0 := hBO.alloc hBO.size (.cells #[.int .i64 1, .int .i64 a, .string ⟨#[]⟩] 52)
                        have kX3 := kX0.below' hB3
                        have kO3 := kO0.below' hB3
                        have hB3' := hB0.trans (hB3.mono hB0.size)
                        go_wp2_with fail
                        go_roundw
                        case rel => exact ⟨1 + 1, by omega, by omega, by go_num, hmo2, kO3, hB3'⟩
                        case measure => simp [intOf]
                    · skip
                      obtain ⟨Y, hY⟩ : ∃ Y, Hid (lineR (candC [] a 2) = Y) := ⟨_, Lib.hid rfl⟩
                      have HL : Hid (∀ w', Calls Tryz.prog 38 #[.agg #[.int .i64 2, .int .i64 a, .string (bN [])]] w' (Ret (.string (bN Y)) w')) := Lib.hid (fun w' => by
                        have := rline_any (candC [] a 2) w' (by simp [candC]) (by simp [candC]) (by simp [candC]; omega) (by first | exact hWl.out | exact Nat.zero_le _ | (simp [candC]; done) | (simp [candC]; decide))
                        rw [hY.out] at this
                        exact this)
                      have tY : (bN Y).toList = Y := Lib.toList_data _
                      by_cases hyl : Y = L
                      · have v3 : (Y == L) = true := by rw [hyl]; exact beq_self_eq_true _
                        have hin : Hid (readC L = some (candC [] a 2)) := by
                          have := read_hit (s := L) (by rw [hW.out]; exact hE.out) hla (op := 2) (by omega) (by rw [hW.out, hY.out, hyl])
                          rw [hW.out] at this
                          exact this
                        clear hyl hmo
                        go_wp2_with fail
                        refine (HL.out _).mono ?_
                        rintro e w3 ⟨rfl, hB3⟩
                        have kX0 := Blk.new wo 52 #[.int .i64 2, .int .i64 a, .string ⟨#[]⟩]
                        have kO0 := kO.alloc (.cells #[.int .i64 2, .int .i64 a, .string ⟨#[]⟩] 52)
                        have hB0 := hBO.alloc hBO.size (.cells #[.int .i64 2, .int .i64 a, .string ⟨#[]⟩] 52)
                        have kX3 := kX0.below' hB3
                        have kO3 := kO0.below' hB3
                        have hB3' := hB0.trans (hB3.mono hB0.size)
                        have x0 := kX3.cell 0 _ rfl
                        have x1 := kX3.cell 1 _ rfl
                        have x2 := kX3.cell 2 _ rfl
                        have f0 := kO3.frozen 0
                        have f1 := kO3.frozen 1
                        have f2 := kO3.frozen 2
                        have q0 := kO3.cell 0 _ rfl
                        have q1 := kO3.cell 1 _ rfl
                        have q2 := kO3.cell 2 _ rfl
                        have l0 := kO3.lt
                        go_wp2_with fail
                        refine cps_ret2 rfl rfl (((kO3.set_ 0 _).set_ 1 _).set_ 2 _) rfl ?_
                        refine ⟨candC [] a 2, by rw [hin.out]; rfl, fun y hy => (by rw [hin.out] at hy; exact Option.some.inj hy), ?_⟩
                        exact ((hB3'.setCell (p := ⟨w.heap.size, 0, none⟩) (Nat.le_refl _) _).setCell (p := ⟨w.heap.size, 1, none⟩) (Nat.le_refl _) _).setCell (p := ⟨w.heap.size, 2, none⟩) (Nat.le_refl _) _
                      · have v3 : (Y == L) = false := beq_eq_false_iff_ne.2 hyl
                        have hmo2 : Hid (∀ q : Nat, 1 ≤ q → q < 2 + 1 → lineR (candC [] a q) ≠ L) := Lib.hid (fun q h1 h2 => by
                          rcases Nat.lt_or_ge q 2 with h | h
                          · exact hmo.out q h1 h
                          · obtain rfl : q = 2 := by omega
                            rw [hY.out]; exact hyl)
                        clear hyl hmo
                        go_wp2_with fail
                        refine (HL.out _).mono ?_
                        rintro e w3 ⟨rfl, hB3⟩
                        have kX0 := Blk.new wo 52 #[.int .i64 2, .int .i64 a, .string ⟨#[]⟩]
                        have kO0 := kO.alloc (.cells #[.int .i64 2, .int .i64 a, .string ⟨#[]⟩] 52)
                        have hB0 := hBO.alloc hBO.size (.cells #[.int .i64 2, .int .i64 a, .string ⟨#[]⟩] 52)
                        have kX3 := kX0.below' hB3
                        have kO3 := kO0.below' hB3
                        have hB3' := hB0.trans (hB3.mono hB0.size)
                        go_wp2_with fail
                        go_roundw
                        case rel => exact ⟨2 + 1, by omega, by omega, by go_num, hmo2, kO3, hB3'⟩
                        case measure => simp [intOf]
                    · skip
                      obtain ⟨Y, hY⟩ : ∃ Y, Hid (lineR (candC [] a 3) = Y) := ⟨_, Lib.hid rfl⟩
                      have HL : Hid (∀ w', Calls Tryz.prog 38 #[.agg #[.int .i64 3, .int .i64 a, .string (⟨#[]⟩)]] w' (Ret (.string (bN Y)) w')) := Lib.hid (fun w' => by
                        have := rline_any (candC [] a 3) w' (by simp [candC]) (by simp [candC]) (by simp [candC]; omega) (by first | exact hWl.out | exact Nat.zero_le _ | (simp [candC]; done) | (simp [candC]; decide))
                        rw [hY.out] at this
                        exact this)
                      have tY : (bN Y).toList = Y := Lib.toList_data _
                      by_cases hyl : Y = L
                      · have v3 : (Y == L) = true := by rw [hyl]; exact beq_self_eq_true _
                        have hin : Hid (readC L = some (candC [] a 3)) := by
                          have := read_hit (s := L) (by rw [hW.out]; exact hE.out) hla (op := 3) (by omega) (by rw [hW.out, hY.out, hyl])
                          rw [hW.out] at this
                          exact this
                        clear hyl hmo
                        go_wp2_with fail
                        refine (HL.out _).mono ?_
                        rintro e w3 ⟨rfl, hB3⟩
                        have kX0 := Blk.new wo 52 #[.int .i64 3, .int .i64 a, .string ⟨#[]⟩]
                        have kO0 := kO.alloc (.cells #[.int .i64 3, .int .i64 a, .string ⟨#[]⟩] 52)
                        have hB0 := hBO.alloc hBO.size (.cells #[.int .i64 3, .int .i64 a, .string ⟨#[]⟩] 52)
                        have kX3 := kX0.below' hB3
                        have kO3 := kO0.below' hB3
                        have hB3' := hB0.trans (hB3.mono hB0.size)
                        have x0 := kX3.cell 0 _ rfl
                        have x1 := kX3.cell 1 _ rfl
                        have x2 := kX3.cell 2 _ rfl
                        have f0 := kO3.frozen 0
                        have f1 := kO3.frozen 1
                        have f2 := kO3.frozen 2
                        have q0 := kO3.cell 0 _ rfl
                        have q1 := kO3.cell 1 _ rfl
                        have q2 := kO3.cell 2 _ rfl
                        have l0 := kO3.lt
                        go_wp2_with fail
                        refine cps_ret2 rfl rfl (((kO3.set_ 0 _).set_ 1 _).set_ 2 _) rfl ?_
                        refine ⟨candC [] a 3, by rw [hin.out]; rfl, fun y hy => (by rw [hin.out] at hy; exact Option.some.inj hy), ?_⟩
                        exact ((hB3'.setCell (p := ⟨w.heap.size, 0, none⟩) (Nat.le_refl _) _).setCell (p := ⟨w.heap.size, 1, none⟩) (Nat.le_refl _) _).setCell (p := ⟨w.heap.size, 2, none⟩) (Nat.le_refl _) _
                      · have v3 : (Y == L) = false := beq_eq_false_iff_ne.2 hyl
                        have hmo2 : Hid (∀ q : Nat, 1 ≤ q → q < 3 + 1 → lineR (candC [] a q) ≠ L) := Lib.hid (fun q h1 h2 => by
                          rcases Nat.lt_or_ge q 3 with h | h
                          · exact hmo.out q h1 h
                          · obtain rfl : q = 3 := by omega
                            rw [hY.out]; exact hyl)
                        clear hyl hmo
                        go_wp2_with fail
                        refine (HL.out _).mono ?_
                        rintro e w3 ⟨rfl, hB3⟩
                        have kX0 := Blk.new wo 52 #[.int .i64 3, .int .i64 a, .string ⟨#[]⟩]
                        have kO0 := kO.alloc (.cells #[.int .i64 3, .int .i64 a, .string ⟨#[]⟩] 52)
                        have hB0 := hBO.alloc hBO.size (.cells #[.int .i64 3, .int .i64 a, .string ⟨#[]⟩] 52)
                        have kX3 := kX0.below' hB3
                        have kO3 := kO0.below' hB3
                        have hB3' := hB0.trans (hB3.mono hB0.size)
                        go_wp2_with fail
                        go_roundw
                        case rel => exact ⟨3 + 1, by omega, by omega, by go_num, hmo2, kO3, hB3'⟩
                        case measure => simp [intOf]
                    · have hma2 : Hid (∀ p q : Nat, p < a + 1 → (q = 1 ∨ q = 2 ∨ q = 3) → lineR (candC [] p q) ≠ L) := Lib.hid (fun p q hp hq => by
                        rcases Nat.lt_or_ge p a with h | h
                        · exact hma.out p q h hq
                        · obtain rfl : p = a := by omega
                          exact hmo.out q (by omega) (by omega))
                      clear hmo hma
                      go_wp2_with fail
                      go_roundw
                      case rel => exact ⟨a + 1, by omega, by go_num, hma2, kO, hBO⟩
                      case measure => simp [intOf]; omega
                · obtain rfl : a = 23 := by omega
                  have hno : Hid (readC L = none) := read_miss (fun _ p q hp hq => by rw [hW.out]; exact hma.out p q (by omega) hq)
                  clear hma
                  have f0 := kA.frozen 0
                  have f1 := kA.frozen 1
                  have f2 := kA.frozen 2
                  have q0 := kA.cell 0 _ rfl
                  have q1 := kA.cell 1 _ rfl
                  have q2 := kA.cell 2 _ rfl
                  have l0 := kA.lt
                  go_wp2_with fail
                  refine cps_ret2 rfl rfl (((kA.set_ 0 _).set_ 1 _).set_ 2 _) rfl ?_
                  refine ⟨⟨0, 0, ByteArray.empty⟩, by rw [hno.out]; rfl, fun y hy => (by rw [hno.out] at hy; cases hy), ?_⟩
                  exact ((hBA.setCell (p := ⟨w.heap.size, 0, none⟩) (Nat.le_refl _) _).setCell (p := ⟨w.heap.size, 1, none⟩) (Nat.le_refl _) _).setCell (p := ⟨w.heap.size, 2, none⟩) (Nat.le_refl _) _
            · have b0 : (E != 0) = true := by rw [bne_iff_ne]; exact hE0
              have hno : Hid (readC L = none) := read_miss (fun h0 => absurd h0 (by rw [hW.out, show (⟨([] : List UInt8).toArray⟩ : ByteArray) = bN [] from rfl, hE.out]; exact hE0))
              have f0 := kR1.frozen 0
              have f1 := kR1.frozen 1
              have f2 := kR1.frozen 2
              have q0 := kR1.cell 0 _ rfl
              have q1 := kR1.cell 1 _ rfl
              have q2 := kR1.cell 2 _ rfl
              have l0 := kR1.lt
              go_wp2_with fail
              refine cps_ret2 rfl rfl (((kR1.set_ 0 _).set_ 1 _).set_ 2 _) rfl ?_
              refine ⟨⟨0, 0, ByteArray.empty⟩, by rw [hno.out]; rfl, fun y hy => (by rw [hno.out] at hy; cases hy), ?_⟩
              exact ((hB1'.setCell (p := ⟨w.heap.size, 0, none⟩) (Nat.le_refl _) _).setCell (p := ⟨w.heap.size, 1, none⟩) (Nat.le_refl _) _).setCell (p := ⟨w.heap.size, 2, none⟩) (Nat.le_refl _) _
          · have v1 : (V == [45]) = false := beq_eq_false_iff_ne.2 h45
            have hW : Hid (wordR L = V) := by rw [Hid, hWR.out, if_neg h45]
            clear h45 hWR
            go_wp2_with fail
            have hWl : Hid ((V : List UInt8).length ≤ 1000000) := Lib.hid (by first | omega | simp)
            obtain ⟨E, hE⟩ : ∃ E, Hid (wordE (bN V) = E) := ⟨_, Lib.hid rfl⟩
            refine (wordRef_any (bN V) _ (by have := hWl.out; show (V : List UInt8).length ≤ _; omega)).mono ?_
            rintro e w1 ⟨rfl, hB1⟩
            rw [hE.out]
            have kR1 := kR.below' hB1
            have hB1' := hBB.trans (hB1.mono hBB.size)
            clear kR
            by_cases hE0 : E = 0
            · subst hE0
              go_wp2_with fail
              go_loopw [7] (fun av wr => ∃ a : Nat, a ≤ 23 ∧ av = .int .i64 a ∧ Hid (∀ p q : Nat, p < a → (q = 1 ∨ q = 2 ∨ q = 3) → lineR (candC V p q) ≠ L) ∧ Blk wr w.heap.size 52 #[.int .i64 0, .int .i64 0, .string ByteArray.empty] ∧ Below w.heap.size w wr) (fun av _ => 23 - (intOf av).toNat)
              case atStart => exact ⟨0, by omega, rfl, Lib.hid (fun p q hp => absurd hp (by omega)), kR1, hB1'⟩
              case round =>
                obtain ⟨a, ha, rfl, hma, kA, hBA⟩ := hrel
                obtain ⟨wa, rfl⟩ : ∃ wa : World, wa = wr := ⟨_, rfl⟩
                by_cases hla : a ≤ 22
                · have c1 : (a : Int) ≤ 22 := by omega
                  go_wp2_with fail
                  go_loopw [8] (fun ov wr => ∃ o : Nat, 1 ≤ o ∧ o ≤ 4 ∧ ov = .int .i64 o ∧ Hid (∀ q : Nat, 1 ≤ q → q < o → lineR (candC V a q) ≠ L) ∧ Blk wr w.heap.size 52 #[.int .i64 0, .int .i64 0, .string ByteArray.empty] ∧ Below w.heap.size w wr) (fun ov _ => 4 - (intOf ov).toNat)
                  case atStart => exact ⟨1, by omega, by omega, rfl, Lib.hid (fun q h1 h2 => absurd h1 (by omega)), kA, hBA⟩
                  case round =>
                    obtain ⟨o, ho1, ho4, rfl, hmo, kO, hBO⟩ := hrel
                    obtain ⟨wo, rfl⟩ : ∃ wo : World, wo = wr := ⟨_, rfl⟩
                    rcases (show o = 1 ∨ o = 2 ∨ o = 3 ∨ o = 4 by omega) with rfl | rfl | rfl | rfl
                    · skip
                      obtain ⟨Y, hY⟩ : ∃ Y, Hid (lineR (candC V a 1) = Y) := ⟨_, Lib.hid rfl⟩
                      have HL : Hid (∀ w', Calls Tryz.prog 38 #[.agg #[.int .i64 1, .int .i64 a, .string (⟨#[]⟩)]] w' (Ret (.string (bN Y)) w')) := Lib.hid (fun w' => by
                        have := rline_any (candC V a 1) w' (by simp [candC]) (by simp [candC]) (by simp [candC]; omega) (by first | exact hWl.out | exact Nat.zero_le _ | (simp [candC]; done) | (simp [candC]; decide))
                        rw [hY.out] at this
                        exact this)
                      have tY : (bN Y).toList = Y := Lib.toList_data _
                      by_cases hyl : Y = L
                      · have v3 : (Y == L) = true := by rw [hyl]; exact beq_self_eq_true _
                        have hin : Hid (readC L = some (candC V a 1)) := by
                          have := read_hit (s := L) (by rw [hW.out]; exact hE.out) hla (op := 1) (by omega) (by rw [hW.out, hY.out, hyl])
                          rw [hW.out] at this
                          exact this
                        clear hyl hmo
                        go_wp2_with fail
                        refine (HL.out _).mono ?_
                        rintro e w3 ⟨rfl, hB3⟩
                        have kX0 := Blk.new wo 52 #[.int .i64 1, .int .i64 a, .string ⟨#[]⟩]
                        have kO0 := kO.alloc (.cells #[.int .i64 1, .int .i64 a, .string ⟨#[]⟩] 52)
                        have hB0 := hBO.alloc hBO.size (.cells #[.int .i64 1, .int .i64 a, .string ⟨#[]⟩] 52)
                        have kX3 := kX0.below' hB3
                        have kO3 := kO0.below' hB3
                        have hB3' := hB0.trans (hB3.mono hB0.size)
                        have x0 := kX3.cell 0 _ rfl
                        have x1 := kX3.cell 1 _ rfl
                        have x2 := kX3.cell 2 _ rfl
                        have f0 := kO3.frozen 0
                        have f1 := kO3.frozen 1
                        have f2 := kO3.frozen 2
                        have q0 := kO3.cell 0 _ rfl
                        have q1 := kO3.cell 1 _ rfl
                        have q2 := kO3.cell 2 _ rfl
                        have l0 := kO3.lt
                        go_wp2_with fail
                        refine cps_ret2 rfl rfl (((kO3.set_ 0 _).set_ 1 _).set_ 2 _) rfl ?_
                        refine ⟨candC V a 1, by rw [hin.out]; rfl, fun y hy => (by rw [hin.out] at hy; exact Option.some.inj hy), ?_⟩
                        exact ((hB3'.setCell (p := ⟨w.heap.size, 0, none⟩) (Nat.le_refl _) _).setCell (p := ⟨w.heap.size, 1, none⟩) (Nat.le_refl _) _).setCell (p := ⟨w.heap.size, 2, none⟩) (Nat.le_refl _) _
                      · have v3 : (Y == L) = false := beq_eq_false_iff_ne.2 hyl
                        have hmo2 : Hid (∀ q : Nat, 1 ≤ q → q < 1 + 1 → lineR (candC V a q) ≠ L) := Lib.hid (fun q h1 h2 => by
                          rcases Nat.lt_or_ge q 1 with h | h
                          · exact hmo.out q h1 h
                          · obtain rfl : q = 1 := by omega
                            rw [hY.out]; exact hyl)
                        clear hyl hmo
                        go_wp2_with fail
                        refine (HL.out _).mono ?_
                        rintro e w3 ⟨rfl, hB3⟩
                        have kX0 := Blk.new wo 52 #[.int .i64 1, .int .i64 a, .string ⟨#[]⟩]
                        have kO0 := kO.alloc (.cells #[.int .i64 1, .int .i64 a, .string ⟨#[]⟩] 52)
                        have hB0 := hBO.alloc hBO.size (.cells #[.int .i64 1, .int .i64 a, .string ⟨#[]⟩] 52)
                        have kX3 := kX0.below' hB3
                        have kO3 := kO0.below' hB3
                        have hB3' := hB0.trans (hB3.mono hB0.size)
                        go_wp2_with fail
                        go_roundw
                        case rel => exact ⟨1 + 1, by omega, by omega, by go_num, hmo2, kO3, hB3'⟩
                        case measure => simp [intOf]
                    · skip
                      obtain ⟨Y, hY⟩ : ∃ Y, Hid (lineR (candC V a 2) = Y) := ⟨_, Lib.hid rfl⟩
                      have HL : Hid (∀ w', Calls Tryz.prog 38 #[.agg #[.int .i64 2, .int .i64 a, .string (bN V)]] w' (Ret (.string (bN Y)) w')) := Lib.hid (fun w' => by
                        have := rline_any (candC V a 2) w' (by simp [candC]) (by simp [candC]) (by simp [candC]; omega) (by first | exact hWl.out | exact Nat.zero_le _ | (simp [candC]; done) | (simp [candC]; decide))
                        rw [hY.out] at this
                        exact this)
                      have tY : (bN Y).toList = Y := Lib.toList_data _
                      by_cases hyl : Y = L
                      · have v3 : (Y == L) = true := by rw [hyl]; exact beq_self_eq_true _
                        have hin : Hid (readC L = some (candC V a 2)) := by
                          have := read_hit (s := L) (by rw [hW.out]; exact hE.out) hla (op := 2) (by omega) (by rw [hW.out, hY.out, hyl])
                          rw [hW.out] at this
                          exact this
                        clear hyl hmo
                        go_wp2_with fail
                        refine (HL.out _).mono ?_
                        rintro e w3 ⟨rfl, hB3⟩
                        have kX0 := Blk.new wo 52 #[.int .i64 2, .int .i64 a, .string (bN V)]
                        have kO0 := kO.alloc (.cells #[.int .i64 2, .int .i64 a, .string (bN V)] 52)
                        have hB0 := hBO.alloc hBO.size (.cells #[.int .i64 2, .int .i64 a, .string (bN V)] 52)
                        have kX3 := kX0.below' hB3
                        have kO3 := kO0.below' hB3
                        have hB3' := hB0.trans (hB3.mono hB0.size)
                        have x0 := kX3.cell 0 _ rfl
                        have x1 := kX3.cell 1 _ rfl
                        have x2 := kX3.cell 2 _ rfl
                        have f0 := kO3.frozen 0
                        have f1 := kO3.frozen 1
                        have f2 := kO3.frozen 2
                        have q0 := kO3.cell 0 _ rfl
                        have q1 := kO3.cell 1 _ rfl
                        have q2 := kO3.cell 2 _ rfl
                        have l0 := kO3.lt
                        go_wp2_with fail
                        refine cps_ret2 rfl rfl (((kO3.set_ 0 _).set_ 1 _).set_ 2 _) rfl ?_
                        refine ⟨candC V a 2, by rw [hin.out]; rfl, fun y hy => (by rw [hin.out] at hy; exact Option.some.inj hy), ?_⟩
                        exact ((hB3'.setCell (p := ⟨w.heap.size, 0, none⟩) (Nat.le_refl _) _).setCell (p := ⟨w.heap.size, 1, none⟩) (Nat.le_refl _) _).setCell (p := ⟨w.heap.size, 2, none⟩) (Nat.le_refl _) _
                      · have v3 : (Y == L) = false := beq_eq_false_iff_ne.2 hyl
                        have hmo2 : Hid (∀ q : Nat, 1 ≤ q → q < 2 + 1 → lineR (candC V a q) ≠ L) := Lib.hid (fun q h1 h2 => by
                          rcases Nat.lt_or_ge q 2 with h | h
                          · exact hmo.out q h1 h
                          · obtain rfl : q = 2 := by omega
                            rw [hY.out]; exact hyl)
                        clear hyl hmo
                        go_wp2_with fail
                        refine (HL.out _).mono ?_
                        rintro e w3 ⟨rfl, hB3⟩
                        have kX0 := Blk.new wo 52 #[.int .i64 2, .int .i64 a, .string (bN V)]
                        have kO0 := kO.alloc (.cells #[.int .i64 2, .int .i64 a, .string (bN V)] 52)
                        have hB0 := hBO.alloc hBO.size (.cells #[.int .i64 2, .int .i64 a, .string (bN V)] 52)
                        have kX3 := kX0.below' hB3
                        have kO3 := kO0.below' hB3
                        have hB3' := hB0.trans (hB3.mono hB0.size)
                        go_wp2_with fail
                        go_roundw
                        case rel => exact ⟨2 + 1, by omega, by omega, by go_num, hmo2, kO3, hB3'⟩
                        case measure => simp [intOf]
                    · skip
                      obtain ⟨Y, hY⟩ : ∃ Y, Hid (lineR (candC V a 3) = Y) := ⟨_, Lib.hid rfl⟩
                      have HL : Hid (∀ w', Calls Tryz.prog 38 #[.agg #[.int .i64 3, .int .i64 a, .string (⟨#[]⟩)]] w' (Ret (.string (bN Y)) w')) := Lib.hid (fun w' => by
                        have := rline_any (candC V a 3) w' (by simp [candC]) (by simp [candC]) (by simp [candC]; omega) (by first | exact hWl.out | exact Nat.zero_le _ | (simp [candC]; done) | (simp [candC]; decide))
                        rw [hY.out] at this
                        exact this)
                      have tY : (bN Y).toList = Y := Lib.toList_data _
                      by_cases hyl : Y = L
                      · have v3 : (Y == L) = true := by rw [hyl]; exact beq_self_eq_true _
                        have hin : Hid (readC L = some (candC V a 3)) := by
                          have := read_hit (s := L) (by rw [hW.out]; exact hE.out) hla (op := 3) (by omega) (by rw [hW.out, hY.out, hyl])
                          rw [hW.out] at this
                          exact this
                        clear hyl hmo
                        go_wp2_with fail
                        refine (HL.out _).mono ?_
                        rintro e w3 ⟨rfl, hB3⟩
                        have kX0 := Blk.new wo 52 #[.int .i64 3, .int .i64 a, .string ⟨#[]⟩]
                        have kO0 := kO.alloc (.cells #[.int .i64 3, .int .i64 a, .string ⟨#[]⟩] 52)
                        have hB0 := hBO.alloc hBO.size (.cells #[.int .i64 3, .int .i64 a, .string ⟨#[]⟩] 52)
                        have kX3 := kX0.below' hB3
                        have kO3 := kO0.below' hB3
                        have hB3' := hB0.trans (hB3.mono hB0.size)
                        have x0 := kX3.cell 0 _ rfl
                        have x1 := kX3.cell 1 _ rfl
                        have x2 := kX3.cell 2 _ rfl
                        have f0 := kO3.frozen 0
                        have f1 := kO3.frozen 1
                        have f2 := kO3.frozen 2
                        have q0 := kO3.cell 0 _ rfl
                        have q1 := kO3.cell 1 _ rfl
                        have q2 := kO3.cell 2 _ rfl
                        have l0 := kO3.lt
                        go_wp2_with fail
                        refine cps_ret2 rfl rfl (((kO3.set_ 0 _).set_ 1 _).set_ 2 _) rfl ?_
                        refine ⟨candC V a 3, by rw [hin.out]; rfl, fun y hy => (by rw [hin.out] at hy; exact Option.some.inj hy), ?_⟩
                        exact ((hB3'.setCell (p := ⟨w.heap.size, 0, none⟩) (Nat.le_refl _) _).setCell (p := ⟨w.heap.size, 1, none⟩) (Nat.le_refl _) _).setCell (p := ⟨w.heap.size, 2, none⟩) (Nat.le_refl _) _
                      · have v3 : (Y == L) = false := beq_eq_false_iff_ne.2 hyl
                        have hmo2 : Hid (∀ q : Nat, 1 ≤ q → q < 3 + 1 → lineR (candC V a q) ≠ L) := Lib.hid (fun q h1 h2 => by
                          rcases Nat.lt_or_ge q 3 with h | h
                          · exact hmo.out q h1 h
                          · obtain rfl : q = 3 := by omega
                            rw [hY.out]; exact hyl)
                        clear hyl hmo
                        go_wp2_with fail
                        refine (HL.out _).mono ?_
                        rintro e w3 ⟨rfl, hB3⟩
                        have kX0 := Blk.new wo 52 #[.int .i64 3, .int .i64 a, .string ⟨#[]⟩]
                        have kO0 := kO.alloc (.cells #[.int .i64 3, .int .i64 a, .string ⟨#[]⟩] 52)
                        have hB0 := hBO.alloc hBO.size (.cells #[.int .i64 3, .int .i64 a, .string ⟨#[]⟩] 52)
                        have kX3 := kX0.below' hB3
                        have kO3 := kO0.below' hB3
                        have hB3' := hB0.trans (hB3.mono hB0.size)
                        go_wp2_with fail
                        go_roundw
                        case rel => exact ⟨3 + 1, by omega, by omega, by go_num, hmo2, kO3, hB3'⟩
                        case measure => simp [intOf]
                    · have hma2 : Hid (∀ p q : Nat, p < a + 1 → (q = 1 ∨ q = 2 ∨ q = 3) → lineR (candC V p q) ≠ L) := Lib.hid (fun p q hp hq => by
                        rcases Nat.lt_or_ge p a with h | h
                        · exact hma.out p q h hq
                        · obtain rfl : p = a := by omega
                          exact hmo.out q (by omega) (by omega))
                      clear hmo hma
                      go_wp2_with fail
                      go_roundw
                      case rel => exact ⟨a + 1, by omega, by go_num, hma2, kO, hBO⟩
                      case measure => simp [intOf]; omega
                · obtain rfl : a = 23 := by omega
                  have hno : Hid (readC L = none) := read_miss (fun _ p q hp hq => by rw [hW.out]; exact hma.out p q (by omega) hq)
                  clear hma
                  have f0 := kA.frozen 0
                  have f1 := kA.frozen 1
                  have f2 := kA.frozen 2
                  have q0 := kA.cell 0 _ rfl
                  have q1 := kA.cell 1 _ rfl
                  have q2 := kA.cell 2 _ rfl
                  have l0 := kA.lt
                  go_wp2_with fail
                  refine cps_ret2 rfl rfl (((kA.set_ 0 _).set_ 1 _).set_ 2 _) rfl ?_
                  refine ⟨⟨0, 0, ByteArray.empty⟩, by rw [hno.out]; rfl, fun y hy => (by rw [hno.out] at hy; cases hy), ?_⟩
                  exact ((hBA.setCell (p := ⟨w.heap.size, 0, none⟩) (Nat.le_refl _) _).setCell (p := ⟨w.heap.size, 1, none⟩) (Nat.le_refl _) _).setCell (p := ⟨w.heap.size, 2, none⟩) (Nat.le_refl _) _
            · have b0 : (E != 0) = true := by rw [bne_iff_ne]; exact hE0
              have hno : Hid (readC L = none) := read_miss (fun h0 => absurd h0 (by rw [hW.out, show (⟨(V : List UInt8).toArray⟩ : ByteArray) = bN V from rfl, hE.out]; exact hE0))
              have f0 := kR1.frozen 0
              have f1 := kR1.frozen 1
              have f2 := kR1.frozen 2
              have q0 := kR1.cell 0 _ rfl
              have q1 := kR1.cell 1 _ rfl
              have q2 := kR1.cell 2 _ rfl
              have l0 := kR1.lt
              go_wp2_with fail
              refine cps_ret2 rfl rfl (((kR1.set_ 0 _).set_ 1 _).set_ 2 _) rfl ?_
              refine ⟨⟨0, 0, ByteArray.empty⟩, by rw [hno.out]; rfl, fun y hy => (by rw [hno.out] at hy; cases hy), ?_⟩
              exact ((hB1'.setCell (p := ⟨w.heap.size, 0, none⟩) (Nat.le_refl _) _).setCell (p := ⟨w.heap.size, 1, none⟩) (Nat.le_refl _) _).setCell (p := ⟨w.heap.size, 2, none⟩) (Nat.le_refl _) _
      · have e1 : ((d.toNat : Int) == 32) = false := by
          rw [beq_eq_false_iff_ne]; exact fun he => h32 (UInt8.toNat.inj (by show d.toNat = 32; omega))
        have hst2 : Hid (V = if c = 0 then w0C (L.drop (j + 1)) else w1C (L.drop (j + 1))) := by
          rw [Hid, hst.out, hdr, w0C_other h32, w1C_other h32]
        clear hst hdr h32 hd
        go_wp2_with fail
        go_roundw
        case rel => exact ⟨j + 1, c, by omega, hc, by go_num, rfl, rfl, hst2, trivial⟩
        case measure => simp [intOf]; omega
    · obtain rfl : j = L.length := by omega
      have a1 : ¬ (L.length : Int) < (L.length : Int) := by omega
      have hVn : V = [] := by
        rw [hst.out, List.drop_length]
        split <;> rfl
      have hW : Hid (wordR L = []) := by rw [Hid, hWR.out, hVn]; rfl
      clear hst hVn hWR
      go_wp2_with fail
      have hWl : Hid (([] : List UInt8).length ≤ 1000000) := Lib.hid (by first | omega | simp)
      obtain ⟨E, hE⟩ : ∃ E, Hid (wordE (bN []) = E) := ⟨_, Lib.hid rfl⟩
      refine (wordRef_any (bN []) _ (by have := hWl.out; show ([] : List UInt8).length ≤ _; omega)).mono ?_
      rintro e w1 ⟨rfl, hB1⟩
      rw [hE.out]
      have kR1 := kR.below' hB1
      have hB1' := hBB.trans (hB1.mono hBB.size)
      clear kR
      by_cases hE0 : E = 0
      · subst hE0
        go_wp2_with fail
        go_loopw [7] (fun av wr => ∃ a : Nat, a ≤ 23 ∧ av = .int .i64 a ∧ Hid (∀ p q : Nat, p < a → (q = 1 ∨ q = 2 ∨ q = 3) → lineR (candC [] p q) ≠ L) ∧ Blk wr w.heap.size 52 #[.int .i64 0, .int .i64 0, .string ByteArray.empty] ∧ Below w.heap.size w wr) (fun av _ => 23 - (intOf av).toNat)
        case atStart => exact ⟨0, by omega, rfl, Lib.hid (fun p q hp => absurd hp (by omega)), kR1, hB1'⟩
        case round =>
          obtain ⟨a, ha, rfl, hma, kA, hBA⟩ := hrel
          obtain ⟨wa, rfl⟩ : ∃ wa : World, wa = wr := ⟨_, rfl⟩
          by_cases hla : a ≤ 22
          · have c1 : (a : Int) ≤ 22 := by omega
            go_wp2_with fail
            go_loopw [8] (fun ov wr => ∃ o : Nat, 1 ≤ o ∧ o ≤ 4 ∧ ov = .int .i64 o ∧ Hid (∀ q : Nat, 1 ≤ q → q < o → lineR (candC [] a q) ≠ L) ∧ Blk wr w.heap.size 52 #[.int .i64 0, .int .i64 0, .string ByteArray.empty] ∧ Below w.heap.size w wr) (fun ov _ => 4 - (intOf ov).toNat)
            case atStart => exact ⟨1, by omega, by omega, rfl, Lib.hid (fun q h1 h2 => absurd h1 (by omega)), kA, hBA⟩
            case round =>
              obtain ⟨o, ho1, ho4, rfl, hmo, kO, hBO⟩ := hrel
              obtain ⟨wo, rfl⟩ : ∃ wo : World, wo = wr := ⟨_, rfl⟩
              rcases (show o = 1 ∨ o = 2 ∨ o = 3 ∨ o = 4 by omega) with rfl | rfl | rfl | rfl
              · skip
                obtain ⟨Y, hY⟩ : ∃ Y, Hid (lineR (candC [] a 1) = Y) := ⟨_, Lib.hid rfl⟩
                have HL : Hid (∀ w', Calls Tryz.prog 38 #[.agg #[.int .i64 1, .int .i64 a, .string (⟨#[]⟩)]] w' (Ret (.string (bN Y)) w')) := Lib.hid (fun w' => by
                  have := rline_any (candC [] a 1) w' (by simp [candC]) (by simp [candC]) (by simp [candC]; omega) (by first | exact hWl.out | exact Nat.zero_le _ | (simp [candC]; done) | (simp [candC]; decide))
                  rw [hY.out] at this
                  exact this)
                have tY : (bN Y).toList = Y := Lib.toList_data _
                by_cases hyl : Y = L
                · have v3 : (Y == L) = true := by rw [hyl]; exact beq_self_eq_true _
                  have hin : Hid (readC L = some (candC [] a 1)) := by
                    have := read_hit (s := L) (by rw [hW.out]; exact hE.out) hla (op := 1) (by omega) (by rw [hW.out, hY.out, hyl])
                    rw [hW.out] at this
                    exact this
                  clear hyl hmo
                  go_wp2_with fail
                  refine (HL.out _).mono ?_
                  rintro e w3 ⟨rfl, hB3⟩
                  have kX0 := Blk.new wo 52 #[.int .i64 1, .int .i64 a, .string ⟨#[]⟩]
                  have kO0 := kO.alloc (.cells #[.int .i64 1, .int .i64 a, .string ⟨#[]⟩] 52)
                  have hB0 := hBO.alloc hBO.size (.cells #[.int .i64 1, .int .i64 a, .string ⟨#[]⟩] 52)
                  have kX3 := kX0.below' hB3
                  have kO3 := kO0.below' hB3
                  have hB3' := hB0.trans (hB3.mono hB0.size)
                  have x0 := kX3.cell 0 _ rfl
                  have x1 := kX3.cell 1 _ rfl
                  have x2 := kX3.cell 2 _ rfl
                  have f0 := kO3.frozen 0
                  have f1 := kO3.frozen 1
                  have f2 := kO3.frozen 2
                  have q0 := kO3.cell 0 _ rfl
                  have q1 := kO3.cell 1 _ rfl
                  have q2 := kO3.cell 2 _ rfl
                  have l0 := kO3.lt
                  go_wp2_with fail
                  refine cps_ret2 rfl rfl (((kO3.set_ 0 _).set_ 1 _).set_ 2 _) rfl ?_
                  refine ⟨candC [] a 1, by rw [hin.out]; rfl, fun y hy => (by rw [hin.out] at hy; exact Option.some.inj hy), ?_⟩
                  exact ((hB3'.setCell (p := ⟨w.heap.size, 0, none⟩) (Nat.le_refl _) _).setCell (p := ⟨w.heap.size, 1, none⟩) (Nat.le_refl _) _).setCell (p := ⟨w.heap.size, 2, none⟩) (Nat.le_refl _) _
                · have v3 : (Y == L) = false := beq_eq_false_iff_ne.2 hyl
                  have hmo2 : Hid (∀ q : Nat, 1 ≤ q → q < 1 + 1 → lineR (candC [] a q) ≠ L) := Lib.hid (fun q h1 h2 => by
                    rcases Nat.lt_or_ge q 1 with h | h
                    · exact hmo.out q h1 h
                    · obtain rfl : q = 1 := by omega
                      rw [hY.out]; exact hyl)
                  clear hyl hmo
                  go_wp2_with fail
                  refine (HL.out _).mono ?_
                  rintro e w3 ⟨rfl, hB3⟩
                  have kX0 := Blk.new wo 52 #[.int .i64 1, .int .i64 a, .string ⟨#[]⟩]
                  have kO0 := kO.alloc (.cells #[.int .i64 1, .int .i64 a, .string ⟨#[]⟩] 52)
                  have hB0 := hBO.alloc hBO.size (.cells #[.int .i64 1, .int .i64 a, .string ⟨#[]⟩] 52)
                  have kX3 := kX0.below' hB3
                  have kO3 := kO0.below' hB3
                  have hB3' := hB0.trans (hB3.mono hB0.size)
                  go_wp2_with fail
                  go_roundw
                  case rel => exact ⟨1 + 1, by omega, by omega, by go_num, hmo2, kO3, hB3'⟩
                  case measure => simp [intOf]
              · skip
                obtain ⟨Y, hY⟩ : ∃ Y, Hid (lineR (candC [] a 2) = Y) := ⟨_, Lib.hid rfl⟩
                have HL : Hid (∀ w', Calls Tryz.prog 38 #[.agg #[.int .i64 2, .int .i64 a, .string (bN [])]] w' (Ret (.string (bN Y)) w')) := Lib.hid (fun w' => by
                  have := rline_any (candC [] a 2) w' (by simp [candC]) (by simp [candC]) (by simp [candC]; omega) (by first | exact hWl.out | exact Nat.zero_le _ | (simp [candC]; done) | (simp [candC]; decide))
                  rw [hY.out] at this
                  exact this)
                have tY : (bN Y).toList = Y := Lib.toList_data _
                by_cases hyl : Y = L
                · have v3 : (Y == L) = true := by rw [hyl]; exact beq_self_eq_true _
                  have hin : Hid (readC L = some (candC [] a 2)) := by
                    have := read_hit (s := L) (by rw [hW.out]; exact hE.out) hla (op := 2) (by omega) (by rw [hW.out, hY.out, hyl])
                    rw [hW.out] at this
                    exact this
                  clear hyl hmo
                  go_wp2_with fail
                  refine (HL.out _).mono ?_
                  rintro e w3 ⟨rfl, hB3⟩
                  have kX0 := Blk.new wo 52 #[.int .i64 2, .int .i64 a, .string ⟨#[]⟩]
                  have kO0 := kO.alloc (.cells #[.int .i64 2, .int .i64 a, .string ⟨#[]⟩] 52)
                  have hB0 := hBO.alloc hBO.size (.cells #[.int .i64 2, .int .i64 a, .string ⟨#[]⟩] 52)
                  have kX3 := kX0.below' hB3
                  have kO3 := kO0.below' hB3
                  have hB3' := hB0.trans (hB3.mono hB0.size)
                  have x0 := kX3.cell 0 _ rfl
                  have x1 := kX3.cell 1 _ rfl
                  have x2 := kX3.cell 2 _ rfl
                  have f0 := kO3.frozen 0
                  have f1 := kO3.frozen 1
                  have f2 := kO3.frozen 2
                  have q0 := kO3.cell 0 _ rfl
                  have q1 := kO3.cell 1 _ rfl
                  have q2 := kO3.cell 2 _ rfl
                  have l0 := kO3.lt
                  go_wp2_with fail
                  refine cps_ret2 rfl rfl (((kO3.set_ 0 _).set_ 1 _).set_ 2 _) rfl ?_
                  refine ⟨candC [] a 2, by rw [hin.out]; rfl, fun y hy => (by rw [hin.out] at hy; exact Option.some.inj hy), ?_⟩
                  exact ((hB3'.setCell (p := ⟨w.heap.size, 0, none⟩) (Nat.le_refl _) _).setCell (p := ⟨w.heap.size, 1, none⟩) (Nat.le_refl _) _).setCell (p := ⟨w.heap.size, 2, none⟩) (Nat.le_refl _) _
                · have v3 : (Y == L) = false := beq_eq_false_iff_ne.2 hyl
                  have hmo2 : Hid (∀ q : Nat, 1 ≤ q → q < 2 + 1 → lineR (candC [] a q) ≠ L) := Lib.hid (fun q h1 h2 => by
                    rcases Nat.lt_or_ge q 2 with h | h
                    · exact hmo.out q h1 h
                    · obtain rfl : q = 2 := by omega
                      rw [hY.out]; exact hyl)
                  clear hyl hmo
                  go_wp2_with fail
                  refine (HL.out _).mono ?_
                  rintro e w3 ⟨rfl, hB3⟩
                  have kX0 := Blk.new wo 52 #[.int .i64 2, .int .i64 a, .string ⟨#[]⟩]
                  have kO0 := kO.alloc (.cells #[.int .i64 2, .int .i64 a, .string ⟨#[]⟩] 52)
                  have hB0 := hBO.alloc hBO.size (.cells #[.int .i64 2, .int .i64 a, .string ⟨#[]⟩] 52)
                  have kX3 := kX0.below' hB3
                  have kO3 := kO0.below' hB3
                  have hB3' := hB0.trans (hB3.mono hB0.size)
                  go_wp2_with fail
                  go_roundw
                  case rel => exact ⟨2 + 1, by omega, by omega, by go_num, hmo2, kO3, hB3'⟩
                  case measure => simp [intOf]
              · skip
                obtain ⟨Y, hY⟩ : ∃ Y, Hid (lineR (candC [] a 3) = Y) := ⟨_, Lib.hid rfl⟩
                have HL : Hid (∀ w', Calls Tryz.prog 38 #[.agg #[.int .i64 3, .int .i64 a, .string (⟨#[]⟩)]] w' (Ret (.string (bN Y)) w')) := Lib.hid (fun w' => by
                  have := rline_any (candC [] a 3) w' (by simp [candC]) (by simp [candC]) (by simp [candC]; omega) (by first | exact hWl.out | exact Nat.zero_le _ | (simp [candC]; done) | (simp [candC]; decide))
                  rw [hY.out] at this
                  exact this)
                have tY : (bN Y).toList = Y := Lib.toList_data _
                by_cases hyl : Y = L
                · have v3 : (Y == L) = true := by rw [hyl]; exact beq_self_eq_true _
                  have hin : Hid (readC L = some (candC [] a 3)) := by
                    have := read_hit (s := L) (by rw [hW.out]; exact hE.out) hla (op := 3) (by omega) (by rw [hW.out, hY.out, hyl])
                    rw [hW.out] at this
                    exact this
                  clear hyl hmo
                  go_wp2_with fail
                  refine (HL.out _).mono ?_
                  rintro e w3 ⟨rfl, hB3⟩
                  have kX0 := Blk.new wo 52 #[.int .i64 3, .int .i64 a, .string ⟨#[]⟩]
                  have kO0 := kO.alloc (.cells #[.int .i64 3, .int .i64 a, .string ⟨#[]⟩] 52)
                  have hB0 := hBO.alloc hBO.size (.cells #[.int .i64 3, .int .i64 a, .string ⟨#[]⟩] 52)
                  have kX3 := kX0.below' hB3
                  have kO3 := kO0.below' hB3
                  have hB3' := hB0.trans (hB3.mono hB0.size)
                  have x0 := kX3.cell 0 _ rfl
                  have x1 := kX3.cell 1 _ rfl
                  have x2 := kX3.cell 2 _ rfl
                  have f0 := kO3.frozen 0
                  have f1 := kO3.frozen 1
                  have f2 := kO3.frozen 2
                  have q0 := kO3.cell 0 _ rfl
                  have q1 := kO3.cell 1 _ rfl
                  have q2 := kO3.cell 2 _ rfl
                  have l0 := kO3.lt
                  go_wp2_with fail
                  refine cps_ret2 rfl rfl (((kO3.set_ 0 _).set_ 1 _).set_ 2 _) rfl ?_
                  refine ⟨candC [] a 3, by rw [hin.out]; rfl, fun y hy => (by rw [hin.out] at hy; exact Option.some.inj hy), ?_⟩
                  exact ((hB3'.setCell (p := ⟨w.heap.size, 0, none⟩) (Nat.le_refl _) _).setCell (p := ⟨w.heap.size, 1, none⟩) (Nat.le_refl _) _).setCell (p := ⟨w.heap.size, 2, none⟩) (Nat.le_refl _) _
                · have v3 : (Y == L) = false := beq_eq_false_iff_ne.2 hyl
                  have hmo2 : Hid (∀ q : Nat, 1 ≤ q → q < 3 + 1 → lineR (candC [] a q) ≠ L) := Lib.hid (fun q h1 h2 => by
                    rcases Nat.lt_or_ge q 3 with h | h
                    · exact hmo.out q h1 h
                    · obtain rfl : q = 3 := by omega
                      rw [hY.out]; exact hyl)
                  clear hyl hmo
                  go_wp2_with fail
                  refine (HL.out _).mono ?_
                  rintro e w3 ⟨rfl, hB3⟩
                  have kX0 := Blk.new wo 52 #[.int .i64 3, .int .i64 a, .string ⟨#[]⟩]
                  have kO0 := kO.alloc (.cells #[.int .i64 3, .int .i64 a, .string ⟨#[]⟩] 52)
                  have hB0 := hBO.alloc hBO.size (.cells #[.int .i64 3, .int .i64 a, .string ⟨#[]⟩] 52)
                  have kX3 := kX0.below' hB3
                  have kO3 := kO0.below' hB3
                  have hB3' := hB0.trans (hB3.mono hB0.size)
                  go_wp2_with fail
                  go_roundw
                  case rel => exact ⟨3 + 1, by omega, by omega, by go_num, hmo2, kO3, hB3'⟩
                  case measure => simp [intOf]
              · have hma2 : Hid (∀ p q : Nat, p < a + 1 → (q = 1 ∨ q = 2 ∨ q = 3) → lineR (candC [] p q) ≠ L) := Lib.hid (fun p q hp hq => by
                  rcases Nat.lt_or_ge p a with h | h
                  · exact hma.out p q h hq
                  · obtain rfl : p = a := by omega
                    exact hmo.out q (by omega) (by omega))
                clear hmo hma
                go_wp2_with fail
                go_roundw
                case rel => exact ⟨a + 1, by omega, by go_num, hma2, kO, hBO⟩
                case measure => simp [intOf]; omega
          · obtain rfl : a = 23 := by omega
            have hno : Hid (readC L = none) := read_miss (fun _ p q hp hq => by rw [hW.out]; exact hma.out p q (by omega) hq)
            clear hma
            have f0 := kA.frozen 0
            have f1 := kA.frozen 1
            have f2 := kA.frozen 2
            have q0 := kA.cell 0 _ rfl
            have q1 := kA.cell 1 _ rfl
            have q2 := kA.cell 2 _ rfl
            have l0 := kA.lt
            go_wp2_with fail
            refine cps_ret2 rfl rfl (((kA.set_ 0 _).set_ 1 _).set_ 2 _) rfl ?_
            refine ⟨⟨0, 0, ByteArray.empty⟩, by rw [hno.out]; rfl, fun y hy => (by rw [hno.out] at hy; cases hy), ?_⟩
            exact ((hBA.setCell (p := ⟨w.heap.size, 0, none⟩) (Nat.le_refl _) _).setCell (p := ⟨w.heap.size, 1, none⟩) (Nat.le_refl _) _).setCell (p := ⟨w.heap.size, 2, none⟩) (Nat.le_refl _) _
      · have b0 : (E != 0) = true := by rw [bne_iff_ne]; exact hE0
        have hno : Hid (readC L = none) := read_miss (fun h0 => absurd h0 (by rw [hW.out, show (⟨([] : List UInt8).toArray⟩ : ByteArray) = bN [] from rfl, hE.out]; exact hE0))
        have f0 := kR1.frozen 0
        have f1 := kR1.frozen 1
        have f2 := kR1.frozen 2
        have q0 := kR1.cell 0 _ rfl
        have q1 := kR1.cell 1 _ rfl
        have q2 := kR1.cell 2 _ rfl
        have l0 := kR1.lt
        go_wp2_with fail
        refine cps_ret2 rfl rfl (((kR1.set_ 0 _).set_ 1 _).set_ 2 _) rfl ?_
        refine ⟨⟨0, 0, ByteArray.empty⟩, by rw [hno.out]; rfl, fun y hy => (by rw [hno.out] at hy; cases hy), ?_⟩
        exact ((hB1'.setCell (p := ⟨w.heap.size, 0, none⟩) (Nat.le_refl _) _).setCell (p := ⟨w.heap.size, 1, none⟩) (Nat.le_refl _) _).setCell (p := ⟨w.heap.size, 2, none⟩) (Nat.le_refl _) _
end Go.Proofs.YtmfklcnocekdlaaGreatDoor
