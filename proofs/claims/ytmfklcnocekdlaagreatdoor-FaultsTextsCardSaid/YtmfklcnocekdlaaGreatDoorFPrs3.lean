/- faults: Parse (3). -/
import Derived.Test.YtmfklcnocekdlaaGreatDoorFPrs1
import Derived.Test.YtmfklcnocekdlaaGreatDoorPut
set_option linter.unusedSimpArgs false
set_option linter.unusedVariables false
namespace Go.Proofs.YtmfklcnocekdlaaGreatDoor
open Go Go.RowKit Tor

set_option maxRecDepth 100000 in
set_option maxHeartbeats 8000000 in
theorem fprs_BLN (L : List UInt8) (i : Nat) (hi : i < 6) (hkI : kindI ((spl 32 L).getD 0 []) = (i : Int) + 1) (hn2 : 2 ≤ (spl 32 L).length) (hc : i = 1) (h2 : 2 < (spl 32 L).length) (c : UInt8) (tl : List UInt8) (hlast : (spl 32 L).getD ((spl 32 L).length - 1) [] = c :: tl) (hl : L.length ≤ 1000000) (w : World) (hDt : DtAt w) :
    Calls Tryz.prog 20 #[.string (bN L)] w (Ret (.tuple #[.agg (parseF L).1.enc, .int .i64 (parseF L).2]) w) := by
  have hcand : candF (kindI ((spl 32 L).getD 0 [])) (spl 32 L) = ⟨(i : Int) + 1, (intW ((spl 32 L).getD 1 []) 0 999).1, (intW ((spl 32 L).getD 2 []) 0 16).1, (c.toNat : Int)⟩ := by
    have hkl : klet ((i : Int) + 1) = true := by subst hc; rfl
    rw [hkI]; unfold candF
    rw [if_pos ⟨hkl, h2⟩]
    congr 1
    unfold withP
    rw [if_pos (by omega), hlast]
  have hPnf : shapedF ⟨(i : Int) + 1, (intW ((spl 32 L).getD 1 []) 0 999).1, (intW ((spl 32 L).getD 2 []) 0 16).1, (c.toNat : Int)⟩ = false → parseF L = (⟨0, 0, 0, 0⟩, 6) := (fun hs => by unfold parseF; rw [if_neg (by rw [hkI]; omega), hcand, if_neg (fun h => by rw [hs] at h; cases h.1)])
  have hPne : textF ⟨(i : Int) + 1, (intW ((spl 32 L).getD 1 []) 0 999).1, (intW ((spl 32 L).getD 2 []) 0 16).1, (c.toNat : Int)⟩ ≠ L → parseF L = (⟨0, 0, 0, 0⟩, 6) := (fun ht => by unfold parseF; rw [if_neg (by rw [hkI]; omega), hcand, if_neg (fun h => ht h.2)])
  have hPeq : shapedF ⟨(i : Int) + 1, (intW ((spl 32 L).getD 1 []) 0 999).1, (intW ((spl 32 L).getD 2 []) 0 16).1, (c.toNat : Int)⟩ = true → textF ⟨(i : Int) + 1, (intW ((spl 32 L).getD 1 []) 0 999).1, (intW ((spl 32 L).getD 2 []) 0 16).1, (c.toNat : Int)⟩ = L → parseF L = (⟨(i : Int) + 1, (intW ((spl 32 L).getD 1 []) 0 999).1, (intW ((spl 32 L).getD 2 []) 0 16).1, (c.toNat : Int)⟩, 0) := (fun hs ht => by unfold parseF; rw [if_neg (by rw [hkI]; omega), hcand, if_pos ⟨hs, ht⟩])
  have hbd := cand_bd (kindI ((spl 32 L).getD 0 [])) (spl 32 L)
  rw [hcand] at hbd
  have hok : shapedF ⟨(i : Int) + 1, (intW ((spl 32 L).getD 1 []) 0 999).1, (intW ((spl 32 L).getD 2 []) 0 16).1, (c.toNat : Int)⟩ = true → FOk ⟨(i : Int) + 1, (intW ((spl 32 L).getD 1 []) 0 999).1, (intW ((spl 32 L).getD 2 []) 0 16).1, (c.toNat : Int)⟩ := (fun hs => ⟨hs, hbd.1, hbd.2.1, hbd.2.2.1, hbd.2.2.2⟩)
  clear hbd hcand
  obtain ⟨⟨⟨o0, o1, o2, o3⟩, oE⟩, hO⟩ : ∃ o, Hid (parseF L = o) := ⟨_, Lib.hid rfl⟩
  rw [hO.out] at hPnf hPne hPeq ⊢
  have hlens : ∀ q, ((spl 32 L).getD q []).length ≤ 1000000 := fun q => Nat.le_trans (spl_get_len L q) hl
  have H1 := Lib.hid (fun w' (hB : Below w.heap.size w w') => fnum_any ((spl 32 L).getD 1 []) 0 999 w' (hlens 1) (hDt.below hB))
  have H2 := Lib.hid (fun w' (hB : Below w.heap.size w w') => fnum_any ((spl 32 L).getD 2 []) 0 16 w' (hlens 2) (hDt.below hB))
  have HSP := Lib.hid (fun w' (hB : Below w.heap.size w w') => splitF_any L w' (hDt.below hB) (by omega))
  obtain ⟨k, hk⟩ : ∃ k : Int, Hid ((i : Int) + 1 = k) := ⟨_, Lib.hid rfl⟩
  have hke := hk.out
  skip
  have c2 : (k == 2) = true := by rw [beq_iff_eq]; omega
  have c5 : (k == 5) = false := by rw [beq_eq_false_iff_ne]; omega
  obtain ⟨ST, hST⟩ : ∃ x, Hid ((intW ((spl 32 L).getD 1 []) 0 999).1 = x) := ⟨_, Lib.hid rfl⟩
  obtain ⟨LT, hLT⟩ : ∃ x, Hid ((intW ((spl 32 L).getD 2 []) 0 16).1 = x) := ⟨_, Lib.hid rfl⟩
  rw [hST.out] at H1
  rw [hLT.out] at H2
  rw [hke, hST.out, hLT.out] at hPnf hPne hPeq hok
  have hPnf' := Lib.hid hPnf
  have hPne' := Lib.hid hPne
  have hPeq' := Lib.hid hPeq
  have hok' := Lib.hid hok
  clear hPnf hPne hPeq hok
  obtain ⟨Y, hY⟩ : ∃ Y, Hid (textF ⟨k, ST, LT, (c.toNat : Int)⟩ = Y) := ⟨_, Lib.hid rfl⟩
  have tY : (bN Y).toList = Y := Lib.toList_data _
  have tL : (bN L).toList = L := Lib.toList_data _
  obtain ⟨AS, hAS⟩ : ∃ AS, Hid (((spl 32 L).map fun t => Value.string (bN t)).toArray = AS) := ⟨_, Lib.hid rfl⟩
  have hA : ∀ q, q < (spl 32 L).length → AS[q]? = some (.string (bN ((spl 32 L).getD q []))) := fun q hq => by rw [← hAS.out]; simp [List.getElem?_eq_getElem hq, List.getD_eq_getElem?_getD]
  have hA0 := hA 0 (by omega)
  have hS1 := hA 1 (by omega)
  have hS2 := hA 2 h2
  have hSm := hA ((spl 32 L).length - 1) (by omega)
  rw [hlast] at hSm
  obtain ⟨s0, hs0⟩ : ∃ x, Hid ((spl 32 L).getD 0 [] = x) := ⟨_, Lib.hid rfl⟩
  rw [hs0.out] at hA0 hkI
  obtain ⟨n, hn⟩ : ∃ n, Hid ((spl 32 L).length = n) := ⟨_, Lib.hid rfl⟩
  obtain ⟨m, hm⟩ : ∃ m, Hid ((spl 32 L).length - 1 = m) := ⟨_, Lib.hid rfl⟩
  have hnm : Hid (n = m + 1) := Lib.hid (by have h1 := hn.out; have h2 := hm.out; omega)
  rw [hm.out] at hSm
  rw [hAS.out, hn.out] at HSP
  have hn2' : 2 ≤ n := by rw [← hn.out]; exact hn2
  have h2' : (2 : Int) < (n : Int) := by have := hn.out; omega
  have e2 : ¬ (n : Int) < 2 := by omega
  have n1 : (1 : Int) < (n : Int) := by omega
  have i2 : (n : Int) - 1 = (m : Int) := by have := hnm.out; omega
  have m0 : (0 : Int) ≤ (m : Int) := by omega
  have m1 : (m : Int) < (n : Int) := by omega
  have mB : (m : Int) ≤ 1000001 := by have h1 := spl_length 32 L; have h2 := List.count_le_length (a := (32 : UInt8)) (l := L); have h3 := hm.out; omega
  have i0 : (0 : Int) ≤ (i : Int) := by omega
  have i6 : (i : Int) < 6 := by omega
  have i9 : ¬ (i : Int) < 0 := by omega
  obtain ⟨SB, hSB⟩ : ∃ SB, Hid (bN (c :: tl) = SB) := ⟨_, Lib.hid rfl⟩
  have hsz : 0 < SB.size := by rw [← hSB.out]; show 0 < (c :: tl).length; simp
  have hcb : SB[0]'hsz = c := by have : ∀ S (h : 0 < S.size), S = bN (c :: tl) → S[0]'h = c := (fun S h e => by subst e; rfl); exact this SB hsz hSB.out.symm
  have b3 : SB.toList.isEmpty = false := by rw [← hSB.out, show (bN (c :: tl)).toList = c :: tl from Lib.toList_data _]; rfl
  have cn0 : (0 : Int) ≤ (c.toNat : Int) := by omega
  have cn1 : (c.toNat : Int) ≤ 255 := by have := c.toNat_lt; omega
  rw [hSB.out] at hSm
  have hI0 : kindI s0 - 1 = (i : Int) := by omega
  have HI0 := Lib.hid hI0
  have HN := Lib.hid (show 0 < n by omega)
  obtain ⟨w1, hw1⟩ : ∃ w1, Hid ((((w.alloc (.cells #[.int .i64 0, .int .i64 0, .int .i64 0, .int .i64 0] 41)).alloc (.cells AS 9)).alloc (.cells #[.slice (some ⟨w.heap.size + 1, 0, none⟩) n n] 115)) = w1) := ⟨_, Lib.hid rfl⟩
  have kR1 : Blk w1 w.heap.size 41 #[.int .i64 0, .int .i64 0, .int .i64 0, .int .i64 0] := by rw [← hw1.out]; exact ((Blk.new w _ _).alloc _).alloc _
  have kS1 : Blk w1 (w.heap.size + 1) 9 AS := by
    rw [← hw1.out]; have := (Blk.new (w.alloc (.cells #[.int .i64 0, .int .i64 0, .int .i64 0, .int .i64 0] 41)) 9 AS).alloc (.cells #[.slice (some ⟨w.heap.size + 1, 0, none⟩) n n] 115); rw [World.size_alloc] at this; exact this
  have kL1 : Blk w1 (w.heap.size + 1 + 1) 115 #[.slice (some ⟨w.heap.size + 1, 0, none⟩) n n] := by
    rw [← hw1.out]; have := Blk.new ((w.alloc (.cells #[.int .i64 0, .int .i64 0, .int .i64 0, .int .i64 0] 41)).alloc (.cells AS 9)) 115 #[.slice (some ⟨w.heap.size + 1, 0, none⟩) n n]; rw [World.size_alloc, World.size_alloc] at this; exact this
  have q1 : Below w.heap.size w w1 := by rw [← hw1.out]; exact (((Below.refl _ _).alloc (Nat.le_refl _) _).alloc (by simp) _).alloc (by simp; omega) _
  have qR : Below w.heap.size w (w.alloc (.cells #[.int .i64 0, .int .i64 0, .int .i64 0, .int .i64 0] 41)) := (Below.refl _ _).alloc (Nat.le_refl _) _
  have hkz : 1 ≤ k ∧ k ≤ 6 := by omega
  have HKZ := Lib.hid hkz
  have HI6 := Lib.hid hi
  clear hkI hA hke hlens hn2 hn2' hkz hi hI0 hl hc h2 hlast
  go_enter Tryz.func20, Tryz.ntmps20
  go_wp2_with fail
  refine (HSP.out _ qR).mono ?_
  rintro e _ ⟨rfl, rfl⟩
  go_wp2_with fail
  skip
  rw [hw1.out]
  clear hw1 qR
  refine (kinds_any w1).mono ?_
  rintro e w2 ⟨g, K, rfl, hK, hB2⟩
  have kR2 := kR1.below' hB2
  have kS2 := kS1.below' hB2
  have kL2 := kL1.below' hB2
  have q2 := q1.trans (hB2.mono q1.size)
  clear kR1 kS1 kL1
  obtain ⟨GA, hGA⟩ : ∃ GA, Hid ((kcells K 1 ++ kcells K 2 ++ kcells K 3 ++ kcells K 4 ++ kcells K 5 ++ kcells K 6).toArray = GA) := ⟨_, Lib.hid rfl⟩
  have kG2 := hK.blk
  rw [hGA.out] at kG2
  have hG0 : GA[i * 6]? = some (.int .i64 k) := by rw [← hGA.out, ← hk.out]; exact (kAt K i HI6.out).1
  have hG1 : GA[i * 6 + 1]? = some (.string (kname k)) := by rw [← hGA.out, ← hk.out]; exact (kAt K i HI6.out).2.1
  have hG2 : GA[i * 6 + 2]? = some (.bool (klet k)) := by rw [← hGA.out, ← hk.out]; exact (kAt K i HI6.out).2.2
  have hkl : klet k = true := by
    unfold klet; rw [decide_eq_true_iff]
    have := beq_iff_eq.1 c2; omega
  have hG2' := hG2
  rw [hkl] at hG2
  have HG1 := Lib.hid hG1
  have HG2 := Lib.hid hG2'
  clear hG1 hG2' hkl
  have r2 := Below.refl w2.heap.size w2
  have HIX := Lib.hid (findex_any (w.heap.size + 1 + 1) (w.heap.size + 1) n g w2.heap.size K s0 HN.out w2 hK (Nat.le_refl _) (kL2.cell 0 _ rfl) (kS2.cell 0 _ hA0))
  rw [HI0.out] at HIX
  go_wp2_with fail
  refine HIX.out.mono ?_
  rintro e w3 ⟨rfl, hB3⟩
  have kR3 := kR2.below' hB3
  have kS3 := kS2.below' hB3
  have kL3 := kL2.below' hB3
  have kG3 := kG2.below' hB3
  have q3 := q2.trans (hB3.mono q2.size)
  have r3 := r2.trans (hB3.mono r2.size)
  have bR := kR3.lt
  have bS := kS3.lt
  have bL := kL3.lt
  have bG := kG3.lt
  have z3 := q3.size
  have z23 := r3.size
  have x0 := kL3.cell 0 (.slice (some ⟨w.heap.size + 1, 0, none⟩) n n) rfl
  have y1 := kS3.cell 1 _ hS1
  have y2 := kS3.cell 2 _ hS2
  have yl := kS3.cell m _ hSm
  have g0 := kG3.cell (i * 6) _ hG0
  have g2 := kG3.cell (i * 6 + 2) _ hG2
  have gl := kG3.lt
  skip
  clear x0 y1 y2 yl g0 g2 gl
  have kF4 := Blk.new w3 41 #[.int .i64 k, .int .i64 0, .int .i64 0, .int .i64 0]
  have kR4 := kR3.alloc (.cells #[.int .i64 k, .int .i64 0, .int .i64 0, .int .i64 0] 41)
  have kS4 := kS3.alloc (.cells #[.int .i64 k, .int .i64 0, .int .i64 0, .int .i64 0] 41)
  have kL4 := kL3.alloc (.cells #[.int .i64 k, .int .i64 0, .int .i64 0, .int .i64 0] 41)
  have kG4 := kG3.alloc (.cells #[.int .i64 k, .int .i64 0, .int .i64 0, .int .i64 0] 41)
  have q4 := q3.alloc z3 (.cells #[.int .i64 k, .int .i64 0, .int .i64 0, .int .i64 0] 41)
  have r4 := r3.alloc z23 (.cells #[.int .i64 k, .int .i64 0, .int .i64 0, .int .i64 0] 41)
  have x30 := kL3.cell 0 (.slice (some ⟨w.heap.size + 1, 0, none⟩) n n) rfl
  have g30 := kG3.cell (i * 6) _ hG0
  clear kR3 kS3 kL3
  have x0 := kL4.cell 0 (.slice (some ⟨w.heap.size + 1, 0, none⟩) n n) rfl
  have y1 := kS4.cell 1 _ hS1
  have y2 := kS4.cell 2 _ hS2
  have yl := kS4.cell m _ hSm
  have g0 := kG4.cell (i * 6) _ hG0
  have g2 := kG4.cell (i * 6 + 2) _ hG2
  have gl := kG4.lt
  have f0 := kF4.cell 0 (.int .i64 k) rfl
  have zz0 := kF4.frozen 0
  have f1 := kF4.cell 1 (.int .i64 0) rfl
  have zz1 := kF4.frozen 1
  have f2 := kF4.cell 2 (.int .i64 0) rfl
  have zz2 := kF4.frozen 2
  have f3 := kF4.cell 3 (.int .i64 0) rfl
  have zz3 := kF4.frozen 3
  have fl := kF4.lt
  go_wp2_with fail
  clear x0 y1 y2 yl g0 g2 gl f0 zz0 f1 zz1 f2 zz2 f3 zz3 fl
  clear g30 x30 kG3
  have hB4 : Below w.heap.size w (w3.alloc (.cells #[.int .i64 k, .int .i64 0, .int .i64 0, .int .i64 0] 41)) := q4
  generalize w3.alloc (.cells #[.int .i64 k, .int .i64 0, .int .i64 0, .int .i64 0] 41) = w4 at *
  refine (H1.out _ q4).mono ?_
  rintro e w5 ⟨rfl, hB5⟩
  have kR5 := kR4.below' hB5
  have kS5 := kS4.below' hB5
  have kL5 := kL4.below' hB5
  have kG5 := kG4.below' hB5
  have kF5 := kF4.below' hB5
  have q5 := q4.trans (hB5.mono q4.size)
  have r5 := r4.trans (hB5.mono r4.size)
  clear kR4 kS4 kL4 kG4 kF4
  have x0 := kL5.cell 0 (.slice (some ⟨w.heap.size + 1, 0, none⟩) n n) rfl
  have y1 := kS5.cell 1 _ hS1
  have y2 := kS5.cell 2 _ hS2
  have yl := kS5.cell m _ hSm
  have g0 := kG5.cell (i * 6) _ hG0
  have g2 := kG5.cell (i * 6 + 2) _ hG2
  have gl := kG5.lt
  have f0 := kF5.cell 0 (.int .i64 k) rfl
  have zz0 := kF5.frozen 0
  have f1 := kF5.cell 1 (.int .i64 0) rfl
  have zz1 := kF5.frozen 1
  have f2 := kF5.cell 2 (.int .i64 0) rfl
  have zz2 := kF5.frozen 2
  have f3 := kF5.cell 3 (.int .i64 0) rfl
  have zz3 := kF5.frozen 3
  have fl := kF5.lt
  clear x0 y1 y2 yl g0 g2 gl f0 zz0 f1 zz1 f2 zz2 f3 zz3 fl
  have x0 := kL5.cell 0 (.slice (some ⟨w.heap.size + 1, 0, none⟩) n n) rfl
  have y1 := kS5.cell 1 _ hS1
  have y2 := kS5.cell 2 _ hS2
  have yl := kS5.cell m _ hSm
  have g0 := kG5.cell (i * 6) _ hG0
  have g2 := kG5.cell (i * 6 + 2) _ hG2
  have gl := kG5.lt
  have f0 := kF5.cell 0 (.int .i64 k) rfl
  have zz0 := kF5.frozen 0
  have f1 := kF5.cell 1 (.int .i64 0) rfl
  have zz1 := kF5.frozen 1
  have f2 := kF5.cell 2 (.int .i64 0) rfl
  have zz2 := kF5.frozen 2
  have f3 := kF5.cell 3 (.int .i64 0) rfl
  have zz3 := kF5.frozen 3
  have fl := kF5.lt
  have kR6 := kR5.far (p := ⟨w3.heap.size, 1, none⟩) (by simp; omega) (.int .i64 ST)
  have kS6 := kS5.far (p := ⟨w3.heap.size, 1, none⟩) (by simp; omega) (.int .i64 ST)
  have kL6 := kL5.far (p := ⟨w3.heap.size, 1, none⟩) (by simp; omega) (.int .i64 ST)
  have kG6 := kG5.far (p := ⟨w3.heap.size, 1, none⟩) (by simp; omega) (.int .i64 ST)
  have kF6 := kF5.set_ 1 (.int .i64 ST)
  have q6 := q5.setCell (p := ⟨w3.heap.size, 1, none⟩) z3 (.int .i64 ST)
  have r6 := r5.setCell (p := ⟨w3.heap.size, 1, none⟩) z23 (.int .i64 ST)
  have x0n := kL6.cell 0 (.slice (some ⟨w.heap.size + 1, 0, none⟩) n n) rfl
  have y1n := kS6.cell 1 _ hS1
  have y2n := kS6.cell 2 _ hS2
  have yln := kS6.cell m _ hSm
  have g0n := kG6.cell (i * 6) _ hG0
  have g2n := kG6.cell (i * 6 + 2) _ hG2
  have gln := kG6.lt
  have f0n := kF6.cell 0 (.int .i64 k) rfl
  have zz0n := kF6.frozen 0
  have f1n := kF6.cell 1 (.int .i64 ST) rfl
  have zz1n := kF6.frozen 1
  have f2n := kF6.cell 2 (.int .i64 0) rfl
  have zz2n := kF6.frozen 2
  have f3n := kF6.cell 3 (.int .i64 0) rfl
  have zz3n := kF6.frozen 3
  have fln := kF6.lt
  go_wp2_with fail
  clear x0 y1 y2 yl g0 g2 gl f0 zz0 f1 zz1 f2 zz2 f3 zz3 fl x0n y1n y2n yln g0n g2n gln f0n zz0n f1n zz1n f2n zz2n f3n zz3n fln
  generalize w5.setCell ⟨w3.heap.size, 1, none⟩ (.int .i64 ST) = w6 at *
  clear kR5 kS5 kL5 kG5 kF5
  refine (H2.out _ q6).mono ?_
  rintro e w7 ⟨rfl, hB7⟩
  have kR7 := kR6.below' hB7
  have kS7 := kS6.below' hB7
  have kL7 := kL6.below' hB7
  have kG7 := kG6.below' hB7
  have kF7 := kF6.below' hB7
  have q7 := q6.trans (hB7.mono q6.size)
  have r7 := r6.trans (hB7.mono r6.size)
  clear kR6 kS6 kL6 kG6 kF6
  have x0 := kL7.cell 0 (.slice (some ⟨w.heap.size + 1, 0, none⟩) n n) rfl
  have y1 := kS7.cell 1 _ hS1
  have y2 := kS7.cell 2 _ hS2
  have yl := kS7.cell m _ hSm
  have g0 := kG7.cell (i * 6) _ hG0
  have g2 := kG7.cell (i * 6 + 2) _ hG2
  have gl := kG7.lt
  have f0 := kF7.cell 0 (.int .i64 k) rfl
  have zz0 := kF7.frozen 0
  have f1 := kF7.cell 1 (.int .i64 ST) rfl
  have zz1 := kF7.frozen 1
  have f2 := kF7.cell 2 (.int .i64 0) rfl
  have zz2 := kF7.frozen 2
  have f3 := kF7.cell 3 (.int .i64 0) rfl
  have zz3 := kF7.frozen 3
  have fl := kF7.lt
  have kR8 := kR7.far (p := ⟨w3.heap.size, 2, none⟩) (by simp; omega) (.int .i64 LT)
  have kS8 := kS7.far (p := ⟨w3.heap.size, 2, none⟩) (by simp; omega) (.int .i64 LT)
  have kL8 := kL7.far (p := ⟨w3.heap.size, 2, none⟩) (by simp; omega) (.int .i64 LT)
  have kG8 := kG7.far (p := ⟨w3.heap.size, 2, none⟩) (by simp; omega) (.int .i64 LT)
  have kF8 := kF7.set_ 2 (.int .i64 LT)
  have q8 := q7.setCell (p := ⟨w3.heap.size, 2, none⟩) z3 (.int .i64 LT)
  have r8 := r7.setCell (p := ⟨w3.heap.size, 2, none⟩) z23 (.int .i64 LT)
  have x0n := kL8.cell 0 (.slice (some ⟨w.heap.size + 1, 0, none⟩) n n) rfl
  have y1n := kS8.cell 1 _ hS1
  have y2n := kS8.cell 2 _ hS2
  have yln := kS8.cell m _ hSm
  have g0n := kG8.cell (i * 6) _ hG0
  have g2n := kG8.cell (i * 6 + 2) _ hG2
  have gln := kG8.lt
  have f0n := kF8.cell 0 (.int .i64 k) rfl
  have zz0n := kF8.frozen 0
  have f1n := kF8.cell 1 (.int .i64 ST) rfl
  have zz1n := kF8.frozen 1
  have f2n := kF8.cell 2 (.int .i64 LT) rfl
  have zz2n := kF8.frozen 2
  have f3n := kF8.cell 3 (.int .i64 0) rfl
  have zz3n := kF8.frozen 3
  have fln := kF8.lt
  have kR10 := kR8.far (p := ⟨w3.heap.size, 3, none⟩) (by simp; omega) (.int .i64 (c.toNat : Int))
  have kS10 := kS8.far (p := ⟨w3.heap.size, 3, none⟩) (by simp; omega) (.int .i64 (c.toNat : Int))
  have kL10 := kL8.far (p := ⟨w3.heap.size, 3, none⟩) (by simp; omega) (.int .i64 (c.toNat : Int))
  have kG10 := kG8.far (p := ⟨w3.heap.size, 3, none⟩) (by simp; omega) (.int .i64 (c.toNat : Int))
  have kF10 := kF8.set_ 3 (.int .i64 (c.toNat : Int))
  have q10 := q8.setCell (p := ⟨w3.heap.size, 3, none⟩) z3 (.int .i64 (c.toNat : Int))
  have r10 := r8.setCell (p := ⟨w3.heap.size, 3, none⟩) z23 (.int .i64 (c.toNat : Int))
  have f0m := kF10.cell 0 (.int .i64 k) rfl
  have f1m := kF10.cell 1 (.int .i64 ST) rfl
  have f2m := kF10.cell 2 (.int .i64 LT) rfl
  have f3m := kF10.cell 3 (.int .i64 (c.toNat : Int)) rfl
  have flm := kF10.lt
  have g0m := kG10.cell (i * 6) _ hG0
  go_wp2_with fail
  clear x0 y1 y2 yl g0 g2 gl f0 zz0 f1 zz1 f2 zz2 f3 zz3 fl x0n y1n y2n yln g0n g2n gln f0n zz0n f1n zz1n f2n zz2n f3n zz3n fln f0m f1m f2m f3m flm g0m
  generalize (w7.setCell ⟨w3.heap.size, 2, none⟩ (.int .i64 LT)).setCell ⟨w3.heap.size, 3, none⟩ (.int .i64 (c.toNat : Int)) = w10 at *
  clear kR7 kR8 kS7 kS8 kL7 kL8 kG7 kG8 kF7 kF8
  have hKX := hK.below r10 (Nat.le_refl _)
  have zKX := r10.size
  have HFD := Lib.hid (find_any g K ⟨k, ST, LT, (c.toNat : Int)⟩ w10 w2.heap.size hKX zKX)
  obtain ⟨A9, c9, hv9, _, _⟩ := hK.withs (k := k)
  obtain ⟨nm, hnm9⟩ : ∃ x, Hid (kname k = x) := ⟨_, Lib.hid rfl⟩
  obtain ⟨kl, hkl9⟩ : ∃ x, Hid (klet k = x) := ⟨_, Lib.hid rfl⟩
  obtain ⟨j1, hj1⟩ : ∃ x, Hid (klf k = x) := ⟨_, Lib.hid rfl⟩
  obtain ⟨j2, hj2⟩ : ∃ x, Hid (kpf k = x) := ⟨_, Lib.hid rfl⟩
  obtain ⟨n9, hn9⟩ : ∃ x, Hid ((withsL k).length = x) := ⟨_, Lib.hid rfl⟩
  rw [hn9.out] at hv9
  have hkc : (kcell K k).toArray = #[.int .i64 k, .string nm, .bool kl, .slice A9 n9 c9, .func (.func j1) #[] #[], .func (.func j2) #[] #[]] := by unfold kcell; rw [if_pos HKZ.out]; unfold kcells; rw [hv9, hnm9.out, hkl9.out, hj1.out, hj2.out]
  rw [show (⟨k, ST, LT, (c.toNat : Int)⟩ : Flt).k = k from rfl, hkc] at HFD
  clear hkc hv9 hKX
  cases hs : shapedF ⟨k, ST, LT, (c.toNat : Int)⟩
  · have ho := hPnf'.out hs
    rw [hs] at HFD
    clear hs
    obtain ⟨⟨rfl, rfl, rfl, rfl⟩, rfl⟩ : (o0 = 0 ∧ o1 = 0 ∧ o2 = 0 ∧ o3 = 0) ∧ oE = 6 := by simpa using ho
    clear ho
    refine HFD.out.mono ?_
    rintro e w11 ⟨rfl, hB11⟩
    have kR12 := (kR10.below' hB11).alloc (.cells #[.int .i64 k, .string nm, .bool kl, .slice A9 n9 c9, .func (.func j1) #[] #[], .func (.func j2) #[] #[]] 106)
    have kS12 := (kS10.below' hB11).alloc (.cells #[.int .i64 k, .string nm, .bool kl, .slice A9 n9 c9, .func (.func j1) #[] #[], .func (.func j2) #[] #[]] 106)
    have kL12 := (kL10.below' hB11).alloc (.cells #[.int .i64 k, .string nm, .bool kl, .slice A9 n9 c9, .func (.func j1) #[] #[], .func (.func j2) #[] #[]] 106)
    have kG12 := (kG10.below' hB11).alloc (.cells #[.int .i64 k, .string nm, .bool kl, .slice A9 n9 c9, .func (.func j1) #[] #[], .func (.func j2) #[] #[]] 106)
    have kF12 := (kF10.below' hB11).alloc (.cells #[.int .i64 k, .string nm, .bool kl, .slice A9 n9 c9, .func (.func j1) #[] #[], .func (.func j2) #[] #[]] 106)
    have q11 := q10.trans (hB11.mono q10.size)
    have q12 := q11.alloc q11.size (.cells #[.int .i64 k, .string nm, .bool kl, .slice A9 n9 c9, .func (.func j1) #[] #[], .func (.func j2) #[] #[]] 106)
    clear kR10 kS10 kL10 kG10 kF10
    have f0 := kF12.cell 0 (.int .i64 k) rfl
    have f1 := kF12.cell 1 (.int .i64 ST) rfl
    have f2 := kF12.cell 2 (.int .i64 LT) rfl
    have f3 := kF12.cell 3 (.int .i64 (c.toNat : Int)) rfl
    have fl := kF12.lt
    have y0 := kR12.cell 0 (.int .i64 0) rfl
    have u0 := kR12.frozen 0
    have kR12a := kR12.set_ 0 (.int .i64 0)
    have y1 := kR12a.cell 1 (.int .i64 0) rfl
    have u1 := kR12a.frozen 1
    have kR12b := kR12a.set_ 1 (.int .i64 0)
    have y2 := kR12b.cell 2 (.int .i64 0) rfl
    have u2 := kR12b.frozen 2
    have kR12c := kR12b.set_ 2 (.int .i64 0)
    have y3 := kR12c.cell 3 (.int .i64 0) rfl
    have u3 := kR12c.frozen 3
    have kR12d := kR12c.set_ 3 (.int .i64 0)
    have bxl := kR12.lt
    go_wp2_with fail
    refine flt_ret2F rfl rfl (g := w.heap.size) (by simpa using kR12d) rfl ?_
    exact ⟨rfl, ((((q12.setCell (p := ⟨w.heap.size, 0, none⟩) (Nat.le_refl _) _).setCell (p := ⟨w.heap.size, 1, none⟩) (Nat.le_refl _) _).setCell (p := ⟨w.heap.size, 2, none⟩) (Nat.le_refl _) _).setCell (p := ⟨w.heap.size, 3, none⟩) (Nat.le_refl _) _)⟩
  rw [hs] at HFD
  have hok := Lib.hid (hok'.out hs)
  by_cases ht : Y = L
  · have ho := hPeq'.out hs (hY.out.trans ht)
    obtain ⟨⟨rfl, rfl, rfl, rfl⟩, rfl⟩ : (k = o0 ∧ ST = o1 ∧ LT = o2 ∧ (c.toNat : Int) = o3) ∧ 0 = oE := by have := ho.symm; simpa using this
    have v3 : (Y == L) = true := by rw [ht]; exact beq_self_eq_true _
    clear ho ht hs
    refine HFD.out.mono ?_
    rintro e w11 ⟨rfl, hB11⟩
    have kR12 := (kR10.below' hB11).alloc (.cells #[.int .i64 k, .string nm, .bool kl, .slice A9 n9 c9, .func (.func j1) #[] #[], .func (.func j2) #[] #[]] 106)
    have kS12 := (kS10.below' hB11).alloc (.cells #[.int .i64 k, .string nm, .bool kl, .slice A9 n9 c9, .func (.func j1) #[] #[], .func (.func j2) #[] #[]] 106)
    have kL12 := (kL10.below' hB11).alloc (.cells #[.int .i64 k, .string nm, .bool kl, .slice A9 n9 c9, .func (.func j1) #[] #[], .func (.func j2) #[] #[]] 106)
    have kG12 := (kG10.below' hB11).alloc (.cells #[.int .i64 k, .string nm, .bool kl, .slice A9 n9 c9, .func (.func j1) #[] #[], .func (.func j2) #[] #[]] 106)
    have kF12 := (kF10.below' hB11).alloc (.cells #[.int .i64 k, .string nm, .bool kl, .slice A9 n9 c9, .func (.func j1) #[] #[], .func (.func j2) #[] #[]] 106)
    have q11 := q10.trans (hB11.mono q10.size)
    have q12 := q11.alloc q11.size (.cells #[.int .i64 k, .string nm, .bool kl, .slice A9 n9 c9, .func (.func j1) #[] #[], .func (.func j2) #[] #[]] 106)
    clear kR10 kS10 kL10 kG10 kF10
    have f0 := kF12.cell 0 (.int .i64 k) rfl
    have f1 := kF12.cell 1 (.int .i64 ST) rfl
    have f2 := kF12.cell 2 (.int .i64 LT) rfl
    have f3 := kF12.cell 3 (.int .i64 (c.toNat : Int)) rfl
    have fl := kF12.lt
    go_wp2_with fail
    clear f0 f1 f2 f3 fl
    generalize w11.alloc (.cells #[.int .i64 k, .string nm, .bool kl, .slice A9 n9 c9, .func (.func j1) #[] #[], .func (.func j2) #[] #[]] 106) = w12 at *
    refine (fwrite_any g (i * 6) k ST (LT) ((c.toNat : Int)) hok.out _ (hDt.below q12) (kG12.cell (i * 6) _ hG0) (kG12.cell (i * 6 + 1) _ HG1.out) (kG12.cell (i * 6 + 2) _ HG2.out)).mono ?_
    rintro e w13 ⟨rfl, hB13⟩
    rw [hY.out]
    have kF13 := kF12.below' hB13
    have kR13 := kR12.below' hB13
    have q13 := q12.trans (hB13.mono q12.size)
    have f0 := kF13.cell 0 (.int .i64 k) rfl
    have f1 := kF13.cell 1 (.int .i64 ST) rfl
    have f2 := kF13.cell 2 (.int .i64 LT) rfl
    have f3 := kF13.cell 3 (.int .i64 (c.toNat : Int)) rfl
    have fl := kF13.lt
    have y0 := kR13.cell 0 (.int .i64 0) rfl
    have u0 := kR13.frozen 0
    have kR13a := kR13.set_ 0 (.int .i64 k)
    have y1 := kR13a.cell 1 (.int .i64 0) rfl
    have u1 := kR13a.frozen 1
    have kR13b := kR13a.set_ 1 (.int .i64 ST)
    have y2 := kR13b.cell 2 (.int .i64 0) rfl
    have u2 := kR13b.frozen 2
    have kR13c := kR13b.set_ 2 (.int .i64 LT)
    have y3 := kR13c.cell 3 (.int .i64 0) rfl
    have u3 := kR13c.frozen 3
    have kR13d := kR13c.set_ 3 (.int .i64 (c.toNat : Int))
    have bxl := kR13.lt
    go_wp2_with fail
    refine flt_ret2F rfl rfl (g := w.heap.size) (by simpa using kR13d) rfl ?_
    exact ⟨rfl, ((((q13.setCell (p := ⟨w.heap.size, 0, none⟩) (Nat.le_refl _) _).setCell (p := ⟨w.heap.size, 1, none⟩) (Nat.le_refl _) _).setCell (p := ⟨w.heap.size, 2, none⟩) (Nat.le_refl _) _).setCell (p := ⟨w.heap.size, 3, none⟩) (Nat.le_refl _) _)⟩
  · have ho := hPne'.out (fun e => ht (hY.out.symm.trans e))
    obtain ⟨⟨rfl, rfl, rfl, rfl⟩, rfl⟩ : (o0 = 0 ∧ o1 = 0 ∧ o2 = 0 ∧ o3 = 0) ∧ oE = 6 := by simpa using ho
    have v3 : (Y == L) = false := beq_eq_false_iff_ne.2 ht
    clear ho ht hs
    refine HFD.out.mono ?_
    rintro e w11 ⟨rfl, hB11⟩
    have kR12 := (kR10.below' hB11).alloc (.cells #[.int .i64 k, .string nm, .bool kl, .slice A9 n9 c9, .func (.func j1) #[] #[], .func (.func j2) #[] #[]] 106)
    have kS12 := (kS10.below' hB11).alloc (.cells #[.int .i64 k, .string nm, .bool kl, .slice A9 n9 c9, .func (.func j1) #[] #[], .func (.func j2) #[] #[]] 106)
    have kL12 := (kL10.below' hB11).alloc (.cells #[.int .i64 k, .string nm, .bool kl, .slice A9 n9 c9, .func (.func j1) #[] #[], .func (.func j2) #[] #[]] 106)
    have kG12 := (kG10.below' hB11).alloc (.cells #[.int .i64 k, .string nm, .bool kl, .slice A9 n9 c9, .func (.func j1) #[] #[], .func (.func j2) #[] #[]] 106)
    have kF12 := (kF10.below' hB11).alloc (.cells #[.int .i64 k, .string nm, .bool kl, .slice A9 n9 c9, .func (.func j1) #[] #[], .func (.func j2) #[] #[]] 106)
    have q11 := q10.trans (hB11.mono q10.size)
    have q12 := q11.alloc q11.size (.cells #[.int .i64 k, .string nm, .bool kl, .slice A9 n9 c9, .func (.func j1) #[] #[], .func (.func j2) #[] #[]] 106)
    clear kR10 kS10 kL10 kG10 kF10
    have f0 := kF12.cell 0 (.int .i64 k) rfl
    have f1 := kF12.cell 1 (.int .i64 ST) rfl
    have f2 := kF12.cell 2 (.int .i64 LT) rfl
    have f3 := kF12.cell 3 (.int .i64 (c.toNat : Int)) rfl
    have fl := kF12.lt
    go_wp2_with fail
    clear f0 f1 f2 f3 fl
    generalize w11.alloc (.cells #[.int .i64 k, .string nm, .bool kl, .slice A9 n9 c9, .func (.func j1) #[] #[], .func (.func j2) #[] #[]] 106) = w12 at *
    refine (fwrite_any g (i * 6) k ST (LT) ((c.toNat : Int)) hok.out _ (hDt.below q12) (kG12.cell (i * 6) _ hG0) (kG12.cell (i * 6 + 1) _ HG1.out) (kG12.cell (i * 6 + 2) _ HG2.out)).mono ?_
    rintro e w13 ⟨rfl, hB13⟩
    rw [hY.out]
    have kF13 := kF12.below' hB13
    have kR13 := kR12.below' hB13
    have q13 := q12.trans (hB13.mono q12.size)
    have f0 := kF13.cell 0 (.int .i64 k) rfl
    have f1 := kF13.cell 1 (.int .i64 ST) rfl
    have f2 := kF13.cell 2 (.int .i64 LT) rfl
    have f3 := kF13.cell 3 (.int .i64 (c.toNat : Int)) rfl
    have fl := kF13.lt
    have y0 := kR13.cell 0 (.int .i64 0) rfl
    have u0 := kR13.frozen 0
    have kR13a := kR13.set_ 0 (.int .i64 0)
    have y1 := kR13a.cell 1 (.int .i64 0) rfl
    have u1 := kR13a.frozen 1
    have kR13b := kR13a.set_ 1 (.int .i64 0)
    have y2 := kR13b.cell 2 (.int .i64 0) rfl
    have u2 := kR13b.frozen 2
    have kR13c := kR13b.set_ 2 (.int .i64 0)
    have y3 := kR13c.cell 3 (.int .i64 0) rfl
    have u3 := kR13c.frozen 3
    have kR13d := kR13c.set_ 3 (.int .i64 0)
    have bxl := kR13.lt
    go_wp2_with fail
    refine flt_ret2F rfl rfl (g := w.heap.size) (by simpa using kR13d) rfl ?_
    exact ⟨rfl, ((((q13.setCell (p := ⟨w.heap.size, 0, none⟩) (Nat.le_refl _) _).setCell (p := ⟨w.heap.size, 1, none⟩) (Nat.le_refl _) _).setCell (p := ⟨w.heap.size, 2, none⟩) (Nat.le_refl _) _).setCell (p := ⟨w.heap.size, 3, none⟩) (Nat.le_refl _) _)⟩
set_option maxRecDepth 100000 in
set_option maxHeartbeats 8000000 in
theorem fprs_BLE (L : List UInt8) (i : Nat) (hi : i < 6) (hkI : kindI ((spl 32 L).getD 0 []) = (i : Int) + 1) (hn2 : 2 ≤ (spl 32 L).length) (hc : i = 1) (h2 : 2 < (spl 32 L).length) (hlast : (spl 32 L).getD ((spl 32 L).length - 1) [] = []) (hl : L.length ≤ 1000000) (w : World) (hDt : DtAt w) :
    Calls Tryz.prog 20 #[.string (bN L)] w (Ret (.tuple #[.agg (parseF L).1.enc, .int .i64 (parseF L).2]) w) := by
  have hcand : candF (kindI ((spl 32 L).getD 0 [])) (spl 32 L) = ⟨(i : Int) + 1, (intW ((spl 32 L).getD 1 []) 0 999).1, (intW ((spl 32 L).getD 2 []) 0 16).1, 0⟩ := by
    have hkl : klet ((i : Int) + 1) = true := by subst hc; rfl
    rw [hkI]; unfold candF
    rw [if_pos ⟨hkl, h2⟩]
    congr 1
    unfold withP
    rw [if_pos (by omega), hlast]
  have hPnf : shapedF ⟨(i : Int) + 1, (intW ((spl 32 L).getD 1 []) 0 999).1, (intW ((spl 32 L).getD 2 []) 0 16).1, 0⟩ = false → parseF L = (⟨0, 0, 0, 0⟩, 6) := (fun hs => by unfold parseF; rw [if_neg (by rw [hkI]; omega), hcand, if_neg (fun h => by rw [hs] at h; cases h.1)])
  have hPne : textF ⟨(i : Int) + 1, (intW ((spl 32 L).getD 1 []) 0 999).1, (intW ((spl 32 L).getD 2 []) 0 16).1, 0⟩ ≠ L → parseF L = (⟨0, 0, 0, 0⟩, 6) := (fun ht => by unfold parseF; rw [if_neg (by rw [hkI]; omega), hcand, if_neg (fun h => ht h.2)])
  have hPeq : shapedF ⟨(i : Int) + 1, (intW ((spl 32 L).getD 1 []) 0 999).1, (intW ((spl 32 L).getD 2 []) 0 16).1, 0⟩ = true → textF ⟨(i : Int) + 1, (intW ((spl 32 L).getD 1 []) 0 999).1, (intW ((spl 32 L).getD 2 []) 0 16).1, 0⟩ = L → parseF L = (⟨(i : Int) + 1, (intW ((spl 32 L).getD 1 []) 0 999).1, (intW ((spl 32 L).getD 2 []) 0 16).1, 0⟩, 0) := (fun hs ht => by unfold parseF; rw [if_neg (by rw [hkI]; omega), hcand, if_pos ⟨hs, ht⟩])
  have hbd := cand_bd (kindI ((spl 32 L).getD 0 [])) (spl 32 L)
  rw [hcand] at hbd
  have hok : shapedF ⟨(i : Int) + 1, (intW ((spl 32 L).getD 1 []) 0 999).1, (intW ((spl 32 L).getD 2 []) 0 16).1, 0⟩ = true → FOk ⟨(i : Int) + 1, (intW ((spl 32 L).getD 1 []) 0 999).1, (intW ((spl 32 L).getD 2 []) 0 16).1, 0⟩ := (fun hs => ⟨hs, hbd.1, hbd.2.1, hbd.2.2.1, hbd.2.2.2⟩)
  clear hbd hcand
  obtain ⟨⟨⟨o0, o1, o2, o3⟩, oE⟩, hO⟩ : ∃ o, Hid (parseF L = o) := ⟨_, Lib.hid rfl⟩
  rw [hO.out] at hPnf hPne hPeq ⊢
  have hlens : ∀ q, ((spl 32 L).getD q []).length ≤ 1000000 := fun q => Nat.le_trans (spl_get_len L q) hl
  have H1 := Lib.hid (fun w' (hB : Below w.heap.size w w') => fnum_any ((spl 32 L).getD 1 []) 0 999 w' (hlens 1) (hDt.below hB))
  have H2 := Lib.hid (fun w' (hB : Below w.heap.size w w') => fnum_any ((spl 32 L).getD 2 []) 0 16 w' (hlens 2) (hDt.below hB))
  have HSP := Lib.hid (fun w' (hB : Below w.heap.size w w') => splitF_any L w' (hDt.below hB) (by omega))
  obtain ⟨k, hk⟩ : ∃ k : Int, Hid ((i : Int) + 1 = k) := ⟨_, Lib.hid rfl⟩
  have hke := hk.out
  skip
  have c2 : (k == 2) = true := by rw [beq_iff_eq]; omega
  have c5 : (k == 5) = false := by rw [beq_eq_false_iff_ne]; omega
  obtain ⟨ST, hST⟩ : ∃ x, Hid ((intW ((spl 32 L).getD 1 []) 0 999).1 = x) := ⟨_, Lib.hid rfl⟩
  obtain ⟨LT, hLT⟩ : ∃ x, Hid ((intW ((spl 32 L).getD 2 []) 0 16).1 = x) := ⟨_, Lib.hid rfl⟩
  rw [hST.out] at H1
  rw [hLT.out] at H2
  rw [hke, hST.out, hLT.out] at hPnf hPne hPeq hok
  have hPnf' := Lib.hid hPnf
  have hPne' := Lib.hid hPne
  have hPeq' := Lib.hid hPeq
  have hok' := Lib.hid hok
  clear hPnf hPne hPeq hok
  obtain ⟨Y, hY⟩ : ∃ Y, Hid (textF ⟨k, ST, LT, 0⟩ = Y) := ⟨_, Lib.hid rfl⟩
  have tY : (bN Y).toList = Y := Lib.toList_data _
  have tL : (bN L).toList = L := Lib.toList_data _
  obtain ⟨AS, hAS⟩ : ∃ AS, Hid (((spl 32 L).map fun t => Value.string (bN t)).toArray = AS) := ⟨_, Lib.hid rfl⟩
  have hA : ∀ q, q < (spl 32 L).length → AS[q]? = some (.string (bN ((spl 32 L).getD q []))) := fun q hq => by rw [← hAS.out]; simp [List.getElem?_eq_getElem hq, List.getD_eq_getElem?_getD]
  have hA0 := hA 0 (by omega)
  have hS1 := hA 1 (by omega)
  have hS2 := hA 2 h2
  have hSm := hA ((spl 32 L).length - 1) (by omega)
  rw [hlast] at hSm
  obtain ⟨s0, hs0⟩ : ∃ x, Hid ((spl 32 L).getD 0 [] = x) := ⟨_, Lib.hid rfl⟩
  rw [hs0.out] at hA0 hkI
  obtain ⟨n, hn⟩ : ∃ n, Hid ((spl 32 L).length = n) := ⟨_, Lib.hid rfl⟩
  obtain ⟨m, hm⟩ : ∃ m, Hid ((spl 32 L).length - 1 = m) := ⟨_, Lib.hid rfl⟩
  have hnm : Hid (n = m + 1) := Lib.hid (by have h1 := hn.out; have h2 := hm.out; omega)
  rw [hm.out] at hSm
  rw [hAS.out, hn.out] at HSP
  have hn2' : 2 ≤ n := by rw [← hn.out]; exact hn2
  have h2' : (2 : Int) < (n : Int) := by have := hn.out; omega
  have e2 : ¬ (n : Int) < 2 := by omega
  have n1 : (1 : Int) < (n : Int) := by omega
  have i2 : (n : Int) - 1 = (m : Int) := by have := hnm.out; omega
  have m0 : (0 : Int) ≤ (m : Int) := by omega
  have m1 : (m : Int) < (n : Int) := by omega
  have mB : (m : Int) ≤ 1000001 := by have h1 := spl_length 32 L; have h2 := List.count_le_length (a := (32 : UInt8)) (l := L); have h3 := hm.out; omega
  have i0 : (0 : Int) ≤ (i : Int) := by omega
  have i6 : (i : Int) < 6 := by omega
  have i9 : ¬ (i : Int) < 0 := by omega
  have b3 : (bN []).toList.isEmpty = true := by rw [show (bN []).toList = [] from Lib.toList_data _]; rfl
  have hI0 : kindI s0 - 1 = (i : Int) := by omega
  have HI0 := Lib.hid hI0
  have HN := Lib.hid (show 0 < n by omega)
  obtain ⟨w1, hw1⟩ : ∃ w1, Hid ((((w.alloc (.cells #[.int .i64 0, .int .i64 0, .int .i64 0, .int .i64 0] 41)).alloc (.cells AS 9)).alloc (.cells #[.slice (some ⟨w.heap.size + 1, 0, none⟩) n n] 115)) = w1) := ⟨_, Lib.hid rfl⟩
  have kR1 : Blk w1 w.heap.size 41 #[.int .i64 0, .int .i64 0, .int .i64 0, .int .i64 0] := by rw [← hw1.out]; exact ((Blk.new w _ _).alloc _).alloc _
  have kS1 : Blk w1 (w.heap.size + 1) 9 AS := by
    rw [← hw1.out]; have := (Blk.new (w.alloc (.cells #[.int .i64 0, .int .i64 0, .int .i64 0, .int .i64 0] 41)) 9 AS).alloc (.cells #[.slice (some ⟨w.heap.size + 1, 0, none⟩) n n] 115); rw [World.size_alloc] at this; exact this
  have kL1 : Blk w1 (w.heap.size + 1 + 1) 115 #[.slice (some ⟨w.heap.size + 1, 0, none⟩) n n] := by
    rw [← hw1.out]; have := Blk.new ((w.alloc (.cells #[.int .i64 0, .int .i64 0, .int .i64 0, .int .i64 0] 41)).alloc (.cells AS 9)) 115 #[.slice (some ⟨w.heap.size + 1, 0, none⟩) n n]; rw [World.size_alloc, World.size_alloc] at this; exact this
  have q1 : Below w.heap.size w w1 := by rw [← hw1.out]; exact (((Below.refl _ _).alloc (Nat.le_refl _) _).alloc (by simp) _).alloc (by simp; omega) _
  have qR : Below w.heap.size w (w.alloc (.cells #[.int .i64 0, .int .i64 0, .int .i64 0, .int .i64 0] 41)) := (Below.refl _ _).alloc (Nat.le_refl _) _
  have hkz : 1 ≤ k ∧ k ≤ 6 := by omega
  have HKZ := Lib.hid hkz
  have HI6 := Lib.hid hi
  clear hkI hA hke hlens hn2 hn2' hkz hi hI0 hl hc h2 hlast
  go_enter Tryz.func20, Tryz.ntmps20
  go_wp2_with fail
  refine (HSP.out _ qR).mono ?_
  rintro e _ ⟨rfl, rfl⟩
  go_wp2_with fail
  skip
  rw [hw1.out]
  clear hw1 qR
  refine (kinds_any w1).mono ?_
  rintro e w2 ⟨g, K, rfl, hK, hB2⟩
  have kR2 := kR1.below' hB2
  have kS2 := kS1.below' hB2
  have kL2 := kL1.below' hB2
  have q2 := q1.trans (hB2.mono q1.size)
  clear kR1 kS1 kL1
  obtain ⟨GA, hGA⟩ : ∃ GA, Hid ((kcells K 1 ++ kcells K 2 ++ kcells K 3 ++ kcells K 4 ++ kcells K 5 ++ kcells K 6).toArray = GA) := ⟨_, Lib.hid rfl⟩
  have kG2 := hK.blk
  rw [hGA.out] at kG2
  have hG0 : GA[i * 6]? = some (.int .i64 k) := by rw [← hGA.out, ← hk.out]; exact (kAt K i HI6.out).1
  have hG1 : GA[i * 6 + 1]? = some (.string (kname k)) := by rw [← hGA.out, ← hk.out]; exact (kAt K i HI6.out).2.1
  have hG2 : GA[i * 6 + 2]? = some (.bool (klet k)) := by rw [← hGA.out, ← hk.out]; exact (kAt K i HI6.out).2.2
  have hkl : klet k = true := by
    unfold klet; rw [decide_eq_true_iff]
    have := beq_iff_eq.1 c2; omega
  have hG2' := hG2
  rw [hkl] at hG2
  have HG1 := Lib.hid hG1
  have HG2 := Lib.hid hG2'
  clear hG1 hG2' hkl
  have r2 := Below.refl w2.heap.size w2
  have HIX := Lib.hid (findex_any (w.heap.size + 1 + 1) (w.heap.size + 1) n g w2.heap.size K s0 HN.out w2 hK (Nat.le_refl _) (kL2.cell 0 _ rfl) (kS2.cell 0 _ hA0))
  rw [HI0.out] at HIX
  go_wp2_with fail
  refine HIX.out.mono ?_
  rintro e w3 ⟨rfl, hB3⟩
  have kR3 := kR2.below' hB3
  have kS3 := kS2.below' hB3
  have kL3 := kL2.below' hB3
  have kG3 := kG2.below' hB3
  have q3 := q2.trans (hB3.mono q2.size)
  have r3 := r2.trans (hB3.mono r2.size)
  have bR := kR3.lt
  have bS := kS3.lt
  have bL := kL3.lt
  have bG := kG3.lt
  have z3 := q3.size
  have z23 := r3.size
  have x0 := kL3.cell 0 (.slice (some ⟨w.heap.size + 1, 0, none⟩) n n) rfl
  have y1 := kS3.cell 1 _ hS1
  have y2 := kS3.cell 2 _ hS2
  have yl := kS3.cell m _ hSm
  have g0 := kG3.cell (i * 6) _ hG0
  have g2 := kG3.cell (i * 6 + 2) _ hG2
  have gl := kG3.lt
  skip
  clear x0 y1 y2 yl g0 g2 gl
  have kF4 := Blk.new w3 41 #[.int .i64 k, .int .i64 0, .int .i64 0, .int .i64 0]
  have kR4 := kR3.alloc (.cells #[.int .i64 k, .int .i64 0, .int .i64 0, .int .i64 0] 41)
  have kS4 := kS3.alloc (.cells #[.int .i64 k, .int .i64 0, .int .i64 0, .int .i64 0] 41)
  have kL4 := kL3.alloc (.cells #[.int .i64 k, .int .i64 0, .int .i64 0, .int .i64 0] 41)
  have kG4 := kG3.alloc (.cells #[.int .i64 k, .int .i64 0, .int .i64 0, .int .i64 0] 41)
  have q4 := q3.alloc z3 (.cells #[.int .i64 k, .int .i64 0, .int .i64 0, .int .i64 0] 41)
  have r4 := r3.alloc z23 (.cells #[.int .i64 k, .int .i64 0, .int .i64 0, .int .i64 0] 41)
  have x30 := kL3.cell 0 (.slice (some ⟨w.heap.size + 1, 0, none⟩) n n) rfl
  have g30 := kG3.cell (i * 6) _ hG0
  clear kR3 kS3 kL3
  have x0 := kL4.cell 0 (.slice (some ⟨w.heap.size + 1, 0, none⟩) n n) rfl
  have y1 := kS4.cell 1 _ hS1
  have y2 := kS4.cell 2 _ hS2
  have yl := kS4.cell m _ hSm
  have g0 := kG4.cell (i * 6) _ hG0
  have g2 := kG4.cell (i * 6 + 2) _ hG2
  have gl := kG4.lt
  have f0 := kF4.cell 0 (.int .i64 k) rfl
  have zz0 := kF4.frozen 0
  have f1 := kF4.cell 1 (.int .i64 0) rfl
  have zz1 := kF4.frozen 1
  have f2 := kF4.cell 2 (.int .i64 0) rfl
  have zz2 := kF4.frozen 2
  have f3 := kF4.cell 3 (.int .i64 0) rfl
  have zz3 := kF4.frozen 3
  have fl := kF4.lt
  go_wp2_with fail
  clear x0 y1 y2 yl g0 g2 gl f0 zz0 f1 zz1 f2 zz2 f3 zz3 fl
  clear g30 x30 kG3
  have hB4 : Below w.heap.size w (w3.alloc (.cells #[.int .i64 k, .int .i64 0, .int .i64 0, .int .i64 0] 41)) := q4
  generalize w3.alloc (.cells #[.int .i64 k, .int .i64 0, .int .i64 0, .int .i64 0] 41) = w4 at *
  refine (H1.out _ q4).mono ?_
  rintro e w5 ⟨rfl, hB5⟩
  have kR5 := kR4.below' hB5
  have kS5 := kS4.below' hB5
  have kL5 := kL4.below' hB5
  have kG5 := kG4.below' hB5
  have kF5 := kF4.below' hB5
  have q5 := q4.trans (hB5.mono q4.size)
  have r5 := r4.trans (hB5.mono r4.size)
  clear kR4 kS4 kL4 kG4 kF4
  have x0 := kL5.cell 0 (.slice (some ⟨w.heap.size + 1, 0, none⟩) n n) rfl
  have y1 := kS5.cell 1 _ hS1
  have y2 := kS5.cell 2 _ hS2
  have yl := kS5.cell m _ hSm
  have g0 := kG5.cell (i * 6) _ hG0
  have g2 := kG5.cell (i * 6 + 2) _ hG2
  have gl := kG5.lt
  have f0 := kF5.cell 0 (.int .i64 k) rfl
  have zz0 := kF5.frozen 0
  have f1 := kF5.cell 1 (.int .i64 0) rfl
  have zz1 := kF5.frozen 1
  have f2 := kF5.cell 2 (.int .i64 0) rfl
  have zz2 := kF5.frozen 2
  have f3 := kF5.cell 3 (.int .i64 0) rfl
  have zz3 := kF5.frozen 3
  have fl := kF5.lt
  clear x0 y1 y2 yl g0 g2 gl f0 zz0 f1 zz1 f2 zz2 f3 zz3 fl
  have x0 := kL5.cell 0 (.slice (some ⟨w.heap.size + 1, 0, none⟩) n n) rfl
  have y1 := kS5.cell 1 _ hS1
  have y2 := kS5.cell 2 _ hS2
  have yl := kS5.cell m _ hSm
  have g0 := kG5.cell (i * 6) _ hG0
  have g2 := kG5.cell (i * 6 + 2) _ hG2
  have gl := kG5.lt
  have f0 := kF5.cell 0 (.int .i64 k) rfl
  have zz0 := kF5.frozen 0
  have f1 := kF5.cell 1 (.int .i64 0) rfl
  have zz1 := kF5.frozen 1
  have f2 := kF5.cell 2 (.int .i64 0) rfl
  have zz2 := kF5.frozen 2
  have f3 := kF5.cell 3 (.int .i64 0) rfl
  have zz3 := kF5.frozen 3
  have fl := kF5.lt
  have kR6 := kR5.far (p := ⟨w3.heap.size, 1, none⟩) (by simp; omega) (.int .i64 ST)
  have kS6 := kS5.far (p := ⟨w3.heap.size, 1, none⟩) (by simp; omega) (.int .i64 ST)
  have kL6 := kL5.far (p := ⟨w3.heap.size, 1, none⟩) (by simp; omega) (.int .i64 ST)
  have kG6 := kG5.far (p := ⟨w3.heap.size, 1, none⟩) (by simp; omega) (.int .i64 ST)
  have kF6 := kF5.set_ 1 (.int .i64 ST)
  have q6 := q5.setCell (p := ⟨w3.heap.size, 1, none⟩) z3 (.int .i64 ST)
  have r6 := r5.setCell (p := ⟨w3.heap.size, 1, none⟩) z23 (.int .i64 ST)
  have x0n := kL6.cell 0 (.slice (some ⟨w.heap.size + 1, 0, none⟩) n n) rfl
  have y1n := kS6.cell 1 _ hS1
  have y2n := kS6.cell 2 _ hS2
  have yln := kS6.cell m _ hSm
  have g0n := kG6.cell (i * 6) _ hG0
  have g2n := kG6.cell (i * 6 + 2) _ hG2
  have gln := kG6.lt
  have f0n := kF6.cell 0 (.int .i64 k) rfl
  have zz0n := kF6.frozen 0
  have f1n := kF6.cell 1 (.int .i64 ST) rfl
  have zz1n := kF6.frozen 1
  have f2n := kF6.cell 2 (.int .i64 0) rfl
  have zz2n := kF6.frozen 2
  have f3n := kF6.cell 3 (.int .i64 0) rfl
  have zz3n := kF6.frozen 3
  have fln := kF6.lt
  go_wp2_with fail
  clear x0 y1 y2 yl g0 g2 gl f0 zz0 f1 zz1 f2 zz2 f3 zz3 fl x0n y1n y2n yln g0n g2n gln f0n zz0n f1n zz1n f2n zz2n f3n zz3n fln
  generalize w5.setCell ⟨w3.heap.size, 1, none⟩ (.int .i64 ST) = w6 at *
  clear kR5 kS5 kL5 kG5 kF5
  refine (H2.out _ q6).mono ?_
  rintro e w7 ⟨rfl, hB7⟩
  have kR7 := kR6.below' hB7
  have kS7 := kS6.below' hB7
  have kL7 := kL6.below' hB7
  have kG7 := kG6.below' hB7
  have kF7 := kF6.below' hB7
  have q7 := q6.trans (hB7.mono q6.size)
  have r7 := r6.trans (hB7.mono r6.size)
  clear kR6 kS6 kL6 kG6 kF6
  have x0 := kL7.cell 0 (.slice (some ⟨w.heap.size + 1, 0, none⟩) n n) rfl
  have y1 := kS7.cell 1 _ hS1
  have y2 := kS7.cell 2 _ hS2
  have yl := kS7.cell m _ hSm
  have g0 := kG7.cell (i * 6) _ hG0
  have g2 := kG7.cell (i * 6 + 2) _ hG2
  have gl := kG7.lt
  have f0 := kF7.cell 0 (.int .i64 k) rfl
  have zz0 := kF7.frozen 0
  have f1 := kF7.cell 1 (.int .i64 ST) rfl
  have zz1 := kF7.frozen 1
  have f2 := kF7.cell 2 (.int .i64 0) rfl
  have zz2 := kF7.frozen 2
  have f3 := kF7.cell 3 (.int .i64 0) rfl
  have zz3 := kF7.frozen 3
  have fl := kF7.lt
  have kR8 := kR7.far (p := ⟨w3.heap.size, 2, none⟩) (by simp; omega) (.int .i64 LT)
  have kS8 := kS7.far (p := ⟨w3.heap.size, 2, none⟩) (by simp; omega) (.int .i64 LT)
  have kL8 := kL7.far (p := ⟨w3.heap.size, 2, none⟩) (by simp; omega) (.int .i64 LT)
  have kG8 := kG7.far (p := ⟨w3.heap.size, 2, none⟩) (by simp; omega) (.int .i64 LT)
  have kF8 := kF7.set_ 2 (.int .i64 LT)
  have q8 := q7.setCell (p := ⟨w3.heap.size, 2, none⟩) z3 (.int .i64 LT)
  have r8 := r7.setCell (p := ⟨w3.heap.size, 2, none⟩) z23 (.int .i64 LT)
  have x0n := kL8.cell 0 (.slice (some ⟨w.heap.size + 1, 0, none⟩) n n) rfl
  have y1n := kS8.cell 1 _ hS1
  have y2n := kS8.cell 2 _ hS2
  have yln := kS8.cell m _ hSm
  have g0n := kG8.cell (i * 6) _ hG0
  have g2n := kG8.cell (i * 6 + 2) _ hG2
  have gln := kG8.lt
  have f0n := kF8.cell 0 (.int .i64 k) rfl
  have zz0n := kF8.frozen 0
  have f1n := kF8.cell 1 (.int .i64 ST) rfl
  have zz1n := kF8.frozen 1
  have f2n := kF8.cell 2 (.int .i64 LT) rfl
  have zz2n := kF8.frozen 2
  have f3n := kF8.cell 3 (.int .i64 0) rfl
  have zz3n := kF8.frozen 3
  have fln := kF8.lt
  go_wp2_with fail
  clear x0 y1 y2 yl g0 g2 gl f0 zz0 f1 zz1 f2 zz2 f3 zz3 fl x0n y1n y2n yln g0n g2n gln f0n zz0n f1n zz1n f2n zz2n f3n zz3n fln
  generalize w7.setCell ⟨w3.heap.size, 2, none⟩ (.int .i64 LT) = w8 at *
  clear kR7 kS7 kL7 kG7 kF7
  have hKX := hK.below r8 (Nat.le_refl _)
  have zKX := r8.size
  have HFD := Lib.hid (find_any g K ⟨k, ST, LT, 0⟩ w8 w2.heap.size hKX zKX)
  obtain ⟨A9, c9, hv9, _, _⟩ := hK.withs (k := k)
  obtain ⟨nm, hnm9⟩ : ∃ x, Hid (kname k = x) := ⟨_, Lib.hid rfl⟩
  obtain ⟨kl, hkl9⟩ : ∃ x, Hid (klet k = x) := ⟨_, Lib.hid rfl⟩
  obtain ⟨j1, hj1⟩ : ∃ x, Hid (klf k = x) := ⟨_, Lib.hid rfl⟩
  obtain ⟨j2, hj2⟩ : ∃ x, Hid (kpf k = x) := ⟨_, Lib.hid rfl⟩
  obtain ⟨n9, hn9⟩ : ∃ x, Hid ((withsL k).length = x) := ⟨_, Lib.hid rfl⟩
  rw [hn9.out] at hv9
  have hkc : (kcell K k).toArray = #[.int .i64 k, .string nm, .bool kl, .slice A9 n9 c9, .func (.func j1) #[] #[], .func (.func j2) #[] #[]] := by unfold kcell; rw [if_pos HKZ.out]; unfold kcells; rw [hv9, hnm9.out, hkl9.out, hj1.out, hj2.out]
  rw [show (⟨k, ST, LT, 0⟩ : Flt).k = k from rfl, hkc] at HFD
  clear hkc hv9 hKX
  cases hs : shapedF ⟨k, ST, LT, 0⟩
  · have ho := hPnf'.out hs
    rw [hs] at HFD
    clear hs
    obtain ⟨⟨rfl, rfl, rfl, rfl⟩, rfl⟩ : (o0 = 0 ∧ o1 = 0 ∧ o2 = 0 ∧ o3 = 0) ∧ oE = 6 := by simpa using ho
    clear ho
    refine HFD.out.mono ?_
    rintro e w11 ⟨rfl, hB11⟩
    have kR12 := (kR8.below' hB11).alloc (.cells #[.int .i64 k, .string nm, .bool kl, .slice A9 n9 c9, .func (.func j1) #[] #[], .func (.func j2) #[] #[]] 106)
    have kS12 := (kS8.below' hB11).alloc (.cells #[.int .i64 k, .string nm, .bool kl, .slice A9 n9 c9, .func (.func j1) #[] #[], .func (.func j2) #[] #[]] 106)
    have kL12 := (kL8.below' hB11).alloc (.cells #[.int .i64 k, .string nm, .bool kl, .slice A9 n9 c9, .func (.func j1) #[] #[], .func (.func j2) #[] #[]] 106)
    have kG12 := (kG8.below' hB11).alloc (.cells #[.int .i64 k, .string nm, .bool kl, .slice A9 n9 c9, .func (.func j1) #[] #[], .func (.func j2) #[] #[]] 106)
    have kF12 := (kF8.below' hB11).alloc (.cells #[.int .i64 k, .string nm, .bool kl, .slice A9 n9 c9, .func (.func j1) #[] #[], .func (.func j2) #[] #[]] 106)
    have q11 := q8.trans (hB11.mono q8.size)
    have q12 := q11.alloc q11.size (.cells #[.int .i64 k, .string nm, .bool kl, .slice A9 n9 c9, .func (.func j1) #[] #[], .func (.func j2) #[] #[]] 106)
    clear kR8 kS8 kL8 kG8 kF8
    have f0 := kF12.cell 0 (.int .i64 k) rfl
    have f1 := kF12.cell 1 (.int .i64 ST) rfl
    have f2 := kF12.cell 2 (.int .i64 LT) rfl
    have f3 := kF12.cell 3 (.int .i64 0) rfl
    have fl := kF12.lt
    have y0 := kR12.cell 0 (.int .i64 0) rfl
    have u0 := kR12.frozen 0
    have kR12a := kR12.set_ 0 (.int .i64 0)
    have y1 := kR12a.cell 1 (.int .i64 0) rfl
    have u1 := kR12a.frozen 1
    have kR12b := kR12a.set_ 1 (.int .i64 0)
    have y2 := kR12b.cell 2 (.int .i64 0) rfl
    have u2 := kR12b.frozen 2
    have kR12c := kR12b.set_ 2 (.int .i64 0)
    have y3 := kR12c.cell 3 (.int .i64 0) rfl
    have u3 := kR12c.frozen 3
    have kR12d := kR12c.set_ 3 (.int .i64 0)
    have bxl := kR12.lt
    go_wp2_with fail
    refine flt_ret2F rfl rfl (g := w.heap.size) (by simpa using kR12d) rfl ?_
    exact ⟨rfl, ((((q12.setCell (p := ⟨w.heap.size, 0, none⟩) (Nat.le_refl _) _).setCell (p := ⟨w.heap.size, 1, none⟩) (Nat.le_refl _) _).setCell (p := ⟨w.heap.size, 2, none⟩) (Nat.le_refl _) _).setCell (p := ⟨w.heap.size, 3, none⟩) (Nat.le_refl _) _)⟩
  rw [hs] at HFD
  have hok := Lib.hid (hok'.out hs)
  by_cases ht : Y = L
  · have ho := hPeq'.out hs (hY.out.trans ht)
    obtain ⟨⟨rfl, rfl, rfl, rfl⟩, rfl⟩ : (k = o0 ∧ ST = o1 ∧ LT = o2 ∧ 0 = o3) ∧ 0 = oE := by have := ho.symm; simpa using this
    have v3 : (Y == L) = true := by rw [ht]; exact beq_self_eq_true _
    clear ho ht hs
    refine HFD.out.mono ?_
    rintro e w11 ⟨rfl, hB11⟩
    have kR12 := (kR8.below' hB11).alloc (.cells #[.int .i64 k, .string nm, .bool kl, .slice A9 n9 c9, .func (.func j1) #[] #[], .func (.func j2) #[] #[]] 106)
    have kS12 := (kS8.below' hB11).alloc (.cells #[.int .i64 k, .string nm, .bool kl, .slice A9 n9 c9, .func (.func j1) #[] #[], .func (.func j2) #[] #[]] 106)
    have kL12 := (kL8.below' hB11).alloc (.cells #[.int .i64 k, .string nm, .bool kl, .slice A9 n9 c9, .func (.func j1) #[] #[], .func (.func j2) #[] #[]] 106)
    have kG12 := (kG8.below' hB11).alloc (.cells #[.int .i64 k, .string nm, .bool kl, .slice A9 n9 c9, .func (.func j1) #[] #[], .func (.func j2) #[] #[]] 106)
    have kF12 := (kF8.below' hB11).alloc (.cells #[.int .i64 k, .string nm, .bool kl, .slice A9 n9 c9, .func (.func j1) #[] #[], .func (.func j2) #[] #[]] 106)
    have q11 := q8.trans (hB11.mono q8.size)
    have q12 := q11.alloc q11.size (.cells #[.int .i64 k, .string nm, .bool kl, .slice A9 n9 c9, .func (.func j1) #[] #[], .func (.func j2) #[] #[]] 106)
    clear kR8 kS8 kL8 kG8 kF8
    have f0 := kF12.cell 0 (.int .i64 k) rfl
    have f1 := kF12.cell 1 (.int .i64 ST) rfl
    have f2 := kF12.cell 2 (.int .i64 LT) rfl
    have f3 := kF12.cell 3 (.int .i64 0) rfl
    have fl := kF12.lt
    go_wp2_with fail
    clear f0 f1 f2 f3 fl
    generalize w11.alloc (.cells #[.int .i64 k, .string nm, .bool kl, .slice A9 n9 c9, .func (.func j1) #[] #[], .func (.func j2) #[] #[]] 106) = w12 at *
    refine (fwrite_any g (i * 6) k ST (LT) (0) hok.out _ (hDt.below q12) (kG12.cell (i * 6) _ hG0) (kG12.cell (i * 6 + 1) _ HG1.out) (kG12.cell (i * 6 + 2) _ HG2.out)).mono ?_
    rintro e w13 ⟨rfl, hB13⟩
    rw [hY.out]
    have kF13 := kF12.below' hB13
    have kR13 := kR12.below' hB13
    have q13 := q12.trans (hB13.mono q12.size)
    have f0 := kF13.cell 0 (.int .i64 k) rfl
    have f1 := kF13.cell 1 (.int .i64 ST) rfl
    have f2 := kF13.cell 2 (.int .i64 LT) rfl
    have f3 := kF13.cell 3 (.int .i64 0) rfl
    have fl := kF13.lt
    have y0 := kR13.cell 0 (.int .i64 0) rfl
    have u0 := kR13.frozen 0
    have kR13a := kR13.set_ 0 (.int .i64 k)
    have y1 := kR13a.cell 1 (.int .i64 0) rfl
    have u1 := kR13a.frozen 1
    have kR13b := kR13a.set_ 1 (.int .i64 ST)
    have y2 := kR13b.cell 2 (.int .i64 0) rfl
    have u2 := kR13b.frozen 2
    have kR13c := kR13b.set_ 2 (.int .i64 LT)
    have y3 := kR13c.cell 3 (.int .i64 0) rfl
    have u3 := kR13c.frozen 3
    have kR13d := kR13c.set_ 3 (.int .i64 0)
    have bxl := kR13.lt
    go_wp2_with fail
    refine flt_ret2F rfl rfl (g := w.heap.size) (by simpa using kR13d) rfl ?_
    exact ⟨rfl, ((((q13.setCell (p := ⟨w.heap.size, 0, none⟩) (Nat.le_refl _) _).setCell (p := ⟨w.heap.size, 1, none⟩) (Nat.le_refl _) _).setCell (p := ⟨w.heap.size, 2, none⟩) (Nat.le_refl _) _).setCell (p := ⟨w.heap.size, 3, none⟩) (Nat.le_refl _) _)⟩
  · have ho := hPne'.out (fun e => ht (hY.out.symm.trans e))
    obtain ⟨⟨rfl, rfl, rfl, rfl⟩, rfl⟩ : (o0 = 0 ∧ o1 = 0 ∧ o2 = 0 ∧ o3 = 0) ∧ oE = 6 := by simpa using ho
    have v3 : (Y == L) = false := beq_eq_false_iff_ne.2 ht
    clear ho ht hs
    refine HFD.out.mono ?_
    rintro e w11 ⟨rfl, hB11⟩
    have kR12 := (kR8.below' hB11).alloc (.cells #[.int .i64 k, .string nm, .bool kl, .slice A9 n9 c9, .func (.func j1) #[] #[], .func (.func j2) #[] #[]] 106)
    have kS12 := (kS8.below' hB11).alloc (.cells #[.int .i64 k, .string nm, .bool kl, .slice A9 n9 c9, .func (.func j1) #[] #[], .func (.func j2) #[] #[]] 106)
    have kL12 := (kL8.below' hB11).alloc (.cells #[.int .i64 k, .string nm, .bool kl, .slice A9 n9 c9, .func (.func j1) #[] #[], .func (.func j2) #[] #[]] 106)
    have kG12 := (kG8.below' hB11).alloc (.cells #[.int .i64 k, .string nm, .bool kl, .slice A9 n9 c9, .func (.func j1) #[] #[], .func (.func j2) #[] #[]] 106)
    have kF12 := (kF8.below' hB11).alloc (.cells #[.int .i64 k, .string nm, .bool kl, .slice A9 n9 c9, .func (.func j1) #[] #[], .func (.func j2) #[] #[]] 106)
    have q11 := q8.trans (hB11.mono q8.size)
    have q12 := q11.alloc q11.size (.cells #[.int .i64 k, .string nm, .bool kl, .slice A9 n9 c9, .func (.func j1) #[] #[], .func (.func j2) #[] #[]] 106)
    clear kR8 kS8 kL8 kG8 kF8
    have f0 := kF12.cell 0 (.int .i64 k) rfl
    have f1 := kF12.cell 1 (.int .i64 ST) rfl
    have f2 := kF12.cell 2 (.int .i64 LT) rfl
    have f3 := kF12.cell 3 (.int .i64 0) rfl
    have fl := kF12.lt
    go_wp2_with fail
    clear f0 f1 f2 f3 fl
    generalize w11.alloc (.cells #[.int .i64 k, .string nm, .bool kl, .slice A9 n9 c9, .func (.func j1) #[] #[], .func (.func j2) #[] #[]] 106) = w12 at *
    refine (fwrite_any g (i * 6) k ST (LT) (0) hok.out _ (hDt.below q12) (kG12.cell (i * 6) _ hG0) (kG12.cell (i * 6 + 1) _ HG1.out) (kG12.cell (i * 6 + 2) _ HG2.out)).mono ?_
    rintro e w13 ⟨rfl, hB13⟩
    rw [hY.out]
    have kF13 := kF12.below' hB13
    have kR13 := kR12.below' hB13
    have q13 := q12.trans (hB13.mono q12.size)
    have f0 := kF13.cell 0 (.int .i64 k) rfl
    have f1 := kF13.cell 1 (.int .i64 ST) rfl
    have f2 := kF13.cell 2 (.int .i64 LT) rfl
    have f3 := kF13.cell 3 (.int .i64 0) rfl
    have fl := kF13.lt
    have y0 := kR13.cell 0 (.int .i64 0) rfl
    have u0 := kR13.frozen 0
    have kR13a := kR13.set_ 0 (.int .i64 0)
    have y1 := kR13a.cell 1 (.int .i64 0) rfl
    have u1 := kR13a.frozen 1
    have kR13b := kR13a.set_ 1 (.int .i64 0)
    have y2 := kR13b.cell 2 (.int .i64 0) rfl
    have u2 := kR13b.frozen 2
    have kR13c := kR13b.set_ 2 (.int .i64 0)
    have y3 := kR13c.cell 3 (.int .i64 0) rfl
    have u3 := kR13c.frozen 3
    have kR13d := kR13c.set_ 3 (.int .i64 0)
    have bxl := kR13.lt
    go_wp2_with fail
    refine flt_ret2F rfl rfl (g := w.heap.size) (by simpa using kR13d) rfl ?_
    exact ⟨rfl, ((((q13.setCell (p := ⟨w.heap.size, 0, none⟩) (Nat.le_refl _) _).setCell (p := ⟨w.heap.size, 1, none⟩) (Nat.le_refl _) _).setCell (p := ⟨w.heap.size, 2, none⟩) (Nat.le_refl _) _).setCell (p := ⟨w.heap.size, 3, none⟩) (Nat.le_refl _) _)⟩
set_option maxRecDepth 100000 in
set_option maxHeartbeats 8000000 in
theorem fprs_BSN (L : List UInt8) (i : Nat) (hi : i < 6) (hkI : kindI ((spl 32 L).getD 0 []) = (i : Int) + 1) (hn2 : 2 ≤ (spl 32 L).length) (hc : i = 1) (h2 : ¬ 2 < (spl 32 L).length) (c : UInt8) (tl : List UInt8) (hlast : (spl 32 L).getD ((spl 32 L).length - 1) [] = c :: tl) (hl : L.length ≤ 1000000) (w : World) (hDt : DtAt w) :
    Calls Tryz.prog 20 #[.string (bN L)] w (Ret (.tuple #[.agg (parseF L).1.enc, .int .i64 (parseF L).2]) w) := by
  have hcand : candF (kindI ((spl 32 L).getD 0 [])) (spl 32 L) = ⟨(i : Int) + 1, (intW ((spl 32 L).getD 1 []) 0 999).1, 0, (c.toNat : Int)⟩ := by
    have hkl : klet ((i : Int) + 1) = true := by subst hc; rfl
    rw [hkI]; unfold candF
    rw [if_neg (fun h => h2 h.2)]
    congr 1
    unfold withP
    rw [if_pos (by omega), hlast]
  have hPnf : shapedF ⟨(i : Int) + 1, (intW ((spl 32 L).getD 1 []) 0 999).1, 0, (c.toNat : Int)⟩ = false → parseF L = (⟨0, 0, 0, 0⟩, 6) := (fun hs => by unfold parseF; rw [if_neg (by rw [hkI]; omega), hcand, if_neg (fun h => by rw [hs] at h; cases h.1)])
  have hPne : textF ⟨(i : Int) + 1, (intW ((spl 32 L).getD 1 []) 0 999).1, 0, (c.toNat : Int)⟩ ≠ L → parseF L = (⟨0, 0, 0, 0⟩, 6) := (fun ht => by unfold parseF; rw [if_neg (by rw [hkI]; omega), hcand, if_neg (fun h => ht h.2)])
  have hPeq : shapedF ⟨(i : Int) + 1, (intW ((spl 32 L).getD 1 []) 0 999).1, 0, (c.toNat : Int)⟩ = true → textF ⟨(i : Int) + 1, (intW ((spl 32 L).getD 1 []) 0 999).1, 0, (c.toNat : Int)⟩ = L → parseF L = (⟨(i : Int) + 1, (intW ((spl 32 L).getD 1 []) 0 999).1, 0, (c.toNat : Int)⟩, 0) := (fun hs ht => by unfold parseF; rw [if_neg (by rw [hkI]; omega), hcand, if_pos ⟨hs, ht⟩])
  have hbd := cand_bd (kindI ((spl 32 L).getD 0 [])) (spl 32 L)
  rw [hcand] at hbd
  have hok : shapedF ⟨(i : Int) + 1, (intW ((spl 32 L).getD 1 []) 0 999).1, 0, (c.toNat : Int)⟩ = true → FOk ⟨(i : Int) + 1, (intW ((spl 32 L).getD 1 []) 0 999).1, 0, (c.toNat : Int)⟩ := (fun hs => ⟨hs, hbd.1, hbd.2.1, hbd.2.2.1, hbd.2.2.2⟩)
  clear hbd hcand
  obtain ⟨⟨⟨o0, o1, o2, o3⟩, oE⟩, hO⟩ : ∃ o, Hid (parseF L = o) := ⟨_, Lib.hid rfl⟩
  rw [hO.out] at hPnf hPne hPeq ⊢
  have hlens : ∀ q, ((spl 32 L).getD q []).length ≤ 1000000 := fun q => Nat.le_trans (spl_get_len L q) hl
  have H1 := Lib.hid (fun w' (hB : Below w.heap.size w w') => fnum_any ((spl 32 L).getD 1 []) 0 999 w' (hlens 1) (hDt.below hB))
  have HSP := Lib.hid (fun w' (hB : Below w.heap.size w w') => splitF_any L w' (hDt.below hB) (by omega))
  obtain ⟨k, hk⟩ : ∃ k : Int, Hid ((i : Int) + 1 = k) := ⟨_, Lib.hid rfl⟩
  have hke := hk.out
  skip
  have c2 : (k == 2) = true := by rw [beq_iff_eq]; omega
  have c5 : (k == 5) = false := by rw [beq_eq_false_iff_ne]; omega
  obtain ⟨ST, hST⟩ : ∃ x, Hid ((intW ((spl 32 L).getD 1 []) 0 999).1 = x) := ⟨_, Lib.hid rfl⟩
  rw [hST.out] at H1
  rw [hke, hST.out] at hPnf hPne hPeq hok
  have hPnf' := Lib.hid hPnf
  have hPne' := Lib.hid hPne
  have hPeq' := Lib.hid hPeq
  have hok' := Lib.hid hok
  clear hPnf hPne hPeq hok
  obtain ⟨Y, hY⟩ : ∃ Y, Hid (textF ⟨k, ST, 0, (c.toNat : Int)⟩ = Y) := ⟨_, Lib.hid rfl⟩
  have tY : (bN Y).toList = Y := Lib.toList_data _
  have tL : (bN L).toList = L := Lib.toList_data _
  obtain ⟨AS, hAS⟩ : ∃ AS, Hid (((spl 32 L).map fun t => Value.string (bN t)).toArray = AS) := ⟨_, Lib.hid rfl⟩
  have hA : ∀ q, q < (spl 32 L).length → AS[q]? = some (.string (bN ((spl 32 L).getD q []))) := fun q hq => by rw [← hAS.out]; simp [List.getElem?_eq_getElem hq, List.getD_eq_getElem?_getD]
  have hA0 := hA 0 (by omega)
  have hS1 := hA 1 (by omega)
  have hSm := hA ((spl 32 L).length - 1) (by omega)
  rw [hlast] at hSm
  obtain ⟨s0, hs0⟩ : ∃ x, Hid ((spl 32 L).getD 0 [] = x) := ⟨_, Lib.hid rfl⟩
  rw [hs0.out] at hA0 hkI
  obtain ⟨n, hn⟩ : ∃ n, Hid ((spl 32 L).length = n) := ⟨_, Lib.hid rfl⟩
  obtain ⟨m, hm⟩ : ∃ m, Hid ((spl 32 L).length - 1 = m) := ⟨_, Lib.hid rfl⟩
  have hnm : Hid (n = m + 1) := Lib.hid (by have h1 := hn.out; have h2 := hm.out; omega)
  rw [hm.out] at hSm
  rw [hAS.out, hn.out] at HSP
  have hn2' : 2 ≤ n := by rw [← hn.out]; exact hn2
  have h2' : ¬ (2 : Int) < (n : Int) := by have := hn.out; omega
  have e2 : ¬ (n : Int) < 2 := by omega
  have n1 : (1 : Int) < (n : Int) := by omega
  have i2 : (n : Int) - 1 = (m : Int) := by have := hnm.out; omega
  have m0 : (0 : Int) ≤ (m : Int) := by omega
  have m1 : (m : Int) < (n : Int) := by omega
  have mB : (m : Int) ≤ 1000001 := by have h1 := spl_length 32 L; have h2 := List.count_le_length (a := (32 : UInt8)) (l := L); have h3 := hm.out; omega
  have i0 : (0 : Int) ≤ (i : Int) := by omega
  have i6 : (i : Int) < 6 := by omega
  have i9 : ¬ (i : Int) < 0 := by omega
  obtain ⟨SB, hSB⟩ : ∃ SB, Hid (bN (c :: tl) = SB) := ⟨_, Lib.hid rfl⟩
  have hsz : 0 < SB.size := by rw [← hSB.out]; show 0 < (c :: tl).length; simp
  have hcb : SB[0]'hsz = c := by have : ∀ S (h : 0 < S.size), S = bN (c :: tl) → S[0]'h = c := (fun S h e => by subst e; rfl); exact this SB hsz hSB.out.symm
  have b3 : SB.toList.isEmpty = false := by rw [← hSB.out, show (bN (c :: tl)).toList = c :: tl from Lib.toList_data _]; rfl
  have cn0 : (0 : Int) ≤ (c.toNat : Int) := by omega
  have cn1 : (c.toNat : Int) ≤ 255 := by have := c.toNat_lt; omega
  rw [hSB.out] at hSm
  have hI0 : kindI s0 - 1 = (i : Int) := by omega
  have HI0 := Lib.hid hI0
  have HN := Lib.hid (show 0 < n by omega)
  obtain ⟨w1, hw1⟩ : ∃ w1, Hid ((((w.alloc (.cells #[.int .i64 0, .int .i64 0, .int .i64 0, .int .i64 0] 41)).alloc (.cells AS 9)).alloc (.cells #[.slice (some ⟨w.heap.size + 1, 0, none⟩) n n] 115)) = w1) := ⟨_, Lib.hid rfl⟩
  have kR1 : Blk w1 w.heap.size 41 #[.int .i64 0, .int .i64 0, .int .i64 0, .int .i64 0] := by rw [← hw1.out]; exact ((Blk.new w _ _).alloc _).alloc _
  have kS1 : Blk w1 (w.heap.size + 1) 9 AS := by
    rw [← hw1.out]; have := (Blk.new (w.alloc (.cells #[.int .i64 0, .int .i64 0, .int .i64 0, .int .i64 0] 41)) 9 AS).alloc (.cells #[.slice (some ⟨w.heap.size + 1, 0, none⟩) n n] 115); rw [World.size_alloc] at this; exact this
  have kL1 : Blk w1 (w.heap.size + 1 + 1) 115 #[.slice (some ⟨w.heap.size + 1, 0, none⟩) n n] := by
    rw [← hw1.out]; have := Blk.new ((w.alloc (.cells #[.int .i64 0, .int .i64 0, .int .i64 0, .int .i64 0] 41)).alloc (.cells AS 9)) 115 #[.slice (some ⟨w.heap.size + 1, 0, none⟩) n n]; rw [World.size_alloc, World.size_alloc] at this; exact this
  have q1 : Below w.heap.size w w1 := by rw [← hw1.out]; exact (((Below.refl _ _).alloc (Nat.le_refl _) _).alloc (by simp) _).alloc (by simp; omega) _
  have qR : Below w.heap.size w (w.alloc (.cells #[.int .i64 0, .int .i64 0, .int .i64 0, .int .i64 0] 41)) := (Below.refl _ _).alloc (Nat.le_refl _) _
  have hkz : 1 ≤ k ∧ k ≤ 6 := by omega
  have HKZ := Lib.hid hkz
  have HI6 := Lib.hid hi
  clear hkI hA hke hlens hn2 hn2' hkz hi hI0 hl hc h2 hlast
  go_enter Tryz.func20, Tryz.ntmps20
  go_wp2_with fail
  refine (HSP.out _ qR).mono ?_
  rintro e _ ⟨rfl, rfl⟩
  go_wp2_with fail
  skip
  rw [hw1.out]
  clear hw1 qR
  refine (kinds_any w1).mono ?_
  rintro e w2 ⟨g, K, rfl, hK, hB2⟩
  have kR2 := kR1.below' hB2
  have kS2 := kS1.below' hB2
  have kL2 := kL1.below' hB2
  have q2 := q1.trans (hB2.mono q1.size)
  clear kR1 kS1 kL1
  obtain ⟨GA, hGA⟩ : ∃ GA, Hid ((kcells K 1 ++ kcells K 2 ++ kcells K 3 ++ kcells K 4 ++ kcells K 5 ++ kcells K 6).toArray = GA) := ⟨_, Lib.hid rfl⟩
  have kG2 := hK.blk
  rw [hGA.out] at kG2
  have hG0 : GA[i * 6]? = some (.int .i64 k) := by rw [← hGA.out, ← hk.out]; exact (kAt K i HI6.out).1
  have hG1 : GA[i * 6 + 1]? = some (.string (kname k)) := by rw [← hGA.out, ← hk.out]; exact (kAt K i HI6.out).2.1
  have hG2 : GA[i * 6 + 2]? = some (.bool (klet k)) := by rw [← hGA.out, ← hk.out]; exact (kAt K i HI6.out).2.2
  have hkl : klet k = true := by
    unfold klet; rw [decide_eq_true_iff]
    have := beq_iff_eq.1 c2; omega
  have hG2' := hG2
  rw [hkl] at hG2
  have HG1 := Lib.hid hG1
  have HG2 := Lib.hid hG2'
  clear hG1 hG2' hkl
  have r2 := Below.refl w2.heap.size w2
  have HIX := Lib.hid (findex_any (w.heap.size + 1 + 1) (w.heap.size + 1) n g w2.heap.size K s0 HN.out w2 hK (Nat.le_refl _) (kL2.cell 0 _ rfl) (kS2.cell 0 _ hA0))
  rw [HI0.out] at HIX
  go_wp2_with fail
  refine HIX.out.mono ?_
  rintro e w3 ⟨rfl, hB3⟩
  have kR3 := kR2.below' hB3
  have kS3 := kS2.below' hB3
  have kL3 := kL2.below' hB3
  have kG3 := kG2.below' hB3
  have q3 := q2.trans (hB3.mono q2.size)
  have r3 := r2.trans (hB3.mono r2.size)
  have bR := kR3.lt
  have bS := kS3.lt
  have bL := kL3.lt
  have bG := kG3.lt
  have z3 := q3.size
  have z23 := r3.size
  have x0 := kL3.cell 0 (.slice (some ⟨w.heap.size + 1, 0, none⟩) n n) rfl
  have y1 := kS3.cell 1 _ hS1
  have yl := kS3.cell m _ hSm
  have g0 := kG3.cell (i * 6) _ hG0
  have g2 := kG3.cell (i * 6 + 2) _ hG2
  have gl := kG3.lt
  skip
  clear x0 y1 yl g0 g2 gl
  have kF4 := Blk.new w3 41 #[.int .i64 k, .int .i64 0, .int .i64 0, .int .i64 0]
  have kR4 := kR3.alloc (.cells #[.int .i64 k, .int .i64 0, .int .i64 0, .int .i64 0] 41)
  have kS4 := kS3.alloc (.cells #[.int .i64 k, .int .i64 0, .int .i64 0, .int .i64 0] 41)
  have kL4 := kL3.alloc (.cells #[.int .i64 k, .int .i64 0, .int .i64 0, .int .i64 0] 41)
  have kG4 := kG3.alloc (.cells #[.int .i64 k, .int .i64 0, .int .i64 0, .int .i64 0] 41)
  have q4 := q3.alloc z3 (.cells #[.int .i64 k, .int .i64 0, .int .i64 0, .int .i64 0] 41)
  have r4 := r3.alloc z23 (.cells #[.int .i64 k, .int .i64 0, .int .i64 0, .int .i64 0] 41)
  have x30 := kL3.cell 0 (.slice (some ⟨w.heap.size + 1, 0, none⟩) n n) rfl
  have g30 := kG3.cell (i * 6) _ hG0
  clear kR3 kS3 kL3
  have x0 := kL4.cell 0 (.slice (some ⟨w.heap.size + 1, 0, none⟩) n n) rfl
  have y1 := kS4.cell 1 _ hS1
  have yl := kS4.cell m _ hSm
  have g0 := kG4.cell (i * 6) _ hG0
  have g2 := kG4.cell (i * 6 + 2) _ hG2
  have gl := kG4.lt
  have f0 := kF4.cell 0 (.int .i64 k) rfl
  have zz0 := kF4.frozen 0
  have f1 := kF4.cell 1 (.int .i64 0) rfl
  have zz1 := kF4.frozen 1
  have f2 := kF4.cell 2 (.int .i64 0) rfl
  have zz2 := kF4.frozen 2
  have f3 := kF4.cell 3 (.int .i64 0) rfl
  have zz3 := kF4.frozen 3
  have fl := kF4.lt
  go_wp2_with fail
  clear x0 y1 yl g0 g2 gl f0 zz0 f1 zz1 f2 zz2 f3 zz3 fl
  clear g30 x30 kG3
  have hB4 : Below w.heap.size w (w3.alloc (.cells #[.int .i64 k, .int .i64 0, .int .i64 0, .int .i64 0] 41)) := q4
  generalize w3.alloc (.cells #[.int .i64 k, .int .i64 0, .int .i64 0, .int .i64 0] 41) = w4 at *
  refine (H1.out _ q4).mono ?_
  rintro e w5 ⟨rfl, hB5⟩
  have kR5 := kR4.below' hB5
  have kS5 := kS4.below' hB5
  have kL5 := kL4.below' hB5
  have kG5 := kG4.below' hB5
  have kF5 := kF4.below' hB5
  have q5 := q4.trans (hB5.mono q4.size)
  have r5 := r4.trans (hB5.mono r4.size)
  clear kR4 kS4 kL4 kG4 kF4
  have x0 := kL5.cell 0 (.slice (some ⟨w.heap.size + 1, 0, none⟩) n n) rfl
  have y1 := kS5.cell 1 _ hS1
  have yl := kS5.cell m _ hSm
  have g0 := kG5.cell (i * 6) _ hG0
  have g2 := kG5.cell (i * 6 + 2) _ hG2
  have gl := kG5.lt
  have f0 := kF5.cell 0 (.int .i64 k) rfl
  have zz0 := kF5.frozen 0
  have f1 := kF5.cell 1 (.int .i64 0) rfl
  have zz1 := kF5.frozen 1
  have f2 := kF5.cell 2 (.int .i64 0) rfl
  have zz2 := kF5.frozen 2
  have f3 := kF5.cell 3 (.int .i64 0) rfl
  have zz3 := kF5.frozen 3
  have fl := kF5.lt
  clear x0 y1 yl g0 g2 gl f0 zz0 f1 zz1 f2 zz2 f3 zz3 fl
  have x0 := kL5.cell 0 (.slice (some ⟨w.heap.size + 1, 0, none⟩) n n) rfl
  have y1 := kS5.cell 1 _ hS1
  have yl := kS5.cell m _ hSm
  have g0 := kG5.cell (i * 6) _ hG0
  have g2 := kG5.cell (i * 6 + 2) _ hG2
  have gl := kG5.lt
  have f0 := kF5.cell 0 (.int .i64 k) rfl
  have zz0 := kF5.frozen 0
  have f1 := kF5.cell 1 (.int .i64 0) rfl
  have zz1 := kF5.frozen 1
  have f2 := kF5.cell 2 (.int .i64 0) rfl
  have zz2 := kF5.frozen 2
  have f3 := kF5.cell 3 (.int .i64 0) rfl
  have zz3 := kF5.frozen 3
  have fl := kF5.lt
  have kR6 := kR5.far (p := ⟨w3.heap.size, 1, none⟩) (by simp; omega) (.int .i64 ST)
  have kS6 := kS5.far (p := ⟨w3.heap.size, 1, none⟩) (by simp; omega) (.int .i64 ST)
  have kL6 := kL5.far (p := ⟨w3.heap.size, 1, none⟩) (by simp; omega) (.int .i64 ST)
  have kG6 := kG5.far (p := ⟨w3.heap.size, 1, none⟩) (by simp; omega) (.int .i64 ST)
  have kF6 := kF5.set_ 1 (.int .i64 ST)
  have q6 := q5.setCell (p := ⟨w3.heap.size, 1, none⟩) z3 (.int .i64 ST)
  have r6 := r5.setCell (p := ⟨w3.heap.size, 1, none⟩) z23 (.int .i64 ST)
  have x0n := kL6.cell 0 (.slice (some ⟨w.heap.size + 1, 0, none⟩) n n) rfl
  have y1n := kS6.cell 1 _ hS1
  have yln := kS6.cell m _ hSm
  have g0n := kG6.cell (i * 6) _ hG0
  have g2n := kG6.cell (i * 6 + 2) _ hG2
  have gln := kG6.lt
  have f0n := kF6.cell 0 (.int .i64 k) rfl
  have zz0n := kF6.frozen 0
  have f1n := kF6.cell 1 (.int .i64 ST) rfl
  have zz1n := kF6.frozen 1
  have f2n := kF6.cell 2 (.int .i64 0) rfl
  have zz2n := kF6.frozen 2
  have f3n := kF6.cell 3 (.int .i64 0) rfl
  have zz3n := kF6.frozen 3
  have fln := kF6.lt
  have kR10 := kR6.far (p := ⟨w3.heap.size, 3, none⟩) (by simp; omega) (.int .i64 (c.toNat : Int))
  have kS10 := kS6.far (p := ⟨w3.heap.size, 3, none⟩) (by simp; omega) (.int .i64 (c.toNat : Int))
  have kL10 := kL6.far (p := ⟨w3.heap.size, 3, none⟩) (by simp; omega) (.int .i64 (c.toNat : Int))
  have kG10 := kG6.far (p := ⟨w3.heap.size, 3, none⟩) (by simp; omega) (.int .i64 (c.toNat : Int))
  have kF10 := kF6.set_ 3 (.int .i64 (c.toNat : Int))
  have q10 := q6.setCell (p := ⟨w3.heap.size, 3, none⟩) z3 (.int .i64 (c.toNat : Int))
  have r10 := r6.setCell (p := ⟨w3.heap.size, 3, none⟩) z23 (.int .i64 (c.toNat : Int))
  have f0m := kF10.cell 0 (.int .i64 k) rfl
  have f1m := kF10.cell 1 (.int .i64 ST) rfl
  have f2m := kF10.cell 2 (.int .i64 0) rfl
  have f3m := kF10.cell 3 (.int .i64 (c.toNat : Int)) rfl
  have flm := kF10.lt
  have g0m := kG10.cell (i * 6) _ hG0
  go_wp2_with fail
  clear x0 y1 yl g0 g2 gl f0 zz0 f1 zz1 f2 zz2 f3 zz3 fl x0n y1n yln g0n g2n gln f0n zz0n f1n zz1n f2n zz2n f3n zz3n fln f0m f1m f2m f3m flm g0m
  generalize (w5.setCell ⟨w3.heap.size, 1, none⟩ (.int .i64 ST)).setCell ⟨w3.heap.size, 3, none⟩ (.int .i64 (c.toNat : Int)) = w10 at *
  clear kR5 kR6 kS5 kS6 kL5 kL6 kG5 kG6 kF5 kF6
  have hKX := hK.below r10 (Nat.le_refl _)
  have zKX := r10.size
  have HFD := Lib.hid (find_any g K ⟨k, ST, 0, (c.toNat : Int)⟩ w10 w2.heap.size hKX zKX)
  obtain ⟨A9, c9, hv9, _, _⟩ := hK.withs (k := k)
  obtain ⟨nm, hnm9⟩ : ∃ x, Hid (kname k = x) := ⟨_, Lib.hid rfl⟩
  obtain ⟨kl, hkl9⟩ : ∃ x, Hid (klet k = x) := ⟨_, Lib.hid rfl⟩
  obtain ⟨j1, hj1⟩ : ∃ x, Hid (klf k = x) := ⟨_, Lib.hid rfl⟩
  obtain ⟨j2, hj2⟩ : ∃ x, Hid (kpf k = x) := ⟨_, Lib.hid rfl⟩
  obtain ⟨n9, hn9⟩ : ∃ x, Hid ((withsL k).length = x) := ⟨_, Lib.hid rfl⟩
  rw [hn9.out] at hv9
  have hkc : (kcell K k).toArray = #[.int .i64 k, .string nm, .bool kl, .slice A9 n9 c9, .func (.func j1) #[] #[], .func (.func j2) #[] #[]] := by unfold kcell; rw [if_pos HKZ.out]; unfold kcells; rw [hv9, hnm9.out, hkl9.out, hj1.out, hj2.out]
  rw [show (⟨k, ST, 0, (c.toNat : Int)⟩ : Flt).k = k from rfl, hkc] at HFD
  clear hkc hv9 hKX
  cases hs : shapedF ⟨k, ST, 0, (c.toNat : Int)⟩
  · have ho := hPnf'.out hs
    rw [hs] at HFD
    clear hs
    obtain ⟨⟨rfl, rfl, rfl, rfl⟩, rfl⟩ : (o0 = 0 ∧ o1 = 0 ∧ o2 = 0 ∧ o3 = 0) ∧ oE = 6 := by simpa using ho
    clear ho
    refine HFD.out.mono ?_
    rintro e w11 ⟨rfl, hB11⟩
    have kR12 := (kR10.below' hB11).alloc (.cells #[.int .i64 k, .string nm, .bool kl, .slice A9 n9 c9, .func (.func j1) #[] #[], .func (.func j2) #[] #[]] 106)
    have kS12 := (kS10.below' hB11).alloc (.cells #[.int .i64 k, .string nm, .bool kl, .slice A9 n9 c9, .func (.func j1) #[] #[], .func (.func j2) #[] #[]] 106)
    have kL12 := (kL10.below' hB11).alloc (.cells #[.int .i64 k, .string nm, .bool kl, .slice A9 n9 c9, .func (.func j1) #[] #[], .func (.func j2) #[] #[]] 106)
    have kG12 := (kG10.below' hB11).alloc (.cells #[.int .i64 k, .string nm, .bool kl, .slice A9 n9 c9, .func (.func j1) #[] #[], .func (.func j2) #[] #[]] 106)
    have kF12 := (kF10.below' hB11).alloc (.cells #[.int .i64 k, .string nm, .bool kl, .slice A9 n9 c9, .func (.func j1) #[] #[], .func (.func j2) #[] #[]] 106)
    have q11 := q10.trans (hB11.mono q10.size)
    have q12 := q11.alloc q11.size (.cells #[.int .i64 k, .string nm, .bool kl, .slice A9 n9 c9, .func (.func j1) #[] #[], .func (.func j2) #[] #[]] 106)
    clear kR10 kS10 kL10 kG10 kF10
    have f0 := kF12.cell 0 (.int .i64 k) rfl
    have f1 := kF12.cell 1 (.int .i64 ST) rfl
    have f2 := kF12.cell 2 (.int .i64 0) rfl
    have f3 := kF12.cell 3 (.int .i64 (c.toNat : Int)) rfl
    have fl := kF12.lt
    have y0 := kR12.cell 0 (.int .i64 0) rfl
    have u0 := kR12.frozen 0
    have kR12a := kR12.set_ 0 (.int .i64 0)
    have y1 := kR12a.cell 1 (.int .i64 0) rfl
    have u1 := kR12a.frozen 1
    have kR12b := kR12a.set_ 1 (.int .i64 0)
    have y2 := kR12b.cell 2 (.int .i64 0) rfl
    have u2 := kR12b.frozen 2
    have kR12c := kR12b.set_ 2 (.int .i64 0)
    have y3 := kR12c.cell 3 (.int .i64 0) rfl
    have u3 := kR12c.frozen 3
    have kR12d := kR12c.set_ 3 (.int .i64 0)
    have bxl := kR12.lt
    go_wp2_with fail
    refine flt_ret2F rfl rfl (g := w.heap.size) (by simpa using kR12d) rfl ?_
    exact ⟨rfl, ((((q12.setCell (p := ⟨w.heap.size, 0, none⟩) (Nat.le_refl _) _).setCell (p := ⟨w.heap.size, 1, none⟩) (Nat.le_refl _) _).setCell (p := ⟨w.heap.size, 2, none⟩) (Nat.le_refl _) _).setCell (p := ⟨w.heap.size, 3, none⟩) (Nat.le_refl _) _)⟩
  rw [hs] at HFD
  have hok := Lib.hid (hok'.out hs)
  by_cases ht : Y = L
  · have ho := hPeq'.out hs (hY.out.trans ht)
    obtain ⟨⟨rfl, rfl, rfl, rfl⟩, rfl⟩ : (k = o0 ∧ ST = o1 ∧ 0 = o2 ∧ (c.toNat : Int) = o3) ∧ 0 = oE := by have := ho.symm; simpa using this
    have v3 : (Y == L) = true := by rw [ht]; exact beq_self_eq_true _
    clear ho ht hs
    refine HFD.out.mono ?_
    rintro e w11 ⟨rfl, hB11⟩
    have kR12 := (kR10.below' hB11).alloc (.cells #[.int .i64 k, .string nm, .bool kl, .slice A9 n9 c9, .func (.func j1) #[] #[], .func (.func j2) #[] #[]] 106)
    have kS12 := (kS10.below' hB11).alloc (.cells #[.int .i64 k, .string nm, .bool kl, .slice A9 n9 c9, .func (.func j1) #[] #[], .func (.func j2) #[] #[]] 106)
    have kL12 := (kL10.below' hB11).alloc (.cells #[.int .i64 k, .string nm, .bool kl, .slice A9 n9 c9, .func (.func j1) #[] #[], .func (.func j2) #[] #[]] 106)
    have kG12 := (kG10.below' hB11).alloc (.cells #[.int .i64 k, .string nm, .bool kl, .slice A9 n9 c9, .func (.func j1) #[] #[], .func (.func j2) #[] #[]] 106)
    have kF12 := (kF10.below' hB11).alloc (.cells #[.int .i64 k, .string nm, .bool kl, .slice A9 n9 c9, .func (.func j1) #[] #[], .func (.func j2) #[] #[]] 106)
    have q11 := q10.trans (hB11.mono q10.size)
    have q12 := q11.alloc q11.size (.cells #[.int .i64 k, .string nm, .bool kl, .slice A9 n9 c9, .func (.func j1) #[] #[], .func (.func j2) #[] #[]] 106)
    clear kR10 kS10 kL10 kG10 kF10
    have f0 := kF12.cell 0 (.int .i64 k) rfl
    have f1 := kF12.cell 1 (.int .i64 ST) rfl
    have f2 := kF12.cell 2 (.int .i64 0) rfl
    have f3 := kF12.cell 3 (.int .i64 (c.toNat : Int)) rfl
    have fl := kF12.lt
    go_wp2_with fail
    clear f0 f1 f2 f3 fl
    generalize w11.alloc (.cells #[.int .i64 k, .string nm, .bool kl, .slice A9 n9 c9, .func (.func j1) #[] #[], .func (.func j2) #[] #[]] 106) = w12 at *
    refine (fwrite_any g (i * 6) k ST (0) ((c.toNat : Int)) hok.out _ (hDt.below q12) (kG12.cell (i * 6) _ hG0) (kG12.cell (i * 6 + 1) _ HG1.out) (kG12.cell (i * 6 + 2) _ HG2.out)).mono ?_
    rintro e w13 ⟨rfl, hB13⟩
    rw [hY.out]
    have kF13 := kF12.below' hB13
    have kR13 := kR12.below' hB13
    have q13 := q12.trans (hB13.mono q12.size)
    have f0 := kF13.cell 0 (.int .i64 k) rfl
    have f1 := kF13.cell 1 (.int .i64 ST) rfl
    have f2 := kF13.cell 2 (.int .i64 0) rfl
    have f3 := kF13.cell 3 (.int .i64 (c.toNat : Int)) rfl
    have fl := kF13.lt
    have y0 := kR13.cell 0 (.int .i64 0) rfl
    have u0 := kR13.frozen 0
    have kR13a := kR13.set_ 0 (.int .i64 k)
    have y1 := kR13a.cell 1 (.int .i64 0) rfl
    have u1 := kR13a.frozen 1
    have kR13b := kR13a.set_ 1 (.int .i64 ST)
    have y2 := kR13b.cell 2 (.int .i64 0) rfl
    have u2 := kR13b.frozen 2
    have kR13c := kR13b.set_ 2 (.int .i64 0)
    have y3 := kR13c.cell 3 (.int .i64 0) rfl
    have u3 := kR13c.frozen 3
    have kR13d := kR13c.set_ 3 (.int .i64 (c.toNat : Int))
    have bxl := kR13.lt
    go_wp2_with fail
    refine flt_ret2F rfl rfl (g := w.heap.size) (by simpa using kR13d) rfl ?_
    exact ⟨rfl, ((((q13.setCell (p := ⟨w.heap.size, 0, none⟩) (Nat.le_refl _) _).setCell (p := ⟨w.heap.size, 1, none⟩) (Nat.le_refl _) _).setCell (p := ⟨w.heap.size, 2, none⟩) (Nat.le_refl _) _).setCell (p := ⟨w.heap.size, 3, none⟩) (Nat.le_refl _) _)⟩
  · have ho := hPne'.out (fun e => ht (hY.out.symm.trans e))
    obtain ⟨⟨rfl, rfl, rfl, rfl⟩, rfl⟩ : (o0 = 0 ∧ o1 = 0 ∧ o2 = 0 ∧ o3 = 0) ∧ oE = 6 := by simpa using ho
    have v3 : (Y == L) = false := beq_eq_false_iff_ne.2 ht
    clear ho ht hs
    refine HFD.out.mono ?_
    rintro e w11 ⟨rfl, hB11⟩
    have kR12 := (kR10.below' hB11).alloc (.cells #[.int .i64 k, .string nm, .bool kl, .slice A9 n9 c9, .func (.func j1) #[] #[], .func (.func j2) #[] #[]] 106)
    have kS12 := (kS10.below' hB11).alloc (.cells #[.int .i64 k, .string nm, .bool kl, .slice A9 n9 c9, .func (.func j1) #[] #[], .func (.func j2) #[] #[]] 106)
    have kL12 := (kL10.below' hB11).alloc (.cells #[.int .i64 k, .string nm, .bool kl, .slice A9 n9 c9, .func (.func j1) #[] #[], .func (.func j2) #[] #[]] 106)
    have kG12 := (kG10.below' hB11).alloc (.cells #[.int .i64 k, .string nm, .bool kl, .slice A9 n9 c9, .func (.func j1) #[] #[], .func (.func j2) #[] #[]] 106)
    have kF12 := (kF10.below' hB11).alloc (.cells #[.int .i64 k, .string nm, .bool kl, .slice A9 n9 c9, .func (.func j1) #[] #[], .func (.func j2) #[] #[]] 106)
    have q11 := q10.trans (hB11.mono q10.size)
    have q12 := q11.alloc q11.size (.cells #[.int .i64 k, .string nm, .bool kl, .slice A9 n9 c9, .func (.func j1) #[] #[], .func (.func j2) #[] #[]] 106)
    clear kR10 kS10 kL10 kG10 kF10
    have f0 := kF12.cell 0 (.int .i64 k) rfl
    have f1 := kF12.cell 1 (.int .i64 ST) rfl
    have f2 := kF12.cell 2 (.int .i64 0) rfl
    have f3 := kF12.cell 3 (.int .i64 (c.toNat : Int)) rfl
    have fl := kF12.lt
    go_wp2_with fail
    clear f0 f1 f2 f3 fl
    generalize w11.alloc (.cells #[.int .i64 k, .string nm, .bool kl, .slice A9 n9 c9, .func (.func j1) #[] #[], .func (.func j2) #[] #[]] 106) = w12 at *
    refine (fwrite_any g (i * 6) k ST (0) ((c.toNat : Int)) hok.out _ (hDt.below q12) (kG12.cell (i * 6) _ hG0) (kG12.cell (i * 6 + 1) _ HG1.out) (kG12.cell (i * 6 + 2) _ HG2.out)).mono ?_
    rintro e w13 ⟨rfl, hB13⟩
    rw [hY.out]
    have kF13 := kF12.below' hB13
    have kR13 := kR12.below' hB13
    have q13 := q12.trans (hB13.mono q12.size)
    have f0 := kF13.cell 0 (.int .i64 k) rfl
    have f1 := kF13.cell 1 (.int .i64 ST) rfl
    have f2 := kF13.cell 2 (.int .i64 0) rfl
    have f3 := kF13.cell 3 (.int .i64 (c.toNat : Int)) rfl
    have fl := kF13.lt
    have y0 := kR13.cell 0 (.int .i64 0) rfl
    have u0 := kR13.frozen 0
    have kR13a := kR13.set_ 0 (.int .i64 0)
    have y1 := kR13a.cell 1 (.int .i64 0) rfl
    have u1 := kR13a.frozen 1
    have kR13b := kR13a.set_ 1 (.int .i64 0)
    have y2 := kR13b.cell 2 (.int .i64 0) rfl
    have u2 := kR13b.frozen 2
    have kR13c := kR13b.set_ 2 (.int .i64 0)
    have y3 := kR13c.cell 3 (.int .i64 0) rfl
    have u3 := kR13c.frozen 3
    have kR13d := kR13c.set_ 3 (.int .i64 0)
    have bxl := kR13.lt
    go_wp2_with fail
    refine flt_ret2F rfl rfl (g := w.heap.size) (by simpa using kR13d) rfl ?_
    exact ⟨rfl, ((((q13.setCell (p := ⟨w.heap.size, 0, none⟩) (Nat.le_refl _) _).setCell (p := ⟨w.heap.size, 1, none⟩) (Nat.le_refl _) _).setCell (p := ⟨w.heap.size, 2, none⟩) (Nat.le_refl _) _).setCell (p := ⟨w.heap.size, 3, none⟩) (Nat.le_refl _) _)⟩
end Go.Proofs.YtmfklcnocekdlaaGreatDoor
