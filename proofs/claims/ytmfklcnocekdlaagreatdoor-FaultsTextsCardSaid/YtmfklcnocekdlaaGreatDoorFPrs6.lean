/- faults: Parse (all). -/
import Derived.Test.YtmfklcnocekdlaaGreatDoorFPrs1
import Derived.Test.YtmfklcnocekdlaaGreatDoorFPrs2
import Derived.Test.YtmfklcnocekdlaaGreatDoorFPrs3
import Derived.Test.YtmfklcnocekdlaaGreatDoorPut
set_option linter.unusedSimpArgs false
set_option linter.unusedVariables false
namespace Go.Proofs.YtmfklcnocekdlaaGreatDoor
open Go Go.RowKit Tor

set_option maxRecDepth 100000 in
set_option maxHeartbeats 8000000 in
theorem fprs_F1 (L : List UInt8) (hkI : kindI ((spl 32 L).getD 0 []) = 0) (hl : L.length ≤ 1000000) (w : World) (hDt : DtAt w) :
    Calls Tryz.prog 20 #[.string (bN L)] w (Ret (.tuple #[.agg (parseF L).1.enc, .int .i64 (parseF L).2]) w) := by
  have hP : Hid (parseF L = (⟨0, 0, 0, 0⟩, 6)) := Lib.hid (by unfold parseF; rw [if_pos (.inl hkI)])
  rw [hP.out]
  clear hP
  have HSP := Lib.hid (fun w' (hB : Below w.heap.size w w') => splitF_any L w' (hDt.below hB) (by omega))
  obtain ⟨AS, hAS⟩ : ∃ AS, Hid (((spl 32 L).map fun t => Value.string (bN t)).toArray = AS) := ⟨_, Lib.hid rfl⟩
  have hpos : 0 < (spl 32 L).length := List.length_pos_iff.2 (spl_ne 32 L)
  have hA0 : AS[0]? = some (.string (bN ((spl 32 L).getD 0 []))) := by rw [← hAS.out]; simp [List.getElem?_eq_getElem hpos, List.getD_eq_getElem?_getD]
  obtain ⟨s0, hs0⟩ : ∃ x, Hid ((spl 32 L).getD 0 [] = x) := ⟨_, Lib.hid rfl⟩
  rw [hs0.out] at hA0 hkI
  obtain ⟨n, hn⟩ : ∃ n, Hid ((spl 32 L).length = n) := ⟨_, Lib.hid rfl⟩
  rw [hAS.out, hn.out] at HSP
  rw [hn.out] at hpos
  have HN := Lib.hid hpos
  have hle := kindI_le s0
  have hI0 : kindI s0 - 1 = -1 := by omega
  have HI0 := Lib.hid hI0
  clear hI0
  clear hpos hle hl hkI
  obtain ⟨w1, hw1⟩ : ∃ w1, Hid ((((w.alloc (.cells #[.int .i64 0, .int .i64 0, .int .i64 0, .int .i64 0] 41)).alloc (.cells AS 9)).alloc (.cells #[.slice (some ⟨w.heap.size + 1, 0, none⟩) n n] 115)) = w1) := ⟨_, Lib.hid rfl⟩
  have kR1 : Blk w1 w.heap.size 41 #[.int .i64 0, .int .i64 0, .int .i64 0, .int .i64 0] := by rw [← hw1.out]; exact ((Blk.new w _ _).alloc _).alloc _
  have kS1 : Blk w1 (w.heap.size + 1) 9 AS := by
    rw [← hw1.out]; have := (Blk.new (w.alloc (.cells #[.int .i64 0, .int .i64 0, .int .i64 0, .int .i64 0] 41)) 9 AS).alloc (.cells #[.slice (some ⟨w.heap.size + 1, 0, none⟩) n n] 115); rw [World.size_alloc] at this; exact this
  have kL1 : Blk w1 (w.heap.size + 1 + 1) 115 #[.slice (some ⟨w.heap.size + 1, 0, none⟩) n n] := by
    rw [← hw1.out]; have := Blk.new ((w.alloc (.cells #[.int .i64 0, .int .i64 0, .int .i64 0, .int .i64 0] 41)).alloc (.cells AS 9)) 115 #[.slice (some ⟨w.heap.size + 1, 0, none⟩) n n]; rw [World.size_alloc, World.size_alloc] at this; exact this
  have q1 : Below w.heap.size w w1 := by rw [← hw1.out]; exact (((Below.refl _ _).alloc (Nat.le_refl _) _).alloc (by simp) _).alloc (by simp; omega) _
  have qR : Below w.heap.size w (w.alloc (.cells #[.int .i64 0, .int .i64 0, .int .i64 0, .int .i64 0] 41)) := (Below.refl _ _).alloc (Nat.le_refl _) _
  go_enter Tryz.func20, Tryz.ntmps20
  go_wp2_with fail
  refine (HSP.out _ qR).mono ?_
  rintro e _ ⟨rfl, rfl⟩
  go_wp2_with fail
  rw [hw1.out]
  clear hw1 qR
  refine (kinds_any w1).mono ?_
  rintro e w2 ⟨g, K, rfl, hK, hB2⟩
  have kR2 := kR1.below' hB2
  have kS2 := kS1.below' hB2
  have kL2 := kL1.below' hB2
  have q2 := q1.trans (hB2.mono q1.size)
  clear kR1 kS1 kL1
  have HIX := Lib.hid (findex_any (w.heap.size + 1 + 1) (w.heap.size + 1) n g w2.heap.size K s0 HN.out w2 hK (Nat.le_refl _) (kL2.cell 0 _ rfl) (kS2.cell 0 _ hA0))
  rw [HI0.out] at HIX
  go_wp2_with fail
  refine HIX.out.mono ?_
  rintro e w3 ⟨rfl, hB3⟩
  have kR3 := kR2.below' hB3
  have kS3 := kS2.below' hB3
  have kL3 := kL2.below' hB3
  have q3 := q2.trans (hB3.mono q2.size)
  have x30 := kL3.cell 0 (.slice (some ⟨w.heap.size + 1, 0, none⟩) n n) rfl
  have y0 := kR3.cell 0 (.int .i64 0) rfl
  have u0 := kR3.frozen 0
  have y1 := kR3.cell 1 (.int .i64 0) rfl
  have u1 := kR3.frozen 1
  have y2 := kR3.cell 2 (.int .i64 0) rfl
  have u2 := kR3.frozen 2
  have y3 := kR3.cell 3 (.int .i64 0) rfl
  have u3 := kR3.frozen 3
  have bxl := kR3.lt
  go_wp2_with fail
  refine flt_ret2F rfl rfl (g := w.heap.size) (by simpa using (((kR3.set_ 0 (.int .i64 0)).set_ 1 (.int .i64 0)).set_ 2 (.int .i64 0)).set_ 3 (.int .i64 0)) rfl ?_
  exact ⟨rfl, ((((q3.setCell (p := ⟨w.heap.size, 0, none⟩) (Nat.le_refl _) _).setCell (p := ⟨w.heap.size, 1, none⟩) (Nat.le_refl _) _).setCell (p := ⟨w.heap.size, 2, none⟩) (Nat.le_refl _) _).setCell (p := ⟨w.heap.size, 3, none⟩) (Nat.le_refl _) _)⟩
set_option maxRecDepth 100000 in
set_option maxHeartbeats 8000000 in
theorem fprs_F2 (L : List UInt8) (hkI : kindI ((spl 32 L).getD 0 []) ≠ 0) (hn2 : (spl 32 L).length < 2) (hl : L.length ≤ 1000000) (w : World) (hDt : DtAt w) :
    Calls Tryz.prog 20 #[.string (bN L)] w (Ret (.tuple #[.agg (parseF L).1.enc, .int .i64 (parseF L).2]) w) := by
  have hP : Hid (parseF L = (⟨0, 0, 0, 0⟩, 6)) := Lib.hid (by unfold parseF; rw [if_pos (.inr hn2)])
  rw [hP.out]
  clear hP
  have HSP := Lib.hid (fun w' (hB : Below w.heap.size w w') => splitF_any L w' (hDt.below hB) (by omega))
  obtain ⟨AS, hAS⟩ : ∃ AS, Hid (((spl 32 L).map fun t => Value.string (bN t)).toArray = AS) := ⟨_, Lib.hid rfl⟩
  have hpos : 0 < (spl 32 L).length := List.length_pos_iff.2 (spl_ne 32 L)
  have hA0 : AS[0]? = some (.string (bN ((spl 32 L).getD 0 []))) := by rw [← hAS.out]; simp [List.getElem?_eq_getElem hpos, List.getD_eq_getElem?_getD]
  obtain ⟨s0, hs0⟩ : ∃ x, Hid ((spl 32 L).getD 0 [] = x) := ⟨_, Lib.hid rfl⟩
  rw [hs0.out] at hA0 hkI
  obtain ⟨n, hn⟩ : ∃ n, Hid ((spl 32 L).length = n) := ⟨_, Lib.hid rfl⟩
  rw [hAS.out, hn.out] at HSP
  rw [hn.out] at hpos
  have HN := Lib.hid hpos
  have hle := kindI_le s0
  have e2 : (n : Int) < 2 := by have := hn.out; omega
  have i9 : ¬ kindI s0 - 1 < 0 := by omega
  obtain ⟨J, hJ⟩ : ∃ J, Hid (kindI s0 - 1 = J) := ⟨_, Lib.hid rfl⟩
  rw [hJ.out] at i9
  clear hpos hle hl hkI hn2
  obtain ⟨w1, hw1⟩ : ∃ w1, Hid ((((w.alloc (.cells #[.int .i64 0, .int .i64 0, .int .i64 0, .int .i64 0] 41)).alloc (.cells AS 9)).alloc (.cells #[.slice (some ⟨w.heap.size + 1, 0, none⟩) n n] 115)) = w1) := ⟨_, Lib.hid rfl⟩
  have kR1 : Blk w1 w.heap.size 41 #[.int .i64 0, .int .i64 0, .int .i64 0, .int .i64 0] := by rw [← hw1.out]; exact ((Blk.new w _ _).alloc _).alloc _
  have kS1 : Blk w1 (w.heap.size + 1) 9 AS := by
    rw [← hw1.out]; have := (Blk.new (w.alloc (.cells #[.int .i64 0, .int .i64 0, .int .i64 0, .int .i64 0] 41)) 9 AS).alloc (.cells #[.slice (some ⟨w.heap.size + 1, 0, none⟩) n n] 115); rw [World.size_alloc] at this; exact this
  have kL1 : Blk w1 (w.heap.size + 1 + 1) 115 #[.slice (some ⟨w.heap.size + 1, 0, none⟩) n n] := by
    rw [← hw1.out]; have := Blk.new ((w.alloc (.cells #[.int .i64 0, .int .i64 0, .int .i64 0, .int .i64 0] 41)).alloc (.cells AS 9)) 115 #[.slice (some ⟨w.heap.size + 1, 0, none⟩) n n]; rw [World.size_alloc, World.size_alloc] at this; exact this
  have q1 : Below w.heap.size w w1 := by rw [← hw1.out]; exact (((Below.refl _ _).alloc (Nat.le_refl _) _).alloc (by simp) _).alloc (by simp; omega) _
  have qR : Below w.heap.size w (w.alloc (.cells #[.int .i64 0, .int .i64 0, .int .i64 0, .int .i64 0] 41)) := (Below.refl _ _).alloc (Nat.le_refl _) _
  go_enter Tryz.func20, Tryz.ntmps20
  go_wp2_with fail
  refine (HSP.out _ qR).mono ?_
  rintro e _ ⟨rfl, rfl⟩
  go_wp2_with fail
  rw [hw1.out]
  clear hw1 qR
  refine (kinds_any w1).mono ?_
  rintro e w2 ⟨g, K, rfl, hK, hB2⟩
  have kR2 := kR1.below' hB2
  have kS2 := kS1.below' hB2
  have kL2 := kL1.below' hB2
  have q2 := q1.trans (hB2.mono q1.size)
  clear kR1 kS1 kL1
  have HIX := Lib.hid (findex_any (w.heap.size + 1 + 1) (w.heap.size + 1) n g w2.heap.size K s0 HN.out w2 hK (Nat.le_refl _) (kL2.cell 0 _ rfl) (kS2.cell 0 _ hA0))
  rw [hJ.out] at HIX
  go_wp2_with fail
  refine HIX.out.mono ?_
  rintro e w3 ⟨rfl, hB3⟩
  have kR3 := kR2.below' hB3
  have kS3 := kS2.below' hB3
  have kL3 := kL2.below' hB3
  have q3 := q2.trans (hB3.mono q2.size)
  have x30 := kL3.cell 0 (.slice (some ⟨w.heap.size + 1, 0, none⟩) n n) rfl
  have y0 := kR3.cell 0 (.int .i64 0) rfl
  have u0 := kR3.frozen 0
  have y1 := kR3.cell 1 (.int .i64 0) rfl
  have u1 := kR3.frozen 1
  have y2 := kR3.cell 2 (.int .i64 0) rfl
  have u2 := kR3.frozen 2
  have y3 := kR3.cell 3 (.int .i64 0) rfl
  have u3 := kR3.frozen 3
  have bxl := kR3.lt
  go_wp2_with fail
  refine flt_ret2F rfl rfl (g := w.heap.size) (by simpa using (((kR3.set_ 0 (.int .i64 0)).set_ 1 (.int .i64 0)).set_ 2 (.int .i64 0)).set_ 3 (.int .i64 0)) rfl ?_
  exact ⟨rfl, ((((q3.setCell (p := ⟨w.heap.size, 0, none⟩) (Nat.le_refl _) _).setCell (p := ⟨w.heap.size, 1, none⟩) (Nat.le_refl _) _).setCell (p := ⟨w.heap.size, 2, none⟩) (Nat.le_refl _) _).setCell (p := ⟨w.heap.size, 3, none⟩) (Nat.le_refl _) _)⟩
theorem fparse_any (L : List UInt8) (hl : L.length ≤ 1000000) (w : World) (hDt : DtAt w) :
    Calls Tryz.prog 20 #[.string (bN L)] w (Ret (.tuple #[.agg (parseF L).1.enc, .int .i64 (parseF L).2]) w) := by
  by_cases h0 : kindI ((spl 32 L).getD 0 []) = 0
  · exact fprs_F1 L h0 hl w hDt
  by_cases hn : (spl 32 L).length < 2
  · exact fprs_F2 L h0 hn hl w hDt
  have hle := kindI_le ((spl 32 L).getD 0 [])
  obtain ⟨i, hi, hk⟩ : ∃ i : Nat, i < 6 ∧ kindI ((spl 32 L).getD 0 []) = (i : Int) + 1 := ⟨(kindI ((spl 32 L).getD 0 []) - 1).toNat, by omega, by omega⟩
  have hn2 : 2 ≤ (spl 32 L).length := by omega
  by_cases cA : i = 0 ∨ i = 2
  · by_cases h2 : 2 < (spl 32 L).length
    · exact fprs_AL L i hi hk hn2 cA h2 hl w hDt
    · exact fprs_AS L i hi hk hn2 cA h2 hl w hDt
  by_cases cB : i = 1
  · cases hla : ((spl 32 L).getD ((spl 32 L).length - 1) []) with
    | nil =>
      by_cases h2 : 2 < (spl 32 L).length
      · exact fprs_BLE L i hi hk hn2 cB h2 hla hl w hDt
      · exact fprs_BSE L i hi hk hn2 cB h2 hla hl w hDt
    | cons c tl =>
      by_cases h2 : 2 < (spl 32 L).length
      · exact fprs_BLN L i hi hk hn2 cB h2 c tl hla hl w hDt
      · exact fprs_BSN L i hi hk hn2 cB h2 c tl hla hl w hDt
  by_cases cC : i = 4
  · exact fprs_C L i hi hk hn2 cC hl w hDt
  have cD : i = 3 ∨ i = 5 := by omega
  exact fprs_D L i hi hk hn2 cD hl w hDt
end Go.Proofs.YtmfklcnocekdlaaGreatDoor
