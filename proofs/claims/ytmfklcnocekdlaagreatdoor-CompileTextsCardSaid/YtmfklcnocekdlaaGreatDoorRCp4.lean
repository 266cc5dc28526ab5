/- torchonref15: Parse. -/
import Derived.Test.YtmfklcnocekdlaaGreatDoorRCp3
import Derived.Test.YtmfklcnocekdlaaGreatDoorCParse
set_option linter.unusedSimpArgs false
set_option linter.unusedVariables false
namespace Go.Proofs.YtmfklcnocekdlaaGreatDoor
open Go Go.RowKit Tor

theorem rangeSl15 (L : List UInt8) (f j : Nat) (hfj : f ≤ j) (hj : j ≤ L.length) (hs : L.length ≤ 4000000) (y : List UInt8) (hy : (L.take j).drop f = y) (W : World) :
    (Instr.slice 9 (.string (bN L)) (some (.int .i64 (f : Int))) (some (.int .i64 (j : Int))) none).run Tryz.prog W = .ok (.string (bN y)) W := by
  have hz : (bN L).size = L.length := rfl
  have := run_slice_string (P := Tryz.prog) W 9 (bN L) .i64 .i64 (f : Int) (j : Int) Tryz.underlying9 (by omega) (by omega) (by rw [hz]; omega)
  have he : (bN L).extract f j = bN y := by
    refine ByteArray.ext (Array.ext' ?_)
    rw [ByteArray.data_extract]
    simp only [bN, Array.toList_extract, List.extract_eq_take_drop]
    rw [← hy, List.drop_take]
  rw [Int.toNat_natCast, Int.toNat_natCast, he] at this
  exact this
/-- at a line's end -/
theorem spl_at {L : List UInt8} {f i : Nat} (hfi : f ≤ i) (hi : i < L.length) (hno : ∀ c ∈ (L.take i).drop f, c ≠ 10) (h10 : L[i] = 10) : spl 10 (L.drop f) = (L.take i).drop f :: spl 10 (L.drop (i + 1)) := by
  have e : L.drop f = (L.take i).drop f ++ 10 :: L.drop (i + 1) := by
    conv => lhs; rw [← List.take_append_drop i L, List.drop_append_of_le_length (by rw [List.length_take]; omega), List.drop_eq_getElem_cons hi, h10]
  rw [e, spl10_app _ _ hno]
set_option maxRecDepth 100000 in
set_option maxHeartbeats 8000000 in
theorem rparse15_any (L : List UInt8) (w : World) (hl : L.length ≤ 1000000) : Calls Tryz.prog 10 #[.string (bN L)] w (CpRet w (parseC L)) := by
  have hz : (bN L).size = L.length := rfl
  by_cases h4 : 40000 < L.length
  · have hP : Hid (parseC L = ([], 0, 3)) := by rw [Hid]; unfold parseC; rw [if_pos h4]
    rw [hP.out]
    have i1 : (40000 : Int) < (L.length : Int) := by omega
    clear h4 hP
    go_enter Tryz.func10, Tryz.ntmps10
    go_wp2_with fail
    go_ret3
    exact ⟨_, rfl, Own.nil _ _ _, Below.refl _ _⟩
  have i1 : ¬ (40000 : Int) < (L.length : Int) := by omega
  obtain ⟨R, hR⟩ : ∃ R, Hid (parseC L = R) := ⟨_, Lib.hid rfl⟩
  have hR2 : Hid (R = goC 1 [] (spl 10 L)) := by rw [Hid, ← hR.out]; unfold parseC; rw [if_neg h4]
  rw [hR.out]
  obtain ⟨i0, hi0, hz0', hz1', hz2'⟩ := info_parts infoStep
  clear hR h4
  go_enter Tryz.func10, Tryz.ntmps10
  go_wp2_with fail
  go_loopw [5, 6, 7, 8] (fun lv fv kv iv wr => ∃ (i f k : Nat) (acc : List Tri), i ≤ L.length ∧ f ≤ i ∧ iv = .int .i64 i ∧ fv = .int .i64 f ∧ kv = .int .i64 k ∧ k ≤ 1001 ∧ acc.length ≤ k ∧ Hid (R = goC k acc (spl 10 (L.drop f))) ∧ Hid (∀ c ∈ (L.take i).drop f, c ≠ 10) ∧ Tor.Own 3 Tri.enc wr w.heap.size 52 lv acc ∧ Below w.heap.size w wr) (fun _ _ _ i _ => L.length - (intOf i).toNat)
  case atStart => exact ⟨0, 0, 1, [], by omega, by omega, rfl, rfl, rfl, by omega, by simp, hR2, Lib.hid (fun c hc => by simp at hc), Own.nil _ _ _, Below.refl _ _⟩
  case round =>
    obtain ⟨i, f, k, acc, hi, hf, rfl, rfl, rfl, hk, hak, hst, hno, hown, hB⟩ := hrel
    obtain ⟨wo, rfl⟩ : ∃ wo : World, wo = wr := ⟨_, rfl⟩
    have hs0 := hB.size
    obtain ⟨Av, cv, rfl, _, _⟩ := Tor.Own.rd tri_len hown
    by_cases hlt : i < L.length
    · have a1 : (i : Int) < (L.length : Int) := by omega
      obtain ⟨d, hd⟩ : ∃ d, Hid (L[i]'hlt = d) := ⟨_, Lib.hid rfl⟩
      have hsz : i < (bN L).size := hlt
      have hcb : (bN L)[i]'hsz = d := hd.out
      by_cases h10 : d = 10
      · have e1 : ((d.toNat : Int) != 10) = false := by rw [h10]; rfl
        obtain ⟨y, hy⟩ : ∃ y, Hid ((L.take i).drop f = y) := ⟨_, Lib.hid rfl⟩
        have hspl := spl_at hf hlt hno.out (by rw [hd.out, h10])
        rw [hy.out] at hspl
        rw [hspl] at hst
        have hyl : y.length ≤ 1000000 := by rw [← hy.out, List.length_drop, List.length_take]; omega
        have HSl := rangeSl15 L f i hf (by omega) (by omega) y hy.out
        have hno2 : Hid (∀ c ∈ (L.take (i + 1)).drop (i + 1), c ≠ 10) := Lib.hid (fun c hc => by
          rw [List.drop_of_length_le (by rw [List.length_take]; omega)] at hc; simp at hc)
        clear hspl hno hd h10 hy
        by_cases hk1 : 1000 < k
        · have k1 : (1000 : Int) < (k : Int) := by omega
          have hE : Hid (R = ([], k, 3)) := by rw [Hid, hst.out, goC_long hk1]
          clear hst hk1
          go_wp2_with fail
          go_ret3
          rw [hE.out]
          exact ⟨_, rfl, Own.nil _ _ _, hB⟩
        · have k1 : ¬ (1000 : Int) < (k : Int) := by omega
          have HR := Lib.hid (fun w' => rread15_any y w' hyl)
          cases hrd : readC y with
          | none =>
            have hE : Hid (R = ([], k, 6)) := by rw [Hid, hst.out, goC_bad hk1 hrd]
            have hok : Hid ((readC y).isSome = false) := Lib.hid (by rw [hrd]; rfl)
            clear hst hk1 hrd
            go_wp2_with fail
            refine (HR.out _).mono ?_
            rintro e w3 ⟨x, rfl, _, hB3⟩
            rw [hok.out]
            have hB3' := hB.trans (hB3.mono hB.size)
            go_wp2_with fail
            go_ret3
            rw [hE.out]
            exact ⟨_, rfl, Own.nil _ _ _, hB3'.alloc hB3'.size _⟩
          | some z =>
            have hN : Hid (R = goC (k + 1) (acc ++ [z]) (spl 10 (L.drop (i + 1)))) := by rw [Hid, hst.out, goC_next hk1 hrd]
            have hok : Hid ((readC y).isSome = true) := Lib.hid (by rw [hrd]; rfl)
            have hyz : Hid (∀ x, (∀ u, readC y = some u → x = u) → x = z) := Lib.hid (fun x hx => hx z hrd)
            have hak2 : acc.length ≤ 1000000 := by omega
            clear hst hrd
            go_wp2_with fail
            refine (HR.out _).mono ?_
            rintro e w3 ⟨x, rfl, hx, hB3⟩
            have hxy := hyz.out x hx
            subst hxy
            clear hx
            rw [hok.out]
            have hB3' := hB.trans (hB3.mono hB.size)
            have own3 := hown.below hB3
            have z3 := hB3'.size
            have kXX : Hid (Blk ((w3.alloc (.cells #[.int .i64 x.a, .int .i64 x.b, .string x.s] 52)).alloc (.cells #[.int .i64 x.a, .int .i64 x.b, .string x.s] 52)) (w3.heap.size + 1) 52 #[.int .i64 x.a, .int .i64 x.b, .string x.s]) := by
              have hsz : (w3.alloc (.cells #[.int .i64 x.a, .int .i64 x.b, .string x.s] 52)).heap.size = w3.heap.size + 1 := by simp
              have := Blk.new (w3.alloc (.cells #[.int .i64 x.a, .int .i64 x.b, .string x.s] 52)) 52 #[.int .i64 x.a, .int .i64 x.b, .string x.s]
              rw [hsz] at this
              exact this
            have hBx := hB3'.alloc hB3'.size (.cells #[.int .i64 x.a, .int .i64 x.b, .string x.s] 52)
            have ownx := own3.alloc (.cells #[.int .i64 x.a, .int .i64 x.b, .string x.s] 52)
            go_wp2_with (first
              | (at_builtin
                 refine wpList_append_tri rfl (.tmp 38) (.tmp 40) _ rfl w.heap.size _ i0 _ Tryz.underlying22 hi0 hz0' hz1' hz2' rfl (.slice Av acc.length cv) acc rfl (ownx.alloc (.cells #[.int .i64 x.a, .int .i64 x.b, .string x.s] 52)) _ x rfl (kXX.out.cell 0 _ rfl) (kXX.out.cell 1 _ rfl) (kXX.out.cell 2 _ rfl) hak2 (by simp; omega) ?_
                 intro v8 w8 hown8 hg8)
              | fail)
            have hB8 := (ownx.alloc (.cells #[.int .i64 x.a, .int .i64 x.b, .string x.s] 52)).grown (hBx.alloc hBx.size (.cells #[.int .i64 x.a, .int .i64 x.b, .string x.s] 52)) hg8 (by simp; omega)
            go_roundw
            case rel => exact ⟨i + 1, i + 1, k + 1, acc ++ [x], by omega, by omega, by go_num, by go_num, by go_num, by omega, by rw [List.length_append]; simp; omega, hN, hno2, hown8, hB8⟩
            case measure => simp [intOf]; omega
      · have e1 : ((d.toNat : Int) != 10) = true := by
          rw [bne_iff_ne]; exact fun he => h10 (UInt8.toNat.inj (by show d.toNat = 10; omega))
        have hno2 : Hid (∀ c ∈ (L.take (i + 1)).drop f, c ≠ 10) := Lib.hid (fun c hc => by
          rw [List.take_add_one, List.getElem?_eq_getElem hlt, hd.out, List.drop_append_of_le_length (by rw [List.length_take]; omega)] at hc
          rcases List.mem_append.1 hc with hc | hc
          · exact hno.out c hc
          · simp at hc; rw [hc]; exact h10)
        clear hno hd h10
        go_wp2_with fail
        go_roundw
        case rel => exact ⟨i + 1, f, k, acc, by omega, by omega, by go_num, rfl, rfl, hk, hak, hst, hno2, hown, hB⟩
        case measure => simp [intOf]; omega
    · obtain rfl : i = L.length := by omega
      have a1 : ¬ (L.length : Int) < (L.length : Int) := by omega
      have hlast : spl 10 (L.drop f) = [L.drop f] := spl10_none _ (fun c hc => hno.out c (by rw [List.take_length]; exact hc))
      rw [hlast] at hst
      by_cases hfl : f < L.length
      · have b1 : (f : Int) < (L.length : Int) := by omega
        have hne : L.drop f ≠ [] := fun e => by have := congrArg List.length e; rw [List.length_drop] at this; simp at this; omega
        rw [goC_last hne] at hst
        clear hno hlast hne
        by_cases hk1 : 1000 < k
        · have k1 : (1000 : Int) < (k : Int) := by omega
          have hE : Hid (R = ([], k, 3)) := by rw [Hid, hst.out, if_pos hk1]
          clear hst hk1
          go_wp2_with fail
          go_ret3
          rw [hE.out]
          exact ⟨_, rfl, Own.nil _ _ _, hB⟩
        · have k1 : ¬ (1000 : Int) < (k : Int) := by omega
          have hE : Hid (R = ([], k, 6)) := by rw [Hid, hst.out, if_neg hk1]
          clear hst hk1
          go_wp2_with fail
          go_ret3
          rw [hE.out]
          exact ⟨_, rfl, Own.nil _ _ _, hB⟩
      · have b1 : ¬ (f : Int) < (L.length : Int) := by omega
        have hE : Hid (R = (acc, 0, 0)) := by rw [Hid, hst.out, List.drop_of_length_le (by omega)]; exact goC_end
        clear hst hno hlast
        go_wp2_with fail
        go_ret3
        rw [hE.out]
        exact ⟨_, rfl, hown, hB⟩
end Go.Proofs.YtmfklcnocekdlaaGreatDoor
