/- torchonref01: Split. -/
import Derived.Test.YtohcmfobnkaaiaaDoorRSplM
import Derived.Test.YtohcmfobnkaaiaaDoorLaw01
import Derived.Test.YtohcmfobnkaaiaaDoorLines
set_option linter.unusedSimpArgs false
set_option linter.unusedVariables false
namespace Go.Proofs.YtohcmfobnkaaiaaDoor
open Go Go.RowKit Tor

theorem rspl_unf (n : Nat) {s : List UInt8} (h : s ≠ []) : rsplG (n + 1) s = (fieldP (s.take (rendK s))).bind fun x =>
    if rendK s < s.length ∧ (s[rendK s]? ≠ some 32 ∨ rendK s + 1 = s.length) then none else (rsplG n (s.drop (rendK s + 1))).map (x :: ·) := by
  rw [rsplG, if_neg h]
  cases fieldP (s.take (rendK s)) <;> rfl
def resS : Option (List Fld) → List Fld × Int
  | none => ([], 6)
  | some l => if 64 < l.length then ([], 3) else (l, 0)
def RFldsRet (w : World) (l : List Fld) (n : Int) (e : Ending) (w' : World) : Prop := ∃ v, e = .returned (.tuple #[v, .int .i64 n]) ∧ Tor.Own 2 fenc w' w.heap.size 59 v l ∧ Below w.heap.size w w'
set_option maxRecDepth 100000 in
set_option maxHeartbeats 4000000 in
theorem rsplit_any (L : List UInt8) (w : World) (hs : L.length ≤ 1000000) : Calls Tryd.prog 31 #[.string (bN L)] w (RFldsRet w (splitP L).1 (splitP L).2) := by
  have hz : (bN L).size = L.length := rfl
  by_cases h1 : 4096 < L.length
  · have hP : Hid (splitP L = ([], 3)) := by rw [Hid]; unfold splitP; rw [if_pos h1]
    rw [hP.out]
    have i1 : (4096 : Int) < L.length := by omega
    clear h1 hP
    go_enter Tryd.func31, Tryd.ntmps31
    go_wp2_with fail
    go_ret2
    exact ⟨_, rfl, Own.nil _ _ _, Below.refl _ _⟩
  have i1 : ¬ (4096 : Int) < L.length := by omega
  have hPr : Hid (splitP L = resS (rsplG L.length L)) := by rw [Hid, splitP_r h1]; rfl
  obtain ⟨R, hR⟩ : ∃ R, Hid (rsplG L.length L = R) := ⟨_, Lib.hid rfl⟩
  obtain ⟨res, hres⟩ : ∃ r, Hid (splitP L = r) := ⟨_, Lib.hid rfl⟩
  rw [hres.out]
  have hRes : Hid (res = resS R) := by rw [Hid, ← hres.out, hPr.out, hR.out]
  clear hPr hres h1
  obtain ⟨i0, hi0, hz0', hz1', hz2'⟩ := info_parts infoRFld
  go_enter Tryd.func31, Tryd.ntmps31
  go_wp2_with fail
  go_loopw [4, 5] (fun ov fv wr => ∃ (k n : Nat) (O : List Fld), k ≤ L.length + 1 ∧ fv = .int .i64 k ∧ O.length ≤ k ∧ Tor.Own 2 fenc wr w.heap.size 59 ov O ∧ (L.drop k).length ≤ n ∧ Hid (R = (rsplG n (L.drop k)).map (O ++ ·)) ∧ Below w.heap.size w wr) (fun _ i _ => L.length + 1 - (intOf i).toNat)
  case atStart => exact ⟨0, L.length, [], Nat.zero_le _, rfl, Nat.le_refl _, Own.nil _ _ _, by simp, Lib.hid (by rw [← hR.out]; simp), Below.refl _ _⟩
  case round =>
    obtain ⟨k, n, O, hk, rfl, hOl, ho, hn, hO, hB⟩ := hrel
    obtain ⟨W, rfl⟩ : ∃ wo : World, wo = wr := ⟨_, rfl⟩
    obtain ⟨Av, cv, rfl, _, _⟩ := Own.rd fenc_len ho
    by_cases hlt : k < L.length
    · have a1 : (k : Int) < L.length := by omega
      have HE := Lib.hid (fun w' => rend_any L k hlt hs w')
      have hrk : rendK (L.drop k) ≤ L.length - k := by
        cases hd : L.drop k with
        | nil => simp [rendK]
        | cons c r =>
          have hl := congrArg List.length hd
          rw [List.length_drop, List.length_cons] at hl
          rw [rendK]
          have h1 := rqu_le r
          have h2 := rbl_le (c :: r)
          simp at h2
          split <;> omega
      obtain ⟨e, he⟩ : ∃ e, Hid (k + rendK (L.drop k) = e) := ⟨_, Lib.hid rfl⟩
      rw [he.out] at HE
      have hke : k ≤ e := by rw [← he.out]; omega
      have heL : e ≤ L.length := by rw [← he.out]; omega
      obtain ⟨y, hy⟩ : ∃ y, Hid ((L.take e).drop k = y) := ⟨_, Lib.hid rfl⟩
      have HSl := rangeSl L k e hke heL (by omega) y hy.out
      obtain ⟨c, hc⟩ : ∃ c, Hid (L[k]'hlt = c) := ⟨_, Lib.hid rfl⟩
      have hsz : k < (bN L).size := hlt
      have hcb : (bN L)[k]'hsz = c := hc.out
      have hs1 := hB.size
      have hsne : L.drop k ≠ [] := fun e => by have := congrArg List.length e; rw [List.length_drop] at this; simp at this; omega
      obtain ⟨n', rfl⟩ : ∃ n', n = n' + 1 := ⟨n - 1, by rw [List.length_drop] at hn; omega⟩
      have hyt : (L.drop k).take (rendK (L.drop k)) = y := by rw [← hy.out, List.drop_take, ← he.out]; congr 1; omega
      have heo := he.out
      have hun := hO.out
      rw [rspl_unf n' hsne, hyt, List.length_drop, List.getElem?_drop, he.out, List.drop_drop] at hun
      have hR1 : fieldP y = none → Hid (R = none) := fun h => by rw [Hid, hun, h]; rfl
      have hR2 : ∀ x, fieldP y = some x → (e < L.length ∧ (L[e]? ≠ some 32 ∨ e + 1 = L.length)) → Hid (R = none) := fun x h hb => by
        rw [Hid, hun, h, Option.bind_some, if_pos ⟨by omega, by rcases hb.2 with h | h; exact .inl h; exact .inr (by omega)⟩]; rfl
      have hR3 : ∀ x, fieldP y = some x → ¬ (e < L.length ∧ (L[e]? ≠ some 32 ∨ e + 1 = L.length)) → Hid (R = (rsplG n' (L.drop (e + 1))).map ((O ++ [x]) ++ ·) ∧ (L.drop (e + 1)).length ≤ n') := fun x h hb => by
        refine Lib.hid ⟨?_, by rw [List.length_drop] at hn ⊢; omega⟩
        rw [hun, h, Option.bind_some, if_neg (fun h => hb ⟨by omega, by rcases h.2 with h | h; exact .inl h; exact .inr (by omega)⟩), Option.map_map, show k + (rendK (L.drop k) + 1) = e + 1 by omega]
        congr 1
        funext t
        simp
      have hyh : c = 34 → y.head? = some 34 := fun h => by
        rw [← hyt, List.drop_eq_getElem_cons hlt, hc.out, h, rendK, if_pos rfl, Nat.add_comm 1, List.take_succ_cons]; rfl
      have hyn : c ≠ 34 → y.head? ≠ some 34 := fun h => by
        rw [← hyt, List.drop_eq_getElem_cons hlt, hc.out]
        cases rendK (c :: List.drop (k + 1) L) with
        | zero => simp
        | succ m => rw [List.take_succ_cons]; simpa using h
      have hyl : y.length ≤ L.length := by rw [← hy.out]; simp; omega
      clear hO hun hn hyt hsne hrk he hy heo
      by_cases h34 : c = 34
      · have e1 : ((c.toNat : Int) == 34) = true := by rw [h34]; rfl
        have e1' : (c.toNat : Int) = 34 := by rw [h34]; rfl
        have HU := Lib.hid (fun w' => runquote_any y w' (by omega))
        have hh := hyh h34
        have hF0 : Hid (fieldP y = if (unqP y).2 ≠ 0 then none else if textB (unqP y).1 then some ⟨true, (unqP y).1⟩ else none) := by rw [Hid]; unfold fieldP; rw [if_pos hh]
        clear hyh hyn h34 hh
        rcases unq_two y with hU | ⟨u, hU, hq⟩
        · have hr : Hid (res = ([], 6)) := by rw [Hid, hRes.out, (hR1 (by rw [hF0.out, hU]; rfl)).out]; rfl
          rw [hU] at HU
          clear hR1 hR2 hR3 hF0 hU hRes
          go_wp2_with fail
          refine (HE.out _).mono ?_
          rintro e9 w1 ⟨rfl, hB1⟩
          have q1 := hB.trans (hB1.mono hs1)
          go_wp2_with fail
          refine (HU.out _).mono ?_
          rintro e9 w2 ⟨rfl, hB2⟩
          have hBa := q1.alloc q1.size (.cells #[.bool false, .string (bN y)] 59)
          have hBB := hBa.trans (hB2.mono hBa.size)
          go_wp2_with fail
          go_ret2
          rw [hr.out]
          exact ⟨_, rfl, Own.nil _ _ _, hBB⟩
        · have hF : Hid (fieldP y = if rightF ⟨true, u⟩ then some ⟨true, u⟩ else none) := by rw [Hid, hF0.out, hU]; rfl
          have hul := quoteP_len hq
          have HRt := Lib.hid (fun w' => rright_any ⟨true, u⟩ w' (by show u.length ≤ _; omega))
          rw [hU] at HU
          clear hF0 hU hq
          cases hb : rightF ⟨true, u⟩
          · have hr : Hid (res = ([], 6)) := by rw [Hid, hRes.out, (hR1 (by rw [hF.out, hb]; rfl)).out]; rfl
            rw [hb] at HRt
            clear hR1 hR2 hR3 hF hb hRes
            go_wp2_with fail
            refine (HE.out _).mono ?_
            rintro e9 w1 ⟨rfl, hB1⟩
            have q1 := hB.trans (hB1.mono hs1)
            have kS0 := Blk.new w1 59 #[.bool false, .string (bN y)]
            go_wp2_with fail
            refine (HU.out _).mono ?_
            rintro e9 w2 ⟨rfl, hB2⟩
            have kS2 := kS0.below' hB2
            have b0 := kS2.cell 0 _ rfl
            have b1 := kS2.cell 1 _ rfl
            have fz := kS2.frozen 0
            have fz1 := kS2.frozen 1
            have hBa := q1.alloc q1.size (.cells #[.bool false, .string (bN y)] 59)
            have hBc := hBa.trans (hB2.mono hBa.size)
            go_wp2_with fail
            have hBd := Below.setCell (Below.setCell hBc (p := ⟨w1.heap.size, 0, none⟩) q1.size (.bool true)) (p := ⟨w1.heap.size, 1, none⟩) q1.size (.string (bN u))
            have kS := (kS2.set_ 0 (.bool true)).set_ 1 (.string (bN u))
            have hWa := hB1.alloc hB1.size (.cells #[.bool false, .string (bN y)] 59)
            have hWc := hWa.trans (hB2.mono hWa.size)
            have hWd := Below.setCell (Below.setCell hWc (p := ⟨w1.heap.size, 0, none⟩) hB1.size (.bool true)) (p := ⟨w1.heap.size, 1, none⟩) hB1.size (.string (bN u))
            clear b0 b1 fz fz1
            refine (HRt.out _).mono ?_
            rintro e9 w3 ⟨rfl, hB3⟩
            have hBB := hBd.trans (hB3.mono hBd.size)
            have hWB := hWd.trans (hB3.mono hWd.size)
            go_wp2_with fail
            go_ret2
            rw [hr.out]
            exact ⟨_, rfl, Own.nil _ _ _, hBB⟩
          · have hFs : fieldP y = some ⟨true, u⟩ := by rw [hF.out, hb]; rfl
            rw [hb] at HRt
            by_cases hel : e < L.length
            · have a3 : (e : Int) < L.length := by omega
              obtain ⟨d, hd⟩ : ∃ c, Hid (L[e]'hel = c) := ⟨_, Lib.hid rfl⟩
              have hsz2 : e < (bN L).size := hel
              have hdb : (bN L)[e]'hsz2 = d := hd.out
              have hd' : L[e]? = some d := by rw [List.getElem?_eq_getElem hel]; exact congrArg some hd.out
              by_cases hd32 : d = 32
              · have e3 : ((d.toNat : Int) != 32) = false := by rw [hd32]; rfl
                by_cases hend : e + 1 = L.length
                · have hr : Hid (res = ([], 6)) := by rw [Hid, hRes.out, (hR2 ⟨true, u⟩ hFs ⟨hel, .inr hend⟩).out]; rfl
                  have e4 : ((e : Int) + 1 == (L.length : Int)) = true := by rw [beq_iff_eq]; omega
                  have e5 : (e : Int) + 1 = (L.length : Int) := by omega
                  clear hR1 hR2 hR3 hF hFs hb hRes hd' hd32 hend
                  go_wp2_with fail
                  refine (HE.out _).mono ?_
                  rintro e9 w1 ⟨rfl, hB1⟩
                  have q1 := hB.trans (hB1.mono hs1)
                  have kS0 := Blk.new w1 59 #[.bool false, .string (bN y)]
                  go_wp2_with fail
                  refine (HU.out _).mono ?_
                  rintro e9 w2 ⟨rfl, hB2⟩
                  have kS2 := kS0.below' hB2
                  have b0 := kS2.cell 0 _ rfl
                  have b1 := kS2.cell 1 _ rfl
                  have fz := kS2.frozen 0
                  have fz1 := kS2.frozen 1
                  have hBa := q1.alloc q1.size (.cells #[.bool false, .string (bN y)] 59)
                  have hBc := hBa.trans (hB2.mono hBa.size)
                  go_wp2_with fail
                  have hBd := Below.setCell (Below.setCell hBc (p := ⟨w1.heap.size, 0, none⟩) q1.size (.bool true)) (p := ⟨w1.heap.size, 1, none⟩) q1.size (.string (bN u))
                  have kS := (kS2.set_ 0 (.bool true)).set_ 1 (.string (bN u))
                  have hWa := hB1.alloc hB1.size (.cells #[.bool false, .string (bN y)] 59)
                  have hWc := hWa.trans (hB2.mono hWa.size)
                  have hWd := Below.setCell (Below.setCell hWc (p := ⟨w1.heap.size, 0, none⟩) hB1.size (.bool true)) (p := ⟨w1.heap.size, 1, none⟩) hB1.size (.string (bN u))
                  clear b0 b1 fz fz1
                  refine (HRt.out _).mono ?_
                  rintro e9 w3 ⟨rfl, hB3⟩
                  have hBB := hBd.trans (hB3.mono hBd.size)
                  have hWB := hWd.trans (hB3.mono hWd.size)
                  go_wp2_with fail
                  go_ret2
                  rw [hr.out]
                  exact ⟨_, rfl, Own.nil _ _ _, hBB⟩
                · have hN := hR3 ⟨true, u⟩ hFs (by rintro ⟨_, h | h⟩; exact h (by rw [hd', hd32]); exact hend h)
                  have e4 : ((e : Int) + 1 == (L.length : Int)) = false := by rw [beq_eq_false_iff_ne]; omega
                  have e5 : ¬ (e : Int) + 1 = (L.length : Int) := by omega
                  clear hR1 hR2 hR3 hF hFs hb hd' hd32 hend
                  go_wp2_with fail
                  refine (HE.out _).mono ?_
                  rintro e9 w1 ⟨rfl, hB1⟩
                  have q1 := hB.trans (hB1.mono hs1)
                  have kS0 := Blk.new w1 59 #[.bool false, .string (bN y)]
                  go_wp2_with fail
                  refine (HU.out _).mono ?_
                  rintro e9 w2 ⟨rfl, hB2⟩
                  have kS2 := kS0.below' hB2
                  have b0 := kS2.cell 0 _ rfl
                  have b1 := kS2.cell 1 _ rfl
                  have fz := kS2.frozen 0
                  have fz1 := kS2.frozen 1
                  have hBa := q1.alloc q1.size (.cells #[.bool false, .string (bN y)] 59)
                  have hBc := hBa.trans (hB2.mono hBa.size)
                  go_wp2_with fail
                  have hBd := Below.setCell (Below.setCell hBc (p := ⟨w1.heap.size, 0, none⟩) q1.size (.bool true)) (p := ⟨w1.heap.size, 1, none⟩) q1.size (.string (bN u))
                  have kS := (kS2.set_ 0 (.bool true)).set_ 1 (.string (bN u))
                  have hWa := hB1.alloc hB1.size (.cells #[.bool false, .string (bN y)] 59)
                  have hWc := hWa.trans (hB2.mono hWa.size)
                  have hWd := Below.setCell (Below.setCell hWc (p := ⟨w1.heap.size, 0, none⟩) hB1.size (.bool true)) (p := ⟨w1.heap.size, 1, none⟩) hB1.size (.string (bN u))
                  clear b0 b1 fz fz1
                  refine (HRt.out _).mono ?_
                  rintro e9 w3 ⟨rfl, hB3⟩
                  have hBB := hBd.trans (hB3.mono hBd.size)
                  have hWB := hWd.trans (hB3.mono hWd.size)
                  have k3 := kS.below' hB3
                  have c0 := k3.cell 0 _ rfl
                  have c1 := k3.cell 1 _ rfl
                  have hsz3 := hBB.size
                  go_wp2_with (first
                    | (at_builtin
                       refine wpList_append_enc fenc_len fenc_one (by omega) (show (24 : Nat) ≤ 1000 by omega) rfl (.tmp 61) (.tmp 63) _ rfl w.heap.size _ i0 _ Tryd.underlying49 hi0 hz0' hz1' hz2' rfl (.slice Av O.length cv) O rfl ((ho.below hWB).alloc (.cells #[.bool true, .string (bN u)] 59)) _ ⟨true, u⟩ rfl (cells_at (fenc ⟨true, u⟩) rfl) (by omega) (by simp; omega) ?_
                       intro v8 w8 hown8 hg8)
                    | fail)
                  have hB8 := ((ho.below hWB).alloc (.cells #[.bool true, .string (bN u)] 59)).grown (hBB.alloc hBB.size _) hg8 (by simp; omega)
                  go_roundw
                  case rel => exact ⟨e + 1, n', O ++ [⟨true, u⟩], by omega, by go_num, by simp; omega, hown8, hN.out.2, Lib.hid hN.out.1, hB8⟩
                  case measure => simp [intOf]; omega
              · have hr : Hid (res = ([], 6)) := by rw [Hid, hRes.out, (hR2 ⟨true, u⟩ hFs ⟨hel, .inl (by rw [hd']; simpa using hd32)⟩).out]; rfl
                have e3 : ((d.toNat : Int) != 32) = true := by
                  rw [bne_iff_ne]; exact fun he => hd32 (UInt8.toNat.inj (by show d.toNat = 32; omega))
                clear hR1 hR2 hR3 hF hFs hb hRes hd' hd32
                go_wp2_with fail
                refine (HE.out _).mono ?_
                rintro e9 w1 ⟨rfl, hB1⟩
                have q1 := hB.trans (hB1.mono hs1)
                have kS0 := Blk.new w1 59 #[.bool false, .string (bN y)]
                go_wp2_with fail
                refine (HU.out _).mono ?_
                rintro e9 w2 ⟨rfl, hB2⟩
                have kS2 := kS0.below' hB2
                have b0 := kS2.cell 0 _ rfl
                have b1 := kS2.cell 1 _ rfl
                have fz := kS2.frozen 0
                have fz1 := kS2.frozen 1
                have hBa := q1.alloc q1.size (.cells #[.bool false, .string (bN y)] 59)
                have hBc := hBa.trans (hB2.mono hBa.size)
                go_wp2_with fail
                have hBd := Below.setCell (Below.setCell hBc (p := ⟨w1.heap.size, 0, none⟩) q1.size (.bool true)) (p := ⟨w1.heap.size, 1, none⟩) q1.size (.string (bN u))
                have kS := (kS2.set_ 0 (.bool true)).set_ 1 (.string (bN u))
                have hWa := hB1.alloc hB1.size (.cells #[.bool false, .string (bN y)] 59)
                have hWc := hWa.trans (hB2.mono hWa.size)
                have hWd := Below.setCell (Below.setCell hWc (p := ⟨w1.heap.size, 0, none⟩) hB1.size (.bool true)) (p := ⟨w1.heap.size, 1, none⟩) hB1.size (.string (bN u))
                clear b0 b1 fz fz1
                refine (HRt.out _).mono ?_
                rintro e9 w3 ⟨rfl, hB3⟩
                have hBB := hBd.trans (hB3.mono hBd.size)
                have hWB := hWd.trans (hB3.mono hWd.size)
                go_wp2_with fail
                go_ret2
                rw [hr.out]
                exact ⟨_, rfl, Own.nil _ _ _, hBB⟩
            · have a3 : ¬ (e : Int) < L.length := by omega
              have hN := hR3 ⟨true, u⟩ hFs (fun h => hel h.1)
              clear hR1 hR2 hR3 hF hFs hb
              go_wp2_with fail
              refine (HE.out _).mono ?_
              rintro e9 w1 ⟨rfl, hB1⟩
              have q1 := hB.trans (hB1.mono hs1)
              have kS0 := Blk.new w1 59 #[.bool false, .string (bN y)]
              go_wp2_with fail
              refine (HU.out _).mono ?_
              rintro e9 w2 ⟨rfl, hB2⟩
              have kS2 := kS0.below' hB2
              have b0 := kS2.cell 0 _ rfl
              have b1 := kS2.cell 1 _ rfl
              have fz := kS2.frozen 0
              have fz1 := kS2.frozen 1
              have hBa := q1.alloc q1.size (.cells #[.bool false, .string (bN y)] 59)
              have hBc := hBa.trans (hB2.mono hBa.size)
              go_wp2_with fail
              have hBd := Below.setCell (Below.setCell hBc (p := ⟨w1.heap.size, 0, none⟩) q1.size (.bool true)) (p := ⟨w1.heap.size, 1, none⟩) q1.size (.string (bN u))
              have kS := (kS2.set_ 0 (.bool true)).set_ 1 (.string (bN u))
              have hWa := hB1.alloc hB1.size (.cells #[.bool false, .string (bN y)] 59)
              have hWc := hWa.trans (hB2.mono hWa.size)
              have hWd := Below.setCell (Below.setCell hWc (p := ⟨w1.heap.size, 0, none⟩) hB1.size (.bool true)) (p := ⟨w1.heap.size, 1, none⟩) hB1.size (.string (bN u))
              clear b0 b1 fz fz1
              refine (HRt.out _).mono ?_
              rintro e9 w3 ⟨rfl, hB3⟩
              have hBB := hBd.trans (hB3.mono hBd.size)
              have hWB := hWd.trans (hB3.mono hWd.size)
              have k3 := kS.below' hB3
              have c0 := k3.cell 0 _ rfl
              have c1 := k3.cell 1 _ rfl
              have hsz3 := hBB.size
              go_wp2_with (first
                | (at_builtin
                   refine wpList_append_enc fenc_len fenc_one (by omega) (show (24 : Nat) ≤ 1000 by omega) rfl (.tmp 61) (.tmp 63) _ rfl w.heap.size _ i0 _ Tryd.underlying49 hi0 hz0' hz1' hz2' rfl (.slice Av O.length cv) O rfl ((ho.below hWB).alloc (.cells #[.bool true, .string (bN u)] 59)) _ ⟨true, u⟩ rfl (cells_at (fenc ⟨true, u⟩) rfl) (by omega) (by simp; omega) ?_
                   intro v8 w8 hown8 hg8)
                | fail)
              have hB8 := ((ho.below hWB).alloc (.cells #[.bool true, .string (bN u)] 59)).grown (hBB.alloc hBB.size _) hg8 (by simp; omega)
              go_roundw
              case rel => exact ⟨e + 1, n', O ++ [⟨true, u⟩], by omega, by go_num, by simp; omega, hown8, hN.out.2, Lib.hid hN.out.1, hB8⟩
              case measure => simp [intOf]; omega
      · have e1 : ((c.toNat : Int) == 34) = false := beq_eq_false_iff_ne.2 (ne34i h34)
        have e1' : ¬ (c.toNat : Int) = 34 := ne34i h34
        have hF : Hid (fieldP y = if rightF ⟨false, y⟩ then some ⟨false, y⟩ else none) := by rw [Hid]; unfold fieldP; rw [if_neg (hyn h34)]
        have HRt := Lib.hid (fun w' => rright_any ⟨false, y⟩ w' (by show y.length ≤ _; omega))
        clear hyh hyn h34
        cases hb : rightF ⟨false, y⟩
        · have hr : Hid (res = ([], 6)) := by rw [Hid, hRes.out, (hR1 (by rw [hF.out, hb]; rfl)).out]; rfl
          rw [hb] at HRt
          clear hR1 hR2 hR3 hF hb hRes
          go_wp2_with fail
          refine (HE.out _).mono ?_
          rintro e9 w1 ⟨rfl, hB1⟩
          have q1 := hB.trans (hB1.mono hs1)
          have kS := Blk.new w1 59 #[.bool false, .string (bN y)]
          go_wp2_with fail
          refine (HRt.out _).mono ?_
          rintro e9 w3 ⟨rfl, hB3⟩
          have hBa := q1.alloc q1.size (.cells #[.bool false, .string (bN y)] 59)
          have hBB := hBa.trans (hB3.mono hBa.size)
          go_wp2_with fail
          go_ret2
          rw [hr.out]
          exact ⟨_, rfl, Own.nil _ _ _, hBB⟩
        · have hFs : fieldP y = some ⟨false, y⟩ := by rw [hF.out, hb]; rfl
          rw [hb] at HRt
          by_cases hel : e < L.length
          · have a3 : (e : Int) < L.length := by omega
            obtain ⟨d, hd⟩ : ∃ c, Hid (L[e]'hel = c) := ⟨_, Lib.hid rfl⟩
            have hsz2 : e < (bN L).size := hel
            have hdb : (bN L)[e]'hsz2 = d := hd.out
            have hd' : L[e]? = some d := by rw [List.getElem?_eq_getElem hel]; exact congrArg some hd.out
            by_cases hd32 : d = 32
            · have e3 : ((d.toNat : Int) != 32) = false := by rw [hd32]; rfl
              by_cases hend : e + 1 = L.length
              · have hr : Hid (res = ([], 6)) := by rw [Hid, hRes.out, (hR2 ⟨false, y⟩ hFs ⟨hel, .inr hend⟩).out]; rfl
                have e4 : ((e : Int) + 1 == (L.length : Int)) = true := by rw [beq_iff_eq]; omega
                have e5 : (e : Int) + 1 = (L.length : Int) := by omega
                clear hR1 hR2 hR3 hF hFs hb hRes hd' hd32 hend
                go_wp2_with fail
                refine (HE.out _).mono ?_
                rintro e9 w1 ⟨rfl, hB1⟩
                have q1 := hB.trans (hB1.mono hs1)
                have kS := Blk.new w1 59 #[.bool false, .string (bN y)]
                go_wp2_with fail
                refine (HRt.out _).mono ?_
                rintro e9 w3 ⟨rfl, hB3⟩
                have hBa := q1.alloc q1.size (.cells #[.bool false, .string (bN y)] 59)
                have hBB := hBa.trans (hB3.mono hBa.size)
                go_wp2_with fail
                go_ret2
                rw [hr.out]
                exact ⟨_, rfl, Own.nil _ _ _, hBB⟩
              · have hN := hR3 ⟨false, y⟩ hFs (by rintro ⟨_, h | h⟩; exact h (by rw [hd', hd32]); exact hend h)
                have e4 : ((e : Int) + 1 == (L.length : Int)) = false := by rw [beq_eq_false_iff_ne]; omega
                have e5 : ¬ (e : Int) + 1 = (L.length : Int) := by omega
                clear hR1 hR2 hR3 hF hFs hb hd' hd32 hend
                go_wp2_with fail
                refine (HE.out _).mono ?_
                rintro e9 w1 ⟨rfl, hB1⟩
                have q1 := hB.trans (hB1.mono hs1)
                have kS := Blk.new w1 59 #[.bool false, .string (bN y)]
                go_wp2_with fail
                refine (HRt.out _).mono ?_
                rintro e9 w3 ⟨rfl, hB3⟩
                have hBa := q1.alloc q1.size (.cells #[.bool false, .string (bN y)] 59)
                have hBB := hBa.trans (hB3.mono hBa.size)
                have k3 := kS.below' hB3
                have c0 := k3.cell 0 _ rfl
                have c1 := k3.cell 1 _ rfl
                have hsz3 := hBB.size
                go_wp2_with (first
                  | (at_builtin
                     refine wpList_append_enc fenc_len fenc_one (by omega) (show (24 : Nat) ≤ 1000 by omega) rfl (.tmp 61) (.tmp 63) _ rfl w.heap.size _ i0 _ Tryd.underlying49 hi0 hz0' hz1' hz2' rfl (.slice Av O.length cv) O rfl ((((ho.below hB1).alloc (.cells #[.bool false, .string (bN y)] 59)).below hB3).alloc (.cells #[.bool false, .string (bN y)] 59)) _ ⟨false, y⟩ rfl (cells_at (fenc ⟨false, y⟩) rfl) (by omega) (by simp; omega) ?_
                     intro v8 w8 hown8 hg8)
                  | fail)
                have hB8 := ((((ho.below hB1).alloc (.cells #[.bool false, .string (bN y)] 59)).below hB3).alloc (.cells #[.bool false, .string (bN y)] 59)).grown (hBB.alloc hBB.size _) hg8 (by simp; omega)
                go_roundw
                case rel => exact ⟨e + 1, n', O ++ [⟨false, y⟩], by omega, by go_num, by simp; omega, hown8, hN.out.2, Lib.hid hN.out.1, hB8⟩
                case measure => simp [intOf]; omega
            · have hr : Hid (res = ([], 6)) := by rw [Hid, hRes.out, (hR2 ⟨false, y⟩ hFs ⟨hel, .inl (by rw [hd']; simpa using hd32)⟩).out]; rfl
              have e3 : ((d.toNat : Int) != 32) = true := by
                rw [bne_iff_ne]; exact fun he => hd32 (UInt8.toNat.inj (by show d.toNat = 32; omega))
              clear hR1 hR2 hR3 hF hFs hb hRes hd' hd32
              go_wp2_with fail
              refine (HE.out _).mono ?_
              rintro e9 w1 ⟨rfl, hB1⟩
              have q1 := hB.trans (hB1.mono hs1)
              have kS := Blk.new w1 59 #[.bool false, .string (bN y)]
              go_wp2_with fail
              refine (HRt.out _).mono ?_
              rintro e9 w3 ⟨rfl, hB3⟩
              have hBa := q1.alloc q1.size (.cells #[.bool false, .string (bN y)] 59)
              have hBB := hBa.trans (hB3.mono hBa.size)
              go_wp2_with fail
              go_ret2
              rw [hr.out]
              exact ⟨_, rfl, Own.nil _ _ _, hBB⟩
          · have a3 : ¬ (e : Int) < L.length := by omega
            have hN := hR3 ⟨false, y⟩ hFs (fun h => hel h.1)
            clear hR1 hR2 hR3 hF hFs hb
            go_wp2_with fail
            refine (HE.out _).mono ?_
            rintro e9 w1 ⟨rfl, hB1⟩
            have q1 := hB.trans (hB1.mono hs1)
            have kS := Blk.new w1 59 #[.bool false, .string (bN y)]
            go_wp2_with fail
            refine (HRt.out _).mono ?_
            rintro e9 w3 ⟨rfl, hB3⟩
            have hBa := q1.alloc q1.size (.cells #[.bool false, .string (bN y)] 59)
            have hBB := hBa.trans (hB3.mono hBa.size)
            have k3 := kS.below' hB3
            have c0 := k3.cell 0 _ rfl
            have c1 := k3.cell 1 _ rfl
            have hsz3 := hBB.size
            go_wp2_with (first
              | (at_builtin
                 refine wpList_append_enc fenc_len fenc_one (by omega) (show (24 : Nat) ≤ 1000 by omega) rfl (.tmp 61) (.tmp 63) _ rfl w.heap.size _ i0 _ Tryd.underlying49 hi0 hz0' hz1' hz2' rfl (.slice Av O.length cv) O rfl ((((ho.below hB1).alloc (.cells #[.bool false, .string (bN y)] 59)).below hB3).alloc (.cells #[.bool false, .string (bN y)] 59)) _ ⟨false, y⟩ rfl (cells_at (fenc ⟨false, y⟩) rfl) (by omega) (by simp; omega) ?_
                 intro v8 w8 hown8 hg8)
              | fail)
            have hB8 := ((((ho.below hB1).alloc (.cells #[.bool false, .string (bN y)] 59)).below hB3).alloc (.cells #[.bool false, .string (bN y)] 59)).grown (hBB.alloc hBB.size _) hg8 (by simp; omega)
            go_roundw
            case rel => exact ⟨e + 1, n', O ++ [⟨false, y⟩], by omega, by go_num, by simp; omega, hown8, hN.out.2, Lib.hid hN.out.1, hB8⟩
            case measure => simp [intOf]; omega
    · have hd0 : L.drop k = [] := List.drop_eq_nil_of_le (by omega)
      have hRO : Hid (res = resS (some O)) := by
        rw [Hid, hRes.out, hO.out, hd0]
        cases n with
        | zero => simp [rsplG]
        | succ n => simp [rsplG]
      have a1 : ¬ (k : Int) < L.length := by omega
      clear hO hn hd0 hRes
      by_cases h64 : 64 < O.length
      · have a2 : (64 : Int) < O.length := by omega
        have hr : Hid (res = ([], 3)) := by rw [Hid, hRO.out, resS, if_pos h64]
        clear hRO h64
        go_wp2_with fail
        go_ret2
        rw [hr.out]
        exact ⟨_, rfl, Own.nil _ _ _, hB⟩
      · have a2 : ¬ (64 : Int) < O.length := by omega
        have hr : Hid (res = (O, 0)) := by rw [Hid, hRO.out, resS, if_neg h64]
        clear hRO h64
        go_wp2_with fail
        go_ret2
        rw [hr.out]
        exact ⟨_, rfl, ho, hB⟩
end Go.Proofs.YtohcmfobnkaaiaaDoor
