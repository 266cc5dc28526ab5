/- torchonref01: ParseList. -/
import Derived.Test.YtohcmfobnkaaiaaGreatDoorRPrs
set_option linter.unusedSimpArgs false
set_option linter.unusedVariables false
namespace Go.Proofs.YtohcmfobnkaaiaaGreatDoor
open Go Go.RowKit Tor

theorem rangeSlP (L : List UInt8) (f j : Nat) (hfj : f ≤ j) (hj : j ≤ L.length) (hs : L.length ≤ 4000000) (y : List UInt8) (hy : (L.take j).drop f = y) (W : World) :
    (Instr.slice 9 (.string (bN L)) (some (.int .i64 (f : Int))) (some (.int .i64 (j : Int))) none).run Tryz.prog W = .ok (.string (bN y)) W := by
  have hz : (bN L).size = L.length := rfl
  have := run_slice_string (P := Tryz.prog) W 9 (bN L) .i64 .i64 (f : Int) (j : Int) Tryz.underlying9 (by omega) (by omega) (by rw [hz]; omega)
  have he : (bN L).extract f j = bN y := by
    refine ByteArray.ext (Array.ext' ?_)
    rw [ByteArray.data_extract]
    simp only [bN, Array.toList_extract, List.extract_eq_take_drop]
    rw [← hy, List.drop_take]
  rw [Int.toNat_natCast, Int.toNat_natCast, he] at this
  exact this
theorem infoItem : (Tryz.prog.info? 66).map (fun i => (i.zero, i.size, i.bytes)) = some (some (.agg #[.string ByteArray.empty, .string ByteArray.empty, .string ByteArray.empty]), 3, 48) := by kernel_rfl
theorem _root_.Tor.Rd.it3 {w : World} {B : Nat} {A : Option Addr} {l : List It3} (h : Rd 3 i3enc w B A l) {k : Nat} (hk : k < l.length) :
    ∃ b o, A = some ⟨b, o, none⟩ ∧ b < B ∧ w.cell? ⟨b, o + k * 3, none⟩ = some (.string (bN l[k].n)) ∧ w.cell? ⟨b, o + k * 3 + 1, none⟩ = some (.string (bN l[k].m)) ∧ w.cell? ⟨b, o + k * 3 + 2, none⟩ = some (.string (bN l[k].t)) := by
  obtain ⟨b, o, e, hb, hc⟩ := h (by intro e; subst e; simp at hk)
  have hx : l[k]? = some l[k] := List.getElem?_eq_getElem hk
  exact ⟨b, o, e, hb, hc k _ hx 0 _ rfl, hc k _ hx 1 _ rfl, hc k _ hx 2 _ rfl⟩
/-- how far the pieces are -/
def StP (L : List UInt8) (j f : Nat) (O : List (List UInt8)) : Prop := (j ≤ L.length ∧ f ≤ j ∧ spl 44 (L.take j) = O ++ [(L.take j).drop f]) ∨ (j = L.length + 1 ∧ spl 44 L = O)
theorem st_mem {L : List UInt8} {j f : Nat} {O : List (List UInt8)} (hj : j < L.length) (hc : L[j] = 44) (h : spl 44 (L.take j) = O ++ [(L.take j).drop f]) : (L.take j).drop f ∈ spl 44 L := by
  have e : L = L.take j ++ 44 :: L.drop (j + 1) := by
    conv => lhs; rw [← List.take_append_drop j L, List.drop_eq_getElem_cons hj, hc]
  have h2 := spl_two (L.take j) (L.drop (j + 1))
  rw [← e, h] at h2
  rw [h2]; simp
def itsT (O : List (List UInt8)) : List It3 := O.map fun t => (rreadP t).1
theorem parseP_pcs {L : List UInt8} (h1 : ¬ 2500 < L.length) (h2 : L ≠ []) : parseP L = if (spl 44 L).any (fun t => !(rreadP t).2) then ([], 6) else if (spl 44 L).any (fun t => decide (9999 < (readP t).1.b)) then ([], 7) else if manyP 0 (partsT (spl 44 L)) = none then ([], 3) else ((partsT (spl 44 L)).flatMap partL, 0) := by
  rw [parseP_ps h2 (by omega)]
  unfold psOf partsT
  simp only [List.any_map, List.map_map, List.flatMap_map]
  have e : ((fun x : Part × Bool => !x.2) ∘ readP) = fun t => !(rreadP t).2 := funext fun t => by rw [← (rread_eq t).1]; rfl
  rw [e]; rfl
/-- a digit string's piece is not longer than the piece -/
theorem rread_len (t : List UInt8) (ht : t.length ≤ 1000000) : (rreadP t).1.n.length ≤ 1000000 ∧ (rreadP t).1.m.length ≤ 1000000 ∧ (rreadP t).1.t.length ≤ 1000000 := by
  unfold rreadP
  simp only
  split
  · exact ⟨ht, ht, by simp⟩
  · split
    · refine ⟨by rw [List.length_take]; omega, by rw [List.length_drop]; omega, by simp⟩
    · refine ⟨by rw [List.length_drop]; omega, by rw [List.length_drop]; omega, by rw [List.length_take]; omega⟩
theorem spl_len (c : UInt8) : ∀ (L : List UInt8), ∀ t ∈ spl c L, t.length ≤ L.length := fun L t ht => by
  rw [← split_spl] at ht
  exact split_mem ht
set_option maxRecDepth 100000 in
set_option maxHeartbeats 8000000 in
theorem rparse_any (L : List UInt8) (w : World) (hs : L.length ≤ 1000000) :
    Calls Tryz.prog 8 #[.string (bN L)] w (IntsRet w (parseP L).1 (parseP L).2) := by
  have hsz : (bN L).size = L.length := rfl
  by_cases h1 : 2500 < L.length
  · have hP : Hid (parseP L = ([], 3)) := by rw [Hid]; unfold parseP; rw [if_pos h1]
    rw [hP.out]
    have b1 : (2500 : Int) < L.length := by omega
    clear hP h1
    go_enter Tryz.func8, Tryz.ntmps8
    go_wp2_with fail
    go_ret2
    exact ⟨_, rfl, Own.nil _ _ _, Below.refl _ _⟩
  have b1 : ¬ (2500 : Int) < L.length := by omega
  by_cases h2 : L = []
  · subst h2
    have hP : Hid (parseP [] = ([], 0)) := Lib.hid rfl
    rw [hP.out]
    clear hP h1 hsz b1
    show Calls Tryz.prog 8 #[.string ⟨#[]⟩] w _
    go_enter Tryz.func8, Tryz.ntmps8
    go_wp2_with fail
    go_loopw [4, 5, 6] (fun o f i wr => o = .slice none 0 0 ∧ i = .int .i64 0 ∧ w = wr) (fun _ _ i _ => 0)
    case atStart => exact ⟨rfl, rfl, rfl⟩
    case round =>
      obtain ⟨rfl, rfl, rfl⟩ := hrel
      go_wp2_with fail
      go_loopw [9] (fun i wr => i = .int .i64 0 ∧ w = wr) (fun i _ => 0)
      case atStart => exact ⟨rfl, rfl⟩
      case round =>
        obtain ⟨rfl, rfl⟩ := hrel
        go_wp2_with fail
        go_loopw [10, 11] (fun o i wr => o = .slice none 0 0 ∧ i = .int .i64 0 ∧ w = wr) (fun _ i _ => 0)
        case atStart => exact ⟨rfl, rfl, rfl⟩
        case round =>
          obtain ⟨rfl, rfl, rfl⟩ := hrel
          go_wp2_with fail
          go_ret2
          exact ⟨_, rfl, Own.nil _ _ _, Below.refl _ _⟩
  have hL0 : 0 < L.length := List.length_pos_iff.2 h2
  have b2 : (0 : Int) < (L.length : Int) := by omega
  have hPP := Lib.hid (parseP_pcs h1 h2)
  obtain ⟨r, hr⟩ : ∃ r, Hid (parseP L = r) := ⟨_, Lib.hid rfl⟩
  rw [hr.out]
  have hR : Hid (r = if (spl 44 L).any (fun t => !(rreadP t).2) then ([], 6) else if (spl 44 L).any (fun t => decide (9999 < (readP t).1.b)) then ([], 7) else if manyP 0 (partsT (spl 44 L)) = none then ([], 3) else ((partsT (spl 44 L)).flatMap partL, 0)) := by rw [Hid, ← hr.out, hPP.out]
  clear hr hPP h2
  obtain ⟨i0, hi0, hz0', hz1', hz2'⟩ := info_parts infoItem
  go_enter Tryz.func8, Tryz.ntmps8
  go_wp2_with fail
  go_loopw [4, 5, 6] (fun v fv iv wr => ∃ (j f : Nat) (O : List (List UInt8)), j ≤ L.length + 1 ∧ f ≤ L.length + 1 ∧ iv = .int .i64 j ∧ fv = .int .i64 f ∧ O.length ≤ j ∧ Hid (StP L j f O) ∧ Hid (∀ t ∈ O, (rreadP t).2 = true) ∧ Tor.Own 3 i3enc wr w.heap.size 66 v (itsT O) ∧ Below w.heap.size w wr) (fun _ _ i _ => L.length + 1 - (intOf i).toNat)
  case atStart => exact ⟨0, 0, [], by omega, by omega, rfl, rfl, Nat.le_refl _, Lib.hid (.inl ⟨by omega, Nat.le_refl _, rfl⟩), Lib.hid (fun t ht => by simp at ht), Own.nil _ _ _, Below.refl _ _⟩
  case round =>
    obtain ⟨j, f, O, hj, hf, rfl, rfl, hOl, hst, hok, hown, hB⟩ := hrel
    obtain ⟨wo, rfl⟩ : ∃ wo : World, wo = wr := ⟨_, rfl⟩
    have hs0 := hB.size
    obtain ⟨Av, cv, rfl, hcv, hrdv⟩ := Own.rd i3_len hown
    by_cases hjl : j ≤ L.length
    · have hst2 : Hid (f ≤ j ∧ spl 44 (L.take j) = O ++ [(L.take j).drop f]) := Lib.hid (by
        rcases hst.out with h | h
        · exact h.2
        · exact absurd h.1 (by omega))
      clear hst
      have a1 : (j : Int) ≤ (L.length : Int) := by omega
      obtain ⟨y, hy⟩ : ∃ y, Hid ((L.take j).drop f = y) := ⟨_, Lib.hid rfl⟩
      have hfj := hst2.out.1
      have hsp := Lib.hid hst2.out.2
      rw [hy.out] at hsp
      have hyl : y.length ≤ L.length := by rw [← hy.out, List.length_drop, List.length_take]; omega
      have HSl := rangeSlP L f j hfj hjl (by omega) y hy.out
      have HR := Lib.hid (fun w' => rread_any y w' (by omega))
      have hOn : (itsT O).length ≤ 1000000 := by unfold itsT; rw [List.length_map]; omega
      have hnx : Hid (itsT (O ++ [y]) = itsT O ++ [(rreadP y).1]) := Lib.hid (by unfold itsT; simp)
      obtain ⟨p, hp⟩ : ∃ p, Hid ((rreadP y).1 = p) := ⟨_, Lib.hid rfl⟩
      obtain ⟨b, hb⟩ : ∃ b, Hid ((rreadP y).2 = b) := ⟨_, Lib.hid rfl⟩
      rw [hp.out, hb.out] at HR
      rw [hp.out] at hnx
      by_cases hjlt : j < L.length
      · have a2 : (j : Int) < (L.length : Int) := by omega
        obtain ⟨c, hc⟩ : ∃ c, Hid (L[j]'hjlt = c) := ⟨_, Lib.hid rfl⟩
        have hcz : j < (bN L).size := hjlt
        have hcb : (bN L)[j]'hcz = c := hc.out
        have hta : L.take (j + 1) = L.take j ++ [c] := by rw [List.take_add_one, List.getElem?_eq_getElem hjlt, hc.out]; rfl
        have hsn := spl_snoc 44 (L.take j) O y hsp.out
        by_cases h44 : c = 44
        · have e1 : ((c.toNat : Int) != 44) = false := by rw [h44]; rfl
          have hmem : Hid (y ∈ spl 44 L) := Lib.hid (by rw [← hy.out]; exact st_mem hjlt (by rw [hc.out, h44]) hst2.out.2)
          have hst3 : Hid (StP L (j + 1) (j + 1) (O ++ [y])) := Lib.hid (.inl ⟨by omega, Nat.le_refl _, by
            rw [hta, h44, hsn.1, List.drop_of_length_le (by rw [List.length_append, List.length_take]; simp; omega)]⟩)
          clear hsn hta hst2 hy hc h44 hsp
          cases b
          · have hr6 : Hid (r = ([], 6)) := by rw [Hid, hR.out, if_pos (List.any_eq_true.2 ⟨y, hmem.out, by rw [hb.out]; rfl⟩)]
            clear hR hmem hst3 hb hok hnx hp
            go_wp2_with fail
            refine (HR.out _).mono ?_
            rintro e w2 ⟨rfl, hB2⟩
            go_wp2_with fail
            go_ret2
            rw [hr6.out]
            exact ⟨_, rfl, Own.nil _ _ _, (hB.trans (hB2.mono hB.size)).alloc (by have := hB2.size; omega) _⟩
          · have hok2 : Hid (∀ t ∈ O ++ [y], (rreadP t).2 = true) := Lib.hid (fun t ht => by
              rcases List.mem_append.1 ht with ht | ht
              · exact hok.out t ht
              · rw [List.mem_singleton.1 ht]; exact hb.out)
            clear hmem hb hok hp
            go_wp2_with fail
            refine (HR.out _).mono ?_
            rintro e w2 ⟨rfl, hB2⟩
            have hs2 := hB2.size
            have hown2 := (hown.below hB2).alloc (.cells #[.string (bN p.n), .string (bN p.m), .string (bN p.t)] 66)
            have hBe := (hB.trans (hB2.mono hB.size)).alloc (show w.heap.size ≤ w2.heap.size by omega) (.cells #[.string (bN p.n), .string (bN p.m), .string (bN p.t)] 66)
            go_wp2_with (first
              | (at_builtin
                 refine wpList_append_enc i3_len i3_one (by omega) (show (48 : Nat) ≤ 1000 by omega) rfl (.tmp 54) (.tmp 56) _ rfl w.heap.size _ i0 _ Tryz.underlying64 hi0 hz0' hz1' hz2' rfl (.slice Av (itsT O).length cv) _ rfl (hown2.alloc (.cells (i3enc p).toArray 66)) _ p rfl (cells_at (i3enc p) (by simp)) hOn (by simp; omega) ?_
                 intro v' w4 hown4 hg4)
              | fail)
            go_roundw
            case rel =>
              exact ⟨j + 1, j + 1, O ++ [y], by omega, by omega, by go_num, by go_num, by rw [List.length_append]; simp; omega, hst3, hok2, by rw [hnx.out]; exact hown4, (hown2.alloc (.cells (i3enc p).toArray 66)).grown (hBe.alloc hBe.size (.cells (i3enc p).toArray 66)) hg4 (by simp; omega)⟩
            case measure => simp [intOf]; omega
        · have e1 : ((c.toNat : Int) != 44) = true := by
            rw [bne_iff_ne]; exact fun he => h44 (UInt8.toNat.inj (by show c.toNat = 44; omega))
          have hst3 : Hid (StP L (j + 1) f O) := Lib.hid (.inl ⟨by omega, by omega, by
            rw [hta, hsn.2 c h44, List.drop_append_of_le_length (by rw [List.length_take]; omega), hy.out]⟩)
          clear hsn hta hst2 hy hc h44 hsp hb hp hnx HR HSl
          go_wp2_with fail
          go_roundw
          case rel => exact ⟨j + 1, f, O, by omega, by omega, by go_num, rfl, by omega, hst3, hok, hown, hB⟩
          case measure => simp [intOf]; omega
      · obtain rfl : j = L.length := by omega
        have hspL : spl 44 L = O ++ [y] := by have := hsp.out; rw [List.take_length] at this; exact this
        have hmem : Hid (y ∈ spl 44 L) := Lib.hid (by rw [hspL]; simp)
        have hst3 : Hid (StP L (L.length + 1) (L.length + 1) (O ++ [y])) := Lib.hid (.inr ⟨rfl, hspL⟩)
        clear hst2 hy hsp hspL
        cases b
        · have hr6 : Hid (r = ([], 6)) := by rw [Hid, hR.out, if_pos (List.any_eq_true.2 ⟨y, hmem.out, by rw [hb.out]; rfl⟩)]
          clear hR hmem hst3 hb hok hnx hp
          go_wp2_with fail
          refine (HR.out _).mono ?_
          rintro e w2 ⟨rfl, hB2⟩
          go_wp2_with fail
          go_ret2
          rw [hr6.out]
          exact ⟨_, rfl, Own.nil _ _ _, (hB.trans (hB2.mono hB.size)).alloc (by have := hB2.size; omega) _⟩
        · have hok2 : Hid (∀ t ∈ O ++ [y], (rreadP t).2 = true) := Lib.hid (fun t ht => by
            rcases List.mem_append.1 ht with ht | ht
            · exact hok.out t ht
            · rw [List.mem_singleton.1 ht]; exact hb.out)
          clear hmem hb hok hp
          go_wp2_with fail
          refine (HR.out _).mono ?_
          rintro e w2 ⟨rfl, hB2⟩
          have hs2 := hB2.size
          have hown2 := (hown.below hB2).alloc (.cells #[.string (bN p.n), .string (bN p.m), .string (bN p.t)] 66)
          have hBe := (hB.trans (hB2.mono hB.size)).alloc (show w.heap.size ≤ w2.heap.size by omega) (.cells #[.string (bN p.n), .string (bN p.m), .string (bN p.t)] 66)
          go_wp2_with (first
            | (at_builtin
               refine wpList_append_enc i3_len i3_one (by omega) (show (48 : Nat) ≤ 1000 by omega) rfl (.tmp 54) (.tmp 56) _ rfl w.heap.size _ i0 _ Tryz.underlying64 hi0 hz0' hz1' hz2' rfl (.slice Av (itsT O).length cv) _ rfl (hown2.alloc (.cells (i3enc p).toArray 66)) _ p rfl (cells_at (i3enc p) (by simp)) hOn (by simp; omega) ?_
               intro v' w4 hown4 hg4)
            | fail)
          go_roundw
          case rel =>
            exact ⟨L.length + 1, L.length + 1, O ++ [y], by omega, by omega, by go_num, by go_num, by rw [List.length_append]; simp; omega, hst3, hok2, by rw [hnx.out]; exact hown4, (hown2.alloc (.cells (i3enc p).toArray 66)).grown (hBe.alloc hBe.size (.cells (i3enc p).toArray 66)) hg4 (by simp; omega)⟩
          case measure => first | (simp [intOf]; done) | (simp [intOf]; omega)
    · have a1 : ¬ (j : Int) ≤ (L.length : Int) := by omega
      have hspL : spl 44 L = O := by
        rcases hst.out with h | h
        · exact absurd h.1 hjl
        · exact h.2
      have hn6 : Hid (O.any (fun t => !(rreadP t).2) = false) := Lib.hid (by rw [List.any_eq_false]; intro x hx; simp [hok.out x hx])
      have hRd : Hid (∀ t ∈ O, Rdd t) := Lib.hid (fun t ht => (rread_eq t).2 (hok.out t ht))
      have hPk : Hid (∀ t ∈ O, (readP t).1.b ≤ 9999 → PartOk (readP t).1) := Lib.hid (fun t ht hb => read_ok (by rw [(rread_eq t).1]; exact hok.out t ht) hb)
      have hOs : Hid (∀ t ∈ O, t.length ≤ 1000000) := Lib.hid (fun t ht => by
        have := spl_len 44 L t (by rw [hspL]; exact ht)
        omega)
      have hr2 : Hid (r = if O.any (fun t => decide (9999 < (readP t).1.b)) then ([], 7) else if manyP 0 (partsT O) = none then ([], 3) else ((partsT O).flatMap partL, 0)) := by
        rw [Hid, hR.out, hspL, hn6.out, if_neg (by simp)]
      have hil : Hid ((itsT O).length = O.length) := Lib.hid (by unfold itsT; rw [List.length_map])
      have hOl2 : O.length ≤ 1000002 := by omega
      obtain ⟨B0, hB0⟩ : ∃ B0, Hid (wo.heap.size = B0) := ⟨_, Lib.hid rfl⟩
      rw [hB0.out] at hrdv
      rw [hil.out] at hown hcv ⊢
      have hs1 : w.heap.size ≤ B0 := by rw [← hB0.out]; exact hs0
      have hs2 : B0 ≤ wo.heap.size := by rw [hB0.out]; exact Nat.le_refl _
      have hd9 : Lib.itoa 9999 = [57, 57, 57, 57] := by rw [← digL_eq (by omega) (by omega)]; decide
      have HD9 : Hid (∀ w', Calls Tryz.prog 24 #[.int .i64 9999] w' (Ret (.string (bN [57, 57, 57, 57])) w')) := Lib.hid (fun w' => by
        have := rdig_any 9999 (by omega) (by omega) w'
        rw [hd9] at this
        exact this)
      clear hst hn6 hok hR hspL hs0 hown hB0 hd9
      go_wp2_with fail
      go_loopw [9] (fun i wr => ∃ j : Nat, j ≤ O.length ∧ i = .int .i64 j ∧ Hid (∀ t ∈ O.take j, (readP t).1.b ≤ 9999) ∧ Below w.heap.size w wr ∧ Rd 3 i3enc wr B0 Av (itsT O) ∧ B0 ≤ wr.heap.size) (fun i wr => O.length - (intOf i).toNat)
      case atStart => exact ⟨0, by omega, rfl, Lib.hid (by simp), hB, hrdv, hs2⟩
      case round =>
        clear hB hrdv hs2
        obtain ⟨k, hk, rfl, hok, hB, hrd, hs2⟩ := hrel
        obtain ⟨w1, rfl⟩ : ∃ wo : World, wo = wr := ⟨_, rfl⟩
        by_cases hlt : k < O.length
        · have a2 : (k : Int) < (O.length : Int) := by omega
          obtain ⟨b, o, rfl, hb, g0, g1, g2⟩ := hrd.it3 (k := k) (by rw [hil.out]; exact hlt)
          obtain ⟨t, ht⟩ : ∃ t, Hid (O[k] = t) := ⟨_, Lib.hid rfl⟩
          have hit : (itsT O)[k]'(by rw [hil.out]; exact hlt) = (rreadP t).1 := by rw [← ht.out]; simp [itsT]
          have hmem : t ∈ O := by rw [← ht.out]; exact List.getElem_mem hlt
          rw [hit] at g0 g1 g2
          have hrd2 := hRd.out t hmem
          have hsn : O.take (k + 1) = O.take k ++ [t] := by rw [List.take_add_one, List.getElem?_eq_getElem hlt, ht.out]; rfl
          have hlm := (rread_len t (hOs.out t hmem)).2.1
          have HL : Hid (∀ w', Calls Tryz.prog 23 #[.string (bN [57, 57, 57, 57]), .string (bN (rreadP t).1.m)] w' (Ret (.bool (decide (9999 < (readP t).1.b))) w')) := Lib.hid (fun w' => by
            have := rless_any [57, 57, 57, 57] (rreadP t).1.m w' (by decide) (by omega)
            rw [lt9999 hrd2.m] at this
            rw [hrd2.e]
            exact this)
          obtain ⟨m, hm⟩ : ∃ m, Hid ((rreadP t).1.m = m) := ⟨_, Lib.hid rfl⟩
          rw [hm.out] at g1 HL
          have hS1 : w1.drew.cell? ⟨b, o + k * 3 + 1, none⟩ = some (.string (bN m)) := g1
          have hB1 : Below w1.heap.size w1 w1.drew := (Below.refl _ _).drew
          obtain ⟨d, hd⟩ : ∃ d, Hid (decide (9999 < (readP t).1.b) = d) := ⟨_, Lib.hid rfl⟩
          rw [hd.out] at HL
          clear hit hrd2 ht hm g0 g1 g2 hlm
          go_wp2_with fail
          refine wp_region_J (fun w' => w'.cell? ⟨b, o + k * 3 + 1, none⟩ = some (.string (bN m))) (fun _ => True) (fun _ => false) (by kernel_rfl) ?_
          refine wpAnyJ_take1 1 rfl (by kernel_rfl) (by kernel_rfl) rfl (by kernel_rfl) (fun _ _ _ h => h) (by rfl) hS1 (fun w' hSw => (by go_simp; try (with_reducible rfl))) ?_
          try simp only [Act.put, List.getElem_toArray, List.getElem_cons_succ, List.getElem_cons_zero, List.setIfInBounds_toArray, List.set_cons_zero, List.set_cons_succ]
          refine wpAnyJ_take1 2 rfl (by kernel_rfl) (by kernel_rfl) rfl (by kernel_rfl) (fun _ _ _ h => h) (by rfl) hS1 (fun w' hSw => (by go_simp; try (with_reducible rfl))) ?_
          try simp only [Act.put, List.getElem_toArray, List.getElem_cons_succ, List.getElem_cons_zero, List.setIfInBounds_toArray, List.set_cons_zero, List.set_cons_succ]
          refine wpAnyJ_take1 3 rfl (by kernel_rfl) (by kernel_rfl) rfl (by kernel_rfl) (fun _ _ _ h => h) (by rfl) hS1 (fun w' hSw => (by go_simp; try (with_reducible rfl))) ?_
          try simp only [Act.put, List.getElem_toArray, List.getElem_cons_succ, List.getElem_cons_zero, List.setIfInBounds_toArray, List.set_cons_zero, List.set_cons_succ]
          refine wpAnyJ_take1 4 rfl (by kernel_rfl) (by kernel_rfl) rfl (by kernel_rfl) (fun _ _ _ h => h) (by rfl) hS1 (fun w' hSw => (by go_simp; try (with_reducible rfl))) ?_
          try simp only [Act.put, List.getElem_toArray, List.getElem_cons_succ, List.getElem_cons_zero, List.setIfInBounds_toArray, List.set_cons_zero, List.set_cons_succ]
          refine wpAnyJ_take1 5 rfl (by kernel_rfl) (by kernel_rfl) rfl (by kernel_rfl) (fun _ _ _ h => h) (by rfl) hS1 (fun w' hSw => (by go_simp; try (with_reducible rfl))) ?_
          try simp only [Act.put, List.getElem_toArray, List.getElem_cons_succ, List.getElem_cons_zero, List.setIfInBounds_toArray, List.set_cons_zero, List.set_cons_succ]
          refine wpAnyJ_ready [0] (by kernel_rfl) (by simp) (NextJ.cons rfl (fun K hK => ?_) NextJ.nil)
          go_simp
          refine (HD9.out _).mono ?_
          rintro e9 w4 ⟨rfl, hB4⟩
          have hB4' := hB1.trans (hB4.mono hB1.size)
          have hS4 : w4.cell? ⟨b, o + k * 3 + 1, none⟩ = some (.string (bN m)) := (hB4.cell (p := ⟨b, o + k * 3 + 1, none⟩) (Nat.lt_of_lt_of_le hb (Nat.le_trans hs2 hB1.size))).trans hS1
          refine hK.out _ _ hS4 (fun h => absurd h (by decide)) ?_
          clear hK K
          try simp only [Act.put, List.getElem_toArray, List.getElem_cons_succ, List.getElem_cons_zero, List.setIfInBounds_toArray, List.set_cons_zero, List.set_cons_succ]
          refine wpAnyJ_ready [6] (by kernel_rfl) (by simp) (NextJ.cons rfl (fun K hK => ?_) NextJ.nil)
          go_simp
          refine (HL.out _).mono ?_
          rintro e9 w5 ⟨rfl, hB5⟩
          have hB5' := hB4'.trans (hB5.mono hB4'.size)
          refine hK.out _ _ ((hB5.cell (p := ⟨b, o + k * 3 + 1, none⟩) (Nat.lt_of_lt_of_le hb (Nat.le_trans hs2 hB4'.size))).trans hS4) (fun h => absurd h (by decide)) ?_
          clear hK K
          try simp only [Act.put, List.getElem_toArray, List.getElem_cons_succ, List.getElem_cons_zero, List.setIfInBounds_toArray, List.set_cons_zero, List.set_cons_succ]
          refine wpAnyJ_done (by kernel_rfl) ?_ _
          have hBn := hB.trans (hB5'.mono hB.size)
          have hrn := hrd.below (hB5'.mono hs2)
          cases d
          · go_wp2_with fail
            go_roundw
            case rel =>
              refine ⟨k + 1, by omega, by go_num, Lib.hid (fun u hu => ?_), hBn, hrn, Nat.le_trans hs2 hB5'.size⟩
              rw [hsn] at hu
              rcases List.mem_append.1 hu with hu | hu
              · exact hok.out u hu
              · rw [List.mem_singleton.1 hu]
                have := of_decide_eq_false hd.out
                omega
            case measure => simp [intOf]; omega
          · have hr7 : Hid (r = ([], 7)) := by rw [Hid, hr2.out, if_pos (List.any_eq_true.2 ⟨t, hmem, hd.out⟩)]
            clear hr2 hok hd hsn
            go_wp2_with fail
            go_ret2
            rw [hr7.out]
            exact ⟨_, rfl, Own.nil _ _ _, hBn⟩
        · obtain rfl : k = O.length := by omega
          rw [List.take_length] at hok
          have a2 : ¬ (O.length : Int) < (O.length : Int) := by omega
          have hr3 : Hid (r = if manyP 0 (partsT O) = none then ([], 3) else ((partsT O).flatMap partL, 0)) := by
            rw [Hid, hr2.out, if_neg (by rw [Bool.not_eq_true, List.any_eq_false]; intro x hx; simp; exact hok.out x hx)]
          have hpl : Hid ((partsT O).length = O.length) := Lib.hid (by unfold partsT; rw [List.length_map])
          have hpk : Hid (∀ t ∈ O, PartOk (readP t).1 ∧ (readP t).1.b ≤ 9999) := Lib.hid (fun t ht => ⟨hPk.out t ht (hok.out t ht), hok.out t ht⟩)
          obtain ⟨i1, hi1, hy0', hy1', hy2'⟩ := info_parts infoInt1
          clear hr2 hok hPk HD9
          go_wp2_with fail
          go_loopw [10, 11] (fun v i wr => ∃ (j : Nat), j ≤ O.length ∧ i = .int .i64 j ∧ ((partsT (O.take j)).flatMap partL).length ≤ 500 ∧ Hid (manyP (((partsT (O.take j)).flatMap partL).length : Nat) (partsT (O.drop j)) = manyP 0 (partsT O)) ∧ Tor.Own 1 ienc wr B0 3 v ((partsT (O.take j)).flatMap partL) ∧ Below B0 w1 wr) (fun _ i wr => O.length - (intOf i).toNat)
          case atStart => exact ⟨0, by omega, rfl, by simp [partsT], Lib.hid rfl, Own.nil _ _ _, Below.refl _ _⟩
          case round =>
            obtain ⟨j, hj, rfl, hl4, hmm, hown, hB4⟩ := hrel
            obtain ⟨w4, rfl⟩ : ∃ wo : World, wo = wr := ⟨_, rfl⟩
            have hs4 := hB4.size
            obtain ⟨Ao, co, rfl, hco, hrdo⟩ := Own.rd int_len hown
            by_cases hlt : j < O.length
            · have a4 : (j : Int) < (O.length : Int) := by omega
              obtain ⟨b, o, rfl, hb, g0, g1, g2⟩ := (hrd.below hB4).it3 (k := j) (by rw [hil.out]; exact hlt)
              obtain ⟨t, ht⟩ : ∃ t, Hid (O[j] = t) := ⟨_, Lib.hid rfl⟩
              have hit : (itsT O)[j]'(by rw [hil.out]; exact hlt) = (rreadP t).1 := by rw [← ht.out]; simp [itsT]
              have hmem : t ∈ O := by rw [← ht.out]; exact List.getElem_mem hlt
              rw [hit] at g0 g1 g2
              have hrd2 := hRd.out t hmem
              obtain ⟨⟨p1, p2, p3, p4⟩, p5⟩ := hpk.out t hmem
              have hdr : O.drop j = t :: O.drop (j + 1) := by rw [List.drop_eq_getElem_cons hlt, ht.out]
              have hnx : Hid ((partsT (O.take (j + 1))).flatMap partL = (partsT (O.take j)).flatMap partL ++ partL (readP t).1) := by
                rw [Hid, parts_next hlt, ht.out, List.flatMap_append]; simp
              have hst : Hid (manyP (((partsT (O.take j)).flatMap partL).length : Nat) (partsT (O.drop j)) = if 500 < ((((partsT (O.take j)).flatMap partL).length : Nat) : Int) + min (readP t).1.t 501 * ((readP t).1.b - (readP t).1.a + 1) then none else manyP (((((partsT (O.take j)).flatMap partL).length : Nat) : Int) + min (readP t).1.t 501 * ((readP t).1.b - (readP t).1.a + 1)) (partsT (O.drop (j + 1)))) := by
                rw [Hid, hdr]; rfl
              rw [hmm.out] at hst
              have hplen := part_len (hpk.out t hmem).1
              obtain ⟨ln, lm, lt⟩ := rread_len t (hOs.out t hmem)
              have he := hrd2.e
              have hva : (natV (rreadP t).1.n : Int) = (readP t).1.a := by
                have e1 := congrArg Part.a he; have e2 := congrArg Part.b he
                simp only at e1 e2; omega
              have hvb : (natV (rreadP t).1.m : Int) = (readP t).1.b := by
                have e2 := congrArg Part.b he
                simp only at e2; omega
              have hvt : min (natV (rreadP t).1.t : Int) 1099511627776 = (readP t).1.t := by
                have e2 := congrArg Part.t he
                simp only at e2; omega
              have I1 := Lib.hid (fun w' => rint_any (rreadP t).1.n 0 9999 w' ln)
              rw [intW_nat hrd2.n 0 9999 (by omega) (by omega) (by omega), if_neg (by omega), hva] at I1
              have I2 := Lib.hid (fun w' => rint_any (rreadP t).1.m 0 9999 w' lm)
              rw [intW_nat hrd2.m 0 9999 (by omega) (by omega) (by omega), if_neg (by omega), hvb] at I2
              have I3 := Lib.hid (fun w' => rint_any (rreadP t).1.t 1 500 w' lt)
              rw [intW_nat hrd2.t 1 500 (by omega) (by omega) (by omega)] at I3
              have hBq : ∀ (u : World), Below w4.heap.size w4 u → ∀ k, u.cell? ⟨b, k, none⟩ = w4.cell? ⟨b, k, none⟩ := fun u hu k => hu.cell (p := ⟨b, k, none⟩) (Nat.lt_of_lt_of_le hb (Nat.le_trans hs2 hs4))
              have HBq := Lib.hid hBq
              obtain ⟨n, hn⟩ : ∃ m, Hid ((rreadP t).1.n = m) := ⟨_, Lib.hid rfl⟩
              obtain ⟨m, hm⟩ : ∃ m, Hid ((rreadP t).1.m = m) := ⟨_, Lib.hid rfl⟩
              obtain ⟨tt, htt⟩ : ∃ m, Hid ((rreadP t).1.t = m) := ⟨_, Lib.hid rfl⟩
              rw [hn.out] at g0 I1 hva
              rw [hm.out] at g1 I2 hvb
              rw [htt.out] at g2 I3 hvt
              obtain ⟨x, hx⟩ : ∃ x, Hid ((readP t).1 = x) := ⟨_, Lib.hid rfl⟩
              rw [hx.out] at I1 I2 p1 p2 p3 p4 p5 hvt hst hnx hplen
              obtain ⟨mm, hmmv⟩ : ∃ mm, Hid (((partsT (O.take j)).flatMap partL).length = mm) := ⟨_, Lib.hid rfl⟩
              obtain ⟨O4, hO4⟩ : ∃ X, Hid ((partsT (O.take j)).flatMap partL = X) := ⟨_, Lib.hid rfl⟩
              rw [hO4.out] at hown hl4 hnx hco hrdo hst ⊢
              have k0 : 0 ≤ x.t * (x.b - x.a + 1) := Int.mul_nonneg (by omega) (by omega)
              clear hBq hit hrd2 he ht hn hm htt hva hvb hdr hmm hmmv hx hmem
              by_cases h500 : 500 < x.t
              · have hI7 : ((natV tt : Nat) : Int) < 1 ∨ (500 : Int) < (natV tt : Nat) := by omega
                rw [if_pos hI7] at I3
                have e501 : 501 * 1 ≤ 501 * (x.b - x.a + 1) := Int.mul_le_mul_of_nonneg_left (by omega) (by omega)
                have hr7 : Hid (r = ([], 3)) := by
                  rw [Hid, hr3.out, if_pos]
                  rw [hst.out, if_pos]
                  rw [Int.min_eq_right (by omega : (501 : Int) ≤ x.t)]
                  omega
                clear hr3 hst hnx hplen hvt e501 hI7 h500 k0
                go_wp2_with fail
                refine (I1.out _).mono ?_
                rintro e9 w5 ⟨rfl, hB5⟩
                have g1' := (HBq.out _ hB5 _).trans g1
                go_wp2_with fail
                refine (I2.out _).mono ?_
                rintro e9 w6 ⟨rfl, hB6⟩
                have hB6' := hB5.trans (hB6.mono hB5.size)
                have g2' := (HBq.out _ hB6' _).trans g2
                go_wp2_with fail
                refine (I3.out _).mono ?_
                rintro e9 w7 ⟨rfl, hB7⟩
                have hB7' := hB6'.trans (hB7.mono hB6'.size)
                go_wp2_with fail
                go_ret2
                rw [hr7.out]
                exact ⟨_, rfl, Own.nil _ _ _, hB.trans ((hB4.trans (hB7'.mono (Nat.le_trans hs2 hs4))).mono hs1)⟩
              · have hI7 : ¬ (((natV tt : Nat) : Int) < 1 ∨ (500 : Int) < (natV tt : Nat)) := by omega
                rw [if_neg hI7] at I3
                have hvt2 : ((natV tt : Nat) : Int) = x.t := by omega
                rw [hvt2] at I3
                have hmin : min x.t 501 = x.t := Int.min_eq_left (by omega)
                rw [hmin] at hst
                have k1 : x.t * (x.b - x.a + 1) ≤ 500 * 10000 := Int.le_trans (Int.mul_le_mul_of_nonneg_right (by omega) (by omega)) (Int.mul_le_mul_of_nonneg_left (by omega) (by omega))
                by_cases h5 : 500 - (O4.length : Int) < x.t * (x.b - x.a + 1)
                · have hr7 : Hid (r = ([], 3)) := by
                    rw [Hid, hr3.out, if_pos]
                    rw [hst.out, if_pos]
                    omega
                  clear hr3 hst hnx hplen hvt hI7 h500 hvt2 hmin
                  go_wp2_with fail
                  refine (I1.out _).mono ?_
                  rintro e9 w5 ⟨rfl, hB5⟩
                  have g1' := (HBq.out _ hB5 _).trans g1
                  go_wp2_with fail
                  refine (I2.out _).mono ?_
                  rintro e9 w6 ⟨rfl, hB6⟩
                  have hB6' := hB5.trans (hB6.mono hB5.size)
                  have g2' := (HBq.out _ hB6' _).trans g2
                  go_wp2_with fail
                  refine (I3.out _).mono ?_
                  rintro e9 w7 ⟨rfl, hB7⟩
                  have hB7' := hB6'.trans (hB7.mono hB6'.size)
                  go_wp2_with fail
                  go_ret2
                  rw [hr7.out]
                  exact ⟨_, rfl, Own.nil _ _ _, hB.trans ((hB4.trans (hB7'.mono (Nat.le_trans hs2 hs4))).mono hs1)⟩
                · have hst2 : Hid (manyP ((O4.length : Int) + x.t * (x.b - x.a + 1)) (partsT (O.drop (j + 1))) = manyP 0 (partsT O)) := Lib.hid (by rw [hst.out, if_neg (by omega)])
                  obtain ⟨T, hT⟩ : ∃ T : Nat, x.t = T := ⟨x.t.toNat, by omega⟩
                  obtain ⟨D, hD⟩ : ∃ D : Nat, x.b - x.a + 1 = D := ⟨(x.b - x.a + 1).toNat, by omega⟩
                  have hpl : Hid (partL x = (List.range T).flatMap fun _ => upTo x.a x.b) := by rw [Hid]; unfold partL; rw [hT]; rfl
                  have hup : Hid (upTo x.a x.b = (List.range D).map fun i : Nat => x.a + i) := by rw [Hid]; unfold upTo; rw [hD]; rfl
                  have hpl2 : (O4.length : Int) + ((partL x).length : Int) ≤ 500 := by rw [hplen]; omega
                  have hgo : Hid (manyP ((((O4 ++ partL x).length : Nat) : Int)) (partsT (O.drop (j + 1))) = manyP 0 (partsT O)) := Lib.hid (by rw [List.length_append, Int.natCast_add, hplen]; exact hst2.out)
                  have hlen9 : (O4 ++ partL x).length ≤ 500 := by rw [List.length_append]; omega
                  have HD := Lib.hid hD
                  have hTD : T * D ≤ 500 := by
                    have : (T : Int) * (D : Int) ≤ 500 := by rw [← hT, ← hD]; omega
                    exact_mod_cast this
                  have hT5 : T ≤ 500 := by omega
                  have hD1 : D ≤ 10000 := by omega
                  rw [hT] at I3 p3 p4 k0 k1 h5
                  rw [hD] at k0 k1 h5
                  rw [hpl.out] at hnx hgo hlen9
                  clear hst hst2 hplen hvt hI7 h500 hvt2 hmin hpl hpl2 hT
                  go_wp2_with fail
                  refine (I1.out _).mono ?_
                  rintro e9 w5 ⟨rfl, hB5⟩
                  have g1' := (HBq.out _ hB5 _).trans g1
                  go_wp2_with fail
                  refine (I2.out _).mono ?_
                  rintro e9 w6 ⟨rfl, hB6⟩
                  have hB6' := hB5.trans (hB6.mono hB5.size)
                  have g2' := (HBq.out _ hB6' _).trans g2
                  go_wp2_with fail
                  refine (I3.out _).mono ?_
                  rintro e9 w7 ⟨rfl, hB7⟩
                  have hB7' := hB6'.trans (hB7.mono hB6'.size)
                  have hB7B := hB4.trans (hB7'.mono (Nat.le_trans hs2 hs4))
                  have hown7 := hown.below hB7'
                  go_wp2_with fail
                  clear hown hB4 g0 g1 g2 g1' g2' hrdo hco I1 I2 I3 hB5 hB6 hB7 hB6' hs4 HBq
                  have hD := Lib.hid hD
                  go_loopw [10, 18] (fun v k wr => ∃ kk : Nat, kk ≤ T ∧ k = .int .i64 kk ∧ Tor.Own 1 ienc wr B0 3 v (O4 ++ (List.range kk).flatMap fun _ => upTo x.a x.b) ∧ Below B0 w1 wr) (fun v k wr => T - (intOf k).toNat)
                  case atStart => exact ⟨0, by omega, rfl, by simpa using hown7, hB7B⟩
                  case round =>
                    clear hown7 hB7B hB7'
                    obtain ⟨kk, hkk, rfl, hown, hB5⟩ := hrel
                    obtain ⟨w8, rfl⟩ : ∃ wo : World, wo = wr := ⟨_, rfl⟩
                    have hs5 := hB5.size
                    obtain ⟨Ao, co, rfl, hco, hrdo⟩ := Own.rd int_len hown
                    by_cases hkt : kk < T
                    · have a5 : (kk : Int) < (T : Int) := by omega
                      have hnk : Hid ((List.range (kk + 1)).flatMap (fun _ => upTo x.a x.b) = (List.range kk).flatMap (fun _ => upTo x.a x.b) ++ upTo x.a x.b) := by rw [Hid, List.range_succ, List.flatMap_append]; simp
                      have hl5 : ((List.range kk).flatMap fun _ => upTo x.a x.b).length ≤ 500 := by
                        refine Nat.le_trans ?_ hTD
                        rw [hup.out, List.length_flatMap]
                        simp only [List.length_map, List.length_range, List.map_const', List.sum_replicate_nat]
                        exact Nat.mul_le_mul_right D (by omega)
                      obtain ⟨O5, hO5⟩ : ∃ O, Hid (((List.range kk).flatMap fun _ => upTo x.a x.b) = O) := ⟨_, Lib.hid rfl⟩
                      rw [hO5.out] at hown hl5 hnk hco hrdo ⊢
                      go_wp2_with fail
                      go_loopw [10, 19] (fun v n wr => ∃ ii : Nat, ii ≤ D ∧ n = .int .i64 (x.a + ii) ∧ Tor.Own 1 ienc wr B0 3 v (O4 ++ O5 ++ (List.range ii).map fun i : Nat => x.a + i) ∧ Below B0 w1 wr) (fun v n wr => D - (intOf n - x.a).toNat)
                      case atStart => exact ⟨0, by omega, by simp, by simpa using hown, hB5⟩
                      case round =>
                        clear hown hB5 hs5 hrdo hco
                        obtain ⟨ii, hii, rfl, hown, hB6⟩ := hrel
                        obtain ⟨w9, rfl⟩ : ∃ wo : World, wo = wr := ⟨_, rfl⟩
                        have hs6 := hB6.size
                        obtain ⟨Ao, co, rfl, hco, hrdo⟩ := Own.rd int_len hown
                        by_cases hid : ii < D
                        · have a6 : x.a + (ii : Int) ≤ x.b := by have := HD.out; omega
                          have hl6 : (O4 ++ O5 ++ (List.range ii).map fun i : Nat => x.a + i).length ≤ 1000000 := by
                            simp only [List.length_append, List.length_map, List.length_range]; omega
                          have hni : Hid ((List.range (ii + 1)).map (fun i : Nat => x.a + i) = (List.range ii).map (fun i : Nat => x.a + i) ++ [x.a + ii]) := by rw [Hid, List.range_succ, List.map_append]; rfl
                          obtain ⟨O6, hO6⟩ : ∃ O, Hid (((List.range ii).map fun i : Nat => x.a + i) = O) := ⟨_, Lib.hid rfl⟩
                          rw [hO6.out] at hown hl6 hni hco ⊢
                          go_wp2_with (first
                            | (at_builtin
                               refine wpList_append_enc int_len int_one (by omega) (show (8 : Nat) ≤ 1000 by omega) rfl (.tmp 131) (.tmp 133) _ rfl B0 _ i1 _ Tryz.underlying22 hi1 hy0' hy1' hy2' rfl (.slice Ao (O4 ++ O5 ++ O6).length co) _ rfl (hown.alloc (.cells (ienc (x.a + ii)).toArray 3)) _ (x.a + ii) rfl (cells_at (ienc (x.a + ii)) (by simp)) hl6 (by simp; omega) ?_
                               intro v' w10 hown7 hg7)
                            | fail)
                          go_roundw
                          case rel =>
                            exact ⟨ii + 1, by omega, by simp; omega, by rw [hni.out, ← List.append_assoc]; exact hown7, (hown.alloc (.cells (ienc (x.a + ii)).toArray 3)).grown (hB6.alloc (by omega) (.cells (ienc (x.a + ii)).toArray 3)) hg7 (by simp; omega)⟩
                          case measure => simp [intOf]; omega
                        · obtain rfl : ii = D := by omega
                          have a6 : ¬ x.a + (ii : Int) ≤ x.b := by have := HD.out; omega
                          go_wp2_with fail
                          go_roundw
                          case rel => exact ⟨kk + 1, by omega, by go_num, by rw [hnk.out, ← List.append_assoc, hup.out]; exact hown, hB6⟩
                          case measure => simp [intOf]; omega
                    · obtain rfl : kk = T := by omega
                      have a5 : ¬ (kk : Int) < (kk : Int) := by omega
                      go_wp2_with fail
                      go_roundw
                      case rel => exact ⟨j + 1, by omega, by go_num, by rw [hnx.out]; exact hlen9, by rw [hnx.out]; exact hgo, by rw [hnx.out]; exact hown, hB5⟩
                      case measure => simp [intOf]; omega
            · obtain rfl : j = O.length := by omega
              rw [List.take_length] at hown hl4 hmm ⊢
              have a4 : ¬ (O.length : Int) < (O.length : Int) := by omega
              have hr4 : Hid (r = ((partsT O).flatMap partL, 0)) := by
                rw [Hid, hr3.out, if_neg]
                rw [← hmm.out, List.drop_length]
                simp [partsT, manyP]
              obtain ⟨Z, hZ⟩ : ∃ O', Hid ((partsT O).flatMap partL = O') := ⟨_, Lib.hid rfl⟩
              rw [hZ.out] at hown ⊢
              go_wp2_with fail
              go_ret2
              rw [hr4.out, hZ.out]
              exact ⟨_, rfl, hown.base hs1, hB.trans (hB4.mono hs1)⟩
end Go.Proofs.YtohcmfobnkaaiaaGreatDoor
