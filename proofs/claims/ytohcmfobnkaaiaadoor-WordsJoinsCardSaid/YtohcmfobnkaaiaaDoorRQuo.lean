/- torchonref01: Quote, Unquote. -/
import Derived.Test.YtohcmfobnkaaiaaDoorNames
import Derived.Test.YtohcmfobnkaaiaaDoorWUnq
import Derived.Test.YtohcmfobnkaaiaaDoorQuoM
set_option linter.unusedSimpArgs false
set_option linter.unusedVariables false
namespace Go.Proofs.YtohcmfobnkaaiaaDoor
open Go Go.RowKit Tor

theorem und_ne {c : UInt8} (hc : c ≠ 34) (r : List UInt8) : und (c :: r) = (und r).map (c :: ·) := by
  cases r with
  | nil => simp [und, hc]
  | cons d t => rw [und, if_neg hc]
theorem und_two (r : List UInt8) : und (34 :: 34 :: r) = (und r).map (34 :: ·) := by rw [und, if_pos rfl, if_pos rfl]
theorem und_bad {d : UInt8} (hd : d ≠ 34) (r : List UInt8) : und (34 :: d :: r) = none := by rw [und, if_pos rfl, if_neg hd]
theorem und_one : und [34] = none := by rw [und, if_pos rfl]
theorem qd_snoc (a : List UInt8) (c : UInt8) : qd (a ++ [c]) = qd a ++ (if c = 34 then [34, 34] else [c]) := by
  unfold qd; rw [List.flatMap_append]; simp
theorem byteSl (L : List UInt8) (j : Nat) (hlt : j < L.length) (hs : L.length ≤ 4000000) (c : UInt8) (hc : L[j]'hlt = c) (W : World) :
    (Instr.slice 9 (.string (bN L)) (some (.int .i64 (j : Int))) (some (.int .i64 ((j : Int) + 1))) none).run Tryd.prog W = .ok (.string (bN [c])) W := by
  have hz : (bN L).size = L.length := rfl
  have := run_slice_string (P := Tryd.prog) W 9 (bN L) .i64 .i64 (j : Int) ((j : Int) + 1) Tryd.underlying9 (by omega) (by omega) (by rw [hz]; omega)
  have he : (bN L).extract j (j + 1) = bN [c] := by
    refine ByteArray.ext (Array.ext' ?_)
    rw [ByteArray.data_extract]
    simp only [bN, Array.toList_extract, List.extract_eq_take_drop]
    rw [show j + 1 - j = 1 by omega, List.drop_eq_getElem_cons hlt, hc]
    rfl
  rw [Int.toNat_natCast, show ((j : Int) + 1).toNat = j + 1 by omega, he] at this
  exact this
theorem ne34i {x : UInt8} (hx : ¬ x = 34) : ¬ (x.toNat : Int) = 34 := fun he => hx (UInt8.toNat.inj (by show x.toNat = 34; omega))

set_option maxRecDepth 100000 in
set_option maxHeartbeats 1000000 in
theorem rquote_any (L : List UInt8) (w : World) (hs : L.length ≤ 4000000) : Calls Tryd.prog 17 #[.string (bN L)] w (Ret (.tuple #[.string (bN (quoteP L).1), .int .i64 (quoteP L).2]) w) := by
  have hz : (bN L).size = L.length := rfl
  have HT := Lib.hid (fun w' => rtext_any L w' hs)
  cases hb : textB L
  · have hP : Hid (quoteP L = ([], 2)) := by rw [Hid]; unfold quoteP; rw [hb]; rfl
    rw [hP.out]
    rw [hb] at HT
    clear hb hP
    go_enter Tryd.func17, Tryd.ntmps17
    go_wp2_with (first | (go_at_call 28; refine (HT.out _).mono ?_; rintro e w1 ⟨rfl, hB1⟩) | fail)
    go_ret2
    exact ⟨rfl, hB1⟩
  · have hP : Hid (quoteP L = (34 :: (qd L ++ [34]), 0)) := by rw [Hid]; unfold quoteP; rw [hb, ← quoteL_eq]; rfl
    rw [hP.out]
    rw [hb] at HT
    clear hb hP
    go_enter Tryd.func17, Tryd.ntmps17
    go_wp2_with (first | (go_at_call 28; refine (HT.out _).mono ?_; rintro e w1 ⟨rfl, hB1⟩) | fail)
    go_loopw [4, 5] (fun o i wr => ∃ (j : Nat) (O : ByteArray), j ≤ L.length ∧ i = .int .i64 j ∧ o = .string O ∧ Hid (O = bN (34 :: qd (L.take j))) ∧ O.size ≤ 2 * j + 1 ∧ Below w.heap.size w wr) (fun _ i _ => L.length - (intOf i).toNat)
    case atStart => exact ⟨0, ⟨#[34]⟩, by omega, rfl, rfl, Lib.hid rfl, Nat.le_refl _, hB1⟩
    case round =>
      obtain ⟨j, O, hj, rfl, rfl, hO, hOz, hB⟩ := hrel
      by_cases hlt : j < L.length
      · have a1 : (j : Int) < L.length := by omega
        obtain ⟨c, hc⟩ : ∃ c, Hid (L[j]'hlt = c) := ⟨_, Lib.hid rfl⟩
        have hsz : j < (bN L).size := hlt
        have hcb : (bN L)[j]'hsz = c := hc.out
        have HSl := byteSl L j hlt hs c hc.out
        have hta : L.take (j + 1) = L.take j ++ [c] := by
          rw [List.take_add_one, List.getElem?_eq_getElem hlt, hc.out]; rfl
        obtain ⟨Cb, hCb⟩ : ∃ Cb, Hid (bN [c] = Cb) := ⟨_, Lib.hid rfl⟩
        have hCz : Cb.size = 1 := by rw [← hCb.out]; rfl
        rw [hCb.out] at HSl
        have z1 : O.size + Cb.size ≤ 9223372036854775807 := by omega
        by_cases h34 : c = 34
        · have e1 : (c.toNat : Int) = 34 := by rw [h34]; rfl
          have hN : Hid (O ++ Cb ++ ⟨#[34]⟩ = bN (34 :: qd (L.take (j + 1)))) := by
            rw [Hid, hta, qd_snoc, if_pos h34, hO.out, ← hCb.out, h34, bN_app, show (⟨#[34]⟩ : ByteArray) = bN [34] from rfl, bN_app]
            simp
          have z3 : (O ++ Cb).size = O.size + 1 := by rw [ByteArray.size_append, hCz]
          have z4 : (⟨#[34]⟩ : ByteArray).size = 1 := rfl
          have z2 : (O ++ Cb).size + (⟨#[34]⟩ : ByteArray).size ≤ 9223372036854775807 := by omega
          have z5 : (O ++ Cb ++ ⟨#[34]⟩).size ≤ 2 * (j + 1) + 1 := by rw [ByteArray.size_append]; omega
          clear hO hta h34 hCb
          go_wp2_with fail
          go_roundw
          case rel => exact ⟨j + 1, O ++ Cb ++ ⟨#[34]⟩, by omega, by go_num, rfl, hN, z5, hB⟩
          case measure => simp [intOf]; omega
        · have e1 : ¬ (c.toNat : Int) = 34 := ne34i h34
          have hN : Hid (O ++ Cb = bN (34 :: qd (L.take (j + 1)))) := by
            rw [Hid, hta, qd_snoc, if_neg h34, hO.out, ← hCb.out, bN_app]
            simp
          have z3 : (O ++ Cb).size = O.size + 1 := by rw [ByteArray.size_append, hCz]
          clear hO hta h34 hCb
          go_wp2_with fail
          go_roundw
          case rel => exact ⟨j + 1, O ++ Cb, by omega, by go_num, rfl, hN, by omega, hB⟩
          case measure => simp [intOf]; omega
      · obtain rfl : j = L.length := by omega
        have hN : Hid (O ++ ⟨#[34]⟩ = bN (34 :: (qd L ++ [34]))) := by
          rw [Hid, hO.out, List.take_length, show (⟨#[34]⟩ : ByteArray) = bN [34] from rfl, bN_app]
          simp
        have z4 : (⟨#[34]⟩ : ByteArray).size = 1 := rfl
        have z2 : O.size + (⟨#[34]⟩ : ByteArray).size ≤ 9223372036854775807 := by omega
        clear hO
        go_wp2_with fail
        go_ret2
        rw [hN.out]
        exact ⟨rfl, hB⟩

set_option maxRecDepth 100000 in
set_option maxHeartbeats 2000000 in
theorem runquote_any (L : List UInt8) (w : World) (hs : L.length ≤ 1000000) : Calls Tryd.prog 19 #[.string (bN L)] w (Ret (.tuple #[.string (bN (unqP L).1), .int .i64 (unqP L).2]) w) := by
  have hz : (bN L).size = L.length := rfl
  by_cases h2 : L.length < 2
  · have hP : Hid (unqP L = ([], 6)) := by rw [Hid]; unfold unqP; rw [if_pos (.inl h2)]
    rw [hP.out]
    have a1 : (L.length : Int) < 2 := by omega
    clear hP h2
    go_enter Tryd.func19, Tryd.ntmps19
    go_wp2_with fail
    go_ret2
    exact ⟨rfl, Below.refl _ _⟩
  have a1 : ¬ (L.length : Int) < 2 := by omega
  have h0 : 0 < L.length := by omega
  have hn : L.length - 1 < L.length := by omega
  have z0 : 0 < (bN L).size := h0
  have zn : L.length - 1 < (bN L).size := hn
  obtain ⟨c, hc⟩ : ∃ c, Hid (L[0] = c) := ⟨_, Lib.hid rfl⟩
  obtain ⟨d, hd⟩ : ∃ d, Hid (L[L.length - 1] = d) := ⟨_, Lib.hid rfl⟩
  have b0 : (bN L)[0]'z0 = c := hc.out
  have b1 : (bN L)[L.length - 1]'zn = d := hd.out
  have hh : L.head? = some c := by rw [List.head?_eq_getElem?, List.getElem?_eq_getElem h0]; exact congrArg some hc.out
  have hl : L.getLast? = some d := by rw [List.getLast?_eq_getElem?, List.getElem?_eq_getElem hn]; exact congrArg some hd.out
  have ne34 : ∀ x : UInt8, ¬ x = 34 → ((x.toNat : Int) != 34) = true := fun x hx => by
    rw [bne_iff_ne]; intro he; exact hx (UInt8.toNat.inj (by show x.toNat = 34; omega))
  by_cases hc34 : c = 34
  rotate_left
  · have hP : Hid (unqP L = ([], 6)) := by rw [Hid]; unfold unqP; rw [if_pos (.inr (.inl (by rw [hh]; simpa using hc34)))]
    rw [hP.out]
    have e1 := ne34 c hc34
    clear hP h2 b1 hc hd hh hl ne34 zn hn hc34
    go_enter Tryd.func19, Tryd.ntmps19
    go_wp2_with fail
    go_ret2
    exact ⟨rfl, Below.refl _ _⟩
  have e0 : ((c.toNat : Int) != 34) = false := by rw [hc34]; rfl
  have i2 : (L.length : Int) - 1 = (L.length - 1 : Nat) := by omega
  by_cases hd34 : d = 34
  rotate_left
  · have hP : Hid (unqP L = ([], 6)) := by rw [Hid]; unfold unqP; rw [if_pos (.inr (.inr (by rw [hl]; simpa using hd34)))]
    rw [hP.out]
    have e1 := ne34 d hd34
    clear hP h2 hc hd hh hl ne34 hd34 hc34
    go_enter Tryd.func19, Tryd.ntmps19
    go_wp2_with fail
    go_ret2
    exact ⟨rfl, Below.refl _ _⟩
  have e2 : ((d.toNat : Int) != 34) = false := by rw [hd34]; rfl
  obtain ⟨M, hM⟩ : ∃ M, Hid (midL L = M) := ⟨_, Lib.hid rfl⟩
  have hU : Hid (unqP L = match und M with
    | none => ([], 6)
    | some t => if textB t then (t, 0) else ([], 6)) := by
    rw [Hid, ← hM.out]
    refine unqP_eq L ?_
    rw [hh, hl, hc34, hd34]
    simp
    omega
  have hML : M.length = L.length - 2 := by rw [← hM.out]; unfold midL; rw [List.length_take, List.length_drop]; omega
  have hMg : ∀ k (hk : k < L.length - 1) (h1 : 1 ≤ k), M.drop (k - 1) = L[k]'(by omega) :: M.drop k := fun k hk h1 => by
    have hk' : k - 1 < M.length := by omega
    rw [List.drop_eq_getElem_cons hk', show k - 1 + 1 = k by omega]
    congr 1
    have : M[k - 1]'hk' = (midL L)[k - 1]'(by rw [hM.out]; exact hk') := by
      congr 1; exact hM.out.symm
    rw [this]
    unfold midL
    rw [List.getElem_take, List.getElem_drop]
    congr 1
    omega
  obtain ⟨res, hres⟩ : ∃ r, Hid (unqP L = r) := ⟨_, Lib.hid rfl⟩
  rw [hres.out]
  have hU' := hU.out
  rw [hres.out] at hU'
  have hU2 := Lib.hid hU'
  clear hU hU' hM hh hl hc hd ne34 hc34 hd34 h2 hres
  go_enter Tryd.func19, Tryd.ntmps19
  go_wp2_with fail
  go_loopw [4, 5] (fun o i wr => ∃ (j : Nat) (T : List UInt8) (O : ByteArray), 1 ≤ j ∧ j ≤ L.length - 1 ∧ i = .int .i64 j ∧ o = .string O ∧ Hid (O = bN T ∧ und M = (und (M.drop (j - 1))).map (T ++ ·)) ∧ O.size ≤ j ∧ wr = w) (fun _ i _ => L.length - (intOf i).toNat)
  case atStart => exact ⟨1, [], ⟨#[]⟩, Nat.le_refl _, by omega, rfl, rfl, Lib.hid ⟨rfl, by simp⟩, by show 0 ≤ 1; omega, rfl⟩
  case round =>
    obtain ⟨j, T, O, hj1, hj, rfl, rfl, hO, hOz, rfl⟩ := hrel
    by_cases hlt : j < L.length - 1
    · have a2 : (j : Int) < (L.length - 1 : Nat) := by omega
      have hltL : j < L.length := by omega
      obtain ⟨x, hx⟩ : ∃ c, Hid (L[j]'hltL = c) := ⟨_, Lib.hid rfl⟩
      have hsz : j < (bN L).size := hltL
      have hcb : (bN L)[j]'hsz = x := hx.out
      have HSl := byteSl L j hltL (by omega) x hx.out
      have hdr := hMg j hlt hj1
      rw [hx.out] at hdr
      obtain ⟨Cb, hCb⟩ : ∃ Cb, Hid (bN [x] = Cb) := ⟨_, Lib.hid rfl⟩
      have hCz : Cb.size = 1 := by rw [← hCb.out]; rfl
      rw [hCb.out] at HSl
      have z1 : O.size + Cb.size ≤ 9223372036854775807 := by omega
      have z3 : (O ++ Cb).size = O.size + 1 := by rw [ByteArray.size_append, hCz]
      have hOC : Hid (O ++ Cb = bN (T ++ [x])) := by rw [Hid, hO.out.1, ← hCb.out, bN_app]
      by_cases h34 : x = 34
      · have e3 : (x.toNat : Int) = 34 := by rw [h34]; rfl
        by_cases hend : j + 1 = L.length - 1
        · have hres : Hid (res = ([], 6)) := by
            rw [Hid, hU2.out, hO.out.2, hdr, h34, List.drop_eq_nil_of_le (by omega), und_one]
            rfl
          have e4 : ((j : Int) + 1 == (L.length - 1 : Nat)) = true := by rw [beq_iff_eq]; omega
          have e5 : (j : Int) + 1 = (L.length - 1 : Nat) := by omega
          rw [hres.out]
          clear hres hU2 hO hdr hOC hCb h34
          go_wp2_with fail
          go_ret2
          exact ⟨rfl, Below.refl _ _⟩
        · have e4 : ((j : Int) + 1 == (L.length - 1 : Nat)) = false := by rw [beq_eq_false_iff_ne]; omega
          have e5 : ¬ (j : Int) + 1 = (L.length - 1 : Nat) := by omega
          have hlt2 : j + 1 < L.length := by omega
          obtain ⟨y, hy⟩ : ∃ c, Hid (L[j + 1]'hlt2 = c) := ⟨_, Lib.hid rfl⟩
          have hsz2 : j + 1 < (bN L).size := hlt2
          have hcb2 : (bN L)[j + 1]'hsz2 = y := hy.out
          have hdr2 := hMg (j + 1) (by omega) (by omega)
          rw [hy.out, Nat.add_sub_cancel] at hdr2
          by_cases hy34 : y = 34
          · have e6 : ((y.toNat : Int) != 34) = false := by rw [hy34]; rfl
            have hN : Hid (O ++ Cb = bN (T ++ [34]) ∧ und M = (und (M.drop (j + 2 - 1))).map ((T ++ [34]) ++ ·)) := by
              refine Lib.hid ⟨by rw [hOC.out, h34], ?_⟩
              rw [hO.out.2, hdr, hdr2, h34, hy34, und_two, Option.map_map, show j + 2 - 1 = j + 1 by omega]
              congr 1
              funext t
              simp
            clear hO hdr hdr2 hOC hCb h34 hy34
            go_wp2_with fail
            go_roundw
            case rel => exact ⟨j + 2, T ++ [34], O ++ Cb, by omega, by omega, by go_num, rfl, hN, by omega, trivial⟩
            case measure => simp [intOf]; omega
          · have e6 : ((y.toNat : Int) != 34) = true := by rw [bne_iff_ne]; exact ne34i hy34
            have hres : Hid (res = ([], 6)) := by
              rw [Hid, hU2.out, hO.out.2, hdr, hdr2, h34, und_bad hy34]
              rfl
            rw [hres.out]
            clear hres hU2 hO hdr hdr2 hOC hCb h34 hy34
            go_wp2_with fail
            go_ret2
            exact ⟨rfl, Below.refl _ _⟩
      · have e3 : ¬ (x.toNat : Int) = 34 := ne34i h34
        have hN : Hid (O ++ Cb = bN (T ++ [x]) ∧ und M = (und (M.drop (j + 1 - 1))).map ((T ++ [x]) ++ ·)) := by
          refine Lib.hid ⟨hOC.out, ?_⟩
          rw [hO.out.2, hdr, und_ne h34, Option.map_map, show j + 1 - 1 = j by omega]
          congr 1
          funext t
          simp
        clear hO hdr hOC hCb h34
        go_wp2_with fail
        go_roundw
        case rel => exact ⟨j + 1, T ++ [x], O ++ Cb, by omega, by omega, by go_num, rfl, hN, by omega, trivial⟩
        case measure => simp [intOf]; omega
    · obtain rfl : j = L.length - 1 := by omega
      have a2 : ¬ (((L.length - 1 : Nat) : Int) < (L.length - 1 : Nat)) := by omega
      have hT : Hid (res = if textB T then (T, 0) else ([], 6)) := by
        rw [Hid, hU2.out, hO.out.2, List.drop_eq_nil_of_le (by omega)]
        simp [und]
      have hOb := hO.out.1
      subst hOb
      have hTl : T.length ≤ 4000000 := by have : (bN T).size = T.length := rfl; omega
      have HT := Lib.hid (fun w' => rtext_any T w' hTl)
      clear hO hU2
      cases hb : textB T
      · have hr : Hid (res = ([], 6)) := by rw [Hid, hT.out, hb]; rfl
        rw [hb] at HT
        clear hT hb
        go_wp2_with (first | (go_at_call 28; refine (HT.out _).mono ?_; rintro e w1 ⟨rfl, hB1⟩) | fail)
        go_ret2
        rw [hr.out]
        exact ⟨rfl, hB1⟩
      · have hr : Hid (res = (T, 0)) := by rw [Hid, hT.out, hb]; rfl
        rw [hb] at HT
        clear hT hb
        go_wp2_with (first | (go_at_call 28; refine (HT.out _).mono ?_; rintro e w1 ⟨rfl, hB1⟩) | fail)
        go_ret2
        rw [hr.out]
        exact ⟨rfl, hB1⟩
end Go.Proofs.YtohcmfobnkaaiaaDoor
