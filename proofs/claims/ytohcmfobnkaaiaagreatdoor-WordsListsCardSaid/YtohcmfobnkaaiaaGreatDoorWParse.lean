/- words: ParseList. -/
import Derived.Test.YtohcmfobnkaaiaaGreatDoorWdQ
import Derived.Test.YtohcmfobnkaaiaaGreatDoorWRead
set_option linter.unusedSimpArgs false
set_option linter.unusedVariables false
namespace Go.Proofs.YtohcmfobnkaaiaaGreatDoor
open Go Go.RowKit Tor

theorem splitB_bN (L : List UInt8) (c : UInt8) : Lib.splitB ⟨#[c]⟩ 0 (Lib.countB (bN L) ⟨#[c]⟩) (bN L) = (Lib.split L [c]).map bN := by
  have h1 := Lib.splitB_data ⟨#[c]⟩ 0 (Lib.countB (bN L) ⟨#[c]⟩) (bN L)
  have h2 : (Lib.splitB ⟨#[c]⟩ 0 (Lib.countB (bN L) ⟨#[c]⟩) (bN L)).map (·.data.toList) = Lib.split L [c] := h1
  rw [← h2, List.map_map]
  have : (bN ∘ fun x : ByteArray => x.data.toList) = id := funext fun x => bN_self x
  rw [this, List.map_id]
theorem split_any (L : List UInt8) (c : UInt8) (w : World) (h : WdAt w) (hs : L.length ≤ 4000000) :
    Calls Tryz.prog 20 #[.string (bN L), .string ⟨#[c]⟩] w fun e w' =>
      e = .returned (.slice (some ⟨w.heap.size, 0, none⟩) (Lib.split L [c]).length (Lib.split L [c]).length) ∧ w' = w.alloc (.cells ((Lib.split L [c]).map fun t => Value.string (bN t)).toArray 9) := by
  obtain ⟨m, hm⟩ := h.ml
  refine (Tryz.strings_Split (bN L) ⟨#[c]⟩ m w (by show L.length < _; omega) hm (by show 1 ≤ 1; omega)).mono ?_
  rintro e w' ⟨rfl, rfl⟩
  have hn : Lib.countB (bN L) ⟨#[c]⟩ + 1 = (Lib.split L [c]).length := by
    rw [← Lib.splitB_all ⟨#[c]⟩ (by show 1 ≤ 1; omega) 0 _ (bN L) rfl, splitB_bN, List.length_map]
  rw [hn, splitB_bN, List.map_map]
  exact ⟨rfl, rfl⟩

/-- a list of numbers that is returned, with an error -/
def IntsRet (w : World) (l : List Int) (n : Int) (e : Ending) (w' : World) : Prop := ∃ v, e = .returned (.tuple #[v, .int .i64 n]) ∧ Own 1 ienc w' w.heap.size 3 v l ∧ Below w.heap.size w w'
def OkIdx (t : List UInt8) : Prop := ∀ w, Calls Tryz.prog 36 #[.string (bN t), .string ⟨#[45, 120]⟩] w (Ret (.int .i64 (Lib.indexAny t [45, 120])) w)
def partsT (ts : List (List UInt8)) : List Part := ts.map fun t => (readP t).1
theorem parts_next {ts : List (List UInt8)} {j : Nat} (h : j < ts.length) : partsT (ts.take (j + 1)) = partsT (ts.take j) ++ [(readP ts[j]).1] := by
  unfold partsT
  rw [List.take_add_one, List.getElem?_eq_getElem h, List.map_append]
  rfl
theorem parts_get {ts : List (List UInt8)} {j : Nat} (h : j < (partsT ts).length) (h' : j < ts.length) : (partsT ts)[j] = (readP ts[j]).1 := by simp [partsT]
theorem many_each : ∀ (l : List Part) (n m : Int), (∀ x ∈ l, PartOk x) → 0 ≤ n → manyP n l = some m → ∀ x ∈ l, x.t ≤ 500 ∧ x.b - x.a + 1 ≤ 500
  | [], n, m, _, _, _, x, hx => by simp at hx
  | y :: r, n, m, hp, h0, h, x, hx => by
    unfold manyP at h
    split at h
    · simp at h
    · rename_i hm
      obtain ⟨p1, p2, p3, p4⟩ := hp y (by simp)
      have hge : 0 ≤ min y.t 501 * (y.b - y.a + 1) := Int.mul_nonneg (by omega) (by omega)
      obtain ⟨q1, q2, q3⟩ := min501 (t := y.t) (d := y.b - y.a + 1) p3 (by omega) (by omega)
      simp only [List.mem_cons] at hx
      rcases hx with rfl | hx
      · exact ⟨q1, q2⟩
      · exact many_each r _ m (fun z hz => hp z (by simp [hz])) (by omega) h x hx
theorem _root_.Tor.Rd.part {w : World} {B : Nat} {A : Option Addr} {l : List Part} (h : Rd 3 penc w B A l) {k : Nat} (hk : k < l.length) :
    ∃ b o, A = some ⟨b, o, none⟩ ∧ b < B ∧ w.cell? ⟨b, o + k * 3, none⟩ = some (.int .i64 l[k].a) ∧
      w.cell? ⟨b, o + k * 3 + 1, none⟩ = some (.int .i64 l[k].b) ∧ w.cell? ⟨b, o + k * 3 + 2, none⟩ = some (.int .i64 l[k].t) := by
  obtain ⟨b, o, e, hb, hc⟩ := h (by intro e; subst e; simp at hk)
  have hx : l[k]? = some l[k] := List.getElem?_eq_getElem hk
  exact ⟨b, o, e, hb, hc k _ hx 0 _ rfl, hc k _ hx 1 _ rfl, hc k _ hx 2 _ rfl⟩
theorem split_len (L : List UInt8) (c : UInt8) : (Lib.split L [c]).length ≤ L.length + 1 := by
  have h1 : Lib.countB (bN L) ⟨#[c]⟩ + 1 = (Lib.split L [c]).length := by
    rw [← Lib.splitB_all ⟨#[c]⟩ (by show 1 ≤ 1; omega) 0 _ (bN L) rfl, splitB_bN, List.length_map]
  have h2 := Lib.countB_le ⟨#[c]⟩ (by show 1 ≤ 1; omega) _ (bN L) (Nat.le_refl _)
  have h3 : (bN L).size = L.length := rfl
  omega
/-- a piece is not longer than what was cut -/
theorem splitK_len (sep : List UInt8) : ∀ (k : Nat) (s t : List UInt8), t ∈ Lib.splitK sep 0 k s → t.length ≤ s.length
  | 0, s, t, h => by simp [Lib.splitK] at h; subst h; exact Nat.le_refl _
  | k + 1, s, t, h => by
    unfold Lib.splitK at h
    split at h
    · simp at h; subst h; exact Nat.le_refl _
    · simp only [List.mem_cons] at h
      rcases h with rfl | h
      · rw [List.length_take]; omega
      · have := splitK_len sep k _ t h
        rw [List.length_drop] at this
        omega
theorem split_mem {L t : List UInt8} {c : UInt8} (h : t ∈ Lib.split L [c]) : t.length ≤ L.length := splitK_len _ _ _ _ h

set_option maxRecDepth 100000 in
set_option maxHeartbeats 8000000 in
theorem parse_any (L : List UInt8) (w : World) (hs : L.length ≤ 1000000) (h : WdAt w) (hX : ∀ t ∈ Lib.split L [44], OkIdx t) :
    Calls Tryz.prog 7 #[.string (bN L)] w (IntsRet w (parseP L).1 (parseP L).2) := by
  have hsz : (bN L).size = L.length := rfl
  by_cases h1 : 2500 < L.length
  · have hP : Hid (parseP L = ([], 3)) := by rw [Hid]; unfold parseP; rw [if_pos h1]
    rw [hP.out]
    have b1 : (2500 : Int) < L.length := by omega
    clear hP h1 h hX
    go_enter Tryz.func7, Tryz.ntmps7
    go_wp2_with fail
    go_ret2
    exact ⟨_, rfl, Own.nil _ _ _, Below.refl _ _⟩
  have b1 : ¬ (2500 : Int) < L.length := by omega
  by_cases h2 : L = []
  · subst h2
    have hP : Hid (parseP [] = ([], 0)) := Lib.hid rfl
    rw [hP.out]
    clear hP h1 h hX hsz b1
    show Calls Tryz.prog 7 #[.string ⟨#[]⟩] w _
    go_enter Tryz.func7, Tryz.ntmps7
    go_wp2_with fail
    go_ret2
    exact ⟨_, rfl, Own.nil _ _ _, Below.refl _ _⟩
  have tL : (bN L).toList = L := Lib.toList_data _
  have hne : (L == []) = false := by cases L with | nil => exact absurd rfl h2 | cons _ _ => rfl
  have hne2 : L.isEmpty = false := by cases L with | nil => exact absurd rfl h2 | cons _ _ => rfl
  have HSP := Lib.hid (split_any L 44 w h (by omega))
  have hmem := Lib.hid (fun t (ht : t ∈ Lib.split L [44]) => split_mem ht)
  have hln := split_len L 44
  have hP : Hid (parseP L = if (Lib.split L [44]).any (fun t => !(readP t).2) then ([], 6) else if (Lib.split L [44]).any (fun t => decide (9999 < (readP t).1.b)) then ([], 7) else if manyP 0 (partsT (Lib.split L [44])) = none then ([], 3) else ((partsT (Lib.split L [44])).flatMap partL, 0)) := by
    rw [Hid]; unfold parseP partsT
    rw [if_neg h1, if_neg h2]
    simp only [List.any_map, List.map_map, List.flatMap_map]
    rfl
  rw [hP.out]
  clear hP
  have HX := Lib.hid hX
  clear hX
  obtain ⟨ts, hts⟩ : ∃ ts, Hid (Lib.split L [44] = ts) := ⟨_, Lib.hid rfl⟩
  rw [hts.out] at HSP HX hmem hln ⊢
  clear hts
  obtain ⟨r, hr⟩ : ∃ r, Hid ((if ts.any (fun t => !(readP t).2) then ([], 6) else if ts.any (fun t => decide (9999 < (readP t).1.b)) then ([], 7) else if manyP 0 (partsT ts) = none then ([], 3) else ((partsT ts).flatMap partL, 0) : List Int × Int) = r) := ⟨_, Lib.hid rfl⟩
  rw [hr.out]
  obtain ⟨i0, hi0, hz0', hz1', hz2'⟩ := info_parts infoPart
  have hBB : Below w.heap.size w (w.alloc (.cells (ts.map fun t => Value.string (bN t)).toArray 9)) := by (repeat' first | exact Below.refl _ _ | apply Below.drew | (refine Below.setCells ?_ _ _ ?_) | (refine Below.setCell ?_ ?_ _) | (refine Below.alloc ?_ ?_ _) | (simp; done) | (simp; omega))
  have kS := Blk.new w 9 (ts.map fun t => Value.string (bN t)).toArray
  have hw1 := h.below hBB
  go_enter Tryz.func7, Tryz.ntmps7
  go_wp2_with (first
    | (go_at_call 20
       refine HSP.out.mono ?_
       rintro e w1 ⟨rfl, rfl⟩)
    | fail)
  obtain ⟨wS, hwS⟩ : ∃ wS, Hid (w.alloc (.cells (ts.map fun t => Value.string (bN t)).toArray 9) = wS) := ⟨_, Lib.hid rfl⟩
  rw [hwS.out] at hBB kS hw1 ⊢
  clear HSP hwS h2 hne hne2 tL hsz
  go_loopw [4, 28] (fun v i wr => ∃ j : Nat, j ≤ ts.length ∧ i = .int .i64 j ∧ Hid (∀ t ∈ ts.take j, (readP t).2 = true) ∧ Own 3 penc wr w.heap.size 61 v (partsT (ts.take j)) ∧ Below w.heap.size w wr ∧ Blk wr w.heap.size 9 (ts.map fun t => Value.string (bN t)).toArray) (fun _ i wr => ts.length - (intOf i).toNat)
  case atStart => exact ⟨0, by omega, rfl, Lib.hid (by simp), Own.nil _ _ _, hBB, kS⟩
  case round =>
    clear hBB kS hw1
    obtain ⟨j, hj, rfl, hok, hown, hB, kS⟩ := hrel
    have hw := h.below hB
    obtain ⟨wo, rfl⟩ : ∃ wo : World, wo = wr := ⟨_, rfl⟩
    have hs0 := hB.size
    obtain ⟨Av, cv, rfl, hcv, hrdv⟩ := Own.rd penc_len hown
    by_cases hlt : j < ts.length
    · have a1 : (j : Int) < (ts.length : Int) := by omega
      have cS : wo.cell? ⟨w.heap.size, j, none⟩ = some (.string (bN ts[j])) := kS.cell j _ (by simp [hlt])
      have HR := Lib.hid (read_any ts[j] wo (by have := hmem.out _ (List.getElem_mem hlt); omega) hw (HX.out _ (List.getElem_mem hlt)))
      have hnx := Lib.hid (parts_next hlt)
      have hpl : (partsT (ts.take j)).length ≤ 1000000 := by unfold partsT; rw [List.length_map, List.length_take]; omega
      obtain ⟨p, hp⟩ : ∃ p, Hid ((readP ts[j]).1 = p) := ⟨_, Lib.hid rfl⟩
      obtain ⟨b, hb⟩ : ∃ b, Hid ((readP ts[j]).2 = b) := ⟨_, Lib.hid rfl⟩
      rw [hp.out, hb.out] at HR
      rw [hp.out] at hnx
      unfold partV at HR
      obtain ⟨t, ht⟩ : ∃ t, Hid (ts[j] = t) := ⟨_, Lib.hid rfl⟩
      rw [ht.out] at cS HR
      cases b
      · have hany : Hid (ts.any (fun t => !(readP t).2) = true) := Lib.hid (List.any_eq_true.2 ⟨ts[j], List.getElem_mem hlt, by rw [hb.out]; rfl⟩)
        have hr6 : Hid (r = ([], 6)) := by rw [Hid, ← hr.out, if_pos hany.out]
        clear hr hany hnx hok hpl kS hp hb ht HX hmem hw
        go_wp2_with (first
          | (go_at_call 21
             refine HR.out.mono ?_
             rintro e w2 ⟨rfl, hB2⟩)
          | fail)
        go_ret2
        rw [hr6.out]
        exact ⟨_, rfl, Own.nil _ _ _, (hB.trans (hB2.mono hB.size)).alloc (by have := hB2.size; omega) _⟩
      · clear hp
        go_wp2_with (first
          | (go_at_call 21
             refine HR.out.mono ?_
             rintro e w2 ⟨rfl, hB2⟩
             have hs2 := hB2.size
             have hown2 := (hown.below hB2).alloc (.cells #[.int .i64 p.a, .int .i64 p.b, .int .i64 p.t] 61)
             have hBe := (hB.trans (hB2.mono hB.size)).alloc (show w.heap.size ≤ w2.heap.size by omega) (.cells #[.int .i64 p.a, .int .i64 p.b, .int .i64 p.t] 61)
             have kS2 := (kS.below' hB2).alloc (.cells #[.int .i64 p.a, .int .i64 p.b, .int .i64 p.t] 61))
          | (at_builtin
             refine wpList_append_enc penc_len penc_one (by omega) (show (24 : Nat) ≤ 1000 by omega) rfl (.tmp 39) (.tmp 41) _ rfl w.heap.size _ i0 _ Tryz.underlying58 hi0 hz0' hz1' hz2' rfl (.slice Av (partsT (ts.take j)).length cv) _ rfl (hown2.alloc (.cells (penc p).toArray 61)) _ p rfl (cells_at (penc p) (by simp)) hpl (by simp; omega) ?_
             intro v' w4 hown4 hg4)
          | fail)
        go_roundw
        case rel =>
          refine ⟨j + 1, by omega, by go_num, Lib.hid (fun y hy => ?_), by rw [hnx.out]; exact hown4, (hown2.alloc (.cells (penc p).toArray 61)).grown (hBe.alloc hBe.size (.cells (penc p).toArray 61)) hg4 (by simp; omega), (kS2.alloc (.cells (penc p).toArray 61)).grown hg4 ((hown2.alloc (.cells (penc p).toArray 61)).ne_block (kS2.alloc (.cells (penc p).toArray 61)) (by decide))⟩
          rw [List.take_add_one, List.getElem?_eq_getElem hlt] at hy
          simp only [Option.toList_some, List.mem_append, List.mem_singleton] at hy
          rcases hy with hy | rfl
          · exact hok.out y hy
          · exact hb.out
        case measure => simp [intOf]; omega
    · obtain rfl : j = ts.length := by omega
      rw [List.take_length] at hok hown hrdv hcv ⊢
      have a1 : ¬ (ts.length : Int) < (ts.length : Int) := by omega
      obtain ⟨P, hP⟩ : ∃ P, Hid (partsT ts = P) := ⟨_, Lib.hid rfl⟩
      have hn6 : Hid (ts.any (fun t => !(readP t).2) = false) := Lib.hid (by rw [List.any_eq_false]; intro x hx; simp [hok.out x hx])
      have hall : Hid (∀ x ∈ P, x.b ≤ 9999 → PartOk x) := Lib.hid (fun x hx hb => by
        rw [← hP.out] at hx
        obtain ⟨t, ht, rfl⟩ := List.mem_map.1 hx
        exact read_ok (hok.out t ht) hb)
      have h9 : Hid (ts.any (fun t => decide (9999 < (readP t).1.b)) = P.any fun x => decide (9999 < x.b)) := Lib.hid (by rw [← hP.out]; unfold partsT; rw [List.any_map]; rfl)
      have hr2 : Hid (r = if P.any (fun x => decide (9999 < x.b)) then ([], 7) else if manyP 0 P = none then ([], 3) else (P.flatMap partL, 0)) := by
        rw [Hid, ← hr.out, if_neg (by rw [hn6.out]; simp), h9.out, hP.out]
      have hPl : Hid (P.length = ts.length) := Lib.hid (by rw [← hP.out]; simp [partsT])
      rw [hP.out] at hown hrdv hcv ⊢
      clear hr hn6 h9 hok kS hw HX hmem hP
      have hPn : P.length ≤ 1000001 := by rw [hPl.out]; omega
      obtain ⟨B0, hB0⟩ : ∃ B0, Hid (wo.heap.size = B0) := ⟨_, Lib.hid rfl⟩
      rw [hB0.out] at hrdv
      have hs1 : w.heap.size ≤ B0 := by rw [← hB0.out]; exact hs0
      have hs2 : B0 ≤ wo.heap.size := by rw [hB0.out]; exact Nat.le_refl _
      clear hs0 hown hB0 hPl
      go_wp2_with fail
      go_loopw [46] (fun i wr => ∃ j : Nat, j ≤ P.length ∧ i = .int .i64 j ∧ Hid (∀ x ∈ P.take j, x.b ≤ 9999) ∧ Below w.heap.size w wr ∧ Rd 3 penc wr B0 Av P ∧ B0 ≤ wr.heap.size) (fun i wr => P.length - (intOf i).toNat)
      case atStart => exact ⟨0, by omega, rfl, Lib.hid (by simp), hB, hrdv, hs2⟩
      case round =>
        clear hB hrdv hs2
        obtain ⟨j, hj, rfl, hok, hB, hrd, hs2⟩ := hrel
        obtain ⟨wo, rfl⟩ : ∃ wo : World, wo = wr := ⟨_, rfl⟩
        by_cases hlt : j < P.length
        · have a2 : (j : Int) < (P.length : Int) := by omega
          obtain ⟨b, o, rfl, hb, g0, g1, g2⟩ := hrd.part hlt
          obtain ⟨x, hx⟩ : ∃ x, Hid (P[j] = x) := ⟨_, Lib.hid rfl⟩
          rw [hx.out] at g0 g1 g2
          by_cases h9 : 9999 < x.b
          · have hr7 : Hid (r = ([], 7)) := by rw [Hid, hr2.out, if_pos (List.any_eq_true.2 ⟨P[j], List.getElem_mem hlt, by rw [hx.out]; exact decide_eq_true h9⟩)]
            clear hr2 hok hx
            go_wp2_with fail
            go_ret2
            rw [hr7.out]
            exact ⟨_, rfl, Own.nil _ _ _, hB.alloc hB.size _⟩
          · go_wp2_with fail
            go_roundw
            case rel =>
              refine ⟨j + 1, by omega, by go_num, Lib.hid (fun y hy => ?_), hB.alloc hB.size _, hrd.below' (by (repeat' first | exact Below.refl _ _ | apply Below.drew | (refine Below.setCells ?_ _ _ ?_) | (refine Below.setCell ?_ ?_ _) | (refine Below.alloc ?_ ?_ _) | (simp; done) | (simp; omega))) hs2, by simp; omega⟩
              rw [List.take_add_one, List.getElem?_eq_getElem hlt] at hy
              simp only [Option.toList_some, List.mem_append, List.mem_singleton] at hy
              rcases hy with hy | rfl
              · exact hok.out y hy
              · rw [hx.out]; omega
            case measure => simp [intOf]; omega
        · obtain rfl : j = P.length := by omega
          rw [List.take_length] at hok
          have a2 : ¬ (P.length : Int) < (P.length : Int) := by omega
          have hpk : Hid (∀ x ∈ P, PartOk x ∧ x.b ≤ 9999) := Lib.hid (fun x hx => ⟨hall.out x hx (hok.out x hx), hok.out x hx⟩)
          have hr3 : Hid (r = if manyP 0 P = none then ([], 3) else (P.flatMap partL, 0)) := by
            rw [Hid, hr2.out, if_neg (by rw [Bool.not_eq_true, List.any_eq_false]; intro x hx; simp; exact hok.out x hx)]
          clear hr2 hok hall
          go_wp2_with fail
          go_loopw [9, 56] (fun m i wr => ∃ (j : Nat) (mm : Int), j ≤ P.length ∧ i = .int .i64 j ∧ m = .int .i64 mm ∧ 0 ≤ mm ∧ mm ≤ 500 ∧ Hid (manyP mm (P.drop j) = manyP 0 P) ∧ Below w.heap.size w wr ∧ Rd 3 penc wr B0 Av P ∧ B0 ≤ wr.heap.size) (fun m i wr => P.length - (intOf i).toNat)
          case atStart => exact ⟨0, 0, by omega, rfl, rfl, by omega, by omega, Lib.hid rfl, hB, hrd, hs2⟩
          case round =>
            clear hB hrd hs2
            obtain ⟨j, mm, hj, rfl, rfl, m0, m5, hmm, hB, hrd, hs2⟩ := hrel
            obtain ⟨wo, rfl⟩ : ∃ wo : World, wo = wr := ⟨_, rfl⟩
            by_cases hlt : j < P.length
            · have a3 : (j : Int) < (P.length : Int) := by omega
              obtain ⟨b, o, rfl, hb, g0, g1, g2⟩ := hrd.part hlt
              obtain ⟨⟨p1, p2, p3, p4⟩, p5⟩ := hpk.out P[j] (List.getElem_mem hlt)
              have hst : Hid (manyP mm (P.drop j) = if 500 < mm + min P[j].t 501 * (P[j].b - P[j].a + 1) then none else manyP (mm + min P[j].t 501 * (P[j].b - P[j].a + 1)) (P.drop (j + 1))) := by
                rw [Hid, List.drop_eq_getElem_cons hlt]; rfl
              rw [hmm.out] at hst
              obtain ⟨x, hx⟩ : ∃ x, Hid (P[j] = x) := ⟨_, Lib.hid rfl⟩
              rw [hx.out] at g0 g1 g2 hst p1 p2 p3 p4 p5
              clear hx hmm
              have k0 : 0 ≤ min x.t 501 * (x.b - x.a + 1) := Int.mul_nonneg (by omega) (by omega)
              have k1 : min x.t 501 * (x.b - x.a + 1) ≤ 501 * 10000 := Int.le_trans (Int.mul_le_mul_of_nonneg_right (by omega) (by omega)) (Int.mul_le_mul_of_nonneg_left (by omega) (by omega))
              obtain ⟨d, hd⟩ : ∃ d, Hid (min x.t 501 * (x.b - x.a + 1) = d) := ⟨_, Lib.hid rfl⟩
              by_cases h5 : 500 < mm + min x.t 501 * (x.b - x.a + 1)
              · have hr7 : Hid (r = ([], 3)) := by rw [Hid, hr3.out, if_pos (by rw [hst.out, if_pos h5])]
                clear hr3 hst hpk
                go_wp2_with fail
                go_ret2
                rw [hr7.out]
                exact ⟨_, rfl, Own.nil _ _ _, hB.alloc hB.size _⟩
              · rw [if_neg h5] at hst
                go_wp2_with fail
                go_roundw
                case rel =>
                  refine ⟨j + 1, _, by omega, by go_num, rfl, by omega, by omega, Lib.hid hst.out.symm, hB.alloc hB.size _, hrd.below' (by (repeat' first | exact Below.refl _ _ | apply Below.drew | (refine Below.setCells ?_ _ _ ?_) | (refine Below.setCell ?_ ?_ _) | (refine Below.alloc ?_ ?_ _) | (simp; done) | (simp; omega))) hs2, by simp; omega⟩
                case measure => simp [intOf]; omega
            · obtain rfl : j = P.length := by omega
              rw [List.drop_length] at hmm
              have hmm : Hid (manyP 0 P = some mm) := Lib.hid (by rw [← hmm.out]; rfl)
              have hr4 : Hid (r = (P.flatMap partL, 0)) := by rw [Hid, hr3.out, if_neg (by rw [hmm.out]; simp)]
              have htot := many_len P 0 mm (fun x hx => (hpk.out x hx).1) (by omega) (by omega) hmm.out
              have hlen5 : (P.flatMap partL).length ≤ 500 := by omega
              have heach := Lib.hid (many_each P 0 mm (fun x hx => (hpk.out x hx).1) (by omega) hmm.out)
              clear hr3 hmm htot
              have a3 : ¬ (P.length : Int) < (P.length : Int) := by omega
              have hs3 := hB.size
              obtain ⟨i1, hi1, hy0', hy1', hy2'⟩ := info_parts infoInt1
              go_wp2_with fail
              go_loopw [14, 77] (fun v i wr => ∃ j : Nat, j ≤ P.length ∧ i = .int .i64 j ∧ Own 1 ienc wr B0 3 v ((P.take j).flatMap partL) ∧ Below B0 wo wr) (fun v i wr => P.length - (intOf i).toNat)
              case atStart => exact ⟨0, by omega, rfl, Own.nil _ _ _, Below.refl _ _⟩
              case round =>
                obtain ⟨j, hj, rfl, hown, hB4⟩ := hrel
                obtain ⟨w4, rfl⟩ : ∃ wo : World, wo = wr := ⟨_, rfl⟩
                have hs4 := hB4.size
                obtain ⟨Ao, co, rfl, hco, hrdo⟩ := Own.rd int_len hown
                by_cases hlt : j < P.length
                · have a4 : (j : Int) < (P.length : Int) := by omega
                  obtain ⟨b, o, rfl, hb, g0, g1, g2⟩ := (hrd.below hB4).part hlt
                  obtain ⟨⟨p1, p2, p3, p4⟩, p5⟩ := hpk.out P[j] (List.getElem_mem hlt)
                  obtain ⟨p6, p7⟩ := heach.out P[j] (List.getElem_mem hlt)
                  have hnx : Hid ((P.take (j + 1)).flatMap partL = (P.take j).flatMap partL ++ partL P[j]) := by
                    rw [Hid, List.take_add_one, List.getElem?_eq_getElem hlt, List.flatMap_append]; simp
                  have hl4 : ((P.take j).flatMap partL).length ≤ 500 := by
                    refine Nat.le_trans ?_ hlen5
                    conv => rhs; rw [← List.take_append_drop j P, List.flatMap_append, List.length_append]
                    exact Nat.le_add_right _ _
                  obtain ⟨x, hx⟩ : ∃ x, Hid (P[j] = x) := ⟨_, Lib.hid rfl⟩
                  rw [hx.out] at g0 g1 g2 hnx p1 p2 p3 p4 p5 p6 p7
                  obtain ⟨O4, hO4⟩ : ∃ O, Hid ((P.take j).flatMap partL = O) := ⟨_, Lib.hid rfl⟩
                  rw [hO4.out] at hown hl4 hnx hco hrdo ⊢
                  have hBx : Below B0 wo (w4.alloc (.cells #[.int .i64 x.a, .int .i64 x.b, .int .i64 x.t] 61)) := hB4.alloc (Nat.le_trans hs2 hs4) _
                  have kX := Blk.new w4 61 #[.int .i64 x.a, .int .i64 x.b, .int .i64 x.t]
                  have hownx := hown.alloc (.cells #[.int .i64 x.a, .int .i64 x.b, .int .i64 x.t] 61)
                  obtain ⟨T, hT⟩ : ∃ T : Nat, x.t = T := ⟨x.t.toNat, by omega⟩
                  obtain ⟨D, hD⟩ : ∃ D : Nat, x.b - x.a + 1 = D := ⟨(x.b - x.a + 1).toNat, by omega⟩
                  have hpl : Hid (partL x = (List.range T).flatMap fun _ => upTo x.a x.b) := by rw [Hid]; unfold partL; rw [hT]; rfl
                  have hup : Hid (upTo x.a x.b = (List.range D).map fun i : Nat => x.a + i) := by rw [Hid]; unfold upTo; rw [hD]; rfl
                  rw [hT] at g2 p3 p4 p6 hBx kX hownx
                  have HD := Lib.hid hD
                  rw [hpl.out] at hnx
                  clear hpl hT hD
                  go_wp2_with fail
                  go_loopw [14, 83] (fun v k wr => ∃ kk : Nat, kk ≤ T ∧ k = .int .i64 kk ∧ Own 1 ienc wr B0 3 v (O4 ++ (List.range kk).flatMap fun _ => upTo x.a x.b) ∧ Below B0 wo wr ∧ Blk wr w4.heap.size 61 #[.int .i64 x.a, .int .i64 x.b, .int .i64 T]) (fun v k wr => T - (intOf k).toNat)
                  case atStart => exact ⟨0, by omega, rfl, by simpa using hownx, hBx, kX⟩
                  case round =>
                    clear hownx hBx kX hown hB4 hs4 g0 g1 g2 hrdo
                    obtain ⟨kk, hkk, rfl, hown, hB5, kX⟩ := hrel
                    obtain ⟨w5, rfl⟩ : ∃ wo : World, wo = wr := ⟨_, rfl⟩
                    have hs5 := hB5.size
                    obtain ⟨Ao, co, rfl, hco, hrdo⟩ := Own.rd int_len hown
                    have c0 := kX.cell 0 _ rfl
                    have c1 := kX.cell 1 _ rfl
                    have c2 := kX.cell 2 _ rfl
                    by_cases hkt : kk < T
                    · have a5 : (kk : Int) < (T : Int) := by omega
                      have hnk : Hid ((List.range (kk + 1)).flatMap (fun _ => upTo x.a x.b) = (List.range kk).flatMap (fun _ => upTo x.a x.b) ++ upTo x.a x.b) := by rw [Hid, List.range_succ, List.flatMap_append]; simp
                      have hl5 : ((List.range kk).flatMap fun _ => upTo x.a x.b).length ≤ 500 * 500 := by
                        rw [hup.out, List.length_flatMap]
                        simp only [List.length_map, List.length_range, List.map_const', List.sum_replicate_nat]
                        exact Nat.mul_le_mul (by omega) (by have := HD.out; omega)
                      obtain ⟨O5, hO5⟩ : ∃ O, Hid (((List.range kk).flatMap fun _ => upTo x.a x.b) = O) := ⟨_, Lib.hid rfl⟩
                      rw [hO5.out] at hown hl5 hnk hco hrdo ⊢
                      go_wp2_with fail
                      go_loopw [14, 17] (fun v n wr => ∃ ii : Nat, ii ≤ D ∧ n = .int .i64 (x.a + ii) ∧ Own 1 ienc wr B0 3 v (O4 ++ O5 ++ (List.range ii).map fun i : Nat => x.a + i) ∧ Below B0 wo wr ∧ Blk wr w4.heap.size 61 #[.int .i64 x.a, .int .i64 x.b, .int .i64 T]) (fun v n wr => D - (intOf n - x.a).toNat)
                      case atStart => exact ⟨0, by omega, by simp, by simpa using hown, hB5, kX⟩
                      case round =>
                        clear hown hB5 kX hs5 c0 c1 c2 hrdo hco
                        obtain ⟨ii, hii, rfl, hown, hB6, kX⟩ := hrel
                        obtain ⟨w6, rfl⟩ : ∃ wo : World, wo = wr := ⟨_, rfl⟩
                        have hs6 := hB6.size
                        obtain ⟨Ao, co, rfl, hco, hrdo⟩ := Own.rd int_len hown
                        have c0 := kX.cell 0 _ rfl
                        have c1 := kX.cell 1 _ rfl
                        have c2 := kX.cell 2 _ rfl
                        by_cases hid : ii < D
                        · have a6 : x.a + (ii : Int) ≤ x.b := by have := HD.out; omega
                          have hl6 : (O4 ++ O5 ++ (List.range ii).map fun i : Nat => x.a + i).length ≤ 1000000 := by
                            simp only [List.length_append, List.length_map, List.length_range]; have := HD.out; omega
                          have hni : Hid ((List.range (ii + 1)).map (fun i : Nat => x.a + i) = (List.range ii).map (fun i : Nat => x.a + i) ++ [x.a + ii]) := by rw [Hid, List.range_succ, List.map_append]; rfl
                          obtain ⟨O6, hO6⟩ : ∃ O, Hid (((List.range ii).map fun i : Nat => x.a + i) = O) := ⟨_, Lib.hid rfl⟩
                          rw [hO6.out] at hown hl6 hni hco ⊢
                          go_wp2_with (first
                            | (at_builtin
                               refine wpList_append_enc int_len int_one (by omega) (show (8 : Nat) ≤ 1000 by omega) rfl (.tmp 93) (.tmp 95) _ rfl B0 _ i1 _ Tryz.underlying22 hi1 hy0' hy1' hy2' rfl (.slice Ao (O4 ++ O5 ++ O6).length co) _ rfl (hown.alloc (.cells (ienc (x.a + ii)).toArray 3)) _ (x.a + ii) rfl (cells_at (ienc (x.a + ii)) (by simp)) hl6 (by simp; omega) ?_
                               intro v' w7 hown7 hg7)
                            | fail)
                          go_roundw
                          case rel =>
                            exact ⟨ii + 1, by omega, by simp; omega, by rw [hni.out, ← List.append_assoc]; exact hown7, (hown.alloc (.cells (ienc (x.a + ii)).toArray 3)).grown (hB6.alloc (by omega) (.cells (ienc (x.a + ii)).toArray 3)) hg7 (by simp; omega), (kX.alloc (.cells (ienc (x.a + ii)).toArray 3)).grown hg7 ((hown.alloc (.cells (ienc (x.a + ii)).toArray 3)).ne_block (kX.alloc (.cells (ienc (x.a + ii)).toArray 3)) (by decide))⟩
                          case measure => simp [intOf]; omega
                        · obtain rfl : ii = D := by omega
                          have a6 : ¬ x.a + (ii : Int) ≤ x.b := by have := HD.out; omega
                          go_wp2_with fail
                          go_roundw
                          case rel => exact ⟨kk + 1, by omega, by go_num, by rw [hnk.out, ← List.append_assoc, hup.out]; exact hown, hB6, kX⟩
                          case measure => simp [intOf]; omega
                    · obtain rfl : kk = T := by omega
                      have a5 : ¬ (kk : Int) < (kk : Int) := by omega
                      go_wp2_with fail
                      go_roundw
                      case rel => exact ⟨j + 1, by omega, by go_num, by rw [hnx.out]; exact hown, hB5⟩
                      case measure => simp [intOf]; omega
                · obtain rfl : j = P.length := by omega
                  rw [List.take_length] at hown ⊢
                  have a4 : ¬ (P.length : Int) < (P.length : Int) := by omega
                  obtain ⟨O, hO⟩ : ∃ O, Hid (P.flatMap partL = O) := ⟨_, Lib.hid rfl⟩
                  rw [hO.out] at hown ⊢
                  go_wp2_with fail
                  go_ret2
                  rw [hr4.out, hO.out]
                  exact ⟨_, rfl, hown.base hs1, hB.trans (hB4.mono hs1)⟩

end Go.Proofs.YtohcmfobnkaaiaaGreatDoor
