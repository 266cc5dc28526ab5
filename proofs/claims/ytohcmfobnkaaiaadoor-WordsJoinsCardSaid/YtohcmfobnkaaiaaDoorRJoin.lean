/- torchonref01: Join. -/
import Derived.Test.YtohcmfobnkaaiaaDoorJoinM
set_option linter.unusedSimpArgs false
set_option linter.unusedVariables false
namespace Go.Proofs.YtohcmfobnkaaiaaDoor
open Go Go.RowKit Tor

theorem join_snoc (y : List UInt8) : ∀ ts : List (List UInt8), ts ≠ [] → Lib.join (ts ++ [y]) [32] = Lib.join ts [32] ++ 32 :: y
  | [], h => absurd rfl h
  | [x], _ => by rw [List.singleton_append, join_two, Lib.join_one, Lib.join_one]
  | x :: z :: t, _ => by
    have ih := join_snoc y (z :: t) (by simp)
    rw [List.cons_append] at ih
    rw [List.cons_append, List.cons_append, join_two, ih, join_two, List.append_assoc, List.cons_append]
theorem joinF_le {l : List Fld} : (4097 < sizeF l) ↔ 4096 < (Lib.join (l.map writeF) [32]).length := by
  by_cases h : l = []
  · subst h; simp [sizeF, Lib.join]
  · rw [join_size l h]; omega
set_option maxRecDepth 100000 in
set_option maxHeartbeats 4000000 in
theorem rjoin_any (A : Option Addr) (l : List Fld) (c : Nat) (w : World) (h1 : Rd 2 fenc w w.heap.size A l) (hl : l.length ≤ 1000000) (hsl : ∀ x ∈ l, x.s.length ≤ 1000000) :
    Calls Tryd.prog 35 #[.slice A l.length c] w (Ret (.tuple #[.string (bN (joinP l).1), .int .i64 (joinP l).2]) w) := by
  by_cases h64 : 64 < l.length
  · have hP : Hid (joinP l = ([], 3)) := by rw [Hid]; unfold joinP; rw [if_pos h64]
    rw [hP.out]
    have i1 : (64 : Int) < l.length := by omega
    clear h64 hP h1 hsl
    go_enter Tryd.func35, Tryd.ntmps35
    go_wp2_with fail
    go_ret2
    exact ⟨rfl, Below.refl _ _⟩
  have i1 : ¬ (64 : Int) < l.length := by omega
  have hP : Hid (joinP l = if l.all rightF = false then ([], 2) else if 4097 < sizeF l then ([], 3) else (Lib.join (l.map writeF) [32], 0)) := by rw [Hid]; unfold joinP; rw [if_neg h64]
  obtain ⟨res, hres⟩ : ∃ r, Hid (joinP l = r) := ⟨_, Lib.hid rfl⟩
  rw [hres.out]
  have hR : Hid (res = if l.all rightF = false then ([], 2) else if 4097 < sizeF l then ([], 3) else (Lib.join (l.map writeF) [32], 0)) := by rw [Hid, ← hres.out, hP.out]
  clear hP hres
  have HSL := Lib.hid hsl
  clear hsl
  have z1 : (⟨#[32]⟩ : ByteArray).size = 1 := rfl
  go_enter Tryd.func35, Tryd.ntmps35
  go_wp2_with fail
  go_loopw [4, 5] (fun ov iv wr => ∃ (j : Nat) (O : ByteArray), j ≤ l.length ∧ iv = .int .i64 j ∧ ov = .string O ∧ Hid (O = bN (Lib.join ((l.take j).map writeF) [32])) ∧ O.size ≤ 403 * j ∧ Hid ((l.take j).all rightF = true) ∧ Below w.heap.size w wr) (fun _ i _ => l.length - (intOf i).toNat)
  case atStart => exact ⟨0, ByteArray.empty, Nat.zero_le _, rfl, rfl, Lib.hid rfl, Nat.le_refl _, Lib.hid rfl, Below.refl _ _⟩
  case round =>
    obtain ⟨j, O, hj, rfl, rfl, hO, hOz, hall, hB⟩ := hrel
    obtain ⟨W, rfl⟩ : ∃ wo : World, wo = wr := ⟨_, rfl⟩
    by_cases hlt : j < l.length
    · obtain ⟨b, o, rfl, hb, hc0, hc1⟩ := Rd.fld h1 hlt
      have a2 : (j : Int) < (l.length : Int) := by omega
      have hsn := take_snoc l j hlt
      have hxl := HSL.out _ (List.getElem_mem hlt)
      obtain ⟨x, hx⟩ : ∃ x, Hid (l[j] = x) := ⟨_, Lib.hid rfl⟩
      have hmem : x ∈ l := by rw [← hx.out]; exact List.getElem_mem hlt
      rw [hx.out] at hc0 hc1 hsn hxl
      have q0 := (hB.cell (p := ⟨b, o + j * 2, none⟩) hb).trans hc0
      have q1 := (hB.cell (p := ⟨b, o + j * 2 + 1, none⟩) hb).trans hc1
      have hbB : b < w.heap.size := hb
      clear hx
      have HRt := Lib.hid (fun w' => rright_any x w' hxl)
      cases hr : rightF x
      · have hrr : Hid (res = ([], 2)) := by
          rw [Hid, hR.out, if_pos]
          rw [List.all_eq_false]
          exact ⟨x, hmem, by rw [hr]; simp⟩
        rw [hr] at HRt
        clear hR hO hall hsn hr hc0 hc1
        go_wp2_with fail
        refine (HRt.out _).mono ?_
        rintro e9 w3 ⟨rfl, hB3⟩
        go_wp2_with fail
        go_ret2
        rw [hrr.out]
        exact ⟨rfl, hB.trans (hB3.mono hB.size)⟩
      · rw [hr] at HRt
        have hwl := write_len hr
        obtain ⟨y, hy⟩ : ∃ y, Hid (writeF x = y) := ⟨_, Lib.hid rfl⟩
        rw [hy.out] at hwl
        have hyz : (bN y).size = y.length := rfl
        have hall' : Hid ((l.take (j + 1)).all rightF = true) := by rw [Hid, hsn, List.all_append, hall.out]; simp [hr]
        have hmap : (l.take (j + 1)).map writeF = (l.take j).map writeF ++ [y] := by rw [hsn, List.map_append]; simp [hy.out]
        have HQ : x.q = true → Hid (∀ w', Calls Tryd.prog 17 #[.string (bN x.s)] w' (Ret (.tuple #[.string (bN y), .int .i64 0]) w')) := fun hq => Lib.hid (fun w' => by
          have := rquote_any x.s w' (by omega)
          rw [right_quote hr hq, hy.out] at this
          exact this)
        have hns : x.q = false → x.s = y := fun hq => by rw [← hy.out]; unfold writeF; rw [hq]; rfl
        by_cases hj0 : j = 0
        · have hO2 : O = ByteArray.empty := by rw [hO.out, hj0]; rfl
          subst hO2
          have a3 : ¬ (0 : Int) < (j : Int) := by omega
          have hmap0 : (l.take j).map writeF = [] := by rw [hj0]; rfl
          have hN : Hid (ByteArray.empty ++ bN y = bN (Lib.join ((l.take (j + 1)).map writeF) [32])) := by
            rw [Hid, hmap, hmap0, List.nil_append, Lib.join_one]
            rw [ByteArray.empty_append]
          have z2 : (ByteArray.empty ++ bN y).size ≤ 403 * (j + 1) := by rw [ByteArray.size_append, hyz, show ByteArray.empty.size = 0 from rfl]; omega
          have z3 : ByteArray.empty.size + (bN y).size ≤ 9223372036854775807 := by rw [hyz, show ByteArray.empty.size = 0 from rfl]; omega
          clear hmap hmap0 hO hall hsn hr hmem hy hOz hc0 hc1 hj0
          obtain ⟨q, s⟩ := x
          simp only at *
          cases q
          · have hsy := hns rfl
            subst hsy
            clear HQ hns
            go_wp2_with fail
            refine (HRt.out _).mono ?_
            rintro e9 w3 ⟨rfl, hB3⟩
            have hBb := hB.trans (hB3.mono hB.size)
            have c0 := (hB3.cell (p := ⟨b, o + j * 2, none⟩) (Nat.lt_of_lt_of_le hbB hB.size)).trans q0
            have c1 := (hB3.cell (p := ⟨b, o + j * 2 + 1, none⟩) (Nat.lt_of_lt_of_le hbB hB.size)).trans q1
            go_wp2_with fail
            go_roundw
            case rel => exact ⟨j + 1, ByteArray.empty ++ bN s, by omega, by go_num, rfl, hN, z2, hall', hBb⟩
            case measure => simp [intOf]; omega
          · have HQ' := HQ rfl
            clear HQ hns
            go_wp2_with fail
            refine (HRt.out _).mono ?_
            rintro e9 w3 ⟨rfl, hB3⟩
            have hBb := hB.trans (hB3.mono hB.size)
            have c0 := (hB3.cell (p := ⟨b, o + j * 2, none⟩) (Nat.lt_of_lt_of_le hbB hB.size)).trans q0
            have c1 := (hB3.cell (p := ⟨b, o + j * 2 + 1, none⟩) (Nat.lt_of_lt_of_le hbB hB.size)).trans q1
            go_wp2_with fail
            refine (HQ'.out _).mono ?_
            rintro e9 w4 ⟨rfl, hB4⟩
            have hBc := hBb.trans (hB4.mono hBb.size)
            go_wp2_with fail
            go_roundw
            case rel => exact ⟨j + 1, ByteArray.empty ++ bN y, by omega, by go_num, rfl, hN, z2, hall', hBc⟩
            case measure => simp [intOf]; omega
        · have a3 : (0 : Int) < (j : Int) := by omega
          have hne : (l.take j).map writeF ≠ [] := fun e => by
            have := congrArg List.length e
            rw [List.length_map, List.length_take, List.length_nil] at this
            omega
          have hN : Hid (O ++ ⟨#[32]⟩ ++ bN y = bN (Lib.join ((l.take (j + 1)).map writeF) [32])) := by
            rw [Hid, hmap, join_snoc _ _ hne, hO.out, show (⟨#[32]⟩ : ByteArray) = bN [32] from rfl, bN_app, bN_app]
            simp
          have z5 : (O ++ ⟨#[32]⟩).size = O.size + 1 := by rw [ByteArray.size_append, z1]
          have z2 : (O ++ ⟨#[32]⟩ ++ bN y).size ≤ 403 * (j + 1) := by rw [ByteArray.size_append, hyz, z5]; omega
          have z3 : (O ++ ⟨#[32]⟩).size + (bN y).size ≤ 9223372036854775807 := by rw [hyz, z5]; omega
          have z4 : O.size + (⟨#[32]⟩ : ByteArray).size ≤ 9223372036854775807 := by rw [z1]; omega
          clear hmap hO hall hsn hr hmem hy hj0 hne hc0 hc1
          obtain ⟨q, s⟩ := x
          simp only at *
          cases q
          · have hsy := hns rfl
            subst hsy
            clear HQ hns
            go_wp2_with fail
            refine (HRt.out _).mono ?_
            rintro e9 w3 ⟨rfl, hB3⟩
            have hBb := hB.trans (hB3.mono hB.size)
            have c0 := (hB3.cell (p := ⟨b, o + j * 2, none⟩) (Nat.lt_of_lt_of_le hbB hB.size)).trans q0
            have c1 := (hB3.cell (p := ⟨b, o + j * 2 + 1, none⟩) (Nat.lt_of_lt_of_le hbB hB.size)).trans q1
            go_wp2_with fail
            go_roundw
            case rel => exact ⟨j + 1, O ++ ⟨#[32]⟩ ++ bN s, by omega, by go_num, rfl, hN, z2, hall', hBb⟩
            case measure => simp [intOf]; omega
          · have HQ' := HQ rfl
            clear HQ hns
            go_wp2_with fail
            refine (HRt.out _).mono ?_
            rintro e9 w3 ⟨rfl, hB3⟩
            have hBb := hB.trans (hB3.mono hB.size)
            have c0 := (hB3.cell (p := ⟨b, o + j * 2, none⟩) (Nat.lt_of_lt_of_le hbB hB.size)).trans q0
            have c1 := (hB3.cell (p := ⟨b, o + j * 2 + 1, none⟩) (Nat.lt_of_lt_of_le hbB hB.size)).trans q1
            go_wp2_with fail
            refine (HQ'.out _).mono ?_
            rintro e9 w4 ⟨rfl, hB4⟩
            have hBc := hBb.trans (hB4.mono hBb.size)
            go_wp2_with fail
            go_roundw
            case rel => exact ⟨j + 1, O ++ ⟨#[32]⟩ ++ bN y, by omega, by go_num, rfl, hN, z2, hall', hBc⟩
            case measure => simp [intOf]; omega
    · obtain rfl : j = l.length := by omega
      have hO2 := hO.out
      rw [List.take_length] at hO2
      have hall2 := hall.out
      rw [List.take_length] at hall2
      have hsz : O.size = (Lib.join (l.map writeF) [32]).length := by rw [hO2]; rfl
      by_cases h97 : 4096 < O.size
      · have a4 : (4096 : Int) < O.size := by omega
        have hrr : Hid (res = ([], 3)) := by
          rw [Hid, hR.out, hall2, if_neg (by simp), if_pos]
          rw [joinF_le]; omega
        clear hR hO hall h97 hO2 hall2 hsz
        go_wp2_with fail
        go_ret2
        rw [hrr.out]
        exact ⟨rfl, hB⟩
      · have a4 : ¬ (4096 : Int) < O.size := by omega
        have hrr : Hid (res = (Lib.join (l.map writeF) [32], 0)) := by
          rw [Hid, hR.out, hall2, if_neg (by simp), if_neg]
          rw [joinF_le]; omega
        have hO3 := Lib.hid hO2
        clear hR hO hall h97 hO2 hall2 hsz
        go_wp2_with fail
        go_ret2
        rw [hrr.out, hO3.out]
        exact ⟨rfl, hB⟩
end Go.Proofs.YtohcmfobnkaaiaaDoor
