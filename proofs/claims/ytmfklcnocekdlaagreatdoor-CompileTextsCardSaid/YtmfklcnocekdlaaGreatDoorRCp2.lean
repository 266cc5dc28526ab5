/- torchonref15: Print. -/
import Derived.Test.YtmfklcnocekdlaaGreatDoorRCp
import Derived.Test.YtmfklcnocekdlaaGreatDoorPrint2
set_option linter.unusedSimpArgs false
set_option linter.unusedVariables false
namespace Go.Proofs.YtmfklcnocekdlaaGreatDoor
open Go Go.RowKit Tor

theorem shaped_op {x : Tri} (h : unshB x = false) : x.a = 1 ∨ x.a = 2 ∨ x.a = 3 := by
  unfold unshB shapedB at h
  simp only [Bool.not_eq_false', Bool.or_eq_true, decide_eq_true_eq, Bool.and_eq_true] at h
  omega
set_option maxRecDepth 100000 in
set_option maxHeartbeats 4000000 in
theorem rprint15_any (A : Option Addr) (l : List Tri) (c : Nat) (w : World) (H : Nat) (hr : RdT w H A l) (hH : H ≤ w.heap.size)
    (HW : ∀ j (h : j < l.length), l[j].s.size ≤ 9223372036854775807) :
    Calls Tryz.prog 8 #[.slice A l.length c] w (Ret (.tuple #[.string (bN (printR l).1), .int .i64 (printR l).2]) w) := by
  by_cases h1 : 1000 < l.length
  · have HR : Hid (printR l = ([], 3)) := by unfold printR; rw [if_pos h1]; rfl
    rw [HR.out]
    have h1' : (1000 : Int) < (l.length : Int) := by omega
    clear h1 HR
    go_enter Tryz.func8, Tryz.ntmps8
    go_wp2_with fail
    go_ret2
    exact ⟨rfl, Below.refl _ _⟩
  have h1' : ¬ (1000 : Int) < (l.length : Int) := by omega
  obtain ⟨R, hR⟩ : ∃ R, Hid (printR l = R) := ⟨_, Lib.hid rfl⟩
  rw [hR.out]
  have HR : Hid (R = if l.any unshB then ([], 2) else if l.any badP then ([], 6) else (l.flatMap lineB, 0)) := by rw [Hid, ← hR.out]; unfold printR; rw [if_neg h1]
  have hl5 : l.length ≤ 1000 := by omega
  have HS := Lib.hid HW
  clear h1 hR HW
  go_enter Tryz.func8, Tryz.ntmps8
  go_wp2_with fail
  go_loopw [4] (fun iv wr => ∃ j : Nat, j ≤ l.length ∧ iv = .int .i64 j ∧ Hid ((l.take j).any unshB = false) ∧ Below w.heap.size w wr) (fun i _ => l.length - (intOf i).toNat)
  case atStart => exact ⟨0, Nat.zero_le _, rfl, by simp [Hid], Below.refl _ _⟩
  case round =>
    obtain ⟨j, hj, rfl, hno, hB⟩ := hrel
    obtain ⟨wo, rfl⟩ : ∃ wo : World, wo = wr := ⟨_, rfl⟩
    by_cases hlt : j < l.length
    · obtain ⟨b, o, rfl, hb0, c0, c1, c2⟩ := (hr.below' hB hH).tri hlt
      have a2 : (j : Int) < (l.length : Int) := by omega
      have HT := Lib.hid (fun w' => shaped_any l[j] w')
      have hmem : l[j] ∈ l := List.getElem_mem hlt
      have hsn := any_snoc unshB l j hlt hno.out
      obtain ⟨x, hx⟩ : ∃ x, Hid (l[j] = x) := ⟨_, Lib.hid rfl⟩
      rw [hx.out] at c0 c1 c2 HT hmem hsn
      have hu : unshB x = !shapedB x := rfl
      cases hs : shapedB x
      · rw [hs] at HT hu
        have hrr : Hid (R = ([], 2)) := by rw [Hid, HR.out, if_pos (List.any_eq_true.2 ⟨x, hmem, hu⟩)]
        clear HR hno hx hu hsn hs
        go_wp2_with fail
        refine (HT.out _).mono ?_
        rintro e w1 ⟨rfl, hB1⟩
        go_wp2_with fail
        go_ret2
        rw [hrr.out]
        exact ⟨rfl, hB.trans (hB1.mono hB.size)⟩
      · rw [hs] at HT hu
        have hn2 := Lib.hid (hsn hu)
        clear hno hx hu hsn hs
        go_wp2_with fail
        refine (HT.out _).mono ?_
        rintro e w1 ⟨rfl, hB1⟩
        go_wp2_with fail
        go_roundw
        case rel => exact ⟨j + 1, by omega, by go_num, hn2, hB.trans (hB1.mono hB.size)⟩
        case measure => simp [intOf]; omega
    · obtain rfl : j = l.length := by omega
      have hno2 := hno.out
      rw [List.take_length] at hno2
      have HR2 : Hid (R = if l.any badP then ([], 6) else (l.flatMap lineB, 0)) := by rw [Hid, HR.out, hno2, if_neg (by simp)]
      have HOP : Hid (∀ x ∈ l, x.a = 1 ∨ x.a = 2 ∨ x.a = 3) := Lib.hid (fun x hx => shaped_op (by have := List.any_eq_false.1 hno2 x hx; simpa using this))
      have a2 : ¬ (l.length : Int) < (l.length : Int) := by omega
      clear hno hno2 HR
      go_wp2_with fail
      go_loopw [5, 6] (fun ov iv wr => ∃ (j : Nat) (O : ByteArray), j ≤ l.length ∧ iv = .int .i64 j ∧ ov = .string O ∧ Hid (O = bN ((l.take j).flatMap lineB)) ∧ O.size ≤ 27 * j ∧ Hid ((l.take j).any badP = false) ∧ Below w.heap.size w wr) (fun _ i _ => l.length - (intOf i).toNat)
      case atStart => exact ⟨0, ByteArray.empty, Nat.zero_le _, rfl, rfl, Lib.hid rfl, Nat.le_refl _, by simp [Hid], hB⟩
      case round =>
        clear hB
        obtain ⟨j, O, hj, rfl, rfl, hO, hOz, hno, hB⟩ := hrel
        obtain ⟨wo, rfl⟩ : ∃ wo : World, wo = wr := ⟨_, rfl⟩
        by_cases hlt : j < l.length
        · obtain ⟨b, o, rfl, hb0, c0, c1, c2⟩ := (hr.below' hB hH).tri hlt
          have a3 : (j : Int) < (l.length : Int) := by omega
          have hsl := HS.out j hlt
          have hmem : l[j] ∈ l := List.getElem_mem hlt
          have hop := HOP.out _ hmem
          have hsn := any_snoc badP l j hlt hno.out
          have htk := take_snoc l j hlt
          obtain ⟨x, hx⟩ : ∃ x, Hid (l[j] = x) := ⟨_, Lib.hid rfl⟩
          rw [hx.out] at c0 c1 c2 hmem hsn hop hsl htk
          have HC := Lib.hid (fun w' => wordRef_any x.s w' hsl)
          have hbp : badP x = decide (wordE x.s ≠ 0 ∨ x.b < 0 ∨ 22 < x.b) := rfl
          have hwl := @wordE_len x.s
          obtain ⟨E, hE⟩ : ∃ E, Hid (wordE x.s = E) := ⟨_, Lib.hid rfl⟩
          rw [hE.out] at HC hbp hwl
          have bad : (E ≠ 0 ∨ x.b < 0 ∨ 22 < x.b) → Hid (R = ([], 6)) := fun hh => by
            rw [Hid, HR2.out, if_pos (List.any_eq_true.2 ⟨x, hmem, by rw [hbp]; exact decide_eq_true hh⟩)]
          by_cases hE0 : E = 0
          rotate_left
          · have hrr := bad (.inl hE0)
            have z0 : (E != 0) = true := by rw [bne_iff_ne]; exact hE0
            clear bad hE0 hx hE hbp hwl hsn htk hop hno hO
            go_wp2_with fail
            refine (HC.out _).mono ?_
            rintro e w1 ⟨rfl, hB1⟩
            go_wp2_with fail
            go_ret2
            rw [hrr.out]
            exact ⟨rfl, hB.trans (hB1.mono hB.size)⟩
          subst hE0
          by_cases hb1 : x.b < 0
          · have hrr := bad (.inr (.inl hb1))
            clear bad hx hE hbp hwl hsn htk hop hno hO
            go_wp2_with fail
            refine (HC.out _).mono ?_
            rintro e w1 ⟨rfl, hB1⟩
            have d1 := (hB1.cell (p := ⟨b, o + j * 3 + 1, none⟩) (lt_of_cell c1)).trans c1
            go_wp2_with fail
            go_ret2
            rw [hrr.out]
            exact ⟨rfl, hB.trans (hB1.mono hB.size)⟩
          by_cases hb2 : 22 < x.b
          · have hrr := bad (.inr (.inr hb2))
            clear bad hx hE hbp hwl hsn htk hop hno hO
            go_wp2_with fail
            refine (HC.out _).mono ?_
            rintro e w1 ⟨rfl, hB1⟩
            have d1 := (hB1.cell (p := ⟨b, o + j * 3 + 1, none⟩) (lt_of_cell c1)).trans c1
            go_wp2_with fail
            go_ret2
            rw [hrr.out]
            exact ⟨rfl, hB.trans (hB1.mono hB.size)⟩
          have hgood : badP x = false := by rw [hbp]; exact decide_eq_false (by omega)
          have hn2 := Lib.hid (hsn hgood)
          have hll := line_len hgood
          have HL := Lib.hid (fun w' => rline_any x w' hop (by omega) (by omega) (by have := hwl rfl; omega))
          have hlb := lineB_eq x
          obtain ⟨y, hy⟩ : ∃ y, Hid (lineR x = y) := ⟨_, Lib.hid rfl⟩
          rw [hy.out] at HL hlb
          have zy : (bN y).size = y.length := rfl
          have z10 : (⟨#[10]⟩ : ByteArray).size = 1 := rfl
          have hyl : y.length ≤ 26 := by rw [hlb, List.length_append] at hll; simp at hll; omega
          have zz1 : O.size + (bN y).size ≤ 9223372036854775807 := by rw [zy]; omega
          have zz2 : (O ++ bN y).size + (⟨#[10]⟩ : ByteArray).size ≤ 9223372036854775807 := by rw [ByteArray.size_append, zy, z10]; omega
          have hN : Hid (O ++ bN y ++ ⟨#[10]⟩ = bN ((l.take (j + 1)).flatMap lineB)) := by
            rw [Hid, htk, List.flatMap_append, hO.out, show (⟨#[10]⟩ : ByteArray) = bN [10] from rfl, bN_cat15, bN_cat15]
            simp [hlb]
          have zN : (O ++ bN y ++ ⟨#[10]⟩).size ≤ 27 * (j + 1) := by rw [ByteArray.size_append, ByteArray.size_append, zy, z10]; omega
          clear bad hx hE hbp hwl hsn htk hop hno hO hgood hll hlb hy
          go_wp2_with fail
          refine (HC.out _).mono ?_
          rintro e w1 ⟨rfl, hB1⟩
          have d0 := (hB1.cell (p := ⟨b, o + j * 3, none⟩) (lt_of_cell c0)).trans c0
          have d1 := (hB1.cell (p := ⟨b, o + j * 3 + 1, none⟩) (lt_of_cell c1)).trans c1
          have d2 := (hB1.cell (p := ⟨b, o + j * 3 + 2, none⟩) (lt_of_cell c2)).trans c2
          have q1 := hB.trans (hB1.mono hB.size)
          go_wp2_with fail
          refine (HL.out _).mono ?_
          rintro e w2 ⟨rfl, hB2⟩
          go_wp2_with fail
          go_roundw
          case rel => exact ⟨j + 1, O ++ bN y ++ ⟨#[10]⟩, by omega, by go_num, rfl, hN, zN, hn2, q1.trans (hB2.mono q1.size)⟩
          case measure => simp [intOf]; omega
        · obtain rfl : j = l.length := by omega
          have hO2 := hO.out
          rw [List.take_length] at hO2
          have hno2 := hno.out
          rw [List.take_length] at hno2
          have hrr : Hid (R = (l.flatMap lineB, 0)) := by rw [Hid, HR2.out, hno2, if_neg (by simp)]
          have HO := Lib.hid hO2
          clear hO hO2 hno hno2 HR2
          go_wp2_with fail
          go_ret2
          rw [hrr.out, HO.out]
          exact ⟨rfl, hB⟩
end Go.Proofs.YtmfklcnocekdlaaGreatDoor
