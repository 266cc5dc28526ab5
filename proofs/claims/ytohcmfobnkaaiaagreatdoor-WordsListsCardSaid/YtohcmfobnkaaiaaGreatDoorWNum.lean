/- words: what the library's variables hold; Itoa, Digits, size, natural. -/
import Derived.Lib.SmallJoins
import Derived.Test.YtohcmfobnkaaiaaGreatDoorWApp
import Derived.Test.YtohcmfobnkaaiaaGreatDoorNum
set_option linter.unusedSimpArgs false
set_option linter.unusedVariables false
namespace Go.Proofs.YtohcmfobnkaaiaaGreatDoor
open Go Go.RowKit Tor

/-- what the variables hold that the functions of words read -/
structure WdAt (w : World) : Prop where
  ml : ∃ m, w.cell? ⟨1, 0, none⟩ = some (.int .i64 m)
  tab : Lib.TabIs Tryz.prog w "internal/strconv.uint64pow10" .u64 Lib.pow10Tab
  err : ErrAt w
  t0 : w.cell? ⟨0, 0, none⟩ = some (.int .i64 10)
  t1 : w.cell? ⟨0, 1, none⟩ = some (.int .i64 100)
  t2 : w.cell? ⟨0, 2, none⟩ = some (.int .i64 1000)
theorem WdAt.below {w w' : World} (h : WdAt w) (hB : Below w.heap.size w w') : WdAt w' := by
  obtain ⟨⟨m, hm⟩, h2, h3, h4, h5, h6⟩ := h
  exact ⟨⟨m, (hB.cell (p := ⟨1, 0, none⟩) (lt_of_cell hm)).trans hm⟩, Joins.tab_stays (g := 4) (by kernel_rfl) h2 hB (Nat.le_refl _), h3.below hB,
    (hB.cell (p := ⟨0, 0, none⟩) (lt_of_cell h4)).trans h4, (hB.cell (p := ⟨0, 1, none⟩) (lt_of_cell h5)).trans h5, (hB.cell (p := ⟨0, 2, none⟩) (lt_of_cell h6)).trans h6⟩

theorem below_of_grow (w : World) (k : Nat) (os : Array Obj) : Below w.heap.size w («Sort».grow (w.drewN k) os) :=
  ⟨rfl, rfl, rfl, by show w.heap.size ≤ (w.heap ++ os).size; rw [Array.size_append]; omega, fun j hj => by
    show (w.heap ++ os)[j]? = w.heap[j]?
    rw [Array.getElem?_append_left hj]⟩
theorem itoa_any (n : Int) (h0 : 0 ≤ n) (h1 : n ≤ 99999) (w : World) (h : WdAt w) : Calls Tryz.prog 33 #[.int .i64 n] w (Ret (.string (bN (digL n))) w) := by
  refine (Tryz.strconv_Itoa n (by omega) (by omega) w h.tab).mono ?_
  rintro e w' ⟨rfl, k, os, rfl⟩
  rw [digL_eq h0 h1]
  exact ⟨rfl, below_of_grow _ _ _⟩
def tenV (j : Nat) : Int := if j = 0 then 10 else if j = 1 then 100 else 1000
def cntV (n : Int) (j : Nat) : Int := 1 + (if 10 ≤ n ∧ 1 ≤ j then 1 else 0) + (if 100 ≤ n ∧ 2 ≤ j then 1 else 0) + (if 1000 ≤ n ∧ 3 ≤ j then 1 else 0)
theorem cntV_next (n : Int) {j : Nat} (h : j < 3) : cntV n (j + 1) = cntV n j + (if tenV j ≤ n then 1 else 0) := by
  unfold cntV tenV
  rcases (show j = 0 ∨ j = 1 ∨ j = 2 by omega) with rfl | rfl | rfl <;> simp <;> omega
theorem cntV_bd (n : Int) (j : Nat) : 0 ≤ cntV n j ∧ cntV n j ≤ 4 := by
  unfold cntV
  (repeat' split) <;> omega
theorem cntV_all (n : Int) : cntV n 3 = sizeW n := by simp [cntV, sizeW]
theorem idx_tens {j : Nat} (h : j < 3) (w : World) : (Instr.index 79 (.agg #[.int .i64 10, .int .i64 100, .int .i64 1000]) (.int .i64 (j : Int))).run Tryz.prog w = .ok (.int .i64 (tenV j)) w := by
  rcases (show j = 0 ∨ j = 1 ∨ j = 2 by omega) with rfl | rfl | rfl <;> simp [Instr.index, run_underlying Tryz.underlying79, asIntOf, go_sem, tenV]


set_option maxRecDepth 100000 in
set_option maxHeartbeats 1000000 in
theorem size_any (n : Int) (w : World) (h : WdAt w) : Calls Tryz.prog 14 #[.int .i64 n] w (Ret (.int .i64 (sizeW n)) w) := by
  have t0 := h.t0
  have t1 := h.t1
  have t2 := h.t2
  clear h
  go_enter Tryz.func14, Tryz.ntmps14
  go_wp2_with fail
  go_loopg [3, 5, 7] 4 (fun gk k _ i wr => ∃ j : Nat, j ≤ 3 ∧ gk = 4 - j ∧ i = .int .i64 j ∧ k = .int .i64 (cntV n j) ∧ wr = w)
  case atStart => exact ⟨0, by omega, rfl, rfl, by simp [cntV], rfl⟩
  case round =>
    obtain ⟨j, hj, hgk, rfl, rfl, rfl⟩ := hrel
    by_cases h3 : j < 3
    · have hx := idx_tens h3
      have hn := Lib.hid (cntV_next n h3)
      have hb := Lib.hid (cntV_bd n j)
      have b1 : (j : Int) < 3 := by omega
      obtain ⟨v, hv⟩ : ∃ v, Hid (tenV j = v) := ⟨_, Lib.hid rfl⟩
      obtain ⟨k, hk⟩ : ∃ k, Hid (cntV n j = k) := ⟨_, Lib.hid rfl⟩
      rw [hv.out] at hx hn
      rw [hk.out] at hn hb ⊢
      have hb1 := hb.out.1
      have hb2 := hb.out.2
      clear t0 t1 t2
      by_cases hc : v ≤ n
      · go_wp2_with fail
        go_roundg (gk - 1)
        case measure => omega
        case rel => exact ⟨j + 1, by omega, by omega, by simp, by rw [hn.out, if_pos hc], rfl⟩
      · go_wp2_with fail
        go_roundg (gk - 1)
        case measure => omega
        case rel => exact ⟨j + 1, by omega, by omega, by simp, by rw [hn.out, if_neg (Int.not_le.2 hc)]; simp, rfl⟩
    · have e3 : j = 3 := by omega
      subst e3
      rw [cntV_all]
      go_wp2_with fail
      go_ret
      exact ⟨rfl, Below.refl _ _⟩


set_option maxRecDepth 100000 in
set_option maxHeartbeats 1000000 in
theorem natural_any (L : List UInt8) (w : World) (hs : L.length ≤ 1000000) (h : WdAt w) : Calls Tryz.prog 37 #[.string (bN L)] w (Ret (.tuple #[.int .i64 (natP L).1, .bool (natP L).2]) w) := by
  have hI := Lib.hid (wint_any (bN L) 0 1099511627776 w hs h.err)
  rw [show (bN L).data.toList = L from rfl] at hI
  clear h
  obtain ⟨v, hv⟩ : ∃ v, Hid ((intW L 0 1099511627776).1 = v) := ⟨_, Lib.hid rfl⟩
  obtain ⟨e, he⟩ : ∃ e, Hid ((intW L 0 1099511627776).2 = e) := ⟨_, Lib.hid rfl⟩
  rw [hv.out, he.out] at hI
  by_cases h7 : e = 7
  · have hne : 0 < L.length := by
      rcases Nat.eq_zero_or_pos L.length with h0 | h0
      · have : L = [] := List.length_eq_zero_iff.1 h0
        subst this
        exact absurd (he.out.trans h7) (by decide)
      · exact h0
    have hsz : 0 < (bN L).size := hne
    obtain ⟨c, hc⟩ : ∃ c, Hid (L[0]'hne = c) := ⟨_, Lib.hid rfl⟩
    have hz : (bN L)[0]'hsz = c := hc.out
    have hhd : L.head? = some c := by rw [← hc.out, List.head?_eq_getElem?, List.getElem?_eq_getElem hne]
    by_cases h45 : c = 45
    · have hP : Hid (natP L = (v, decide (e = 0))) := by rw [Hid]; unfold natP; rw [hv.out, he.out, if_neg (by rw [hhd, h45]; simp)]
      rw [hP.out]
      subst h7
      have b1 : ((c.toNat : Int) != 45) = false := by rw [h45]; rfl
      clear h45 hhd hP hc
      go_enter Tryz.func37, Tryz.ntmps37
      go_wp2_with (go_at_call 57; refine hI.out.mono ?_; rintro e w' ⟨rfl, hB⟩)
      go_ret2
      exact ⟨rfl, hB⟩
    · have hP : Hid (natP L = (1099511627776, true)) := by rw [Hid]; unfold natP; rw [hv.out, he.out, if_pos ⟨h7, by rw [hhd]; simpa using h45⟩]
      rw [hP.out]
      subst h7
      have b1 : ((c.toNat : Int) != 45) = true := by
        rw [bne_iff_ne]; intro hh; exact h45 (UInt8.toNat.inj (by show c.toNat = 45; omega))
      clear h45 hhd hP hc
      go_enter Tryz.func37, Tryz.ntmps37
      go_wp2_with (go_at_call 57; refine hI.out.mono ?_; rintro e w' ⟨rfl, hB⟩)
      go_ret2
      exact ⟨rfl, hB⟩
  · have hP : Hid (natP L = (v, decide (e = 0))) := by rw [Hid]; unfold natP; rw [hv.out, he.out, if_neg (fun hh => h7 hh.1)]
    rw [hP.out]
    have b1 : (e == 7) = false := by simpa using h7
    by_cases h0 : e = 0
    · subst h0
      clear h7 hP
      go_enter Tryz.func37, Tryz.ntmps37
      go_wp2_with (go_at_call 57; refine hI.out.mono ?_; rintro e w' ⟨rfl, hB⟩)
      go_ret2
      exact ⟨rfl, hB⟩
    · have b2 : (e == 0) = false := by simpa using h0
      have b3 : decide (e = 0) = false := by simpa using h0
      rw [b3]
      clear h7 hP h0 b3
      go_enter Tryz.func37, Tryz.ntmps37
      go_wp2_with (go_at_call 57; refine hI.out.mono ?_; rintro e w' ⟨rfl, hB⟩)
      go_ret2
      exact ⟨rfl, hB⟩
end Go.Proofs.YtohcmfobnkaaiaaGreatDoor
