/- torchonref18: IsPin, Crossings, Pins; the law's crossings. -/
import Derived.Test.YtfnklchhhojimaaHoldB
set_option linter.unusedSimpArgs false
set_option linter.unusedVariables false
namespace Go.Proofs.Ytfnklchhhojimaa
open Go Go.RowKit Tor Brd

theorem ispin_any (x : Int) (w : World) : Calls Try.prog 48 #[.int .i64 x] w (Ret (.bool (decide (1000 < x))) w) := by
  go_enter Try.func48, Try.ntmps48
  go_wp2_with fail
  go_ret
  exact Ret.val rfl (Below.refl _ _)
set_option maxRecDepth 100000 in
set_option maxHeartbeats 2000000 in
theorem rcross_any (n : Int) (A : Option Addr) (D : List Int) (c : Nat) (w : World) (H : Nat) (hr : RdI w H A D) (hH : H ≤ w.heap.size) (hl : D.length ≤ 100000) :
    Calls Try.prog 19 #[.agg #[.int .i64 n, .slice A D.length c]] w (fun e w' => ∃ v, e = .returned v ∧ Tor.Own 1 ienc w' w.heap.size 3 v (D.filter crossB) ∧ Below w.heap.size w w') := by
  obtain ⟨i0, hi0, hz0', hz1', hz2'⟩ := info_parts infoI
  go_enter Try.func19, Try.ntmps19
  go_wp2_with fail
  go_loopw [3, 4] (fun v iv wr => ∃ i : Nat, i ≤ D.length ∧ iv = .int .i64 i ∧ Blk wr w.heap.size 57 #[.int .i64 n, .slice A D.length c] ∧ Tor.Own 1 ienc wr (w.heap.size + 1) 3 v ((D.take i).filter crossB) ∧ Below w.heap.size w wr) (fun _ iv _ => D.length - (intOf iv).toNat)
  case atStart => exact ⟨0, Nat.zero_le _, rfl, Blk.new _ _ _, Tor.Own.nil _ _ _, (Below.refl _ _).alloc (Nat.le_refl _) _⟩
  case round =>
    obtain ⟨i, hi, rfl, hb, hown, hB⟩ := hrel
    have c1 := hb.cell 1 (.slice A D.length c) rfl
    have cl := hb.lt
    have hz := hB.size
    have hlen : ((D.take i).filter crossB).length ≤ 100000 := by
      have := List.length_filter_le crossB (D.take i)
      rw [List.length_take] at this; omega
    obtain ⟨L, hL⟩ : ∃ L, Hid ((D.take i).filter crossB = L) := ⟨_, Lib.hid rfl⟩
    rw [hL.out] at hown hlen
    obtain ⟨Av, cv, rfl, _, _⟩ := Tor.Own.rd int_len hown
    have hnb := hown.ne_block hb (by decide)
    by_cases hlt : i < D.length
    · obtain ⟨b, o, rfl, hb0, h0⟩ := (hr.below' hB hH).int hlt
      have l0 := lt_of_cell h0
      have j0 : (0 : Int) ≤ (i : Int) := by omega
      have j1 : (i : Int) < (D.length : Int) := by omega
      have ei : IntKind.i64.wrap ((i : Int) + 1) = (i : Int) + 1 := IntWalk.i64_in _ (by omega)
      have HTK := Lib.hid (show (D.take (i + 1)).filter crossB = (D.take i).filter crossB ++ (if 1000 < D[i] then [] else [D[i]]) from by
        rw [take_snoc D i hlt, List.filter_append]
        congr 1
        by_cases h : 1000 < D[i] <;> simp [crossB, h])
      rw [hL.out] at HTK
      have HIP := Lib.hid (fun w' => ispin_any D[i] w')
      generalize D[i] = x at *
      by_cases hx : 1000 < x
      · rw [if_pos hx] at HTK
        rw [decide_eq_true hx] at HIP
        clear hx
        go_wp2_with (first
          | (go_at_call 48; refine (HIP.out _).mono ?_; rintro e w2 ⟨rfl, hB2⟩
             have hb2 := hb.below' hB2
             have hown2 := hown.below hB2
             have hB2' := hB.trans (hB2.mono hz))
          | fail)
        go_roundw
        case rel => exact ⟨i + 1, by omega, by go_num, hb2, by rw [HTK.out, List.append_nil]; exact hown2, hB2'⟩
        case measure => simp [intOf]; omega
      · rw [if_neg hx] at HTK
        rw [decide_eq_false hx] at HIP
        clear hx
        go_wp2_with (first
          | (go_at_call 48; refine (HIP.out _).mono ?_; rintro e w2 ⟨rfl, hB2⟩
             have hb2 := hb.below' hB2
             have hown2 := hown.below hB2
             have hB2' := hB.trans (hB2.mono hz)
             have h02 := (hB2.cell (p := ⟨b, _, none⟩) l0).trans h0
             have l02 := lt_of_cell h02
             have c12 := hb2.cell 1 (.slice (some ⟨b, o, none⟩) D.length c) rfl
             have cl2 := hb2.lt
             have hz2 := hB2'.size
             have hnb2 := hown2.ne_block hb2 (by decide))
          | (at_builtin; refine wpList_append_i rfl (.tmp 19) (.tmp 25) _ rfl (w.heap.size + 1) _ i0 _ Try.underlying38 hi0 hz0' hz1' hz2' rfl (.slice Av L.length cv) L rfl (hown2.alloc _) w2.heap.size x rfl (cell_new rfl) (by omega) (by simp; omega) ?_; intro v3 w3 hown3 hg3)
          | fail)
        go_roundw
        case rel =>
          exact ⟨i + 1, by omega, by go_num, (hb2.alloc _).grown hg3 hnb2, by rw [HTK.out]; exact hown3, Tor.Own.grown ((hown2.alloc _).base (Nat.le_succ _)) (hB2'.alloc hz2 _) hg3 (by simp; omega)⟩
        case measure => simp [intOf]; omega
    · have j1 : ¬ (i : Int) < (D.length : Int) := by omega
      have ei : i = D.length := by omega
      have hL2 := hL.out
      rw [ei, List.take_length] at hL2
      have HL2 := Lib.hid hL2
      clear hL2 ei
      go_wp2_with fail
      go_ret
      rw [HL2.out]
      exact ⟨_, rfl, hown.base (Nat.le_succ _), hB⟩
set_option maxRecDepth 100000 in
set_option maxHeartbeats 2000000 in
theorem rpins_any (n : Int) (A : Option Addr) (D : List Int) (c : Nat) (w : World) (H : Nat) (hr : RdI w H A D) (hH : H ≤ w.heap.size) (hl : D.length ≤ 100000) (N : Nat) (hN : (D.filter fun y => decide (1000 < y)).length = N) :
    Calls Try.prog 20 #[.agg #[.int .i64 n, .slice A D.length c]] w (fun e w' => ∃ A' c', e = .returned (.slice A' N c') ∧ Below w.heap.size w w') := by
  obtain ⟨i0, hi0, hz0', hz1', hz2'⟩ := info_parts infoI
  have HN := Lib.hid hN
  clear hN
  go_enter Try.func20, Try.ntmps20
  go_wp2_with fail
  go_loopw [3, 4] (fun v iv wr => ∃ (i : Nat) (L : List Int), i ≤ D.length ∧ iv = .int .i64 i ∧ Hid (L.length = ((D.take i).filter fun y => decide (1000 < y)).length) ∧ Blk wr w.heap.size 57 #[.int .i64 n, .slice A D.length c] ∧ Tor.Own 1 ienc wr (w.heap.size + 1) 3 v L ∧ Below w.heap.size w wr) (fun _ iv _ => D.length - (intOf iv).toNat)
  case atStart => exact ⟨0, [], Nat.zero_le _, rfl, Lib.hid rfl, Blk.new _ _ _, Tor.Own.nil _ _ _, (Below.refl _ _).alloc (Nat.le_refl _) _⟩
  case round =>
    obtain ⟨i, L, hi, rfl, hLN, hb, hown, hB⟩ := hrel
    have c1 := hb.cell 1 (.slice A D.length c) rfl
    have cl := hb.lt
    have hz := hB.size
    obtain ⟨Av, cv, rfl, _, _⟩ := Tor.Own.rd int_len hown
    have hlen : L.length ≤ 100000 := by
      rw [hLN.out]
      have := List.length_filter_le (fun y => decide (1000 < y)) (D.take i)
      rw [List.length_take] at this; omega
    have hnb := hown.ne_block hb (by decide)
    by_cases hlt : i < D.length
    · obtain ⟨b, o, rfl, hb0, h0⟩ := (hr.below' hB hH).int hlt
      have l0 := lt_of_cell h0
      have j0 : (0 : Int) ≤ (i : Int) := by omega
      have j1 : (i : Int) < (D.length : Int) := by omega
      have ei : IntKind.i64.wrap ((i : Int) + 1) = (i : Int) + 1 := IntWalk.i64_in _ (by omega)
      have HTK := Lib.hid (show ((D.take (i + 1)).filter fun y => decide (1000 < y)).length = L.length + (if 1000 < D[i] then 1 else 0) from by
        rw [take_snoc D i hlt, List.filter_append, List.length_append, hLN.out]
        congr 1
        by_cases h : 1000 < D[i] <;> simp [h])
      have HIP := Lib.hid (fun w' => ispin_any D[i] w')
      generalize D[i] = x at *
      by_cases hx : 1000 < x
      · rw [if_pos hx] at HTK
        rw [decide_eq_true hx] at HIP
        clear hx
        go_wp2_with (first
          | (go_at_call 48; refine (HIP.out _).mono ?_; rintro e w2 ⟨rfl, hB2⟩
             have hb2 := hb.below' hB2
             have hown2 := hown.below hB2
             have hB2' := hB.trans (hB2.mono hz)
             have hz2 := hB2'.size
             have hnb2 := hown2.ne_block hb2 (by decide))
          | (at_builtin; refine wpList_append_i rfl (.tmp 18) (.tmp 20) _ rfl (w.heap.size + 1) _ i0 _ Try.underlying38 hi0 hz0' hz1' hz2' rfl (.slice Av L.length cv) L rfl (hown2.alloc _) w2.heap.size (i : Int) rfl (cell_new rfl) (by omega) (by simp; omega) ?_; intro v3 w3 hown3 hg3)
          | fail)
        go_roundw
        case rel =>
          exact ⟨i + 1, _, by omega, by go_num, Lib.hid (by rw [HTK.out, List.length_append]; rfl), (hb2.alloc _).grown hg3 hnb2, hown3, Tor.Own.grown ((hown2.alloc _).base (Nat.le_succ _)) (hB2'.alloc hz2 _) hg3 (by simp; omega)⟩
        case measure => simp [intOf]; omega
      · rw [if_neg hx] at HTK
        rw [decide_eq_false hx] at HIP
        clear hx
        go_wp2_with (first
          | (go_at_call 48; refine (HIP.out _).mono ?_; rintro e w2 ⟨rfl, hB2⟩
             have hb2 := hb.below' hB2
             have hown2 := hown.below hB2
             have hB2' := hB.trans (hB2.mono hz))
          | fail)
        go_roundw
        case rel => exact ⟨i + 1, L, by omega, by go_num, Lib.hid (by rw [HTK.out]; rfl), hb2, hown2, hB2'⟩
        case measure => simp [intOf]; omega
    · have j1 : ¬ (i : Int) < (D.length : Int) := by omega
      have ei : i = D.length := by omega
      have hLN2 := hLN.out
      rw [ei, List.take_length, HN.out] at hLN2
      go_wp2_with fail
      go_ret
      exact ⟨⟨_, _, rfl⟩, hB⟩

/-- the crossings of a sheet, and how many pins and sewings -/
def CrosRet (l : List Tri) (w : World) (e : Ending) (w' : World) : Prop :=
  ∃ v, e = .returned (.tuple #[v, .int .i64 (pnsL l)]) ∧ Tor.Own 1 ienc w' w.heap.size 3 v (crsL l) ∧ Below w.heap.size w w'
set_option maxRecDepth 100000 in
set_option maxHeartbeats 2000000 in
theorem lcross_any (p : Int) (A : Option Addr) (l : List Tri) (c : Nat) (w : World) (H : Nat) (hr : RdT w H A l) (hH : H ≤ w.heap.size) (hok : sheetE p l = 0) (hl : l.length ≤ 60) :
    Calls Try.prog 8 #[.agg #[.int .i64 p, .slice A l.length c]] w (CrosRet l w) := by
  have hp24 : p ≤ 24 := by
    unfold sheetE at hok
    split at hok
    · cases hok
    · omega
  have hwk := wok_of hok
  have hbd : ∀ x ∈ l, 0 ≤ x.b ∧ x.b ≤ 50 := fun x hx => by have h1 := (hwk x hx).b0; have h2 := (hwk x hx).b1; omega
  obtain ⟨HF, HPN⟩ := hlL_cr hbd
  have HDL : (hlL l).length ≤ 100000 := by have := hlL_len l (fun x hx => (wordE_letters (hwk x hx).w).1); omega
  have HH := Lib.hid (fun (w' : World) (hB : Below w.heap.size w w') => hold_any p A l c w' H (hr.below' hB hH) (Nat.le_trans hH hB.size) hok hl)
  have HCR := Lib.hid (fun (w' : World) (A' : Option Addr) (c' H' : Nat) (hr : RdI w' H' A' (hlL l)) (hH : H' ≤ w'.heap.size) => (by have := rcross_any (2 * p) A' (hlL l) c' w' H' hr hH HDL; rw [HF] at this; exact this : Calls Try.prog 19 #[.agg #[.int .i64 (2 * p), .slice A' (hlL l).length c']] w' (fun e w'' => ∃ v, e = .returned v ∧ Tor.Own 1 ienc w'' w'.heap.size 3 v (crsL l) ∧ Below w'.heap.size w' w'')))
  have HPI := Lib.hid (fun (w' : World) (A' : Option Addr) (c' H' : Nat) (hr : RdI w' H' A' (hlL l)) (hH : H' ≤ w'.heap.size) => rpins_any (2 * p) A' (hlL l) c' w' H' hr hH HDL (pnsL l) HPN)
  clear HF HPN hbd hwk hok
  obtain ⟨P2, hP2⟩ : ∃ P2, 2 * p = P2 := ⟨_, rfl⟩
  rw [hP2] at HH HCR HPI
  clear hP2
  unfold CrosRet
  generalize hlL l = D at *
  generalize crsL l = C at *
  generalize pnsL l = N at *
  go_enter Try.func8, Try.ntmps8
  go_wp2_with (first
    | (go_at_call 18; refine (HH.out _ ((Below.refl _ _).alloc (Nat.le_refl _) _)).mono ?_; rintro e w1 ⟨v1, rfl, ho1, hB1⟩; clear HH
       obtain ⟨A1, c1, rfl, _, hr1⟩ := Tor.Own.rd int_len ho1
       have hB1' := Below.trans (((Below.refl w.heap.size w).alloc (Nat.le_refl _) (.cells #[.int .i64 p, .slice A l.length c] 35))) (hB1.mono (by simp))
       have hz1 := hB1'.size)
    | fail)
  have kH := Blk.new w1 57 #[.int .i64 P2, .slice A1 D.length c1]
  have hrD := (hr1.below' ((Below.refl w1.heap.size w1).alloc (Nat.le_refl _) (.cells #[.int .i64 P2, .slice A1 D.length c1] 57)) (Nat.le_refl _))
  have hBD := hB1'.alloc hz1 (.cells #[.int .i64 P2, .slice A1 D.length c1] 57)
  generalize hWD : w1.alloc (.cells #[.int .i64 P2, .slice A1 D.length c1] 57) = W at *
  clear hWD
  refine wp_region_J (fun w' => w'.cell? ⟨w1.heap.size, 0, none⟩ = some (.int .i64 P2) ∧ w'.cell? ⟨w1.heap.size, 1, none⟩ = some (.slice A1 D.length c1)) (fun _ => True) (fun _ => false) (by kernel_rfl) ?_
  have hBd : Below W.heap.size W W.drew := (Below.refl _ _).drew
  have kd := kH.below' hBd
  have hS1 := And.intro (kd.cell 0 (.int .i64 P2) rfl) (kd.cell 1 (.slice A1 D.length c1) rfl)
  refine wpAnyJ_take1 0 rfl (by kernel_rfl) (by kernel_rfl) rfl (by kernel_rfl) (fun _ _ _ h => h) (by first | kernel_rfl | rfl) hS1 (fun w' hSw => (by obtain ⟨v0, v1⟩ := hSw; have ub := lt_of_cell v0; go_simp; try (with_reducible rfl))) ?_
  try simp only [Act.put, List.getElem_toArray, List.getElem_cons_succ, List.getElem_cons_zero, List.setIfInBounds_toArray, List.set_cons_zero, List.set_cons_succ]
  refine wpAnyJ_take1 2 rfl (by kernel_rfl) (by kernel_rfl) rfl (by kernel_rfl) (fun _ _ _ h => h) (by first | kernel_rfl | rfl) hS1 (fun w' hSw => (by obtain ⟨v0, v1⟩ := hSw; have ub := lt_of_cell v0; go_simp; try (with_reducible rfl))) ?_
  try simp only [Act.put, List.getElem_toArray, List.getElem_cons_succ, List.getElem_cons_zero, List.setIfInBounds_toArray, List.set_cons_zero, List.set_cons_succ]
  clear hS1
  refine wpAnyJ_ready [1] (by kernel_rfl) (by simp) (NextJ.cons rfl (fun K hK => ?_) NextJ.nil)
  go_simp
  refine (HCR.out W.drew A1 c1 w1.heap.size (hrD.below' hBd (Nat.le_of_lt kH.lt)) (Nat.le_of_lt kd.lt)).mono ?_
  rintro e w2 ⟨v2, rfl, ho2, hB2⟩
  have hBW2 := hBd.trans hB2
  have k2 := kd.below' hB2
  refine hK.out _ _ ⟨k2.cell 0 (.int .i64 P2) rfl, k2.cell 1 (.slice A1 D.length c1) rfl⟩ (fun _ => trivial) ?_
  clear hK K
  try simp only [Act.put, List.getElem_toArray, List.getElem_cons_succ, List.getElem_cons_zero, List.setIfInBounds_toArray, List.set_cons_zero, List.set_cons_succ]
  refine wpAnyJ_ready [3] (by kernel_rfl) (by simp) (NextJ.cons rfl (fun K hK => ?_) NextJ.nil)
  go_simp
  refine (HPI.out w2 A1 c1 w1.heap.size (hrD.below' hBW2 (Nat.le_of_lt kH.lt)) (Nat.le_of_lt k2.lt)).mono ?_
  rintro e w3 ⟨A3, c3, rfl, hB3⟩
  have k3 := k2.below' hB3
  have hS3 := And.intro (k3.cell 0 (.int .i64 P2) rfl) (k3.cell 1 (.slice A1 D.length c1) rfl)
  refine hK.out _ _ hS3 (fun _ => trivial) ?_
  clear hK K
  try simp only [Act.put, List.getElem_toArray, List.getElem_cons_succ, List.getElem_cons_zero, List.setIfInBounds_toArray, List.set_cons_zero, List.set_cons_succ]
  refine wpAnyJ_take1 4 rfl (by kernel_rfl) (by kernel_rfl) rfl (by kernel_rfl) (fun _ _ _ h => h) (by first | kernel_rfl | rfl) hS3 (fun w' hSw => (by obtain ⟨v0, v1⟩ := hSw; have ub := lt_of_cell v0; go_simp; try (with_reducible rfl))) ?_
  try simp only [Act.put, List.getElem_toArray, List.getElem_cons_succ, List.getElem_cons_zero, List.setIfInBounds_toArray, List.set_cons_zero, List.set_cons_succ]
  refine wpAnyJ_take1 5 rfl (by kernel_rfl) (by kernel_rfl) rfl (by kernel_rfl) (fun _ _ _ h => h) (by first | kernel_rfl | rfl) hS3 (fun w' hSw => (by obtain ⟨v0, v1⟩ := hSw; have ub := lt_of_cell v0; go_simp; try (with_reducible rfl))) ?_
  try simp only [Act.put, List.getElem_toArray, List.getElem_cons_succ, List.getElem_cons_zero, List.setIfInBounds_toArray, List.set_cons_zero, List.set_cons_succ]
  refine wpAnyJ_take1 6 rfl (by kernel_rfl) (by kernel_rfl) rfl (by kernel_rfl) (fun _ _ _ h => h) (by first | kernel_rfl | rfl) hS3 (fun w' hSw => (by obtain ⟨v0, v1⟩ := hSw; have ub := lt_of_cell v0; go_simp; try (with_reducible rfl))) ?_
  try simp only [Act.put, List.getElem_toArray, List.getElem_cons_succ, List.getElem_cons_zero, List.setIfInBounds_toArray, List.set_cons_zero, List.set_cons_succ]
  refine wpAnyJ_done (by kernel_rfl) ?_ _
  go_wp2_with fail
  go_ret2
  have hzW : w.heap.size ≤ W.heap.size := hBD.size
  exact ⟨_, rfl, (ho2.base hzW).below hB3, hBD.trans ((hBW2.trans (hB3.mono (hBW2.size))).mono hzW)⟩
end Go.Proofs.Ytfnklchhhojimaa
