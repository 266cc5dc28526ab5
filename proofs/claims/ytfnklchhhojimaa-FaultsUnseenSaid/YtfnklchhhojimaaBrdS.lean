/- torchonref02: without, slid. -/
import Derived.Test.YtfnklchhhojimaaBrdR
import Derived.Test.YtfnklchhhojimaaOldA3
set_option linter.unusedSimpArgs false
set_option linter.unusedVariables false
namespace Go.Proofs.Ytfnklchhhojimaa
open Go Go.RowKit Tor Brd

def SlidRet (n base : Nat) (a b : List Nat) (w : World) (e : Ending) (w' : World) : Prop :=
  ∃ va' vb' a' b' ch, e = .returned (.tuple #[va', vb', .bool ch]) ∧ Own 1 nenc w' base 3 va' a' ∧ Own 1 nenc w' base 3 vb' b' ∧ Rt (Brd.Step n) [a, b] [a', b'] ∧ PStill n a' b' ∧ (ch = false → a' = a ∧ b' = b) ∧ (ch = true → mu n [a', b'] < mu n [a, b]) ∧ Below w.heap.size w w'
theorem own_g {w : World} {base : Nat} {v : Value} {p : List Nat} (h : Own 1 nenc w base 3 v p) (hp : 0 < p.length) : ∃ g c, v = .slice (some ⟨g, 0, none⟩) p.length c := by
  rcases h.2 with ⟨_, e⟩ | ⟨g, cap, cur, e, _⟩
  · omega
  · exact ⟨g, cap, e⟩

set_option maxRecDepth 100000 in
set_option maxHeartbeats 4000000 in
theorem bwithout_any (n i : Nat) (h1 : 1 ≤ i) (h2 : i < n) (hn : n ≤ 1000) (w : World) : Calls Try.prog 53 #[.int .i64 n, .int .i64 i] w (fun e w' => ∃ v, e = .returned v ∧ Own 1 nenc w' w.heap.size 3 v (dl n i) ∧ Below w.heap.size w w') := by
  obtain ⟨R, hR⟩ : ∃ R : Nat → List Nat, Hid (∀ k, R k = lst n fun x => if x < k then n - 1 - x else x) := ⟨_, Lib.hid fun _ => rfl⟩
  have hRl : ∀ k, (R k).length = n := fun k => by rw [hR.out, lst_len]
  have hR0 : R 0 = idl n := by rw [hR.out]; unfold idl; exact lst_congr fun x hx => by rw [if_neg (by omega)]
  have hRn : R n = delta n := by rw [hR.out]; unfold delta; exact lst_congr fun x hx => by rw [if_pos hx]
  have hRs : ∀ k, k < n → (R k).set k (n - 1 - k) = R (k + 1) := fun k hk => by
    rw [hR.out, hR.out, lst_set]
    refine lst_congr fun x hx => ?_
    by_cases e : x = k
    · rw [if_pos e, e, if_pos (by omega)]
    · rw [if_neg e]
      by_cases h : x < k
      · rw [if_pos h, if_pos (by omega)]
      · rw [if_neg h, if_neg (by omega)]
  have HL := Lib.hid (bline_any n hn w)
  go_enter Try.func53, Try.ntmps53
  go_wp2_with (first
    | (go_at_call 51; refine HL.out.mono ?_; rintro e w1 ⟨v, rfl, hO, hB1⟩
       rw [← hR0] at hO
       obtain ⟨g, c, hv⟩ := own_g hO (by rw [hRl]; omega)
       rw [hRl] at hv
       subst hv)
    | fail)
  go_loopw [6] (fun iv wr => ∃ k : Nat, k ≤ n ∧ iv = .int .i64 k ∧ Own 1 nenc wr w.heap.size 3 (.slice (some ⟨g, 0, none⟩) n c) (R k) ∧ Below w.heap.size w wr) (fun iv _ => n - (intOf iv).toNat)
  case atStart => exact ⟨0, Nat.zero_le _, rfl, hO, hB1⟩
  case round =>
    obtain ⟨k, hk, rfl, hown, hB⟩ := hrel
    have hz := hB.size
    by_cases hlt : k < n
    · have c1 : (k : Int) < (n : Int) := by omega
      have c2 : (0 : Int) ≤ (k : Int) := by omega
      have e1 : IntKind.i64.wrap ((k : Int) + 1) = (k : Int) + 1 := IntWalk.i64_in _ (by omega)
      have hst := hRs k hlt
      obtain ⟨z, hz'⟩ : ∃ z : Nat, z = n - 1 - k := ⟨_, rfl⟩
      rw [← hz'] at hst
      have w1' : IntKind.i64.wrap ((n : Int) - 1) = (n : Int) - 1 := IntWalk.i64_in _ (by omega)
      have w2 : IntKind.i64.wrap ((n : Int) - 1 - (k : Int)) = (z : Int) := by rw [IntWalk.i64_in _ (by omega)]; omega
      have HZ := Lib.hid hz'
      clear hz'
      have hown' := hown
      rw [← hRl k] at hown'
      obtain ⟨hwg, lg, fz⟩ := own_frz hown' k
      have cx := own_at hown' (k := k) (by rw [hRl]; exact hlt)
      have hs := own_setn hown' k z
      rw [hst, hRl] at hs
      go_wp2_with fail
      go_roundw
      case rel => exact ⟨k + 1, by omega, by go_num, hs, hB.setCell (by exact hwg) _⟩
      case measure => simp [intOf]; omega
    · have c1 : ¬ (k : Int) < (n : Int) := by omega
      have e0 : k = n := by omega
      subst e0
      rw [hRn] at hown
      have hdl := (perm_delta k).len
      have hrv' : Rd 1 nenc wr wr.heap.size (some ⟨g, 0, none⟩) (delta k) := by obtain ⟨A', c', e, _, hr⟩ := Own.rd nenc_len hown; injection e with e1 _ _; rw [e1]; exact hr
      have HA := bafter_any k (some ⟨g, 0, none⟩) (delta k) c i h1 h2 wr wr.heap.size hrv' (Nat.le_refl _) (perm_delta k) hn
      rw [hdl] at HA
      have HA2 := Lib.hid HA
      clear HA
      go_wp2_with fail
      refine HA2.out.mono ?_
      rintro e w3 ⟨v3, rfl, hO3, hB3⟩
      go_wp2_with fail
      go_ret
      exact ⟨_, rfl, Own.base hO3 hz, hB.trans (hB3.mono hz)⟩
set_option maxRecDepth 100000 in
set_option maxHeartbeats 8000000 in
theorem bslid_any (n : Nat) (h1n : 1 < n) (hn : n ≤ 1000) (va vb : Value) (a b : List Nat) (w : World) (base : Nat) (ha : Own 1 nenc w base 3 va a) (hb : Own 1 nenc w base 3 vb b) (hbase : base ≤ w.heap.size) (pa : PermL n a) (pb : PermL n b) :
    Calls Try.prog 54 #[va, vb] w (SlidRet n base a b w) := by
  obtain ⟨j0, hj0, hy0', hy1', hy2'⟩ := info_parts infoInt
  go_enter Try.func54, Try.ntmps54
  go_wp2_with fail
  go_loopg [0, 1, 7, 8] (mu n [a, b] * (n + 1) + n) (fun gk va vb cv iv wr => ∃ (a' b' : List Nat) (ch : Bool) (i : Nat), 1 ≤ i ∧ i ≤ n ∧ iv = .int .i64 i ∧ cv = .bool ch ∧ Own 1 nenc wr base 3 va a' ∧ Own 1 nenc wr base 3 vb b' ∧ Hid (Rt (Brd.Step n) [a, b] [a', b']) ∧ Hid (∀ j, 1 ≤ j → j < i → ¬ Brd.Can n a' b' j) ∧ Hid (ch = false → a' = a ∧ b' = b) ∧ Hid (ch = true → mu n [a', b'] < mu n [a, b]) ∧ Hid (mu n [a', b'] * (n + 1) + (n - i) ≤ gk) ∧ Below w.heap.size w wr)
  case atStart => exact ⟨a, b, false, 1, Nat.le_refl _, by omega, rfl, rfl, ha, hb, Lib.hid (.refl _), Lib.hid (fun j h1 h2 => by omega), Lib.hid (fun _ => ⟨rfl, rfl⟩), Lib.hid (fun h => by cases h), Lib.hid (by omega), Below.refl _ _⟩
  case round =>
    obtain ⟨a', b', ch, i, hi1, hin, rfl, rfl, hoa, hob, hrt, hno, hf, ht, hgk, hB⟩ := hrel
    have hz := hB.size
    obtain ⟨pa', pb'⟩ := rt_two_perm pa pb hrt.out
    have la := pa'.len
    have lb := pb'.len
    obtain ⟨ga, ca, hva⟩ := own_g hoa (by omega)
    obtain ⟨gb, cb, hvb⟩ := own_g hob (by omega)
    rw [la] at hva
    rw [lb] at hvb
    subst hva hvb
    have hra : Rd 1 nenc wr wr.heap.size (some ⟨ga, 0, none⟩) a' := by obtain ⟨A', c', e, _, hr⟩ := Own.rd nenc_len hoa; injection e with e1 _ _; rw [e1]; exact hr
    have hrb : Rd 1 nenc wr wr.heap.size (some ⟨gb, 0, none⟩) b' := by obtain ⟨A', c', e, _, hr⟩ := Own.rd nenc_len hob; injection e with e1 _ _; rw [e1]; exact hr
    by_cases hlt : i < n
    · have c1 : (i : Int) < (n : Int) := by omega
      have e1 : IntKind.i64.wrap ((i : Int) + 1) = (i : Int) + 1 := IntWalk.i64_in _ (by omega)
      have HBG := bbegins_any n (some ⟨gb, 0, none⟩) b' cb i hi1 hlt wr wr.heap.size hrb (Nat.le_refl _) pb' hn
      rw [lb] at HBG
      have HCN := Lib.hid (can_iff (b := b') pa' hi1 hlt)
      by_cases hbg : at_ b' i < at_ b' (i - 1)
      · rw [decide_eq_true hbg] at HBG
        have HBG2 := Lib.hid HBG
        clear HBG
        by_cases hfi : iv a' i < iv a' (i - 1)
        · skip
          have HFI := Lib.hid (fun W (hBW : Below wr.heap.size wr W) => (by have := bfinishes_any n (some ⟨ga, 0, none⟩) a' ca i hi1 hlt W wr.heap.size (hra.below' hBW (Nat.le_refl _)) hBW.size pa' hn; rw [la, decide_eq_true hfi] at this; exact this : Calls Try.prog 70 #[.slice (some ⟨ga, 0, none⟩) n ca, .int .i64 i] W (Ret (.bool true) W)))
          have hnc : ¬ Brd.Can n a' b' i := fun h => (HCN.out.1 h).2 hfi
          have HNC := Lib.hid hnc
          have H1 := Lib.hid hbg
          have H2 := Lib.hid hfi
          clear hnc hbg hfi
          go_wp2_with (first
            | (go_at_call 69; refine HBG2.out.mono ?_; rintro e w2 ⟨rfl, hB2⟩)
            | (go_at_call 70; refine (HFI.out _ hB2).mono ?_; rintro e w3 ⟨rfl, hB3⟩)
            | fail)
          have HB := Lib.hid (hB2.trans (hB3.mono hB2.size))
          go_roundg (gk - 1)
          case rel => exact ⟨a', b', ch, i + 1, by omega, by omega, by go_num, rfl, hoa.below HB.out, hob.below HB.out, hrt, Lib.hid (fun j h1 h2 => by
              by_cases e : j = i
              · rw [e]; exact HNC.out
              · exact hno.out j h1 (by omega)), hf, ht, Lib.hid (by have := hgk.out; omega), hB.trans (HB.out.mono hz)⟩
          case measure => have := hgk.out; omega
        · skip
          have HFI := Lib.hid (fun W (hBW : Below wr.heap.size wr W) => (by have := bfinishes_any n (some ⟨ga, 0, none⟩) a' ca i hi1 hlt W wr.heap.size (hra.below' hBW (Nat.le_refl _)) hBW.size pa' hn; rw [la, decide_eq_false hfi] at this; exact this : Calls Try.prog 70 #[.slice (some ⟨ga, 0, none⟩) n ca, .int .i64 i] W (Ret (.bool false) W)))
          have hcan : Brd.Can n a' b' i := HCN.out.2 ⟨hbg, hfi⟩
          have hrt2 := rt_two hrt.out hcan
          have hmu : mu n [aft a' i, Brd.swp b' i] < mu n [a', b'] := (Brd.Step.here _ _ [] _ hcan).mu_lt (AllP.cons pa' (AllP.cons pb' AllP.nil))
          have hsw := swp_set pb' hi1 hlt
          have hsl := (pb'.swp hi1 hlt).len
          have HRT2 := Lib.hid hrt2
          have HMU := Lib.hid hmu
          have H1 := Lib.hid hbg
          have H2 := Lib.hid hfi
          have HCA := Lib.hid hcan
          clear hrt2 hmu hbg hfi hcan
          have HAF := Lib.hid (fun W (hBW : Below wr.heap.size wr W) => (by have := bafter_any n (some ⟨ga, 0, none⟩) a' ca i hi1 hlt W wr.heap.size (hra.below' hBW (Nat.le_refl _)) hBW.size pa' hn; rw [la] at this; exact this : Calls Try.prog 50 #[.slice (some ⟨ga, 0, none⟩) n ca, .int .i64 i] W (fun e w' => ∃ v, e = .returned v ∧ Own 1 nenc w' W.heap.size 3 v (aft a' i) ∧ Below W.heap.size W w')))
          have hbne : b' ≠ [] := fun e => by rw [e] at lb; simp at lb; omega
          go_wp2_with (first
            | (go_at_call 69; refine HBG2.out.mono ?_; rintro e w2 ⟨rfl, hB2⟩)
            | (go_at_call 70; refine (HFI.out _ hB2).mono ?_; rintro e w3 ⟨rfl, hB3⟩)
            | (go_at_call 50; refine (HAF.out _ (hB2.trans (hB3.mono hB2.size))).mono ?_; rintro e w4 ⟨va4, rfl, hO4, hB4⟩
               have hz2 := hB2.size
               have hB24 := (hB2.trans (hB3.mono hB2.size)).trans (hB4.mono (Nat.le_trans hB2.size hB3.size))
               have hz24 := hB24.size
               have hrb4 := hrb.below' hB24 (Nat.le_refl _))
            | (at_builtin; refine wpList_append_nats rfl (.tmp 27) (.tmp 28) _ rfl w4.heap.size _ j0 Try.underlying38 hj0 hy0' hy1' hy2' (.slice (some ⟨w4.heap.size, 0, none⟩) 0 0) [] b' (by kernel_rfl) (own_emptyN w4 w4.heap.size (Nat.le_refl _) _) (some ⟨gb, 0, none⟩) cb wr.heap.size (by rw [lb]; kernel_rfl) (hrb4.below' ((Below.refl _ _).alloc (Nat.le_refl _) _) hz24) hbne (by simp) (by omega) (by simp) ?_; intro v5 w5 ho5 hg5)
            | fail)
          rw [List.nil_append] at ho5
          have hB45 : Below w4.heap.size w4 w5 := (own_emptyN w4 w4.heap.size (Nat.le_refl _) 3).grown ((Below.refl _ _).alloc (Nat.le_refl _) _) hg5 (by simp)
          obtain ⟨g5, c5, hv5⟩ := own_g ho5 (by omega)
          have ho5' := ho5
          rw [hv5] at ho5'
          rw [lb] at hv5
          subst hv5
          obtain ⟨x, hx⟩ : ∃ x, Hid (at_ b' i = x) := ⟨_, Lib.hid rfl⟩
          obtain ⟨y, hy⟩ : ∃ y, Hid (at_ b' (i - 1) = y) := ⟨_, Lib.hid rfl⟩
          rw [hx.out, hy.out] at hsw
          have cx := own_at ho5' (k := i) (by omega)
          have cy := own_at ho5' (k := i - 1) (by omega)
          rw [hx.out] at cx
          rw [hy.out] at cy
          have hBS := (Below.refl w5.heap.size w5).drew
          have hoS := ho5'.below hBS
          have h4S := hB45.trans (hBS.mono hB45.size)
          have hS2 : w5.drew.cell? ⟨g5, i, none⟩ = some (.int .i64 (x : Int)) ∧ w5.drew.cell? ⟨g5, i - 1, none⟩ = some (.int .i64 (y : Int)) := ⟨cx, cy⟩
          have e3 : IntKind.i64.wrap ((i : Int) - 1) = (i : Int) - 1 := IntWalk.i64_in _ (by omega)
          have k0 : (0 : Int) ≤ (i : Int) := by omega
          have k1 : (1 : Int) ≤ (i : Int) := by omega
          have k1n : 1 ≤ i := hi1
          have k2 : (0 : Int) ≤ (i : Int) - 1 := by omega
          have k3 : (i : Int) - 1 < (n : Int) := by omega
          have k4 : ((i : Int) - 1).toNat = i - 1 := by omega
          refine wp_region_J (fun _ => True) (fun w' => w'.cell? ⟨g5, i, none⟩ = some (.int .i64 (x : Int)) ∧ w'.cell? ⟨g5, i - 1, none⟩ = some (.int .i64 (y : Int))) (fun k => k == 0 || k == 1 || k == 2 || k == 5 || k == 6 || k == 7 || k == 8 || k == 13) (by kernel_rfl) ?_
          generalize w5.drew = wS at *
          clear cx cy ho5
          skip
          refine wpAnyJ_take1 3 rfl (by kernel_rfl) (by kernel_rfl) rfl (by kernel_rfl) (fun _ _ _ h => h) (by first | kernel_rfl | rfl) trivial (fun w' hSw => (by obtain - := hSw; go_simp; try (with_reducible rfl))) ?_
          try simp only [Act.put, List.getElem_toArray, List.getElem_cons_succ, List.getElem_cons_zero, List.setIfInBounds_toArray, List.set_cons_zero, List.set_cons_succ]
          refine wpAnyJ_take1 4 rfl (by kernel_rfl) (by kernel_rfl) rfl (by kernel_rfl) (fun _ _ _ h => h) (by first | kernel_rfl | rfl) trivial (fun w' hSw => (by obtain - := hSw; go_simp; try (with_reducible rfl))) ?_
          try simp only [Act.put, List.getElem_toArray, List.getElem_cons_succ, List.getElem_cons_zero, List.setIfInBounds_toArray, List.set_cons_zero, List.set_cons_succ]
          refine wpAnyJ_take1 9 rfl (by kernel_rfl) (by kernel_rfl) rfl (by kernel_rfl) (fun _ _ _ h => h) (by first | kernel_rfl | rfl) trivial (fun w' hSw => (by obtain - := hSw; go_simp; try (with_reducible rfl))) ?_
          try simp only [Act.put, List.getElem_toArray, List.getElem_cons_succ, List.getElem_cons_zero, List.setIfInBounds_toArray, List.set_cons_zero, List.set_cons_succ]
          refine wpAnyJ_take1 10 rfl (by kernel_rfl) (by kernel_rfl) rfl (by kernel_rfl) (fun _ _ _ h => h) (by first | kernel_rfl | rfl) trivial (fun w' hSw => (by obtain - := hSw; go_simp; try (with_reducible rfl))) ?_
          try simp only [Act.put, List.getElem_toArray, List.getElem_cons_succ, List.getElem_cons_zero, List.setIfInBounds_toArray, List.set_cons_zero, List.set_cons_succ]
          refine wpAnyJ_take1 11 rfl (by kernel_rfl) (by kernel_rfl) rfl (by kernel_rfl) (fun _ _ _ h => h) (by first | kernel_rfl | rfl) trivial (fun w' hSw => (by obtain - := hSw; go_simp; try (with_reducible rfl))) ?_
          try simp only [Act.put, List.getElem_toArray, List.getElem_cons_succ, List.getElem_cons_zero, List.setIfInBounds_toArray, List.set_cons_zero, List.set_cons_succ]
          refine wpAnyJ_take1 12 rfl (by kernel_rfl) (by kernel_rfl) rfl (by kernel_rfl) (fun _ _ _ h => h) (by first | kernel_rfl | rfl) trivial (fun w' hSw => (by obtain - := hSw; go_simp; try (with_reducible rfl))) ?_
          try simp only [Act.put, List.getElem_toArray, List.getElem_cons_succ, List.getElem_cons_zero, List.setIfInBounds_toArray, List.set_cons_zero, List.set_cons_succ]
          refine wpAnyJ_take2 0 rfl (by kernel_rfl) (by kernel_rfl) (by kernel_rfl) (by kernel_rfl) (fun _ _ _ h => h) (by first | kernel_rfl | rfl) trivial hS2 (fun w' hSw => (by obtain ⟨-, z1, z2⟩ := hSw; go_simp; try (with_reducible rfl))) ?_
          try simp only [Act.put, List.getElem_toArray, List.getElem_cons_succ, List.getElem_cons_zero, List.setIfInBounds_toArray, List.set_cons_zero, List.set_cons_succ]
          refine wpAnyJ_take2 1 rfl (by kernel_rfl) (by kernel_rfl) (by kernel_rfl) (by kernel_rfl) (fun _ _ _ h => h) (by first | kernel_rfl | rfl) trivial hS2 (fun w' hSw => (by obtain ⟨-, z1, z2⟩ := hSw; go_simp; try (with_reducible rfl))) ?_
          try simp only [Act.put, List.getElem_toArray, List.getElem_cons_succ, List.getElem_cons_zero, List.setIfInBounds_toArray, List.set_cons_zero, List.set_cons_succ]
          refine wpAnyJ_take2 2 rfl (by kernel_rfl) (by kernel_rfl) (by kernel_rfl) (by kernel_rfl) (fun _ _ _ h => h) (by first | kernel_rfl | rfl) trivial hS2 (fun w' hSw => (by obtain ⟨-, z1, z2⟩ := hSw; go_simp; try (with_reducible rfl))) ?_
          try simp only [Act.put, List.getElem_toArray, List.getElem_cons_succ, List.getElem_cons_zero, List.setIfInBounds_toArray, List.set_cons_zero, List.set_cons_succ]
          refine wpAnyJ_take2 5 rfl (by kernel_rfl) (by kernel_rfl) (by kernel_rfl) (by kernel_rfl) (fun _ _ _ h => h) (by first | kernel_rfl | rfl) trivial hS2 (fun w' hSw => (by obtain ⟨-, z1, z2⟩ := hSw; go_simp; try (with_reducible rfl))) ?_
          try simp only [Act.put, List.getElem_toArray, List.getElem_cons_succ, List.getElem_cons_zero, List.setIfInBounds_toArray, List.set_cons_zero, List.set_cons_succ]
          refine wpAnyJ_take2 6 rfl (by kernel_rfl) (by kernel_rfl) (by kernel_rfl) (by kernel_rfl) (fun _ _ _ h => h) (by first | kernel_rfl | rfl) trivial hS2 (fun w' hSw => (by obtain ⟨-, z1, z2⟩ := hSw; go_simp; try (with_reducible rfl))) ?_
          try simp only [Act.put, List.getElem_toArray, List.getElem_cons_succ, List.getElem_cons_zero, List.setIfInBounds_toArray, List.set_cons_zero, List.set_cons_succ]
          refine wpAnyJ_take2 7 rfl (by kernel_rfl) (by kernel_rfl) (by kernel_rfl) (by kernel_rfl) (fun _ _ _ h => h) (by first | kernel_rfl | rfl) trivial hS2 (fun w' hSw => (by obtain ⟨-, z1, z2⟩ := hSw; go_simp; try (with_reducible rfl))) ?_
          try simp only [Act.put, List.getElem_toArray, List.getElem_cons_succ, List.getElem_cons_zero, List.setIfInBounds_toArray, List.set_cons_zero, List.set_cons_succ]
          refine wpAnyJ_take2 8 rfl (by kernel_rfl) (by kernel_rfl) (by kernel_rfl) (by kernel_rfl) (fun _ _ _ h => h) (by first | kernel_rfl | rfl) trivial hS2 (fun w' hSw => (by obtain ⟨-, z1, z2⟩ := hSw; go_simp; try (with_reducible rfl))) ?_
          try simp only [Act.put, List.getElem_toArray, List.getElem_cons_succ, List.getElem_cons_zero, List.setIfInBounds_toArray, List.set_cons_zero, List.set_cons_succ]
          refine wpAnyJ_take2 13 rfl (by kernel_rfl) (by kernel_rfl) (by kernel_rfl) (by kernel_rfl) (fun _ _ _ h => h) (by first | kernel_rfl | rfl) trivial hS2 (fun w' hSw => (by obtain ⟨-, z1, z2⟩ := hSw; go_simp; try (with_reducible rfl))) ?_
          try simp only [Act.put, List.getElem_toArray, List.getElem_cons_succ, List.getElem_cons_zero, List.setIfInBounds_toArray, List.set_cons_zero, List.set_cons_succ]
          refine wpAnyJ_take1 14 rfl (by kernel_rfl) (by kernel_rfl) rfl (by kernel_rfl) (fun _ _ _ h => h) (by first | kernel_rfl | rfl) trivial (fun w' hSw => (by obtain - := hSw; go_simp; try (with_reducible rfl))) ?_
          try simp only [Act.put, List.getElem_toArray, List.getElem_cons_succ, List.getElem_cons_zero, List.setIfInBounds_toArray, List.set_cons_zero, List.set_cons_succ]
          refine wpAnyJ_ready [15] (by kernel_rfl) (by simp) (NextJ.cons rfl (fun K hK => ?_) NextJ.nil)
          obtain ⟨hg4, lg, fz⟩ := own_frz hoS (i - 1)
          have q2 := hS2.2
          have hs1 := own_setn hoS (i - 1) x
          have hBt := h4S.setCell (p := ⟨g5, i - 1, none⟩) (by exact hg4) (.int .i64 (x : Int))
          go_simp
          obtain ⟨wt, hwt⟩ : ∃ xx, Hid (wS.setCell ⟨g5, i - 1, none⟩ (.int .i64 (x : Int)) = xx) := ⟨_, Lib.hid rfl⟩
          rw [hwt.out] at hs1 hBt
          rw [hwt.out]
          refine hK.out _ _ trivial (fun h => absurd h (by decide)) ?_
          clear hK K
          try simp only [Act.put, List.getElem_toArray, List.getElem_cons_succ, List.getElem_cons_zero, List.setIfInBounds_toArray, List.set_cons_zero, List.set_cons_succ]
          refine wpAnyJ_take1 16 rfl (by kernel_rfl) (by kernel_rfl) rfl (by kernel_rfl) (fun _ _ _ h => h) (by first | kernel_rfl | rfl) trivial (fun w' hSw => (by obtain - := hSw; go_simp; try (with_reducible rfl))) ?_
          try simp only [Act.put, List.getElem_toArray, List.getElem_cons_succ, List.getElem_cons_zero, List.setIfInBounds_toArray, List.set_cons_zero, List.set_cons_succ]
          refine wpAnyJ_ready [17] (by kernel_rfl) (by simp) (NextJ.cons rfl (fun K hK => ?_) NextJ.nil)
          have hs1' := hs1
          have hl6 : (b'.set (i - 1) x).length = b'.length := List.length_set
          rw [← hl6] at hs1'
          obtain ⟨_, lg2, fz2⟩ := own_frz hs1' i
          have cz := own_at hs1' (k := i) (by rw [hl6]; omega)
          have hs2 := own_setn hs1' i y
          rw [hl6, hsw, lb] at hs2
          have hBu := hBt.setCell (p := ⟨g5, i, none⟩) (by exact hg4) (.int .i64 (y : Int))
          go_simp
          obtain ⟨wu, hwu⟩ : ∃ xx, Hid (wt.setCell ⟨g5, i, none⟩ (.int .i64 (y : Int)) = xx) := ⟨_, Lib.hid rfl⟩
          rw [hwu.out] at hs2 hBu
          rw [hwu.out]
          refine hK.out _ _ trivial (fun h => absurd h (by decide)) ?_
          clear hK K
          try simp only [Act.put, List.getElem_toArray, List.getElem_cons_succ, List.getElem_cons_zero, List.setIfInBounds_toArray, List.set_cons_zero, List.set_cons_succ]
          refine wpAnyJ_done (by kernel_rfl) ?_ _
          clear cz fz2 fz q2 hsw hl6
          go_wp2_with fail
          have hmul := Nat.mul_le_mul_right (n + 1) HMU.out
          rw [Nat.succ_mul] at hmul
          have hgk2 := hgk.out
          have hz3x := hB3.size
          have hz4x := hB4.size
          go_roundg (gk - 1)
          case rel => exact ⟨aft a' i, Brd.swp b' i, true, 1, Nat.le_refl _, by omega, by go_num, rfl, Own.base (hO4.below hBu) (by omega), Own.base hs2 (by omega), HRT2, Lib.hid (fun j h1 h2 => by omega), Lib.hid (fun h => by cases h), Lib.hid (fun _ => by rcases Bool.eq_false_or_eq_true ch with e | e; exact Nat.lt_trans HMU.out (ht.out e); have := hf.out e; rw [← this.1, ← this.2]; exact HMU.out), Lib.hid (by omega), hB.trans ((hB24.trans (hBu.mono hz24)).mono hz)⟩
          case measure => omega
      · rw [decide_eq_false hbg] at HBG
        have HBG2 := Lib.hid HBG
        clear HBG
        have hnc : ¬ Brd.Can n a' b' i := fun h => hbg (HCN.out.1 h).1
        have HNC := Lib.hid hnc
        have H1 := Lib.hid hbg
        clear hnc hbg
        go_wp2_with (first
          | (go_at_call 69; refine HBG2.out.mono ?_; rintro e w2 ⟨rfl, hB2⟩)
          | fail)
        have HB := Lib.hid hB2
        go_roundg (gk - 1)
        case rel => exact ⟨a', b', ch, i + 1, by omega, by omega, by go_num, rfl, hoa.below HB.out, hob.below HB.out, hrt, Lib.hid (fun j h1 h2 => by
            by_cases e : j = i
            · rw [e]; exact HNC.out
            · exact hno.out j h1 (by omega)), hf, ht, Lib.hid (by have := hgk.out; omega), hB.trans (HB.out.mono hz)⟩
        case measure => have := hgk.out; omega
    · have c1 : ¬ (i : Int) < (n : Int) := by omega
      have e0 : i = n := by omega
      subst e0
      go_wp2_with fail
      go_ret3
      exact ⟨_, _, a', b', ch, rfl, hoa, hob, hrt.out, fun j h => hno.out j h.1 h.2.1 h, hf.out, ht.out, hB⟩
end Go.Proofs.Ytfnklchhhojimaa
