/- diagram.picked, torchonref14.picked: the works of rows. -/
import Derived.Test.YtoccplfnjammjaaGreatDoorDiaA
import Derived.BigRegion
set_option linter.unusedSimpArgs false
set_option linter.unusedVariables false
namespace Go.Proofs.YtoccplfnjammjaaGreatDoor
open Go Go.RowKit Tor

theorem pickL_snoc (l : List Tri) (R : List (List Nat)) (r : List Nat) : pickL l (R ++ [r]) = pickL l R ++ r.map (xAt l) := by unfold pickL; simp
theorem pickL_take (l : List Tri) (R : List (List Nat)) (k : Nat) (hk : k < R.length) : pickL l (R.take (k + 1)) = pickL l (R.take k) ++ R[k].map (xAt l) := by rw [take_snoc R k hk, pickL_snoc]
theorem pickL_pre (l : List Tri) (R : List (List Nat)) (k j : Nat) (hk : k < R.length) : (pickL l (R.take k) ++ (R[k].take j).map (xAt l)).length ≤ (pickL l R).length := by
  have e : R = R.take k ++ R[k] :: R.drop (k + 1) := by rw [List.getElem_cons_drop]; exact (List.take_append_drop k R).symm
  have h : (pickL l R).length = (pickL l (R.take k)).length + (R[k].length + (pickL l (R.drop (k + 1))).length) := by
    conv => lhs; rw [e]
    unfold pickL
    rw [List.flatMap_append, List.flatMap_cons, List.length_append, List.length_append, List.length_map]
  rw [h]
  simp
  omega
theorem RdG.row {w : World} {H : Nat} {A : Option Addr} {R : List (List Nat)} (h : RdG w H A R) {k : Nat} (hk : k < R.length) : ∃ b o, A = some ⟨b, o, none⟩ ∧ b < H ∧ ∃ (Ak : Option Addr) (ck : Nat), w.cell? ⟨b, o + k, none⟩ = some (.slice Ak R[k].length ck) ∧ Rd 1 nenc w H Ak R[k] := by
  obtain ⟨b, o, e, hb, hc⟩ := h (fun e => by rw [e] at hk; simp at hk)
  exact ⟨b, o, e, hb, hc k hk⟩
/-- while works are picked -/
def PkI (w wr : World) (p : Nat) (A : Option Addr) (l : List Tri) (c : Nat) (d : List Tri) : Prop :=
  ∃ v, Blk wr (w.heap.size + 2) 25 #[.int .i64 p, v] ∧ Blk wr w.heap.size 25 #[.int .i64 p, .slice A l.length c] ∧ Blk wr (w.heap.size + 1) 25 #[.int .i64 0, .slice none 0 0] ∧ Own 3 Tri.enc wr (w.heap.size + 3) 44 v d ∧ Below w.heap.size w wr
set_option maxRecDepth 100000 in
set_option maxHeartbeats 4000000 in
theorem picked_any (p : Nat) (A : Option Addr) (l : List Tri) (c : Nat) (AR : Option Addr) (R : List (List Nat)) (cR : Nat) (w : World) (H : Nat) (hr : RdT w H A l) (hg : RdG w H AR R) (hH : H ≤ w.heap.size)
    (hRi : ∀ r ∈ R, ∀ i ∈ r, i < l.length) (hl : l.length ≤ 400) (hRl : R.length ≤ 400) (hPl : (pickL l R).length ≤ 1000) (hRr : ∀ r ∈ R, r.length ≤ 1000) :
    Calls Tryz.prog 61 #[.agg #[.int .i64 p, .slice A l.length c], .slice AR R.length cR] w fun e w' => ∃ (A' : Option Addr) (c' : Nat), e = .returned (.agg #[.int .i64 p, .slice A' (pickL l R).length c']) ∧ Own 3 Tri.enc w' w.heap.size 44 (.slice A' (pickL l R).length c') (pickL l R) ∧ (pickL l R).length ≤ c' ∧ Below w.heap.size w w' := by
  obtain ⟨i0, hi0, hz0', hz1', hz2'⟩ := info_parts infoWork
  have HRI := Lib.hid hRi
  have HRR := Lib.hid hRr
  have HPL := Lib.hid hPl
  clear hRi hRr hPl
  go_enter Tryz.func61, Tryz.ntmps61
  go_wp2_with fail
  go_loopw [15] (fun kv wr => ∃ k : Nat, k ≤ R.length ∧ kv = .int .i64 k ∧ PkI w wr p A l c (pickL l (R.take k))) (fun kv _ => R.length - (intOf kv).toNat)
  case atStart =>
    refine ⟨0, Nat.zero_le _, rfl, .slice none 0 0, ?_, ?_, ?_, Own.nil _ _ _, ?_⟩
    · have := Blk.new ((w.alloc (.cells #[.int .i64 p, .slice A l.length c] 25)).alloc (.cells #[.int .i64 0, .slice none 0 0] 25)) 25 #[.int .i64 p, .slice none 0 0]
      simpa using this
    · exact ((Blk.new w _ _).alloc _).alloc _
    · have := (Blk.new (w.alloc (.cells #[.int .i64 p, .slice A l.length c] 25)) 25 #[.int .i64 0, .slice none 0 0]).alloc (.cells #[.int .i64 p, .slice none 0 0] 25)
      simpa using this
    · (repeat' first | exact Below.refl _ _ | apply Below.drew | (refine Below.setCells ?_ _ _ ?_) | (refine Below.setCell ?_ ?_ _) | (refine Below.alloc ?_ ?_ _) | (simp; done) | (simp; omega))
  case round =>
    obtain ⟨k, hk, rfl, v0, hS, hA, hR, hown, hB⟩ := hrel
    by_cases hlt : k < R.length
    · obtain ⟨gb, go, rfl, hgb, Ak, ck, g0, hrow⟩ := hg.row hlt
      have hgW0 := lt_of_cell g0
      have G00 := Lib.hid g0
      have g0r : wr.cell? ⟨gb, go + k, none⟩ = some (.slice Ak R[k].length ck) := (hB.cell (p := ⟨gb, _, none⟩) (by show gb < w.heap.size; omega)).trans g0
      clear g0
      have i1 : (k : Int) < (R.length : Int) := by omega
      have i2 : (0 : Int) ≤ (k : Int) := by omega
      have hrl := HRR.out R[k] (List.getElem_mem hlt)
      go_wp2_with fail
      obtain ⟨wo, hwo⟩ : ∃ wo : World, wo = wr := ⟨_, rfl⟩
      obtain rfl := hwo
      go_loopw [21] (fun jv wr => ∃ j : Nat, j ≤ R[k].length ∧ jv = .int .i64 j ∧ PkI w wr p A l c (pickL l (R.take k) ++ (R[k].take j).map (xAt l))) (fun jv _ => R[k].length - (intOf jv).toNat)
      case atStart => exact ⟨0, Nat.zero_le _, rfl, v0, hS, hA, hR, by rw [List.take_zero, List.map_nil, List.append_nil]; exact hown, hB⟩
      case round =>
        clear hS hA hR hown hB g0r
        obtain ⟨j, hj, rfl, v0, hS, hA, hR, hown, hB⟩ := hrel
        obtain ⟨Av, cv, rfl, hcv, hrd⟩ := Own.rd tri_len hown
        have hzr := hB.size
        have hsl := hS.lt
        have hal := hA.lt
        by_cases hjl : j < R[k].length
        · have hq1 : R[k][j] < l.length := HRI.out R[k] (List.getElem_mem hlt) _ (List.getElem_mem hjl)
          have hM2 := pickL_pre l R k (j + 1) hlt
          have hMx : pickL l (R.take k) ++ (R[k].take (j + 1)).map (xAt l) = (pickL l (R.take k) ++ (R[k].take j).map (xAt l)) ++ [l[R[k][j]]] := by rw [take_snoc R[k] j hjl, List.map_append, List.map_singleton, xAt_of hq1, List.append_assoc]
          have hM3 := pickL_pre l R k j hlt
          have hM4 := HPL.out
          have HMX := Lib.hid hMx
          generalize hMdef : pickL l (R.take k) ++ (R[k].take j).map (xAt l) = M at hown hcv hS HMX hM3 hrd hMx
          clear hMx hMdef hM2
          obtain ⟨rb, ro, rfl, hrb, g10⟩ := hrow.nat hjl
          obtain ⟨q, hq⟩ : ∃ q, Hid (R[k][j] = q) := ⟨_, Lib.hid rfl⟩
          have HMX2 : ∃ hq2 : q < l.length, Hid (pickL l (R.take k) ++ (R[k].take (j + 1)).map (xAt l) = M ++ [l[q]]) := by have e := hq.out; subst e; exact ⟨hq1, HMX⟩
          rw [hq.out] at g10
          clear HMX hq1
          obtain ⟨hq1, HMX⟩ := HMX2
          have hrw := lt_of_cell g10
          have g1 : wr.cell? ⟨rb, ro + j, none⟩ = some (.int .i64 (q : Nat)) := (hB.cell (p := ⟨rb, _, none⟩) hrw).trans g10
          have HG10 := Lib.hid g10
          clear g10
          obtain ⟨b, o, rfl, hb0, m0, m1, m2⟩ := (hr.below' hB hH).tri hq1
          have k0 : (0 : Int) ≤ (j : Int) := by omega
          have k1 : (j : Int) < (R[k].length : Int) := by omega
          have k2 : (0 : Int) ≤ (q : Int) := by omega
          have k3 : (q : Int) < (l.length : Int) := by omega
          have hbW := lt_of_cell m0
          have kA9 := hA.cell 1 _ rfl
          have kS9 := hS.cell 1 _ rfl
          have hrW := lt_of_cell g1
          have g00 := G00.out
          have hgw := hgW0
          have g0 : wr.cell? ⟨gb, go + k, none⟩ = some (.slice (some ⟨rb, ro, none⟩) R[k].length ck) := (hB.cell (p := ⟨gb, _, none⟩) hgw).trans g00
          have hgW := lt_of_cell g0
          have HG00 := Lib.hid g00
          clear g00
          go_wp2_with fail
          have g00 := HG00.out
          have g10 := HG10.out
          refine wp_region_J (fun w' => w'.cell? ⟨w.heap.size, 1, none⟩ = some (.slice (some ⟨b, o, none⟩) l.length c) ∧ w'.cell? ⟨b, o + q * 3, none⟩ = some (.int .i64 l[q].a) ∧ w'.cell? ⟨b, o + q * 3 + 1, none⟩ = some (.int .i64 l[q].b) ∧ w'.cell? ⟨b, o + q * 3 + 2, none⟩ = some (.string l[q].s)) (fun w' => w'.cell? ⟨w.heap.size + 2, 1, none⟩ = some (.slice Av M.length cv)) (fun i => i == 7 || i == 8) (by kernel_rfl) ?_
          have hS1 : wr.drew.cell? ⟨w.heap.size, 1, none⟩ = some (.slice (some ⟨b, o, none⟩) l.length c) ∧ wr.drew.cell? ⟨b, o + q * 3, none⟩ = some (.int .i64 l[q].a) ∧ wr.drew.cell? ⟨b, o + q * 3 + 1, none⟩ = some (.int .i64 l[q].b) ∧ wr.drew.cell? ⟨b, o + q * 3 + 2, none⟩ = some (.string l[q].s) := ⟨kA9, m0, m1, m2⟩
          have hS2 : wr.drew.cell? ⟨w.heap.size + 2, 1, none⟩ = some (.slice Av M.length cv) := kS9
          refine wpAnyJ_take1 0 rfl (by kernel_rfl) (by kernel_rfl) rfl (by kernel_rfl) (fun _ _ _ h => h) (by rfl) hS1 (fun w' hSw => (by obtain ⟨u0, u1, u2, u3⟩ := hSw; have ub := lt_of_cell u1; go_simp; try (with_reducible rfl))) ?_
          try simp only [Act.put, List.getElem_toArray, List.getElem_cons_succ, List.getElem_cons_zero, List.setIfInBounds_toArray, List.set_cons_zero, List.set_cons_succ]
          refine wpAnyJ_take1 2 rfl (by kernel_rfl) (by kernel_rfl) rfl (by kernel_rfl) (fun _ _ _ h => h) (by rfl) hS1 (fun w' hSw => (by obtain ⟨u0, u1, u2, u3⟩ := hSw; have ub := lt_of_cell u1; go_simp; try (with_reducible rfl))) ?_
          try simp only [Act.put, List.getElem_toArray, List.getElem_cons_succ, List.getElem_cons_zero, List.setIfInBounds_toArray, List.set_cons_zero, List.set_cons_succ]
          refine wpAnyJ_take1 3 rfl (by kernel_rfl) (by kernel_rfl) rfl (by kernel_rfl) (fun _ _ _ h => h) (by rfl) hS1 (fun w' hSw => (by obtain ⟨u0, u1, u2, u3⟩ := hSw; have ub := lt_of_cell u1; go_simp; try (with_reducible rfl))) ?_
          try simp only [Act.put, List.getElem_toArray, List.getElem_cons_succ, List.getElem_cons_zero, List.setIfInBounds_toArray, List.set_cons_zero, List.set_cons_succ]
          refine wpAnyJ_take1 4 rfl (by kernel_rfl) (by kernel_rfl) rfl (by kernel_rfl) (fun _ _ _ h => h) (by rfl) hS1 (fun w' hSw => (by obtain ⟨u0, u1, u2, u3⟩ := hSw; have ub := lt_of_cell u1; go_simp; try (with_reducible rfl))) ?_
          try simp only [Act.put, List.getElem_toArray, List.getElem_cons_succ, List.getElem_cons_zero, List.setIfInBounds_toArray, List.set_cons_zero, List.set_cons_succ]
          refine wpAnyJ_take1 5 rfl (by kernel_rfl) (by kernel_rfl) rfl (by kernel_rfl) (fun _ _ _ h => h) (by rfl) hS1 (fun w' hSw => (by obtain ⟨u0, u1, u2, u3⟩ := hSw; have ub := lt_of_cell u1; go_simp; try (with_reducible rfl))) ?_
          try simp only [Act.put, List.getElem_toArray, List.getElem_cons_succ, List.getElem_cons_zero, List.setIfInBounds_toArray, List.set_cons_zero, List.set_cons_succ]
          refine wpAnyJ_take1 6 rfl (by kernel_rfl) (by kernel_rfl) rfl (by kernel_rfl) (fun _ _ _ h => h) (by rfl) hS1 (fun w' hSw => (by obtain ⟨u0, u1, u2, u3⟩ := hSw; have ub := lt_of_cell u1; go_simp; try (with_reducible rfl))) ?_
          try simp only [Act.put, List.getElem_toArray, List.getElem_cons_succ, List.getElem_cons_zero, List.setIfInBounds_toArray, List.set_cons_zero, List.set_cons_succ]
          refine wpAnyJ_take2 1 rfl (by kernel_rfl) (by kernel_rfl) (by kernel_rfl) (by kernel_rfl) (fun _ _ _ h => h) (by rfl) hS1 hS2 (fun w' hSw => (by obtain ⟨_, v1⟩ := hSw; go_simp; try (with_reducible rfl))) ?_
          try simp only [Act.put, List.getElem_toArray, List.getElem_cons_succ, List.getElem_cons_zero, List.setIfInBounds_toArray, List.set_cons_zero, List.set_cons_succ]
          have hkeepS : ∀ w2, Below wr.heap.size wr w2 → w2.cell? ⟨w.heap.size, 1, none⟩ = some (.slice (some ⟨b, o, none⟩) l.length c) ∧ w2.cell? ⟨b, o + q * 3, none⟩ = some (.int .i64 l[q].a) ∧ w2.cell? ⟨b, o + q * 3 + 1, none⟩ = some (.int .i64 l[q].b) ∧ w2.cell? ⟨b, o + q * 3 + 2, none⟩ = some (.string l[q].s) := fun w2 hb => ⟨(hA.below' hb).cell 1 _ rfl, (hb.cell (p := ⟨b, _, none⟩) hbW).trans m0, (hb.cell (p := ⟨b, _, none⟩) hbW).trans m1, (hb.cell (p := ⟨b, _, none⟩) hbW).trans m2⟩
          have hA0 : Below wr.heap.size wr wr.drew := (Below.refl _ _).drew
          refine wpAnyJ_ready [7] (by kernel_rfl) (by simp) (NextJ.cons rfl (fun K hK => ?_) NextJ.nil)
          go_simp
          have hA7 := hA0.alloc hA0.size (.cells #[.int .i64 l[q].a, .int .i64 l[q].b, .string l[q].s] 44)
          refine hK.out _ _ (hkeepS _ hA7) (fun _ => (hS.below' hA7).cell 1 _ rfl) ?_
          clear hK K
          try simp only [Act.put, List.getElem_toArray, List.getElem_cons_succ, List.getElem_cons_zero, List.setIfInBounds_toArray, List.set_cons_zero, List.set_cons_succ]
          refine wpAnyJ_ready [8] (by kernel_rfl) (by simp) (NextJ.cons rfl (fun K hK => ?_) NextJ.nil)
          refine step_append_tri (by rfl) (.tmp 26) (.tmp 32) _ (by rfl) (w.heap.size + 3) _ i0 _ Tryz.underlying23 hi0 hz0' hz1' hz2' rfl (.slice Av M.length cv) M (by rfl) (hown.below hA7) wr.heap.size l[q] (by rfl) (World.cell?_alloc_new _ _ _ 0) (World.cell?_alloc_new _ _ _ 1) (World.cell?_alloc_new _ _ _ 2) (by omega) (by simp; omega) ?_
          intro v' W8 hown8 hg8
          obtain ⟨A8, n8, c8, rfl⟩ : ∃ A n c, v' = .slice A n c := by
            obtain ⟨A8, c8, e8, _, _⟩ := Own.rd tri_len hown8
            exact ⟨A8, _, c8, e8⟩
          have hB8 : Below w.heap.size w W8 := ((hown.base (base' := w.heap.size) (by omega)).below hA7).grown (hB.trans (hA7.mono (by omega))) hg8 (by simp; omega)
          have kS8 := (hS.below' hA7).grown hg8 ((hown.below hA7).ne_block (hS.below' hA7) (by decide))
          have kA8 := (hA.below' hA7).grown hg8 ((hown.below hA7).ne_block (hA.below' hA7) (by decide))
          have kR8 := (hR.below' hA7).grown hg8 ((hown.below hA7).ne_block (hR.below' hA7) (by decide))
          obtain ⟨tb, t0, t1, t2⟩ := (hr.below' hB8 hH).triAt hq1
          have hS1_8 := And.intro (kA8.cell 1 _ rfl) (And.intro t0 (And.intro t1 t2))
          refine hK.out _ _ hS1_8 (fun _ => kS8.cell 1 _ rfl) ?_
          clear hK K hS1 hS2
          try simp only [Act.put, List.getElem_toArray, List.getElem_cons_succ, List.getElem_cons_zero, List.setIfInBounds_toArray, List.set_cons_zero, List.set_cons_succ]
          refine wpAnyJ_take1 9 rfl (by kernel_rfl) (by kernel_rfl) rfl (by kernel_rfl) (fun _ _ _ h => h) (by rfl) hS1_8 (fun w' hSw => (by obtain ⟨u0, u1, u2, u3⟩ := hSw; have ub := lt_of_cell u1; go_simp; try (with_reducible rfl))) ?_
          try simp only [Act.put, List.getElem_toArray, List.getElem_cons_succ, List.getElem_cons_zero, List.setIfInBounds_toArray, List.set_cons_zero, List.set_cons_succ]
          refine wpAnyJ_ready [10] (by kernel_rfl) (by simp) (NextJ.cons rfl (fun K hK => ?_) NextJ.nil)
          have c81 := kS8.cell 1 _ rfl
          have f81 := kS8.frozen 1
          have l81 := kS8.lt
          go_simp
          have hB9 := hB8.setCell (p := ⟨w.heap.size + 2, 1, none⟩) (by simp) (.slice A8 n8 c8)
          have hne : w.heap.size ≠ w.heap.size + 2 := by omega
          have kA9' := kA8.far (p := ⟨w.heap.size + 2, 1, none⟩) hne (.slice A8 n8 c8)
          obtain ⟨tb, t0, t1, t2⟩ := (hr.below' hB9 hH).triAt hq1
          refine hK.out _ _ ⟨kA9'.cell 1 _ rfl, t0, t1, t2⟩ (fun h => absurd h (by decide)) ?_
          clear hK K
          try simp only [Act.put, List.getElem_toArray, List.getElem_cons_succ, List.getElem_cons_zero, List.setIfInBounds_toArray, List.set_cons_zero, List.set_cons_succ]
          refine wpAnyJ_done (by kernel_rfl) ?_ _
          clear hS1_8 c81 f81 l81 t0 t1 t2
          clear g00 g10
          go_wp2_with fail
          go_roundw
          case rel => exact ⟨j + 1, by omega, by go_num, .slice A8 n8 c8, by simpa using kS8.set_ 1 (.slice A8 n8 c8), kA9', kR8.far (by simp) _, by rw [HMX.out]; exact ownsRow_setCell_other hown8 (hown8.ne_block kS8 (by decide)).symm _, hB9⟩
          case measure => simp [intOf]; omega
        · have e1 : R[k].take j = R[k] := List.take_of_length_le (by omega)
          rw [e1, ← pickL_take l R k hlt] at hown hS hcv
          have g0r : wr.cell? ⟨gb, go + k, none⟩ = some (.slice Ak R[k].length ck) := (hB.cell (p := ⟨gb, _, none⟩) hgW0).trans G00.out
          have hgWr := lt_of_cell g0r
          have HJ : Hid (j = R[k].length) := Lib.hid (by omega)
          go_wp2_with fail
          go_roundw
          case rel => exact ⟨k + 1, by omega, by go_num, _, hS, hA, hR, hown, hB⟩
          case measure => simp [intOf]; omega
    · have e1 : R.take k = R := List.take_of_length_le (by omega)
      rw [e1] at hown
      obtain ⟨Av, cv, rfl, hcv, hrd⟩ := Own.rd tri_len hown
      generalize hMM : pickL l R = M at hown hcv hS
      have q0 := hR.frozen 0
      have q1 := hR.frozen 1
      have r0 := hR.cell 0 _ rfl
      have r1 := hR.cell 1 _ rfl
      have rl := hR.lt
      have s0 := hS.cell 0 _ rfl
      have s1 := hS.cell 1 _ rfl
      have hzr := hB.size
      go_wp2_with fail
      (try simp only [Exit.inBlock, Exit.then])
      refine sheet_ret1 rfl rfl (g := w.heap.size + 1) (x := .int .i64 p) (y := .slice Av M.length cv) (by simpa using (hR.set_ 0 (.int .i64 p)).set_ 1 (.slice Av M.length cv)) rfl ?_
      subst hMM
      exact ⟨Av, cv, rfl, Own.base (ownsRow_setCell_below (ownsRow_setCell_below hown (by simp) _) (by simp) _) (by omega), hcv, by (repeat' first | assumption | exact Below.refl _ _ | apply Below.drew | (refine Below.setCells ?_ _ _ ?_) | (refine Below.setCell ?_ ?_ _) | (refine Below.alloc ?_ ?_ _) | (simp; done) | (simp; omega))⟩
set_option maxRecDepth 100000 in
set_option maxHeartbeats 4000000 in
theorem rpicked_any (p : Nat) (A : Option Addr) (l : List Tri) (c : Nat) (AR : Option Addr) (R : List (List Nat)) (cR : Nat) (w : World) (H : Nat) (hr : RdT w H A l) (hg : RdG w H AR R) (hH : H ≤ w.heap.size)
    (hRi : ∀ r ∈ R, ∀ i ∈ r, i < l.length) (hl : l.length ≤ 400) (hRl : R.length ≤ 400) (hPl : (pickL l R).length ≤ 1000) (hRr : ∀ r ∈ R, r.length ≤ 1000) :
    Calls Tryz.prog 63 #[.agg #[.int .i64 p, .slice A l.length c], .slice AR R.length cR] w fun e w' => ∃ (A' : Option Addr) (c' : Nat), e = .returned (.agg #[.int .i64 p, .slice A' (pickL l R).length c']) ∧ Own 3 Tri.enc w' w.heap.size 44 (.slice A' (pickL l R).length c') (pickL l R) ∧ (pickL l R).length ≤ c' ∧ Below w.heap.size w w' := by
  obtain ⟨i0, hi0, hz0', hz1', hz2'⟩ := info_parts infoWork
  have HRI := Lib.hid hRi
  have HRR := Lib.hid hRr
  have HPL := Lib.hid hPl
  clear hRi hRr hPl
  go_enter Tryz.func63, Tryz.ntmps63
  go_wp2_with fail
  go_loopw [6] (fun kv wr => ∃ k : Nat, k ≤ R.length ∧ kv = .int .i64 k ∧ PkI w wr p A l c (pickL l (R.take k))) (fun kv _ => R.length - (intOf kv).toNat)
  case atStart =>
    refine ⟨0, Nat.zero_le _, rfl, .slice none 0 0, ?_, ?_, ?_, Own.nil _ _ _, ?_⟩
    · have := Blk.new ((w.alloc (.cells #[.int .i64 p, .slice A l.length c] 25)).alloc (.cells #[.int .i64 0, .slice none 0 0] 25)) 25 #[.int .i64 p, .slice none 0 0]
      simpa using this
    · exact ((Blk.new w _ _).alloc _).alloc _
    · have := (Blk.new (w.alloc (.cells #[.int .i64 p, .slice A l.length c] 25)) 25 #[.int .i64 0, .slice none 0 0]).alloc (.cells #[.int .i64 p, .slice none 0 0] 25)
      simpa using this
    · (repeat' first | exact Below.refl _ _ | apply Below.drew | (refine Below.setCells ?_ _ _ ?_) | (refine Below.setCell ?_ ?_ _) | (refine Below.alloc ?_ ?_ _) | (simp; done) | (simp; omega))
  case round =>
    obtain ⟨k, hk, rfl, v0, hS, hA, hR, hown, hB⟩ := hrel
    by_cases hlt : k < R.length
    · obtain ⟨gb, go, rfl, hgb, Ak, ck, g0, hrow⟩ := hg.row hlt
      have hgW0 := lt_of_cell g0
      have G00 := Lib.hid g0
      have g0r : wr.cell? ⟨gb, go + k, none⟩ = some (.slice Ak R[k].length ck) := (hB.cell (p := ⟨gb, _, none⟩) (by show gb < w.heap.size; omega)).trans g0
      clear g0
      have i1 : (k : Int) < (R.length : Int) := by omega
      have i2 : (0 : Int) ≤ (k : Int) := by omega
      have hrl := HRR.out R[k] (List.getElem_mem hlt)
      have hgWr := lt_of_cell g0r
      go_wp2_with fail
      obtain ⟨wo, hwo⟩ : ∃ wo : World, wo = wr := ⟨_, rfl⟩
      obtain rfl := hwo
      go_loopw [7] (fun jv wr => ∃ j : Nat, j ≤ R[k].length ∧ jv = .int .i64 j ∧ PkI w wr p A l c (pickL l (R.take k) ++ (R[k].take j).map (xAt l))) (fun jv _ => R[k].length - (intOf jv).toNat)
      case atStart => exact ⟨0, Nat.zero_le _, rfl, v0, hS, hA, hR, by rw [List.take_zero, List.map_nil, List.append_nil]; exact hown, hB⟩
      case round =>
        clear hS hA hR hown hB g0r
        obtain ⟨j, hj, rfl, v0, hS, hA, hR, hown, hB⟩ := hrel
        obtain ⟨Av, cv, rfl, hcv, hrd⟩ := Own.rd tri_len hown
        have hzr := hB.size
        have hsl := hS.lt
        have hal := hA.lt
        by_cases hjl : j < R[k].length
        · have hq1 : R[k][j] < l.length := HRI.out R[k] (List.getElem_mem hlt) _ (List.getElem_mem hjl)
          have hM2 := pickL_pre l R k (j + 1) hlt
          have hMx : pickL l (R.take k) ++ (R[k].take (j + 1)).map (xAt l) = (pickL l (R.take k) ++ (R[k].take j).map (xAt l)) ++ [l[R[k][j]]] := by rw [take_snoc R[k] j hjl, List.map_append, List.map_singleton, xAt_of hq1, List.append_assoc]
          have hM3 := pickL_pre l R k j hlt
          have hM4 := HPL.out
          have HMX := Lib.hid hMx
          generalize hMdef : pickL l (R.take k) ++ (R[k].take j).map (xAt l) = M at hown hcv hS HMX hM3 hrd hMx
          clear hMx hMdef hM2
          obtain ⟨rb, ro, rfl, hrb, g10⟩ := hrow.nat hjl
          obtain ⟨q, hq⟩ : ∃ q, Hid (R[k][j] = q) := ⟨_, Lib.hid rfl⟩
          have HMX2 : ∃ hq2 : q < l.length, Hid (pickL l (R.take k) ++ (R[k].take (j + 1)).map (xAt l) = M ++ [l[q]]) := by have e := hq.out; subst e; exact ⟨hq1, HMX⟩
          rw [hq.out] at g10
          clear HMX hq1
          obtain ⟨hq1, HMX⟩ := HMX2
          have hrw := lt_of_cell g10
          have g1 : wr.cell? ⟨rb, ro + j, none⟩ = some (.int .i64 (q : Nat)) := (hB.cell (p := ⟨rb, _, none⟩) hrw).trans g10
          have HG10 := Lib.hid g10
          clear g10
          obtain ⟨b, o, rfl, hb0, m0, m1, m2⟩ := (hr.below' hB hH).tri hq1
          have k0 : (0 : Int) ≤ (j : Int) := by omega
          have k1 : (j : Int) < (R[k].length : Int) := by omega
          have k2 : (0 : Int) ≤ (q : Int) := by omega
          have k3 : (q : Int) < (l.length : Int) := by omega
          have hbW := lt_of_cell m0
          have kA9 := hA.cell 1 _ rfl
          have kS9 := hS.cell 1 _ rfl
          have hrW := lt_of_cell g1
          have g00 := G00.out
          have hgw := hgW0
          have g0 : wr.cell? ⟨gb, go + k, none⟩ = some (.slice (some ⟨rb, ro, none⟩) R[k].length ck) := (hB.cell (p := ⟨gb, _, none⟩) hgw).trans g00
          have hgW := lt_of_cell g0
          have HG00 := Lib.hid g00
          clear g00
          go_wp2_with fail
          have g00 := HG00.out
          have g10 := HG10.out
          refine wp_region_J (fun w' => w'.cell? ⟨w.heap.size, 1, none⟩ = some (.slice (some ⟨b, o, none⟩) l.length c) ∧ w'.cell? ⟨b, o + q * 3, none⟩ = some (.int .i64 l[q].a) ∧ w'.cell? ⟨b, o + q * 3 + 1, none⟩ = some (.int .i64 l[q].b) ∧ w'.cell? ⟨b, o + q * 3 + 2, none⟩ = some (.string l[q].s) ∧ w'.cell? ⟨gb, go + k, none⟩ = some (.slice (some ⟨rb, ro, none⟩) R[k].length ck) ∧ w'.cell? ⟨rb, ro + j, none⟩ = some (.int .i64 (q : Nat))) (fun w' => w'.cell? ⟨w.heap.size + 2, 1, none⟩ = some (.slice Av M.length cv)) (fun i => i == 13 || i == 14) (by kernel_rfl) ?_
          have hS1 : wr.drew.cell? ⟨w.heap.size, 1, none⟩ = some (.slice (some ⟨b, o, none⟩) l.length c) ∧ wr.drew.cell? ⟨b, o + q * 3, none⟩ = some (.int .i64 l[q].a) ∧ wr.drew.cell? ⟨b, o + q * 3 + 1, none⟩ = some (.int .i64 l[q].b) ∧ wr.drew.cell? ⟨b, o + q * 3 + 2, none⟩ = some (.string l[q].s) ∧ wr.drew.cell? ⟨gb, go + k, none⟩ = some (.slice (some ⟨rb, ro, none⟩) R[k].length ck) ∧ wr.drew.cell? ⟨rb, ro + j, none⟩ = some (.int .i64 (q : Nat)) := ⟨kA9, m0, m1, m2, g0, g1⟩
          have hS2 : wr.drew.cell? ⟨w.heap.size + 2, 1, none⟩ = some (.slice Av M.length cv) := kS9
          refine wpAnyJ_take1 0 rfl (by kernel_rfl) (by kernel_rfl) rfl (by kernel_rfl) (fun _ _ _ h => h) (by rfl) hS1 (fun w' hSw => (by obtain ⟨u0, u1, u2, u3, u4, u5⟩ := hSw; have ub := lt_of_cell u1; have ub2 := lt_of_cell u4; have ub3 := lt_of_cell u5; go_simp; try (with_reducible rfl))) ?_
          try simp only [Act.put, List.getElem_toArray, List.getElem_cons_succ, List.getElem_cons_zero, List.setIfInBounds_toArray, List.set_cons_zero, List.set_cons_succ]
          refine wpAnyJ_take1 2 rfl (by kernel_rfl) (by kernel_rfl) rfl (by kernel_rfl) (fun _ _ _ h => h) (by rfl) hS1 (fun w' hSw => (by obtain ⟨u0, u1, u2, u3, u4, u5⟩ := hSw; have ub := lt_of_cell u1; have ub2 := lt_of_cell u4; have ub3 := lt_of_cell u5; go_simp; try (with_reducible rfl))) ?_
          try simp only [Act.put, List.getElem_toArray, List.getElem_cons_succ, List.getElem_cons_zero, List.setIfInBounds_toArray, List.set_cons_zero, List.set_cons_succ]
          refine wpAnyJ_take1 3 rfl (by kernel_rfl) (by kernel_rfl) rfl (by kernel_rfl) (fun _ _ _ h => h) (by rfl) hS1 (fun w' hSw => (by obtain ⟨u0, u1, u2, u3, u4, u5⟩ := hSw; have ub := lt_of_cell u1; have ub2 := lt_of_cell u4; have ub3 := lt_of_cell u5; go_simp; try (with_reducible rfl))) ?_
          try simp only [Act.put, List.getElem_toArray, List.getElem_cons_succ, List.getElem_cons_zero, List.setIfInBounds_toArray, List.set_cons_zero, List.set_cons_succ]
          refine wpAnyJ_take1 4 rfl (by kernel_rfl) (by kernel_rfl) rfl (by kernel_rfl) (fun _ _ _ h => h) (by rfl) hS1 (fun w' hSw => (by obtain ⟨u0, u1, u2, u3, u4, u5⟩ := hSw; have ub := lt_of_cell u1; have ub2 := lt_of_cell u4; have ub3 := lt_of_cell u5; go_simp; try (with_reducible rfl))) ?_
          try simp only [Act.put, List.getElem_toArray, List.getElem_cons_succ, List.getElem_cons_zero, List.setIfInBounds_toArray, List.set_cons_zero, List.set_cons_succ]
          refine wpAnyJ_take1 5 rfl (by kernel_rfl) (by kernel_rfl) rfl (by kernel_rfl) (fun _ _ _ h => h) (by rfl) hS1 (fun w' hSw => (by obtain ⟨u0, u1, u2, u3, u4, u5⟩ := hSw; have ub := lt_of_cell u1; have ub2 := lt_of_cell u4; have ub3 := lt_of_cell u5; go_simp; try (with_reducible rfl))) ?_
          try simp only [Act.put, List.getElem_toArray, List.getElem_cons_succ, List.getElem_cons_zero, List.setIfInBounds_toArray, List.set_cons_zero, List.set_cons_succ]
          refine wpAnyJ_take1 6 rfl (by kernel_rfl) (by kernel_rfl) rfl (by kernel_rfl) (fun _ _ _ h => h) (by rfl) hS1 (fun w' hSw => (by obtain ⟨u0, u1, u2, u3, u4, u5⟩ := hSw; have ub := lt_of_cell u1; have ub2 := lt_of_cell u4; have ub3 := lt_of_cell u5; go_simp; try (with_reducible rfl))) ?_
          try simp only [Act.put, List.getElem_toArray, List.getElem_cons_succ, List.getElem_cons_zero, List.setIfInBounds_toArray, List.set_cons_zero, List.set_cons_succ]
          refine wpAnyJ_take1 7 rfl (by kernel_rfl) (by kernel_rfl) rfl (by kernel_rfl) (fun _ _ _ h => h) (by rfl) hS1 (fun w' hSw => (by obtain ⟨u0, u1, u2, u3, u4, u5⟩ := hSw; have ub := lt_of_cell u1; have ub2 := lt_of_cell u4; have ub3 := lt_of_cell u5; go_simp; try (with_reducible rfl))) ?_
          try simp only [Act.put, List.getElem_toArray, List.getElem_cons_succ, List.getElem_cons_zero, List.setIfInBounds_toArray, List.set_cons_zero, List.set_cons_succ]
          refine wpAnyJ_take1 8 rfl (by kernel_rfl) (by kernel_rfl) rfl (by kernel_rfl) (fun _ _ _ h => h) (by rfl) hS1 (fun w' hSw => (by obtain ⟨u0, u1, u2, u3, u4, u5⟩ := hSw; have ub := lt_of_cell u1; have ub2 := lt_of_cell u4; have ub3 := lt_of_cell u5; go_simp; try (with_reducible rfl))) ?_
          try simp only [Act.put, List.getElem_toArray, List.getElem_cons_succ, List.getElem_cons_zero, List.setIfInBounds_toArray, List.set_cons_zero, List.set_cons_succ]
          refine wpAnyJ_take1 9 rfl (by kernel_rfl) (by kernel_rfl) rfl (by kernel_rfl) (fun _ _ _ h => h) (by rfl) hS1 (fun w' hSw => (by obtain ⟨u0, u1, u2, u3, u4, u5⟩ := hSw; have ub := lt_of_cell u1; have ub2 := lt_of_cell u4; have ub3 := lt_of_cell u5; go_simp; try (with_reducible rfl))) ?_
          try simp only [Act.put, List.getElem_toArray, List.getElem_cons_succ, List.getElem_cons_zero, List.setIfInBounds_toArray, List.set_cons_zero, List.set_cons_succ]
          refine wpAnyJ_take1 10 rfl (by kernel_rfl) (by kernel_rfl) rfl (by kernel_rfl) (fun _ _ _ h => h) (by rfl) hS1 (fun w' hSw => (by obtain ⟨u0, u1, u2, u3, u4, u5⟩ := hSw; have ub := lt_of_cell u1; have ub2 := lt_of_cell u4; have ub3 := lt_of_cell u5; go_simp; try (with_reducible rfl))) ?_
          try simp only [Act.put, List.getElem_toArray, List.getElem_cons_succ, List.getElem_cons_zero, List.setIfInBounds_toArray, List.set_cons_zero, List.set_cons_succ]
          refine wpAnyJ_take1 11 rfl (by kernel_rfl) (by kernel_rfl) rfl (by kernel_rfl) (fun _ _ _ h => h) (by rfl) hS1 (fun w' hSw => (by obtain ⟨u0, u1, u2, u3, u4, u5⟩ := hSw; have ub := lt_of_cell u1; have ub2 := lt_of_cell u4; have ub3 := lt_of_cell u5; go_simp; try (with_reducible rfl))) ?_
          try simp only [Act.put, List.getElem_toArray, List.getElem_cons_succ, List.getElem_cons_zero, List.setIfInBounds_toArray, List.set_cons_zero, List.set_cons_succ]
          refine wpAnyJ_take1 12 rfl (by kernel_rfl) (by kernel_rfl) rfl (by kernel_rfl) (fun _ _ _ h => h) (by rfl) hS1 (fun w' hSw => (by obtain ⟨u0, u1, u2, u3, u4, u5⟩ := hSw; have ub := lt_of_cell u1; have ub2 := lt_of_cell u4; have ub3 := lt_of_cell u5; go_simp; try (with_reducible rfl))) ?_
          try simp only [Act.put, List.getElem_toArray, List.getElem_cons_succ, List.getElem_cons_zero, List.setIfInBounds_toArray, List.set_cons_zero, List.set_cons_succ]
          refine wpAnyJ_take2 1 rfl (by kernel_rfl) (by kernel_rfl) (by kernel_rfl) (by kernel_rfl) (fun _ _ _ h => h) (by rfl) hS1 hS2 (fun w' hSw => (by obtain ⟨_, v1⟩ := hSw; go_simp; try (with_reducible rfl))) ?_
          try simp only [Act.put, List.getElem_toArray, List.getElem_cons_succ, List.getElem_cons_zero, List.setIfInBounds_toArray, List.set_cons_zero, List.set_cons_succ]
          have hkeepS : ∀ w2, Below wr.heap.size wr w2 → w2.cell? ⟨w.heap.size, 1, none⟩ = some (.slice (some ⟨b, o, none⟩) l.length c) ∧ w2.cell? ⟨b, o + q * 3, none⟩ = some (.int .i64 l[q].a) ∧ w2.cell? ⟨b, o + q * 3 + 1, none⟩ = some (.int .i64 l[q].b) ∧ w2.cell? ⟨b, o + q * 3 + 2, none⟩ = some (.string l[q].s) ∧ w2.cell? ⟨gb, go + k, none⟩ = some (.slice (some ⟨rb, ro, none⟩) R[k].length ck) ∧ w2.cell? ⟨rb, ro + j, none⟩ = some (.int .i64 (q : Nat)) := fun w2 hb => ⟨(hA.below' hb).cell 1 _ rfl, (hb.cell (p := ⟨b, _, none⟩) hbW).trans m0, (hb.cell (p := ⟨b, _, none⟩) hbW).trans m1, (hb.cell (p := ⟨b, _, none⟩) hbW).trans m2, (hb.cell (p := ⟨gb, _, none⟩) hgW).trans g0, (hb.cell (p := ⟨rb, _, none⟩) hrW).trans g1⟩
          have hA0 : Below wr.heap.size wr wr.drew := (Below.refl _ _).drew
          refine wpAnyJ_ready [13] (by kernel_rfl) (by simp) (NextJ.cons rfl (fun K hK => ?_) NextJ.nil)
          go_simp
          have hA7 := hA0.alloc hA0.size (.cells #[.int .i64 l[q].a, .int .i64 l[q].b, .string l[q].s] 44)
          refine hK.out _ _ (hkeepS _ hA7) (fun _ => (hS.below' hA7).cell 1 _ rfl) ?_
          clear hK K
          try simp only [Act.put, List.getElem_toArray, List.getElem_cons_succ, List.getElem_cons_zero, List.setIfInBounds_toArray, List.set_cons_zero, List.set_cons_succ]
          refine wpAnyJ_ready [14] (by kernel_rfl) (by simp) (NextJ.cons rfl (fun K hK => ?_) NextJ.nil)
          refine step_append_tri (by rfl) (.tmp 27) (.tmp 39) _ (by rfl) (w.heap.size + 3) _ i0 _ Tryz.underlying23 hi0 hz0' hz1' hz2' rfl (.slice Av M.length cv) M (by rfl) (hown.below hA7) wr.heap.size l[q] (by rfl) (World.cell?_alloc_new _ _ _ 0) (World.cell?_alloc_new _ _ _ 1) (World.cell?_alloc_new _ _ _ 2) (by omega) (by simp; omega) ?_
          intro v' W8 hown8 hg8
          obtain ⟨A8, n8, c8, rfl⟩ : ∃ A n c, v' = .slice A n c := by
            obtain ⟨A8, c8, e8, _, _⟩ := Own.rd tri_len hown8
            exact ⟨A8, _, c8, e8⟩
          have hB8 : Below w.heap.size w W8 := ((hown.base (base' := w.heap.size) (by omega)).below hA7).grown (hB.trans (hA7.mono (by omega))) hg8 (by simp; omega)
          have kS8 := (hS.below' hA7).grown hg8 ((hown.below hA7).ne_block (hS.below' hA7) (by decide))
          have kA8 := (hA.below' hA7).grown hg8 ((hown.below hA7).ne_block (hA.below' hA7) (by decide))
          have kR8 := (hR.below' hA7).grown hg8 ((hown.below hA7).ne_block (hR.below' hA7) (by decide))
          obtain ⟨tb, t0, t1, t2⟩ := (hr.below' hB8 hH).triAt hq1
          have tg0 : W8.cell? ⟨gb, go + k, none⟩ = some (.slice (some ⟨rb, ro, none⟩) R[k].length ck) := (hB8.cell (p := ⟨gb, _, none⟩) hgw).trans g00
          have tg1 : W8.cell? ⟨rb, ro + j, none⟩ = some (.int .i64 (q : Nat)) := (hB8.cell (p := ⟨rb, _, none⟩) hrw).trans g10
          have hS1_8 := And.intro (kA8.cell 1 _ rfl) (And.intro t0 (And.intro t1 (And.intro t2 (And.intro tg0 tg1))))
          refine hK.out _ _ hS1_8 (fun _ => kS8.cell 1 _ rfl) ?_
          clear hK K hS1 hS2
          try simp only [Act.put, List.getElem_toArray, List.getElem_cons_succ, List.getElem_cons_zero, List.setIfInBounds_toArray, List.set_cons_zero, List.set_cons_succ]
          refine wpAnyJ_take1 15 rfl (by kernel_rfl) (by kernel_rfl) rfl (by kernel_rfl) (fun _ _ _ h => h) (by rfl) hS1_8 (fun w' hSw => (by obtain ⟨u0, u1, u2, u3, u4, u5⟩ := hSw; have ub := lt_of_cell u1; have ub2 := lt_of_cell u4; have ub3 := lt_of_cell u5; go_simp; try (with_reducible rfl))) ?_
          try simp only [Act.put, List.getElem_toArray, List.getElem_cons_succ, List.getElem_cons_zero, List.setIfInBounds_toArray, List.set_cons_zero, List.set_cons_succ]
          refine wpAnyJ_ready [16] (by kernel_rfl) (by simp) (NextJ.cons rfl (fun K hK => ?_) NextJ.nil)
          have c81 := kS8.cell 1 _ rfl
          have f81 := kS8.frozen 1
          have l81 := kS8.lt
          go_simp
          have hB9 := hB8.setCell (p := ⟨w.heap.size + 2, 1, none⟩) (by simp) (.slice A8 n8 c8)
          have hne : w.heap.size ≠ w.heap.size + 2 := by omega
          have kA9' := kA8.far (p := ⟨w.heap.size + 2, 1, none⟩) hne (.slice A8 n8 c8)
          obtain ⟨tb, t0, t1, t2⟩ := (hr.below' hB9 hH).triAt hq1
          have tg9 := (hB9.cell (p := ⟨gb, go + k, none⟩) hgw).trans g00
          have tg8 := (hB9.cell (p := ⟨rb, ro + j, none⟩) hrw).trans g10
          refine hK.out _ _ ⟨kA9'.cell 1 _ rfl, t0, t1, t2, tg9, tg8⟩ (fun h => absurd h (by decide)) ?_
          clear hK K
          try simp only [Act.put, List.getElem_toArray, List.getElem_cons_succ, List.getElem_cons_zero, List.setIfInBounds_toArray, List.set_cons_zero, List.set_cons_succ]
          refine wpAnyJ_done (by kernel_rfl) ?_ _
          clear hS1_8 c81 f81 l81 t0 t1 t2 tg0 tg1 tg9 tg8
          clear g00 g10
          go_wp2_with fail
          go_roundw
          case rel => exact ⟨j + 1, by omega, by go_num, .slice A8 n8 c8, by simpa using kS8.set_ 1 (.slice A8 n8 c8), kA9', kR8.far (by simp) _, by rw [HMX.out]; exact ownsRow_setCell_other hown8 (hown8.ne_block kS8 (by decide)).symm _, hB9⟩
          case measure => simp [intOf]; omega
        · have e1 : R[k].take j = R[k] := List.take_of_length_le (by omega)
          rw [e1, ← pickL_take l R k hlt] at hown hS hcv
          have g0r : wr.cell? ⟨gb, go + k, none⟩ = some (.slice Ak R[k].length ck) := (hB.cell (p := ⟨gb, _, none⟩) hgW0).trans G00.out
          have hgWr := lt_of_cell g0r
          have HJ : Hid (j = R[k].length) := Lib.hid (by omega)
          go_wp2_with fail
          go_roundw
          case rel => exact ⟨k + 1, by omega, by go_num, _, hS, hA, hR, hown, hB⟩
          case measure => simp [intOf]; omega
    · have e1 : R.take k = R := List.take_of_length_le (by omega)
      rw [e1] at hown
      obtain ⟨Av, cv, rfl, hcv, hrd⟩ := Own.rd tri_len hown
      generalize hMM : pickL l R = M at hown hcv hS
      have q0 := hR.frozen 0
      have q1 := hR.frozen 1
      have r0 := hR.cell 0 _ rfl
      have r1 := hR.cell 1 _ rfl
      have rl := hR.lt
      have s0 := hS.cell 0 _ rfl
      have s1 := hS.cell 1 _ rfl
      have hzr := hB.size
      go_wp2_with fail
      (try simp only [Exit.inBlock, Exit.then])
      refine sheet_ret1 rfl rfl (g := w.heap.size + 1) (x := .int .i64 p) (y := .slice Av M.length cv) (by simpa using (hR.set_ 0 (.int .i64 p)).set_ 1 (.slice Av M.length cv)) rfl ?_
      subst hMM
      exact ⟨Av, cv, rfl, Own.base (ownsRow_setCell_below (ownsRow_setCell_below hown (by simp) _) (by simp) _) (by omega), hcv, by (repeat' first | assumption | exact Below.refl _ _ | apply Below.drew | (refine Below.setCells ?_ _ _ ?_) | (refine Below.setCell ?_ ?_ _) | (refine Below.alloc ?_ ?_ _) | (simp; done) | (simp; omega))⟩
end Go.Proofs.YtoccplfnjammjaaGreatDoor
