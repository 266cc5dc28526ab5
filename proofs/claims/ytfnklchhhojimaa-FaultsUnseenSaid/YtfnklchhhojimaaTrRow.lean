/- traces.row. -/
import Derived.Test.YtfnklchhhojimaaOldB
set_option linter.unusedSimpArgs false
set_option linter.unusedVariables false
namespace Go.Proofs.Ytfnklchhhojimaa
open Go Go.RowKit Tor

theorem info_trows : (Try.prog.info? 138).map (fun i => (i.zero, i.size)) = some (some (.agg (Array.replicate 24 (.slice none 0 0))), 24) := by kernel_rfl


set_option maxRecDepth 100000 in
set_option maxHeartbeats 8000000 in
theorem trow_any (sb : Nat) (A : Option Addr) (l : List Tri) (c : Nat) (w : World) (H : Nat) (hr : RdT w H A l) (hH : H ≤ w.heap.size) (hsb : w.cell? ⟨sb, 1, none⟩ = some (.slice A l.length c))
    (hb : ∀ (k : Nat) (hk : k < l.length), 0 ≤ l[k].b ∧ l[k].b ≤ 22) (hl : l.length ≤ 400) :
    Calls Try.prog 78 #[.pointer (some ⟨sb, 0, none⟩)] w fun e w' => e = .returned (.pointer (some ⟨w.heap.size, 0, none⟩)) ∧ RowsAt w' w.heap.size w'.heap.size (rowsOf l []) ∧ Below w.heap.size w w' := by
  obtain ⟨Z, hZs, hz⟩ : ∃ Z : Array Value, Z = Array.replicate 24 (.slice none 0 0) ∧ ∀ w, (zeroValue 138).run Try.prog w = .ok (.agg Z) w := ⟨_, rfl, (zero_of_info info_trows).1⟩
  have HH := Lib.hid hb
  have sbl := lt_of_cell hsb
  clear hb
  go_enter Try.func78, Try.ntmps78
  have hsb1 : (w.alloc (.cells Z 138)).cell? ⟨sb, 1, none⟩ = some (.slice A l.length c) := cell_old hsb
  go_wp2_with fail
  go_loopw [13] (fun k wr => ∃ (m : Nat) (cs : Array Value), m ≤ l.length ∧ k = .int .i64 m ∧ cs.size = 24 ∧ Blk wr w.heap.size 138 cs ∧ Hid (FamV wr (w.heap.size + 1) (fun k => cs.getD k undef) (fill l m)) ∧ Below w.heap.size w wr) (fun k _ => l.length - (intOf k).toNat)
  case atStart =>
    refine ⟨0, Array.replicate 24 (.slice none 0 0), by omega, rfl, by simp, Blk.new w _ _, ⟨fun k hk => ?_, fun j k hj hk _ => Or.inl ?_⟩, by (repeat' first | exact Below.refl _ _ | apply Below.drew | (refine Below.setCells ?_ _ _ ?_) | (refine Below.setCell ?_ ?_ _) | (refine Below.alloc ?_ ?_ _) | (simp; done) | (simp; omega))⟩
    · have e : (Array.replicate 24 (Value.slice none 0 0)).getD k undef = .slice none 0 0 := by simp [Array.getD, hk]
      show Own 1 nenc _ _ _ ((Array.replicate 24 (Value.slice none 0 0)).getD k undef) _
      rw [e, fill_zero]; exact Own.nil _ _ _
    · have e : (Array.replicate 24 (Value.slice none 0 0)).getD j undef = .slice none 0 0 := by simp [Array.getD, hj]
      show ((Array.replicate 24 (Value.slice none 0 0)).getD j undef).ownBlock = none
      rw [e]; rfl
  case round =>
    obtain ⟨m, cs, hml, rfl, hcs, hbR, hfam, hB⟩ := hrel
    have hszw : w.heap.size + 1 ≤ wr.heap.size := by have := hbR.lt; omega
    by_cases hlt : m < l.length
    · have hrm : RdT wr H A l := hr.below' hB hH
      obtain ⟨b, o, rfl, hb0, h0, h1, h2⟩ := hrm.tri hlt
      have hbd := HH.out m hlt
      obtain ⟨t, ht⟩ : ∃ t : Nat, l[m].b = t := ⟨l[m].b.toNat, by omega⟩
      rw [ht] at h1 hbd
      have HT := Lib.hid ht
      clear ht
      have ht24 : t + 1 < 24 := by omega
      have j0 : (0 : Int) ≤ (t : Int) := by omega
      have j1 : (t : Int) < 24 := by omega
      have j2 : (0 : Int) ≤ (t : Int) + 1 := by omega
      have j3 : (t : Int) + 1 < 24 := by omega
      have e1 : IntKind.i64.wrap ((t : Int) + 1) = (t : Int) + 1 := IntWalk.i64_in _ (by omega)
      have e2 : ((t : Int) + 1).toNat = t + 1 := by omega
      go_wp2
      have hwb0 := Blk.new wr 54 #[.int .i64 l[m].a, .int .i64 t, .string l[m].s]
      have hbR0 := hbR.alloc (.cells #[.int .i64 l[m].a, .int .i64 t, .string l[m].s] 54)
      have hF := (hfam.out.alloc (.cells #[.int .i64 l[m].a, .int .i64 t, .string l[m].s] 54)).start t
      have hsz : (wr.alloc (.cells #[.int .i64 l[m].a, .int .i64 t, .string l[m].s] 54)).heap.size = wr.heap.size + 1 := by simp
      obtain ⟨A1, a1, hx1, _, _⟩ := Own.rd nenc_len (hF.own1 ht24)
      obtain ⟨A2, a2, hx2, _, _⟩ := Own.rd nenc_len (hF.own2 ht24)
      have y1 : cs[t]? = some (.slice A1 (fill l m t).length a1) := by rw [← hx1]; simp [Array.getD, hcs, show t < 24 by omega]
      have y2 : cs[t + 1]? = some (.slice A2 (fill l m (t + 1)).length a2) := by rw [← hx2]; simp [Array.getD, hcs, ht24]
      rw [hx1, hx2] at hF
      have hRW := hbR0.lt
      obtain ⟨i0, hi0, hz0', hz1', hz2'⟩ := info_parts infoInt
      have hBW : Below w.heap.size w (wr.alloc (.cells #[.int .i64 l[m].a, .int .i64 t, .string l[m].s] 54)) := hB.alloc (by omega) _
      generalize wr.alloc (.cells #[.int .i64 l[m].a, .int .i64 t, .string l[m].s] 54) = W0 at *
      have hl1 : ∀ g, W0.heap.size ≤ g → some g ≠ (Value.slice A1 (fill l m t).length a1).ownBlock := fun g hg e => by have := World.ownsRow.lt (hF.own1 ht24) g e.symm; omega
      have hl2 : ∀ g, W0.heap.size ≤ g → some g ≠ (Value.slice A2 (fill l m (t + 1)).length a2).ownBlock := fun g hg e => by have := World.ownsRow.lt (hF.own2 ht24) g e.symm; omega
      have hge1 : ∀ g, g < w.heap.size + 1 → some g ≠ (Value.slice A1 (fill l m t).length a1).ownBlock := fun g hg e => by have := (World.ownsRow.lt (hF.own1 ht24) g e.symm).1; omega
      have hge2 : ∀ g, g < w.heap.size + 1 → some g ≠ (Value.slice A2 (fill l m (t + 1)).length a2).ownBlock := fun g hg e => by have := (World.ownsRow.lt (hF.own2 ht24) g e.symm).1; omega
      have hn1 : (fill l m t).length ≤ 1000000 := by have := fill_len l m t; omega
      have hn2 : (fill l m (t + 1)).length ≤ 1000000 := by have := fill_len l m (t + 1); omega
      have hwbR : wr.heap.size ≠ w.heap.size := by omega
      have hbs : w.heap.size + 1 ≤ W0.heap.size := by omega
      have hRs2 : w.heap.size < wr.heap.size + 1 := by omega
      clear h0 h1 h2 hrm hsz
      refine wp_region_J (fun w' => w'.cell? ⟨wr.heap.size, 1, none⟩ = some (.int .i64 t)) (fun w' => w'.cell? ⟨w.heap.size, t, none⟩ = some (.slice A1 (fill l m t).length a1)) (fun i => i == 10 || i == 11) (by kernel_rfl) ?_
      have hK0 := (Kp.refl (w.heap.size + 1) w.heap.size W0).drew
      have hB0 := hbR0.drew
      have hF0 := hF.drew
      have hS1 := (hK0.2 _ _ _ (by decide) hwbR hwb0).cell 1 _ rfl
      have hS2 := hB0.cell (t) _ y1
      refine wpAnyJ_take1 0 rfl (by kernel_rfl) (by kernel_rfl) rfl (by kernel_rfl) (fun _ _ _ h => h) (by rfl) hS1 (fun w' hSw => (by obtain hSw := hSw; go_simp; try (with_reducible rfl))) ?_
      try simp only [Act.put, List.getElem_toArray, List.getElem_cons_succ, List.getElem_cons_zero, List.setIfInBounds_toArray, List.set_cons_zero, List.set_cons_succ]
      refine wpAnyJ_take1 1 rfl (by kernel_rfl) (by kernel_rfl) rfl (by kernel_rfl) (fun _ _ _ h => h) (by rfl) hS1 (fun w' hSw => (by obtain hSw := hSw; go_simp; try (with_reducible rfl))) ?_
      try simp only [Act.put, List.getElem_toArray, List.getElem_cons_succ, List.getElem_cons_zero, List.setIfInBounds_toArray, List.set_cons_zero, List.set_cons_succ]
      refine wpAnyJ_take1 2 rfl (by kernel_rfl) (by kernel_rfl) rfl (by kernel_rfl) (fun _ _ _ h => h) (by rfl) hS1 (fun w' hSw => (by obtain hSw := hSw; go_simp; try (with_reducible rfl))) ?_
      try simp only [Act.put, List.getElem_toArray, List.getElem_cons_succ, List.getElem_cons_zero, List.setIfInBounds_toArray, List.set_cons_zero, List.set_cons_succ]
      refine wpAnyJ_take1 3 rfl (by kernel_rfl) (by kernel_rfl) rfl (by kernel_rfl) (fun _ _ _ h => h) (by rfl) hS1 (fun w' hSw => (by obtain hSw := hSw; go_simp; try (with_reducible rfl))) ?_
      try simp only [Act.put, List.getElem_toArray, List.getElem_cons_succ, List.getElem_cons_zero, List.setIfInBounds_toArray, List.set_cons_zero, List.set_cons_succ]
      refine wpAnyJ_take1 4 rfl (by kernel_rfl) (by kernel_rfl) rfl (by kernel_rfl) (fun _ _ _ h => h) (by rfl) hS1 (fun w' hSw => (by obtain hSw := hSw; go_simp; try (with_reducible rfl))) ?_
      try simp only [Act.put, List.getElem_toArray, List.getElem_cons_succ, List.getElem_cons_zero, List.setIfInBounds_toArray, List.set_cons_zero, List.set_cons_succ]
      refine wpAnyJ_take1 5 rfl (by kernel_rfl) (by kernel_rfl) rfl (by kernel_rfl) (fun _ _ _ h => h) (by rfl) hS1 (fun w' hSw => (by obtain hSw := hSw; go_simp; try (with_reducible rfl))) ?_
      try simp only [Act.put, List.getElem_toArray, List.getElem_cons_succ, List.getElem_cons_zero, List.setIfInBounds_toArray, List.set_cons_zero, List.set_cons_succ]
      refine wpAnyJ_take1 6 rfl (by kernel_rfl) (by kernel_rfl) rfl (by kernel_rfl) (fun _ _ _ h => h) (by rfl) hS1 (fun w' hSw => (by obtain hSw := hSw; go_simp; try (with_reducible rfl))) ?_
      try simp only [Act.put, List.getElem_toArray, List.getElem_cons_succ, List.getElem_cons_zero, List.setIfInBounds_toArray, List.set_cons_zero, List.set_cons_succ]
      refine wpAnyJ_take1 7 rfl (by kernel_rfl) (by kernel_rfl) rfl (by kernel_rfl) (fun _ _ _ h => h) (by rfl) hS1 (fun w' hSw => (by obtain hSw := hSw; go_simp; try (with_reducible rfl))) ?_
      try simp only [Act.put, List.getElem_toArray, List.getElem_cons_succ, List.getElem_cons_zero, List.setIfInBounds_toArray, List.set_cons_zero, List.set_cons_succ]
      refine wpAnyJ_take1 9 rfl (by kernel_rfl) (by kernel_rfl) rfl (by kernel_rfl) (fun _ _ _ h => h) (by rfl) hS1 (fun w' hSw => (by obtain hSw := hSw; go_simp; try (with_reducible rfl))) ?_
      try simp only [Act.put, List.getElem_toArray, List.getElem_cons_succ, List.getElem_cons_zero, List.setIfInBounds_toArray, List.set_cons_zero, List.set_cons_succ]
      refine wpAnyJ_take1 12 rfl (by kernel_rfl) (by kernel_rfl) rfl (by kernel_rfl) (fun _ _ _ h => h) (by rfl) hS1 (fun w' hSw => (by obtain hSw := hSw; go_simp; try (with_reducible rfl))) ?_
      try simp only [Act.put, List.getElem_toArray, List.getElem_cons_succ, List.getElem_cons_zero, List.setIfInBounds_toArray, List.set_cons_zero, List.set_cons_succ]
      refine wpAnyJ_take2 8 rfl (by kernel_rfl) (by kernel_rfl) (by kernel_rfl) (by kernel_rfl) (fun _ _ _ h => h) (by rfl) hS1 hS2 (fun w' hSw => (by obtain ⟨c1, c2⟩ := hSw; go_simp; try (with_reducible rfl))) ?_
      try simp only [Act.put, List.getElem_toArray, List.getElem_cons_succ, List.getElem_cons_zero, List.setIfInBounds_toArray, List.set_cons_zero, List.set_cons_succ]
      refine wpAnyJ_ready [10] (by kernel_rfl) (by simp) (NextJ.cons rfl (fun K hK => ?_) NextJ.nil)
      go_simp
      have hK1 := hK0.alloc hbs (.cells #[.int .i64 m] 3)
      have hB1 := hB0.alloc (.cells #[.int .i64 m] 3)
      have hF1' := hF0.alloc (.cells #[.int .i64 m] 3)
      have hS1_1 := (hK1.2 _ _ _ (by decide) hwbR hwb0).cell 1 _ rfl
      refine hK.out _ _ hS1_1 (fun _ => hB1.cell (t) _ y1) ?_
      clear hK K
      try simp only [Act.put, List.getElem_toArray, List.getElem_cons_succ, List.getElem_cons_zero, List.setIfInBounds_toArray, List.set_cons_zero, List.set_cons_succ]
      refine wpAnyJ_ready [11] (by kernel_rfl) (by simp) (NextJ.cons rfl (fun K hK => ?_) NextJ.nil)
      refine step_append_n rfl _ _ _ rfl (w.heap.size + 1) _ i0 _ Try.underlying38 hi0 hz0' hz1' hz2' rfl (.slice A1 (fill l m t).length a1) (fill l m t) rfl (hF1'.own1 ht24) _ m rfl (cell_new (by first | rfl | (simp; done))) hn1 (Nat.le_trans hbs hK1.1.size) ?_
      intro va wa hpo ho hg hb
      obtain ⟨Ava, cva, hqva⟩ := Own.rdn ho
      subst hqva
      have hF2' := hF1'.app1 ht24 hg ho hb
      have hK2 := Kp.app hK1 hbs hpo hg
      have hB2 := Blk.grown hB1 hg (hge1 _ (by omega))
      clear hpo ho hg hb
      have hS1_2 := (hK2.2 _ _ _ (by decide) hwbR hwb0).cell 1 _ rfl
      refine hK.out _ _ hS1_2 (fun _ => hB2.cell (t) _ y1) ?_
      clear hK K
      try simp only [Act.put, List.getElem_toArray, List.getElem_cons_succ, List.getElem_cons_zero, List.setIfInBounds_toArray, List.set_cons_zero, List.set_cons_succ]
      refine wpAnyJ_take1 13 rfl (by kernel_rfl) (by kernel_rfl) rfl (by kernel_rfl) (fun _ _ _ h => h) (by rfl) hS1_2 (fun w' hSw => (by obtain hSw := hSw; go_simp; try (with_reducible rfl))) ?_
      try simp only [Act.put, List.getElem_toArray, List.getElem_cons_succ, List.getElem_cons_zero, List.setIfInBounds_toArray, List.set_cons_zero, List.set_cons_succ]
      refine wpAnyJ_ready [14] (by kernel_rfl) (by simp) (NextJ.cons rfl (fun K hK => ?_) NextJ.nil)
      have qx := hB2.cell (t) _ y1
      have zx := hB2.frozen (t)
      have lx := hB2.lt
      go_simp
      have hK3 := hK2.setR (t) (.slice Ava ((fill l m t).length + 1) cva)
      have hB3 := hB2.set_ (t) (.slice Ava ((fill l m t).length + 1) cva)
      have hF2 := Fam2.set_ hF2' (p := ⟨w.heap.size, t, none⟩) (by show w.heap.size < _; omega) (.slice Ava ((fill l m t).length + 1) cva)
      clear qx zx lx
      have hS1_3 := (hK3.2 _ _ _ (by decide) hwbR hwb0).cell 1 _ rfl
      refine hK.out _ _ hS1_3 (fun h => absurd h (by decide)) ?_
      clear hK K
      try simp only [Act.put, List.getElem_toArray, List.getElem_cons_succ, List.getElem_cons_zero, List.setIfInBounds_toArray, List.set_cons_zero, List.set_cons_succ]
      refine wpAnyJ_done (by kernel_rfl) ?_ _
      clear hS1 hS2 hS1_1 hS1_2 hS1_3
      have y2' : (cs.setIfInBounds t (.slice Ava ((fill l m t).length + 1) cva))[t + 1]? = some (.slice A2 (fill l m (t + 1)).length a2) := by rw [Array.getElem?_setIfInBounds_ne (by omega)]; exact y2
      go_wp2_with fail
      refine wp_region_J (fun w' => w'.cell? ⟨wr.heap.size, 1, none⟩ = some (.int .i64 t)) (fun w' => w'.cell? ⟨w.heap.size, t + 1, none⟩ = some (.slice A2 (fill l m (t + 1)).length a2)) (fun i => i == 12 || i == 13) (by kernel_rfl) ?_
      have hK4 := hK3.drew
      have hB4 := hB3.drew
      have hF3 := hF2.drew
      have hS1 := (hK4.2 _ _ _ (by decide) hwbR hwb0).cell 1 _ rfl
      have hS2 := hB4.cell (t + 1) _ y2'
      refine wpAnyJ_take1 0 rfl (by kernel_rfl) (by kernel_rfl) rfl (by kernel_rfl) (fun _ _ _ h => h) (by rfl) hS1 (fun w' hSw => (by obtain hSw := hSw; go_simp; try (with_reducible rfl))) ?_
      try simp only [Act.put, List.getElem_toArray, List.getElem_cons_succ, List.getElem_cons_zero, List.setIfInBounds_toArray, List.set_cons_zero, List.set_cons_succ]
      refine wpAnyJ_take1 1 rfl (by kernel_rfl) (by kernel_rfl) rfl (by kernel_rfl) (fun _ _ _ h => h) (by rfl) hS1 (fun w' hSw => (by obtain hSw := hSw; go_simp; try (with_reducible rfl))) ?_
      try simp only [Act.put, List.getElem_toArray, List.getElem_cons_succ, List.getElem_cons_zero, List.setIfInBounds_toArray, List.set_cons_zero, List.set_cons_succ]
      refine wpAnyJ_take1 2 rfl (by kernel_rfl) (by kernel_rfl) rfl (by kernel_rfl) (fun _ _ _ h => h) (by rfl) hS1 (fun w' hSw => (by obtain hSw := hSw; go_simp; try (with_reducible rfl))) ?_
      try simp only [Act.put, List.getElem_toArray, List.getElem_cons_succ, List.getElem_cons_zero, List.setIfInBounds_toArray, List.set_cons_zero, List.set_cons_succ]
      refine wpAnyJ_take1 3 rfl (by kernel_rfl) (by kernel_rfl) rfl (by kernel_rfl) (fun _ _ _ h => h) (by rfl) hS1 (fun w' hSw => (by obtain hSw := hSw; go_simp; try (with_reducible rfl))) ?_
      try simp only [Act.put, List.getElem_toArray, List.getElem_cons_succ, List.getElem_cons_zero, List.setIfInBounds_toArray, List.set_cons_zero, List.set_cons_succ]
      refine wpAnyJ_take1 4 rfl (by kernel_rfl) (by kernel_rfl) rfl (by kernel_rfl) (fun _ _ _ h => h) (by rfl) hS1 (fun w' hSw => (by obtain hSw := hSw; go_simp; try (with_reducible rfl))) ?_
      try simp only [Act.put, List.getElem_toArray, List.getElem_cons_succ, List.getElem_cons_zero, List.setIfInBounds_toArray, List.set_cons_zero, List.set_cons_succ]
      refine wpAnyJ_take1 5 rfl (by kernel_rfl) (by kernel_rfl) rfl (by kernel_rfl) (fun _ _ _ h => h) (by rfl) hS1 (fun w' hSw => (by obtain hSw := hSw; go_simp; try (with_reducible rfl))) ?_
      try simp only [Act.put, List.getElem_toArray, List.getElem_cons_succ, List.getElem_cons_zero, List.setIfInBounds_toArray, List.set_cons_zero, List.set_cons_succ]
      refine wpAnyJ_take1 6 rfl (by kernel_rfl) (by kernel_rfl) rfl (by kernel_rfl) (fun _ _ _ h => h) (by rfl) hS1 (fun w' hSw => (by obtain hSw := hSw; go_simp; try (with_reducible rfl))) ?_
      try simp only [Act.put, List.getElem_toArray, List.getElem_cons_succ, List.getElem_cons_zero, List.setIfInBounds_toArray, List.set_cons_zero, List.set_cons_succ]
      refine wpAnyJ_take1 7 rfl (by kernel_rfl) (by kernel_rfl) rfl (by kernel_rfl) (fun _ _ _ h => h) (by rfl) hS1 (fun w' hSw => (by obtain hSw := hSw; go_simp; try (with_reducible rfl))) ?_
      try simp only [Act.put, List.getElem_toArray, List.getElem_cons_succ, List.getElem_cons_zero, List.setIfInBounds_toArray, List.set_cons_zero, List.set_cons_succ]
      refine wpAnyJ_take1 8 rfl (by kernel_rfl) (by kernel_rfl) rfl (by kernel_rfl) (fun _ _ _ h => h) (by rfl) hS1 (fun w' hSw => (by obtain hSw := hSw; go_simp; try (with_reducible rfl))) ?_
      try simp only [Act.put, List.getElem_toArray, List.getElem_cons_succ, List.getElem_cons_zero, List.setIfInBounds_toArray, List.set_cons_zero, List.set_cons_succ]
      refine wpAnyJ_take1 9 rfl (by kernel_rfl) (by kernel_rfl) rfl (by kernel_rfl) (fun _ _ _ h => h) (by rfl) hS1 (fun w' hSw => (by obtain hSw := hSw; go_simp; try (with_reducible rfl))) ?_
      try simp only [Act.put, List.getElem_toArray, List.getElem_cons_succ, List.getElem_cons_zero, List.setIfInBounds_toArray, List.set_cons_zero, List.set_cons_succ]
      refine wpAnyJ_take1 11 rfl (by kernel_rfl) (by kernel_rfl) rfl (by kernel_rfl) (fun _ _ _ h => h) (by rfl) hS1 (fun w' hSw => (by obtain hSw := hSw; go_simp; try (with_reducible rfl))) ?_
      try simp only [Act.put, List.getElem_toArray, List.getElem_cons_succ, List.getElem_cons_zero, List.setIfInBounds_toArray, List.set_cons_zero, List.set_cons_succ]
      refine wpAnyJ_take1 14 rfl (by kernel_rfl) (by kernel_rfl) rfl (by kernel_rfl) (fun _ _ _ h => h) (by rfl) hS1 (fun w' hSw => (by obtain hSw := hSw; go_simp; try (with_reducible rfl))) ?_
      try simp only [Act.put, List.getElem_toArray, List.getElem_cons_succ, List.getElem_cons_zero, List.setIfInBounds_toArray, List.set_cons_zero, List.set_cons_succ]
      refine wpAnyJ_take2 10 rfl (by kernel_rfl) (by kernel_rfl) (by kernel_rfl) (by kernel_rfl) (fun _ _ _ h => h) (by rfl) hS1 hS2 (fun w' hSw => (by obtain ⟨c1, c2⟩ := hSw; go_simp; try (with_reducible rfl))) ?_
      try simp only [Act.put, List.getElem_toArray, List.getElem_cons_succ, List.getElem_cons_zero, List.setIfInBounds_toArray, List.set_cons_zero, List.set_cons_succ]
      refine wpAnyJ_ready [12] (by kernel_rfl) (by simp) (NextJ.cons rfl (fun K hK => ?_) NextJ.nil)
      go_simp
      have hK5 := hK4.alloc hbs (.cells #[.int .i64 m] 3)
      have hB5 := hB4.alloc (.cells #[.int .i64 m] 3)
      have hF5' := hF3.alloc (.cells #[.int .i64 m] 3)
      have hS1_5 := (hK5.2 _ _ _ (by decide) hwbR hwb0).cell 1 _ rfl
      refine hK.out _ _ hS1_5 (fun _ => hB5.cell (t + 1) _ y2') ?_
      clear hK K
      try simp only [Act.put, List.getElem_toArray, List.getElem_cons_succ, List.getElem_cons_zero, List.setIfInBounds_toArray, List.set_cons_zero, List.set_cons_succ]
      refine wpAnyJ_ready [13] (by kernel_rfl) (by simp) (NextJ.cons rfl (fun K hK => ?_) NextJ.nil)
      refine step_append_n rfl _ _ _ rfl (w.heap.size + 1) _ i0 _ Try.underlying38 hi0 hz0' hz1' hz2' rfl (.slice A2 (fill l m (t + 1)).length a2) (fill l m (t + 1)) rfl (hF5'.own2 ht24) _ m rfl (cell_new (by first | rfl | (simp; done))) hn2 (Nat.le_trans hbs hK5.1.size) ?_
      intro vb wb hpo ho hg hb
      obtain ⟨Avb, cvb, hqvb⟩ := Own.rdn ho
      subst hqvb
      have hF6' := hF5'.app2 ht24 hg ho hb
      have hK6 := Kp.app hK5 hbs hpo hg
      have hB6 := Blk.grown hB5 hg (hge2 _ (by omega))
      clear hpo ho hg hb
      have hS1_6 := (hK6.2 _ _ _ (by decide) hwbR hwb0).cell 1 _ rfl
      refine hK.out _ _ hS1_6 (fun _ => hB6.cell (t + 1) _ y2') ?_
      clear hK K
      try simp only [Act.put, List.getElem_toArray, List.getElem_cons_succ, List.getElem_cons_zero, List.setIfInBounds_toArray, List.set_cons_zero, List.set_cons_succ]
      refine wpAnyJ_take1 15 rfl (by kernel_rfl) (by kernel_rfl) rfl (by kernel_rfl) (fun _ _ _ h => h) (by rfl) hS1_6 (fun w' hSw => (by obtain hSw := hSw; go_simp; try (with_reducible rfl))) ?_
      try simp only [Act.put, List.getElem_toArray, List.getElem_cons_succ, List.getElem_cons_zero, List.setIfInBounds_toArray, List.set_cons_zero, List.set_cons_succ]
      refine wpAnyJ_ready [16] (by kernel_rfl) (by simp) (NextJ.cons rfl (fun K hK => ?_) NextJ.nil)
      have qx := hB6.cell (t + 1) _ y2'
      have zx := hB6.frozen (t + 1)
      have lx := hB6.lt
      go_simp
      have hK7 := hK6.setR (t + 1) (.slice Avb ((fill l m (t + 1)).length + 1) cvb)
      have hB7 := hB6.set_ (t + 1) (.slice Avb ((fill l m (t + 1)).length + 1) cvb)
      have hF9 := Fam2.set_ hF6' (p := ⟨w.heap.size, t + 1, none⟩) (by show w.heap.size < _; omega) (.slice Avb ((fill l m (t + 1)).length + 1) cvb)
      clear qx zx lx
      have hS1_7 := (hK7.2 _ _ _ (by decide) hwbR hwb0).cell 1 _ rfl
      refine hK.out _ _ hS1_7 (fun h => absurd h (by decide)) ?_
      clear hK K
      try simp only [Act.put, List.getElem_toArray, List.getElem_cons_succ, List.getElem_cons_zero, List.setIfInBounds_toArray, List.set_cons_zero, List.set_cons_succ]
      refine wpAnyJ_done (by kernel_rfl) ?_ _
      clear hS1 hS2 hS1_5 hS1_6 hS1_7
      have hB9 : Below w.heap.size w _ := hBW.trans (Same.below (hK7.1.mono (fun k hk => ⟨by omega, by omega⟩)))
      have HF6 := Lib.hid (fam_end hcs ht24 hlt HT.out hF9)
      go_wp2_with fail
      go_roundw
      case rel => exact ⟨m + 1, _, by omega, by go_num, by simp [hcs], hB7, HF6, hB9⟩
      case measure => simp [intOf]; omega
    · have e1 : m = l.length := by omega
      subst e1
      go_wp2_with fail
      go_ret
      exact ⟨rfl, by rw [← fill_all]; exact fam_rows hcs (by omega) hbR hfam.out, hB⟩
end Go.Proofs.Ytfnklchhhojimaa
