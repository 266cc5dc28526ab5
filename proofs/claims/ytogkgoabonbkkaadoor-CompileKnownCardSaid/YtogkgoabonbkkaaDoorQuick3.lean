/- compile.Quick. -/
import Derived.Test.YtogkgoabonbkkaaDoorRowsOf
import Derived.Test.YtogkgoabonbkkaaDoorOrd
import Derived.Deep.LoopGhost
set_option linter.unusedSimpArgs false
set_option linter.unusedVariables false
namespace Go.Proofs.YtogkgoabonbkkaaDoor
open Go Go.RowKit Tor

theorem wpList_append_n {P : Program} {ops : Array Oper} {rest : List Oper} {o : Oper} {a : Act} {Q : Exit → Act → World → Prop} {w : World} (hgd : o.guard = none) (s x : Operand) (t : TypeId)
    (ho : o.op = .call { callee := .builtin .append, args := #[s, x], argTypes := #[t, t] })
    (base : Nat) (e : TypeId) (i : TypeInfo) (z : Value) (ht : P.underlying t = some (.slice e)) (hi : P.info? e = some i) (hz : i.zero = some z)
    (hsize : i.size = 1) (hby : i.bytes = 8) (hzs : z.cells.size = 1)
    (v : Value) (l : List Nat) (hs : a.eval s = v) (hown : Own 1 nenc w base e v l)
    (g : Nat) (y : Nat) (hx : a.eval x = .slice (some ⟨g, 0, none⟩) 1 1)
    (h0 : w.cell? ⟨g, 0, none⟩ = some (.int .i64 y))
    (hlen : l.length ≤ 1000000) (hbase : base ≤ w.heap.size)
    (h : ∀ v' w', Own 1 nenc w' base e v' (l ++ [y]) → w.grownBy w' v.ownBlock → wpList P ops Q rest (a.put o.dst v') w') : wpList P ops Q (o :: rest) a w := by
  refine wpList_append_own w hgd s x t ho base e i z 1 8 ht hi hz hsize hby hzs (by omega) v l.length (l.flatMap nenc) hs hown ⟨g, 0, none⟩ 1 1 (nenc y) hx rfl ?_ ?_ (by unfold maxLen; omega) (by omega) hbase
    (fun v' w' a b _ => h v' w' (Own.append1 rfl a) b)
  · intro j u hu
    match j, hu with
    | 0, hu => simp [nenc] at hu; subst hu; simpa [Addr.add] using h0
  · intro u hu
    simp [nenc] at hu; subst hu; rfl

theorem keepS {base R rb wb : Nat} {w0 w' : World} {tr tw : TypeId} {v u0 u1 u2 : Value} (hr : Blk w0 rb tr #[v]) (hw : Blk w0 wb tw #[u0, u1, u2]) (h1 : tr ≠ 3) (h2 : tw ≠ 3) (h3 : rb ≠ R) (h4 : wb ≠ R) (hk : Kp base R w0 w') :
    w'.cell? ⟨rb, 0, none⟩ = some v ∧ w'.cell? ⟨wb, 1, none⟩ = some u1 := ⟨(hk.2 _ _ _ h1 h3 hr).cell 0 v rfl, (hk.2 _ _ _ h2 h4 hw).cell 1 u1 rfl⟩

theorem cell_new {w : World} {v : Value} {t : TypeId} {n : Nat} (h : n = w.heap.size) : (w.alloc (.cells #[v] t)).cell? ⟨n, 0, none⟩ = some v := by subst h; exact (Blk.new w t #[v]).cell 0 v rfl
theorem cell_old {w : World} {o : Obj} {p : Addr} {v : Value} (h : w.cell? p = some v) : (w.alloc o).cell? p = some v := by
  rw [World.cell?_alloc_lt _ _ _ (World.block_lt_of_cell? w _ h)]; exact h
theorem cell_drew {w : World} {p : Addr} {v : Value} (h : w.cell? p = some v) : w.drew.cell? p = some v := h



set_option maxRecDepth 100000 in
set_option maxHeartbeats 4000000 in
theorem quick_any (P S : Nat) (A : Option Addr) (l : List Tri) (c : Nat) (w : World) (H : Nat) (hr : RdT w H A l) (hH : H ≤ w.heap.size)
    (hw : ∀ (k : Nat) (hk : k < l.length), l[k].s.size ≤ 9223372036854775807) (hchk : chkE P l S = 0)
    (hb : ∀ (k : Nat) (hk : k < l.length), 0 ≤ l[k].b ∧ l[k].b ≤ (P : Int) - 2) (hl : l.length ≤ 400) (b1 : 2 ≤ S) (b2 : S ≤ P) (b3 : P ≤ 24) :
    Calls Tryd.prog 4 #[.agg #[.int .i64 P, .slice A l.length c], .int .i64 S] w fun e w' => ∃ v, e = .returned (.tuple #[v, .int .i64 0]) ∧ Own 3 Tri.enc w' w.heap.size 33 v (qloop l P S 2000 l.length []) ∧ Below w.heap.size w w' := by
  obtain ⟨Z, hZs, hz⟩ : ∃ Z : Array Value, Z = Array.replicate 24 (.slice none 0 0) ∧ ∀ w, (zeroValue 44).run Tryd.prog w = .ok (.agg Z) w := ⟨_, rfl, (zero_of_info info_rows).1⟩
  have HC := Lib.hid hchk
  have HH := Lib.hid hb
  have b1' : (2 : Int) ≤ S := by omega
  have b2' : (S : Int) ≤ P := by omega
  have b3' : (P : Int) ≤ 24 := by omega
  clear hchk hb
  go_enter Tryd.func4, Tryd.ntmps4
  go_wp2_with (first
    | (go_at_call 12; refine (ccheck_any P A l c S w.heap.size 0 _ H (hr.below' (B' := w.heap.size) (by (repeat' first | exact Below.refl _ _ | apply Below.drew | (refine Below.setCells ?_ _ _ ?_) | (refine Below.setCell ?_ ?_ _) | (refine Below.alloc ?_ ?_ _) | (simp; done) | (simp; omega))) hH) (by simp; omega) (by simp) (by simp) hw (by omega)).mono ?_; rintro e w1 ⟨rfl, hB1⟩; rw [HC.out]
       have kS := (((Blk.new w 28 #[.int .i64 P, .slice A l.length c]).alloc (.cells #[.int .i64 S] 3))).below' hB1
       have kP := (Blk.new (w.alloc (.cells #[.int .i64 P, .slice A l.length c] 28)) 3 #[.int .i64 S]).below' hB1
       rw [World.size_alloc] at kP
       have c0 := kS.cell 0 (.int .i64 P) rfl
       have c1 := kS.cell 1 (.slice A l.length c) rfl
       have c2 := kP.cell 0 (.int .i64 S) rfl
       have n0 := kP.lt
       have n1 : w.heap.size < w1.heap.size := by omega))
  have hBw : Below w.heap.size w w1 := Below.trans (b := (w.alloc (.cells #[.int .i64 P, .slice A l.length c] 28)).alloc (.cells #[.int .i64 S] 3)) (by (repeat' first | exact Below.refl _ _ | apply Below.drew | (refine Below.setCells ?_ _ _ ?_) | (refine Below.setCell ?_ ?_ _) | (refine Below.alloc ?_ ?_ _) | (simp; done) | (simp; omega))) (hB1.mono (by simp; omega))
  go_loopw [25] (fun k wr => ∃ (m : Nat) (cs : Array Value), m ≤ l.length ∧ k = .int .i64 m ∧ cs.size = 24 ∧ Blk wr w1.heap.size 44 cs ∧ Hid (FamV wr (w1.heap.size + 2) (fun k => cs.getD k undef) (fill l m)) ∧ Blk wr (w1.heap.size + 1) 42 #[.pointer (some ⟨w1.heap.size, 0, none⟩)] ∧ Below w1.heap.size w1 wr) (fun k _ => l.length - (intOf k).toNat)
  case atStart =>
    refine ⟨0, Array.replicate 24 (.slice none 0 0), by omega, rfl, by simp, (Blk.new w1 _ _).alloc _, ⟨fun k hk => ?_, fun j k hj hk _ => Or.inl ?_⟩, ?_, by (repeat' first | exact Below.refl _ _ | apply Below.drew | (refine Below.setCells ?_ _ _ ?_) | (refine Below.setCell ?_ ?_ _) | (refine Below.alloc ?_ ?_ _) | (simp; done) | (simp; omega))⟩
    · have e : (Array.replicate 24 (Value.slice none 0 0)).getD k undef = .slice none 0 0 := by simp [Array.getD, hk]
      show Own 1 nenc _ _ _ ((Array.replicate 24 (Value.slice none 0 0)).getD k undef) _
      rw [e, fill_zero]; exact Own.nil _ _ _
    · have e : (Array.replicate 24 (Value.slice none 0 0)).getD j undef = .slice none 0 0 := by simp [Array.getD, hj]
      show ((Array.replicate 24 (Value.slice none 0 0)).getD j undef).ownBlock = none
      rw [e]; rfl
    · have := Blk.new (w1.alloc (.cells (Array.replicate 24 (.slice none 0 0)) 44)) 42 #[.pointer (some ⟨w1.heap.size, 0, none⟩)]
      rw [World.size_alloc] at this; exact this
  case round =>
    obtain ⟨m, cs, hml, rfl, hcs, hbR, hfam, hbr, hB⟩ := hrel
    have c1 := (kS.below hB n1).cell 1 (.slice A l.length c) rfl
    have c0 := (kS.below hB n1).cell 0 (.int .i64 P) rfl
    have c2 := (kP.below hB n0).cell 0 (.int .i64 S) rfl
    have hszw : w1.heap.size + 2 ≤ wr.heap.size := by have := hbr.lt; omega
    by_cases hlt : m < l.length
    · have hrm : RdT wr H A l := (hr.below' (B' := w.heap.size) (by (repeat' first | exact Below.refl _ _ | apply Below.drew | (refine Below.setCells ?_ _ _ ?_) | (refine Below.setCell ?_ ?_ _) | (refine Below.alloc ?_ ?_ _) | (simp; done) | (simp; omega))) hH).below' ((Below.mono hB1 (by simp; omega)).trans (hB.mono (by omega))) hH
      obtain ⟨b, o, rfl, hb0, h0, h1, h2⟩ := hrm.tri hlt
      have hbd := HH.out m hlt
      obtain ⟨t, ht⟩ : ∃ t : Nat, l[m].b = t := ⟨l[m].b.toNat, by omega⟩
      rw [ht] at h1 hbd
      have HT := Lib.hid ht
      clear ht
      have r0 := hbr.cell 0 _ rfl
      go_wp2
      have ht24 : t + 1 < 24 := by omega
      have hwb0 := Blk.new wr 46 #[.int .i64 l[m].a, .int .i64 t, .string l[m].s]
      have hbR0 := hbR.alloc (.cells #[.int .i64 l[m].a, .int .i64 t, .string l[m].s] 46)
      have hbr0 := hbr.alloc (.cells #[.int .i64 l[m].a, .int .i64 t, .string l[m].s] 46)
      have hF0 := (hfam.out.alloc (.cells #[.int .i64 l[m].a, .int .i64 t, .string l[m].s] 46)).start t
      have hsz : (wr.alloc (.cells #[.int .i64 l[m].a, .int .i64 t, .string l[m].s] 46)).heap.size = wr.heap.size + 1 := by simp
      obtain ⟨A1, a1, hx1, _, _⟩ := Own.rd nenc_len (hF0.own1 ht24)
      obtain ⟨A2, a2, hx2, _, _⟩ := Own.rd nenc_len (hF0.own2 ht24)
      have y1 : cs[t]? = some (.slice A1 (fill l m t).length a1) := by rw [← hx1]; simp [Array.getD, hcs, show t < 24 by omega]
      have y2 : cs[t + 1]? = some (.slice A2 (fill l m (t + 1)).length a2) := by rw [← hx2]; simp [Array.getD, hcs, ht24]
      rw [hx1, hx2] at hF0
      have q1 := hbR0.cell t _ y1
      have q2 := hbR0.cell (t + 1) _ y2
      have z1 := hbR0.frozen t
      have z2 := hbR0.frozen (t + 1)
      have hRW := hbR0.lt
      obtain ⟨i0, hi0, hz0', hz1', hz2'⟩ := info_parts infoInt
      have hBW : Below w1.heap.size w1 (wr.alloc (.cells #[.int .i64 l[m].a, .int .i64 t, .string l[m].s] 46)) := hB.alloc (by omega) _
      generalize wr.alloc (.cells #[.int .i64 l[m].a, .int .i64 t, .string l[m].s] 46) = W0 at *
      have hl1 : ∀ g, W0.heap.size ≤ g → some g ≠ (Value.slice A1 (fill l m t).length a1).ownBlock := fun g hg e => by have := World.ownsRow.lt (hF0.own1 ht24) g e.symm; omega
      have hl2 : ∀ g, W0.heap.size ≤ g → some g ≠ (Value.slice A2 (fill l m (t + 1)).length a2).ownBlock := fun g hg e => by have := World.ownsRow.lt (hF0.own2 ht24) g e.symm; omega
      have hge1 : ∀ g, g < w1.heap.size + 2 → some g ≠ (Value.slice A1 (fill l m t).length a1).ownBlock := fun g hg e => by have := (World.ownsRow.lt (hF0.own1 ht24) g e.symm).1; omega
      have hge2 : ∀ g, g < w1.heap.size + 2 → some g ≠ (Value.slice A2 (fill l m (t + 1)).length a2).ownBlock := fun g hg e => by have := (World.ownsRow.lt (hF0.own2 ht24) g e.symm).1; omega
      have hn1 : (fill l m t).length ≤ 1000000 := by have := fill_len l m t; omega
      have hn2 : (fill l m (t + 1)).length ≤ 1000000 := by have := fill_len l m (t + 1); omega
      have hRs1 : w1.heap.size < wr.heap.size + 1 := by omega
      have hRs2 : w1.heap.size < wr.heap.size + 1 + 1 := by omega
      have hRs3 : w1.heap.size < wr.heap.size + 2 := by omega
      have j0 : (0 : Int) ≤ (t : Int) := by omega
      have j1 : (t : Int) < 24 := by omega
      have j2 : (0 : Int) ≤ (t : Int) + 1 := by omega
      have j3 : (t : Int) + 1 < 24 := by omega
      have e1 : IntKind.i64.wrap ((t : Int) + 1) = (t : Int) + 1 := IntWalk.i64_in _ (by omega)
      have e2 : ((t : Int) + 1).toNat = t + 1 := by omega
      have hrbR : w1.heap.size + 1 ≠ w1.heap.size := by omega
      have hwbR : wr.heap.size ≠ w1.heap.size := by omega
      have hbs : w1.heap.size + 2 ≤ W0.heap.size := by omega
      clear hsz h0 h1 h2 hrm
      refine wp_region_J (fun w' => w'.cell? ⟨w1.heap.size + 1, 0, none⟩ = some (.pointer (some ⟨w1.heap.size, 0, none⟩)) ∧ w'.cell? ⟨wr.heap.size, 1, none⟩ = some (.int .i64 t)) (fun w' => w'.cell? ⟨w1.heap.size, t, none⟩ = some (.slice A1 (fill l m t).length a1) ∧ w'.cell? ⟨w1.heap.size, t + 1, none⟩ = some (.slice A2 (fill l m (t + 1)).length a2)) (fun i => i == 14 || i == 15 || i == 22 || i == 24 || i == 25) (by kernel_rfl) ?_
      have hK0 := (Kp.refl (w1.heap.size + 2) w1.heap.size W0).drew
      have hB0 := hbR0.drew
      have hF0' := hF0.drew
      clear hF0; have hF0 := hF0'; clear hF0'
      have hS1 := keepS hbr0 hwb0 (by decide) (by decide) hrbR hwbR hK0
      have hS2 : W0.drew.cell? ⟨w1.heap.size, t, none⟩ = some (.slice A1 (fill l m t).length a1) ∧ W0.drew.cell? ⟨w1.heap.size, t + 1, none⟩ = some (.slice A2 (fill l m (t + 1)).length a2) := ⟨hB0.cell t _ y1, hB0.cell (t + 1) _ y2⟩
      refine wpAnyJ_take1 0 rfl (by kernel_rfl) (by kernel_rfl) rfl (by kernel_rfl) (fun _ _ _ h => h) (by rfl) hS1 (fun w' hSw => (by obtain ⟨c1, c2⟩ := hSw; go_simp; try (with_reducible rfl))) ?_
      try simp only [Act.put, List.setIfInBounds_toArray, List.set_cons_zero, List.set_cons_succ]
      refine wpAnyJ_take1 1 rfl (by kernel_rfl) (by kernel_rfl) rfl (by kernel_rfl) (fun _ _ _ h => h) (by rfl) hS1 (fun w' hSw => (by obtain ⟨c1, c2⟩ := hSw; go_simp; try (with_reducible rfl))) ?_
      try simp only [Act.put, List.setIfInBounds_toArray, List.set_cons_zero, List.set_cons_succ]
      refine wpAnyJ_take1 2 rfl (by kernel_rfl) (by kernel_rfl) rfl (by kernel_rfl) (fun _ _ _ h => h) (by rfl) hS1 (fun w' hSw => (by obtain ⟨c1, c2⟩ := hSw; go_simp; try (with_reducible rfl))) ?_
      try simp only [Act.put, List.setIfInBounds_toArray, List.set_cons_zero, List.set_cons_succ]
      refine wpAnyJ_take1 3 rfl (by kernel_rfl) (by kernel_rfl) rfl (by kernel_rfl) (fun _ _ _ h => h) (by rfl) hS1 (fun w' hSw => (by obtain ⟨c1, c2⟩ := hSw; go_simp; try (with_reducible rfl))) ?_
      try simp only [Act.put, List.setIfInBounds_toArray, List.set_cons_zero, List.set_cons_succ]
      refine wpAnyJ_take1 4 rfl (by kernel_rfl) (by kernel_rfl) rfl (by kernel_rfl) (fun _ _ _ h => h) (by rfl) hS1 (fun w' hSw => (by obtain ⟨c1, c2⟩ := hSw; go_simp; try (with_reducible rfl))) ?_
      try simp only [Act.put, List.setIfInBounds_toArray, List.set_cons_zero, List.set_cons_succ]
      refine wpAnyJ_take1 5 rfl (by kernel_rfl) (by kernel_rfl) rfl (by kernel_rfl) (fun _ _ _ h => h) (by rfl) hS1 (fun w' hSw => (by obtain ⟨c1, c2⟩ := hSw; go_simp; try (with_reducible rfl))) ?_
      try simp only [Act.put, List.setIfInBounds_toArray, List.set_cons_zero, List.set_cons_succ]
      refine wpAnyJ_take1 6 rfl (by kernel_rfl) (by kernel_rfl) rfl (by kernel_rfl) (fun _ _ _ h => h) (by rfl) hS1 (fun w' hSw => (by obtain ⟨c1, c2⟩ := hSw; go_simp; try (with_reducible rfl))) ?_
      try simp only [Act.put, List.setIfInBounds_toArray, List.set_cons_zero, List.set_cons_succ]
      refine wpAnyJ_take1 7 rfl (by kernel_rfl) (by kernel_rfl) rfl (by kernel_rfl) (fun _ _ _ h => h) (by rfl) hS1 (fun w' hSw => (by obtain ⟨c1, c2⟩ := hSw; go_simp; try (with_reducible rfl))) ?_
      try simp only [Act.put, List.setIfInBounds_toArray, List.set_cons_zero, List.set_cons_succ]
      refine wpAnyJ_take1 8 rfl (by kernel_rfl) (by kernel_rfl) rfl (by kernel_rfl) (fun _ _ _ h => h) (by rfl) hS1 (fun w' hSw => (by obtain ⟨c1, c2⟩ := hSw; go_simp; try (with_reducible rfl))) ?_
      try simp only [Act.put, List.setIfInBounds_toArray, List.set_cons_zero, List.set_cons_succ]
      refine wpAnyJ_take1 9 rfl (by kernel_rfl) (by kernel_rfl) rfl (by kernel_rfl) (fun _ _ _ h => h) (by rfl) hS1 (fun w' hSw => (by obtain ⟨c1, c2⟩ := hSw; go_simp; try (with_reducible rfl))) ?_
      try simp only [Act.put, List.setIfInBounds_toArray, List.set_cons_zero, List.set_cons_succ]
      refine wpAnyJ_take1 10 rfl (by kernel_rfl) (by kernel_rfl) rfl (by kernel_rfl) (fun _ _ _ h => h) (by rfl) hS1 (fun w' hSw => (by obtain ⟨c1, c2⟩ := hSw; go_simp; try (with_reducible rfl))) ?_
      try simp only [Act.put, List.setIfInBounds_toArray, List.set_cons_zero, List.set_cons_succ]
      refine wpAnyJ_take1 11 rfl (by kernel_rfl) (by kernel_rfl) rfl (by kernel_rfl) (fun _ _ _ h => h) (by rfl) hS1 (fun w' hSw => (by obtain ⟨c1, c2⟩ := hSw; go_simp; try (with_reducible rfl))) ?_
      try simp only [Act.put, List.setIfInBounds_toArray, List.set_cons_zero, List.set_cons_succ]
      refine wpAnyJ_take1 13 rfl (by kernel_rfl) (by kernel_rfl) rfl (by kernel_rfl) (fun _ _ _ h => h) (by rfl) hS1 (fun w' hSw => (by obtain ⟨c1, c2⟩ := hSw; go_simp; try (with_reducible rfl))) ?_
      try simp only [Act.put, List.setIfInBounds_toArray, List.set_cons_zero, List.set_cons_succ]
      refine wpAnyJ_take1 16 rfl (by kernel_rfl) (by kernel_rfl) rfl (by kernel_rfl) (fun _ _ _ h => h) (by rfl) hS1 (fun w' hSw => (by obtain ⟨c1, c2⟩ := hSw; go_simp; try (with_reducible rfl))) ?_
      try simp only [Act.put, List.setIfInBounds_toArray, List.set_cons_zero, List.set_cons_succ]
      refine wpAnyJ_take1 17 rfl (by kernel_rfl) (by kernel_rfl) rfl (by kernel_rfl) (fun _ _ _ h => h) (by rfl) hS1 (fun w' hSw => (by obtain ⟨c1, c2⟩ := hSw; go_simp; try (with_reducible rfl))) ?_
      try simp only [Act.put, List.setIfInBounds_toArray, List.set_cons_zero, List.set_cons_succ]
      refine wpAnyJ_take1 18 rfl (by kernel_rfl) (by kernel_rfl) rfl (by kernel_rfl) (fun _ _ _ h => h) (by rfl) hS1 (fun w' hSw => (by obtain ⟨c1, c2⟩ := hSw; go_simp; try (with_reducible rfl))) ?_
      try simp only [Act.put, List.setIfInBounds_toArray, List.set_cons_zero, List.set_cons_succ]
      refine wpAnyJ_take1 19 rfl (by kernel_rfl) (by kernel_rfl) rfl (by kernel_rfl) (fun _ _ _ h => h) (by rfl) hS1 (fun w' hSw => (by obtain ⟨c1, c2⟩ := hSw; go_simp; try (with_reducible rfl))) ?_
      try simp only [Act.put, List.setIfInBounds_toArray, List.set_cons_zero, List.set_cons_succ]
      refine wpAnyJ_take1 20 rfl (by kernel_rfl) (by kernel_rfl) rfl (by kernel_rfl) (fun _ _ _ h => h) (by rfl) hS1 (fun w' hSw => (by obtain ⟨c1, c2⟩ := hSw; go_simp; try (with_reducible rfl))) ?_
      try simp only [Act.put, List.setIfInBounds_toArray, List.set_cons_zero, List.set_cons_succ]
      refine wpAnyJ_take1 21 rfl (by kernel_rfl) (by kernel_rfl) rfl (by kernel_rfl) (fun _ _ _ h => h) (by rfl) hS1 (fun w' hSw => (by obtain ⟨c1, c2⟩ := hSw; go_simp; try (with_reducible rfl))) ?_
      try simp only [Act.put, List.setIfInBounds_toArray, List.set_cons_zero, List.set_cons_succ]
      refine wpAnyJ_take1 23 rfl (by kernel_rfl) (by kernel_rfl) rfl (by kernel_rfl) (fun _ _ _ h => h) (by rfl) hS1 (fun w' hSw => (by obtain ⟨c1, c2⟩ := hSw; go_simp; try (with_reducible rfl))) ?_
      try simp only [Act.put, List.setIfInBounds_toArray, List.set_cons_zero, List.set_cons_succ]
      refine wpAnyJ_take1 26 rfl (by kernel_rfl) (by kernel_rfl) rfl (by kernel_rfl) (fun _ _ _ h => h) (by rfl) hS1 (fun w' hSw => (by obtain ⟨c1, c2⟩ := hSw; go_simp; try (with_reducible rfl))) ?_
      try simp only [Act.put, List.setIfInBounds_toArray, List.set_cons_zero, List.set_cons_succ]
      refine wpAnyJ_take1 29 rfl (by kernel_rfl) (by kernel_rfl) rfl (by kernel_rfl) (fun _ _ _ h => h) (by rfl) hS1 (fun w' hSw => (by obtain ⟨c1, c2⟩ := hSw; go_simp; try (with_reducible rfl))) ?_
      try simp only [Act.put, List.setIfInBounds_toArray, List.set_cons_zero, List.set_cons_succ]
      refine wpAnyJ_take2 12 rfl (by kernel_rfl) (by kernel_rfl) (by kernel_rfl) (by kernel_rfl) (fun _ _ _ h => h) (by rfl) hS1 hS2 (fun w' hSw => (by obtain ⟨⟨c1, c2⟩, ⟨c3, c4⟩⟩ := hSw; go_simp; try (with_reducible rfl))) ?_
      try simp only [Act.put, List.setIfInBounds_toArray, List.set_cons_zero, List.set_cons_succ]
      refine wpAnyJ_take2 22 rfl (by kernel_rfl) (by kernel_rfl) (by kernel_rfl) (by kernel_rfl) (fun _ _ _ h => h) (by rfl) hS1 hS2 (fun w' hSw => (by obtain ⟨⟨c1, c2⟩, ⟨c3, c4⟩⟩ := hSw; go_simp; try (with_reducible rfl))) ?_
      try simp only [Act.put, List.setIfInBounds_toArray, List.set_cons_zero, List.set_cons_succ]
      refine wpAnyJ_ready [14, 24] (by kernel_rfl) (by simp) (NextJ.cons rfl (fun K hK => ?_) (NextJ.cons rfl (fun K hK => ?_) NextJ.nil))
      case' _ =>
        go_simp
        have hK1 := hK0.alloc hbs (.cells #[.int .i64 m] 3)
        have hB1 := hB0.alloc (.cells #[.int .i64 m] 3)
        have hF1 := hF0.alloc (.cells #[.int .i64 m] 3)
        have hS1_1 := keepS hbr0 hwb0 (by decide) (by decide) hrbR hwbR hK1
        refine hK.out _ _ hS1_1 (fun _ => ⟨hB1.cell t _ y1, hB1.cell (t + 1) _ y2⟩) ?_
        clear hK K
        try simp only [Act.put, List.setIfInBounds_toArray, List.set_cons_zero, List.set_cons_succ]
        refine wpAnyJ_ready [15, 24] (by kernel_rfl) (by simp) (NextJ.cons rfl (fun K hK => ?_) (NextJ.cons rfl (fun K hK => ?_) NextJ.nil))
        case' _ =>
          refine step_append_n rfl _ _ _ rfl (w1.heap.size + 2) _ i0 _ Tryd.underlying37 hi0 hz0' hz1' hz2' rfl (.slice A1 (fill l m t).length a1) (fill l m t) rfl (hF1.own1 ht24) _ m rfl (cell_new rfl) hn1 (Nat.le_trans hbs hK1.1.size) ?_
          intro va wa hpo ho hg hb
          obtain ⟨Ava, cva, hqva⟩ := Own.rdn ho
          subst hqva
          have hF2 := hF1.app1 ht24 hg ho hb
          have hK2 := Kp.app hK1 hbs hpo hg
          have hB2 := Blk.grown hB1 hg (hge1 _ (by omega))
          clear hpo ho hg hb
          have hS1_2 := keepS hbr0 hwb0 (by decide) (by decide) hrbR hwbR hK2
          refine hK.out _ _ hS1_2 (fun _ => ⟨hB2.cell t _ y1, hB2.cell (t + 1) _ y2⟩) ?_
          clear hK K
          try simp only [Act.put, List.setIfInBounds_toArray, List.set_cons_zero, List.set_cons_succ]
          refine wpAnyJ_ready [24] (by kernel_rfl) (by simp) (NextJ.cons rfl (fun K hK => ?_) NextJ.nil)
          go_simp
          have hK3 := hK2.alloc hbs (.cells #[.int .i64 m] 3)
          have hB3 := hB2.alloc (.cells #[.int .i64 m] 3)
          have hF3 := hF2.alloc (.cells #[.int .i64 m] 3)
          have hS1_3 := keepS hbr0 hwb0 (by decide) (by decide) hrbR hwbR hK3
          refine hK.out _ _ hS1_3 (fun _ => ⟨hB3.cell t _ y1, hB3.cell (t + 1) _ y2⟩) ?_
          clear hK K
          try simp only [Act.put, List.setIfInBounds_toArray, List.set_cons_zero, List.set_cons_succ]
          have hc2 : (wa.alloc (.cells #[.int .i64 m] 3)).cell? ⟨wa.heap.size, 0, none⟩ = some (.int .i64 m) := cell_new rfl
          refine wpAnyJ_ready [25] (by kernel_rfl) (by simp) (NextJ.cons rfl (fun K hK => ?_) NextJ.nil)
          refine step_append_n rfl _ _ _ rfl (w1.heap.size + 2) _ i0 _ Tryd.underlying37 hi0 hz0' hz1' hz2' rfl (.slice A2 (fill l m (t + 1)).length a2) (fill l m (t + 1)) rfl (hF3.own2 ht24) _ m rfl hc2 hn2 (Nat.le_trans hbs hK3.1.size) ?_
          intro vb wb hpo ho hg hb
          obtain ⟨Avb, cvb, hqvb⟩ := Own.rdn ho
          subst hqvb
          have hF4 := hF3.app2 ht24 hg ho hb
          have hK4 := Kp.app hK3 hbs hpo hg
          have hB4 := Blk.grown hB3 hg (hge2 _ (by omega))
          clear hpo ho hg hb
          have hS1_4 := keepS hbr0 hwb0 (by decide) (by decide) hrbR hwbR hK4
          refine hK.out _ _ hS1_4 (fun _ => ⟨hB4.cell t _ y1, hB4.cell (t + 1) _ y2⟩) ?_
          clear hK K
          try simp only [Act.put, List.setIfInBounds_toArray, List.set_cons_zero, List.set_cons_succ]
          refine wpAnyJ_take1 27 rfl (by kernel_rfl) (by kernel_rfl) rfl (by kernel_rfl) (fun _ _ _ h => h) (by rfl) hS1_4 (fun w' hSw => (by obtain ⟨c1, c2⟩ := hSw; go_simp; try (with_reducible rfl))) ?_
          try simp only [Act.put, List.setIfInBounds_toArray, List.set_cons_zero, List.set_cons_succ]
          refine wpAnyJ_ready [28] (by kernel_rfl) (by simp) (NextJ.cons rfl (fun K hK => ?_) NextJ.nil)
          have qx := hB4.cell t _ y1
          have zx := hB4.frozen t
          have lx := hB4.lt
          go_simp
          have hK5 := hK4.setR t (.slice Ava ((fill l m t).length + 1) cva)
          have hB5 := hB4.set_ t (.slice Ava ((fill l m t).length + 1) cva)
          clear qx zx
          have hS1_5 := keepS hbr0 hwb0 (by decide) (by decide) hrbR hwbR hK5
          refine hK.out _ _ hS1_5 (fun h => absurd h (by decide)) ?_
          clear hK K
          try simp only [Act.put, List.setIfInBounds_toArray, List.set_cons_zero, List.set_cons_succ]
          refine wpAnyJ_take1 30 rfl (by kernel_rfl) (by kernel_rfl) rfl (by kernel_rfl) (fun _ _ _ h => h) (by rfl) hS1_5 (fun w' hSw => (by obtain ⟨c1, c2⟩ := hSw; go_simp; try (with_reducible rfl))) ?_
          try simp only [Act.put, List.setIfInBounds_toArray, List.set_cons_zero, List.set_cons_succ]
          refine wpAnyJ_ready [31] (by kernel_rfl) (by simp) (NextJ.cons rfl (fun K hK => ?_) NextJ.nil)
          have qx := hB5.cell (t + 1) _ (by rw [Array.getElem?_setIfInBounds_ne (by omega)]; exact y2)
          have zx := hB5.frozen (t + 1)
          go_simp
          have hK6 := hK5.setR (t + 1) (.slice Avb ((fill l m (t + 1)).length + 1) cvb)
          have hB6 := hB5.set_ (t + 1) (.slice Avb ((fill l m (t + 1)).length + 1) cvb)
          clear qx zx
          have hS1_6 := keepS hbr0 hwb0 (by decide) (by decide) hrbR hwbR hK6
          refine hK.out _ _ hS1_6 (fun h => absurd h (by decide)) ?_
          clear hK K
          try simp only [Act.put, List.setIfInBounds_toArray, List.set_cons_zero, List.set_cons_succ]
          refine wpAnyJ_done (by kernel_rfl) ?_ _
          clear hS1 hS2 hS1_1 hS1_2 hS1_3 hS1_4 hS1_5 hS1_6
        rotate_left
        case' _ =>
          go_simp
          have hK2 := hK1.alloc hbs (.cells #[.int .i64 m] 3)
          have hB2 := hB1.alloc (.cells #[.int .i64 m] 3)
          have hF2 := hF1.alloc (.cells #[.int .i64 m] 3)
          have hS1_2 := keepS hbr0 hwb0 (by decide) (by decide) hrbR hwbR hK2
          refine hK.out _ _ hS1_2 (fun _ => ⟨hB2.cell t _ y1, hB2.cell (t + 1) _ y2⟩) ?_
          clear hK K
          try simp only [Act.put, List.setIfInBounds_toArray, List.set_cons_zero, List.set_cons_succ]
          refine wpAnyJ_ready [15] (by kernel_rfl) (by simp) (NextJ.cons rfl (fun K hK => ?_) NextJ.nil)
          refine step_append_n rfl _ _ _ rfl (w1.heap.size + 2) _ i0 _ Tryd.underlying37 hi0 hz0' hz1' hz2' rfl (.slice A1 (fill l m t).length a1) (fill l m t) rfl (hF2.own1 ht24) _ m rfl (cell_old (cell_new rfl)) hn1 (Nat.le_trans hbs hK2.1.size) ?_
          intro va wa hpo ho hg hb
          obtain ⟨Ava, cva, hqva⟩ := Own.rdn ho
          subst hqva
          have hF3 := hF2.app1 ht24 hg ho hb
          have hK3 := Kp.app hK2 hbs hpo hg
          have hB3 := Blk.grown hB2 hg (hge1 _ (by omega))
          have hc2 := hg.cell (a := ⟨W0.heap.size + 1, 0, none⟩) (v := .int .i64 m) (cell_new (by simp)) (hl1 (W0.heap.size + 1) (by omega))
          clear hpo ho hg hb
          have hS1_3 := keepS hbr0 hwb0 (by decide) (by decide) hrbR hwbR hK3
          refine hK.out _ _ hS1_3 (fun _ => ⟨hB3.cell t _ y1, hB3.cell (t + 1) _ y2⟩) ?_
          clear hK K
          try simp only [Act.put, List.setIfInBounds_toArray, List.set_cons_zero, List.set_cons_succ]
          refine wpAnyJ_ready [25] (by kernel_rfl) (by simp) (NextJ.cons rfl (fun K hK => ?_) NextJ.nil)
          refine step_append_n rfl _ _ _ rfl (w1.heap.size + 2) _ i0 _ Tryd.underlying37 hi0 hz0' hz1' hz2' rfl (.slice A2 (fill l m (t + 1)).length a2) (fill l m (t + 1)) rfl (hF3.own2 ht24) _ m rfl hc2 hn2 (Nat.le_trans hbs hK3.1.size) ?_
          intro vb wb hpo ho hg hb
          obtain ⟨Avb, cvb, hqvb⟩ := Own.rdn ho
          subst hqvb
          have hF4 := hF3.app2 ht24 hg ho hb
          have hK4 := Kp.app hK3 hbs hpo hg
          have hB4 := Blk.grown hB3 hg (hge2 _ (by omega))
          clear hpo ho hg hb
          have hS1_4 := keepS hbr0 hwb0 (by decide) (by decide) hrbR hwbR hK4
          refine hK.out _ _ hS1_4 (fun _ => ⟨hB4.cell t _ y1, hB4.cell (t + 1) _ y2⟩) ?_
          clear hK K
          try simp only [Act.put, List.setIfInBounds_toArray, List.set_cons_zero, List.set_cons_succ]
          refine wpAnyJ_take1 27 rfl (by kernel_rfl) (by kernel_rfl) rfl (by kernel_rfl) (fun _ _ _ h => h) (by rfl) hS1_4 (fun w' hSw => (by obtain ⟨c1, c2⟩ := hSw; go_simp; try (with_reducible rfl))) ?_
          try simp only [Act.put, List.setIfInBounds_toArray, List.set_cons_zero, List.set_cons_succ]
          refine wpAnyJ_ready [28] (by kernel_rfl) (by simp) (NextJ.cons rfl (fun K hK => ?_) NextJ.nil)
          have qx := hB4.cell t _ y1
          have zx := hB4.frozen t
          have lx := hB4.lt
          go_simp
          have hK5 := hK4.setR t (.slice Ava ((fill l m t).length + 1) cva)
          have hB5 := hB4.set_ t (.slice Ava ((fill l m t).length + 1) cva)
          clear qx zx
          have hS1_5 := keepS hbr0 hwb0 (by decide) (by decide) hrbR hwbR hK5
          refine hK.out _ _ hS1_5 (fun h => absurd h (by decide)) ?_
          clear hK K
          try simp only [Act.put, List.setIfInBounds_toArray, List.set_cons_zero, List.set_cons_succ]
          refine wpAnyJ_take1 30 rfl (by kernel_rfl) (by kernel_rfl) rfl (by kernel_rfl) (fun _ _ _ h => h) (by rfl) hS1_5 (fun w' hSw => (by obtain ⟨c1, c2⟩ := hSw; go_simp; try (with_reducible rfl))) ?_
          try simp only [Act.put, List.setIfInBounds_toArray, List.set_cons_zero, List.set_cons_succ]
          refine wpAnyJ_ready [31] (by kernel_rfl) (by simp) (NextJ.cons rfl (fun K hK => ?_) NextJ.nil)
          have qx := hB5.cell (t + 1) _ (by rw [Array.getElem?_setIfInBounds_ne (by omega)]; exact y2)
          have zx := hB5.frozen (t + 1)
          go_simp
          have hK6 := hK5.setR (t + 1) (.slice Avb ((fill l m (t + 1)).length + 1) cvb)
          have hB6 := hB5.set_ (t + 1) (.slice Avb ((fill l m (t + 1)).length + 1) cvb)
          clear qx zx
          have hS1_6 := keepS hbr0 hwb0 (by decide) (by decide) hrbR hwbR hK6
          refine hK.out _ _ hS1_6 (fun h => absurd h (by decide)) ?_
          clear hK K
          try simp only [Act.put, List.setIfInBounds_toArray, List.set_cons_zero, List.set_cons_succ]
          refine wpAnyJ_done (by kernel_rfl) ?_ _
          clear hS1 hS2 hS1_1 hS1_2 hS1_3 hS1_4 hS1_5 hS1_6
        rotate_left
      rotate_left 2
      case' _ =>
        go_simp
        have hK1 := hK0.alloc hbs (.cells #[.int .i64 m] 3)
        have hB1 := hB0.alloc (.cells #[.int .i64 m] 3)
        have hF1 := hF0.alloc (.cells #[.int .i64 m] 3)
        have hS1_1 := keepS hbr0 hwb0 (by decide) (by decide) hrbR hwbR hK1
        refine hK.out _ _ hS1_1 (fun _ => ⟨hB1.cell t _ y1, hB1.cell (t + 1) _ y2⟩) ?_
        clear hK K
        try simp only [Act.put, List.setIfInBounds_toArray, List.set_cons_zero, List.set_cons_succ]
        refine wpAnyJ_ready [14] (by kernel_rfl) (by simp) (NextJ.cons rfl (fun K hK => ?_) NextJ.nil)
        go_simp
        have hK2 := hK1.alloc hbs (.cells #[.int .i64 m] 3)
        have hB2 := hB1.alloc (.cells #[.int .i64 m] 3)
        have hF2 := hF1.alloc (.cells #[.int .i64 m] 3)
        have hS1_2 := keepS hbr0 hwb0 (by decide) (by decide) hrbR hwbR hK2
        refine hK.out _ _ hS1_2 (fun _ => ⟨hB2.cell t _ y1, hB2.cell (t + 1) _ y2⟩) ?_
        clear hK K
        try simp only [Act.put, List.setIfInBounds_toArray, List.set_cons_zero, List.set_cons_succ]
        refine wpAnyJ_ready [15] (by kernel_rfl) (by simp) (NextJ.cons rfl (fun K hK => ?_) NextJ.nil)
        refine step_append_n rfl _ _ _ rfl (w1.heap.size + 2) _ i0 _ Tryd.underlying37 hi0 hz0' hz1' hz2' rfl (.slice A1 (fill l m t).length a1) (fill l m t) rfl (hF2.own1 ht24) _ m rfl (cell_new (by simp)) hn1 (Nat.le_trans hbs hK2.1.size) ?_
        intro va wa hpo ho hg hb
        obtain ⟨Ava, cva, hqva⟩ := Own.rdn ho
        subst hqva
        have hF3 := hF2.app1 ht24 hg ho hb
        have hK3 := Kp.app hK2 hbs hpo hg
        have hB3 := Blk.grown hB2 hg (hge1 _ (by omega))
        have hc2 := hg.cell (a := ⟨W0.heap.size, 0, none⟩) (v := .int .i64 m) (cell_old (cell_new rfl)) (hl1 W0.heap.size (by omega))
        clear hpo ho hg hb
        have hS1_3 := keepS hbr0 hwb0 (by decide) (by decide) hrbR hwbR hK3
        refine hK.out _ _ hS1_3 (fun _ => ⟨hB3.cell t _ y1, hB3.cell (t + 1) _ y2⟩) ?_
        clear hK K
        try simp only [Act.put, List.setIfInBounds_toArray, List.set_cons_zero, List.set_cons_succ]
        refine wpAnyJ_ready [25] (by kernel_rfl) (by simp) (NextJ.cons rfl (fun K hK => ?_) NextJ.nil)
        refine step_append_n rfl _ _ _ rfl (w1.heap.size + 2) _ i0 _ Tryd.underlying37 hi0 hz0' hz1' hz2' rfl (.slice A2 (fill l m (t + 1)).length a2) (fill l m (t + 1)) rfl (hF3.own2 ht24) _ m rfl hc2 hn2 (Nat.le_trans hbs hK3.1.size) ?_
        intro vb wb hpo ho hg hb
        obtain ⟨Avb, cvb, hqvb⟩ := Own.rdn ho
        subst hqvb
        have hF4 := hF3.app2 ht24 hg ho hb
        have hK4 := Kp.app hK3 hbs hpo hg
        have hB4 := Blk.grown hB3 hg (hge2 _ (by omega))
        clear hpo ho hg hb
        have hS1_4 := keepS hbr0 hwb0 (by decide) (by decide) hrbR hwbR hK4
        refine hK.out _ _ hS1_4 (fun _ => ⟨hB4.cell t _ y1, hB4.cell (t + 1) _ y2⟩) ?_
        clear hK K
        try simp only [Act.put, List.setIfInBounds_toArray, List.set_cons_zero, List.set_cons_succ]
        refine wpAnyJ_take1 27 rfl (by kernel_rfl) (by kernel_rfl) rfl (by kernel_rfl) (fun _ _ _ h => h) (by rfl) hS1_4 (fun w' hSw => (by obtain ⟨c1, c2⟩ := hSw; go_simp; try (with_reducible rfl))) ?_
        try simp only [Act.put, List.setIfInBounds_toArray, List.set_cons_zero, List.set_cons_succ]
        refine wpAnyJ_ready [28] (by kernel_rfl) (by simp) (NextJ.cons rfl (fun K hK => ?_) NextJ.nil)
        have qx := hB4.cell t _ y1
        have zx := hB4.frozen t
        have lx := hB4.lt
        go_simp
        have hK5 := hK4.setR t (.slice Ava ((fill l m t).length + 1) cva)
        have hB5 := hB4.set_ t (.slice Ava ((fill l m t).length + 1) cva)
        clear qx zx
        have hS1_5 := keepS hbr0 hwb0 (by decide) (by decide) hrbR hwbR hK5
        refine hK.out _ _ hS1_5 (fun h => absurd h (by decide)) ?_
        clear hK K
        try simp only [Act.put, List.setIfInBounds_toArray, List.set_cons_zero, List.set_cons_succ]
        refine wpAnyJ_take1 30 rfl (by kernel_rfl) (by kernel_rfl) rfl (by kernel_rfl) (fun _ _ _ h => h) (by rfl) hS1_5 (fun w' hSw => (by obtain ⟨c1, c2⟩ := hSw; go_simp; try (with_reducible rfl))) ?_
        try simp only [Act.put, List.setIfInBounds_toArray, List.set_cons_zero, List.set_cons_succ]
        refine wpAnyJ_ready [31] (by kernel_rfl) (by simp) (NextJ.cons rfl (fun K hK => ?_) NextJ.nil)
        have qx := hB5.cell (t + 1) _ (by rw [Array.getElem?_setIfInBounds_ne (by omega)]; exact y2)
        have zx := hB5.frozen (t + 1)
        go_simp
        have hK6 := hK5.setR (t + 1) (.slice Avb ((fill l m (t + 1)).length + 1) cvb)
        have hB6 := hB5.set_ (t + 1) (.slice Avb ((fill l m (t + 1)).length + 1) cvb)
        clear qx zx
        have hS1_6 := keepS hbr0 hwb0 (by decide) (by decide) hrbR hwbR hK6
        refine hK.out _ _ hS1_6 (fun h => absurd h (by decide)) ?_
        clear hK K
        try simp only [Act.put, List.setIfInBounds_toArray, List.set_cons_zero, List.set_cons_succ]
        refine wpAnyJ_done (by kernel_rfl) ?_ _
        clear hS1 hS2 hS1_1 hS1_2 hS1_3 hS1_4 hS1_5 hS1_6
      rotate_left
      all_goals
        have hbr6 := hK6.2 _ _ _ (by decide) hrbR hbr0
        have hB9 : Below w1.heap.size w1 _ := hBW.trans (Same.below (hK6.1.mono (fun k hk => ⟨by omega, by omega⟩)))
        have hF6 := Fam2.set_ (Fam2.set_ hF4 (p := ⟨w1.heap.size, t, none⟩) (by show w1.heap.size < _; omega) (.slice Ava ((fill l m t).length + 1) cva)) (p := ⟨w1.heap.size, t + 1, none⟩) (by show w1.heap.size < _; omega) (.slice Avb ((fill l m (t + 1)).length + 1) cvb)
        have HF6 := Lib.hid (fam_end hcs ht24 hlt HT.out hF6)
        clear hF6 hF4 hF3 hF2 hF1 hF0 hK0 hK1 hK2 hK3 hK4 hK5 hB0 hB1 hB2 hB3 hB4 hB5 hK6
        go_wp2_with fail
        go_roundw
        case rel => exact ⟨m + 1, _, by omega, by go_num, by simp [hcs], hB6, HF6, hbr6, hB9⟩
        case measure => simp [intOf]; omega
    · have e1 : m = l.length := by omega
      subst e1
      have HR := Lib.hid (show RowsAt wr w1.heap.size wr.heap.size (rowsOf l []) by rw [← fill_all]; exact fam_rows hcs (by omega) hbR hfam.out)
      have rb0 := hbr.cell 0 _ rfl
      have HB := Lib.hid hB
      obtain ⟨wB, rfl⟩ : ∃ wo : World, wo = wr := ⟨_, rfl⟩
      obtain ⟨i0, hi0, hz0', hz1', hz2'⟩ := info_parts infoInt
      clear hfam hbR hcs hml hB
      obtain ⟨n, hn⟩ : ∃ n : Nat, Hid (n = P - S + 1) := ⟨_, rfl⟩
      have hn1 : (n : Int) ≤ (P : Int) - S + 1 := by have := hn.out; omega
      have hn2 : (P : Int) - S + 1 ≤ (n : Int) := by have := hn.out; omega
      go_wp2
      go_loopw [10, 66] (fun v k wr => ∃ j : Nat, j ≤ n ∧ k = .int .i64 j ∧ Own 1 nenc wr wB.heap.size 3 v (List.range j) ∧ Below wB.heap.size wB wr) (fun _ k _ => n - (intOf k).toNat)
      case atStart => exact ⟨0, by omega, rfl, Own.nil _ _ _, Below.refl _ _⟩
      case round =>
        obtain ⟨j, hj, rfl, hown, hBj⟩ := hrel
        by_cases hjn : j < n
        · go_wp2_with (at_builtin; refine wpList_append_n rfl (.tmp 69) (.tmp 71) _ rfl wB.heap.size _ i0 _ Tryd.underlying37 hi0 hz0' hz1' hz2' rfl _ (List.range j) rfl (hown.alloc _) wr.heap.size j rfl (cell_new rfl) (by simp; omega) (by have := hBj.size; simp; omega) ?_; intro v' w3 hown3 hg)
          go_roundw
          case rel => exact ⟨j + 1, by omega, by go_num, by rw [List.range_succ]; exact hown3, (hown.alloc _).grown (hBj.alloc hBj.size _) hg (by have := hBj.size; simp; omega)⟩
          case measure => simp [intOf]; omega
        · have e2 : j = n := by omega
          subst e2
          obtain ⟨A2, c2', e3, hpl0⟩ := Own.rdn_far hown
          have hpl := Lib.hid hpl0
          clear hpl0
          rw [List.length_range] at e3
          subst e3
          obtain ⟨wP, rfl⟩ : ∃ wo : World, wo = wr := ⟨_, rfl⟩
          have hsP := hBj.size
          have hBw9 : Below w.heap.size w wP := hBw.trans ((HB.out.mono (by omega)).trans (hBj.mono (by have := HB.out.size; omega)))
          have HRP := Lib.hid (HR.out.same ⟨hBj.os, hBj.tape, hBj.output, hBj.size, fun k hk => hBj.block k (by rcases hk with hk | rfl <;> omega)⟩)
          have kS' := Blk.below' (w := w1) kS (HB.out.trans (hBj.mono (by have := HB.out.size; omega)))
          have kP' := Blk.below' (w := w1) kP (HB.out.trans (hBj.mono (by have := HB.out.size; omega)))
          have kR' := hbr.below' hBj
          go_wp2
          clear c0 c1 c2 rb0 hown hBj
          go_loopg [13] l.length (fun gk mp wr => ∃ (M : List Nat) (done : List Tri) (mb : Nat), mp = .pointer (some ⟨mb, 0, none⟩) ∧ Hid (M.Nodup ∧ ∀ x ∈ M, x < l.length) ∧ M.length ≤ l.length ∧ done.length ≤ 2 * M.length ∧ Hid (qloop l P S 2000 l.length [] = done ++ qloop l P S 2000 gk M) ∧ l.length ≤ gk + M.length ∧
            Hid (OutInv (wP.heap.size + 1) wP.heap.size mb done M.length wr) ∧ RowsAt wr w1.heap.size wB.heap.size (rowsOf l M) ∧ wP.heap.size + 1 ≤ mb ∧ Same (fun j => j < wP.heap.size ∧ j ≠ w1.heap.size) wP wr ∧ wP.heap.size + 2 ≤ wr.heap.size)
          case atStart =>
            refine ⟨[], [], _, rfl, ⟨List.nodup_nil, by simp⟩, by simp, by simp, by simp [Hid], by simp, outInv_start wP, HRP.out.same (Same.below_mono (B := wP.heap.size) (by (repeat' first | exact Below.refl _ _ | apply Below.drew | (refine Below.setCells ?_ _ _ ?_) | (refine Below.setCell ?_ ?_ _) | (refine Below.alloc ?_ ?_ _) | (simp; done) | (simp; omega))) (fun k hk => by rcases hk with hk | rfl <;> omega)), by omega, Same.below_mono (B := wP.heap.size) (by (repeat' first | exact Below.refl _ _ | apply Below.drew | (refine Below.setCells ?_ _ _ ?_) | (refine Below.setCell ?_ ?_ _) | (refine Below.alloc ?_ ?_ _) | (simp; done) | (simp; omega))) (fun k hk => hk.1), by simp⟩
          case round =>
            obtain ⟨M, done, mb, rfl, hM, hMl, hdl, hinv, hgk, hout, hrows, hmb, hS, hszr⟩ := hrel
            have kS2 := kS'.same hS ⟨by omega, by omega⟩
            have kP2 := kP'.same hS ⟨by omega, by omega⟩
            have kR2 := kR'.same hS ⟨by omega, by omega⟩
            obtain ⟨v, ho, hown, hm⟩ := hout.out
            have c1 := kS2.cell 1 (.slice A l.length c) rfl
            have m0 := hm.cell 0 (.int .i64 M.length) rfl
            have hmlt := hm.lt
            by_cases hlt2 : M.length < l.length
            · have c2 := kP2.cell 0 (.int .i64 S) rfl
              have c3 := kR2.cell 0 _ rfl
              have hsum := sumTo_rowsOf l M 24
              obtain ⟨h, Hh⟩ : ∃ h, Hid (bestUpto (offN S 2000 (rowsOf l M)) j = h) := ⟨_, rfl⟩
              have hcall : ∀ w', w' = wr → Calls Tryd.prog 13 #[.slice A2 j c2', .func (.func 14) #[] #[.pointer (some ⟨w1.heap.size + 1, 0, none⟩), .pointer (some ⟨w.heap.size + 1, 0, none⟩)]] w' (Ret (.int .i64 h) w') := by
                intro w' e
                subst e
                have := best_any w1.heap.size wB.heap.size (w1.heap.size + 1) (w.heap.size + 1) S (rowsOf l M) j A2 c2' w' hrows c3 c2 (by omega) (by omega) b1 (by omega) 2000 (by omega) (fun k _ => by have := rowsOf_len l M k; omega) (by omega) wP.heap.size
                  (by have := hpl.out w' (fun k hk1 hk2 => hS.block k ⟨by omega, by omega⟩); exact this) (by omega) (fun k _ => by have := off_le (s := S) (N := 2000) (h := k) hM.out.1 hM.out.2; omega)
                rw [Hh.out] at this
                exact this
              have HCALL := Lib.hid hcall
              clear hcall
              obtain ⟨s0, hs0, sz0, sz1, sz2⟩ := info_parts infoStep
              have hrm : RdT wr H A l := (hr.below' hBw9 hH).keep (fun p hp => hS.cell (p := p) ⟨by omega, by omega⟩)
              have o0 := ho.cell 0 v rfl
              have of := ho.frozen 0
              have hob : wP.heap.size ≠ mb := by omega
              have hgk0 : 0 < gk := by omega
              have HQ := Lib.hid (qloop_step (S := S) (P := P) (N := 2000) (h := h) hlt2 (by rw [← hn.out]; exact Hh.out) hgk0)
              have hpos := much_pos (p := P) (s := S) (N := 2000) hlt2 (fun k hk => HH.out k hk) b1 b2 (by omega)
              rw [← hn.out, Hh.out] at hpos
              have hh : h < j := by rw [← Hh.out]; exact bestUpto_lt _ j (by omega)
              have hoff := off_le (s := S) (N := 2000) (h := h) hM.out.1 hM.out.2
              have HOF := Lib.hid (show offN S 2000 (rowsOf l M) h = (swp h S 2000 h (rowsOf l M)).1.length from rfl)
              have HSW := Lib.hid (swp_rows (l := l) (h := h) (s := S) 2000 h M)
              have HNW := Lib.hid (swp_new (h := h) (s := S) 2000 h M hM.out.1 hM.out.2)
              clear hz
              go_wp2_with (first
                | (go_at_call 13; refine (HCALL.out _ rfl).mono ?_; rintro e w2 ⟨rfl, hB2⟩
                   have ho2 := ho.below' hB2
                   have hm2 := hm.below' hB2
                   have q0 := ho2.cell 0 v rfl
                   have q1 := ho2.frozen 0
                   have q2 := ho2.lt)
                | (at_builtin; refine wpList_append_tri rfl (.tmp 82) (.tmp 85) _ rfl (wP.heap.size + 1) _ s0 _ Tryd.underlying22 hs0 sz0 sz1 sz2 rfl _ done rfl ((hown.below hB2).alloc _) w2.heap.size ⟨1, h, .empty⟩ rfl (World.cell?_alloc_new _ _ _ 0) (World.cell?_alloc_new _ _ _ 1) (World.cell?_alloc_new _ _ _ 2) (by omega) (by simp; omega) ?_; intro v' w3 hown3 hg
                   have ho3 := (ho2.alloc (.cells #[.int .i64 1, .int .i64 h, .string .empty] 33)).grown hg (fun e => by have := (World.ownsRow.lt hown _ e.symm).1; omega)
                   have hm3 := (hm2.alloc (.cells #[.int .i64 1, .int .i64 h, .string .empty] 33)).grown hg (Own.ne_block hown hm.heap (by decide))
                   have p0 := ho3.cell 0 v rfl
                   have p1 := ho3.frozen 0
                   have p2 := ho3.lt
                   have HS3 : Same (fun k => k < wP.heap.size ∧ k ≠ w1.heap.size) wP w3 := (hS.trans ((Same.below_mono (B := wr.heap.size) hB2 (fun k hk => by omega)))).trans ⟨hg.os, hg.tape, hg.output, Nat.le_trans (by simp) hg.size, fun k hk => (hg.block k (by simp; omega) (fun e => by have := (World.ownsRow.lt hown _ e.symm).1; omega)).trans (Below.heap_alloc w2 _ k (by omega))⟩
                   have HR3 : RowsAt w3 w1.heap.size wB.heap.size (rowsOf l M) := (hrows.same (Same.below_mono (B := wr.heap.size) hB2 (fun k hk => by rcases hk with hk | rfl <;> omega))).same ⟨hg.os, hg.tape, hg.output, Nat.le_trans (by simp) hg.size, fun k hk => (hg.block k (by simp; rcases hk with hk | rfl <;> omega) (fun e => by have := (World.ownsRow.lt hown _ e.symm).1; rcases hk with hk | rfl <;> omega)).trans (Below.heap_alloc w2 _ k (by rcases hk with hk | rfl <;> omega))⟩
                   obtain ⟨A3, c3', hv3, _, _⟩ := Own.rd tri_len hown3
                   subst hv3
                   have hown3' := Own.len1 hown3
                   have HO3 := Lib.hid (OutInv.put (v' := .slice A3 (done.length + 1) c3') ho3 hm3 hown3' (by omega) hob)
                   have hz3 := hg.size
                   rw [World.size_alloc] at hz3
                   have d7 := (kR'.same HS3 ⟨by omega, by omega⟩).cell 0 _ rfl
                   have d3 := (kP'.same HS3 ⟨by omega, by omega⟩).cell 0 _ rfl
                   have HS4 := HS3.setCell (p := ⟨wP.heap.size, 0, none⟩) (fun e => Nat.lt_irrefl _ e.1) (.slice A3 (done.length + 1) c3')
                   have HR4 := HR3.same ((Same.refl (fun k => k < wB.heap.size ∨ k = w1.heap.size) w3).setCell (p := ⟨wP.heap.size, 0, none⟩) (fun e => by rcases e with e | e <;> (simp only at e; omega)) (.slice A3 (done.length + 1) c3'))
                   have hq4 := (kS'.same HS4 ⟨by omega, by omega⟩).cell 1 (.slice A l.length c) rfl
                   have hrd4 : RdT (w3.setCell ⟨wP.heap.size, 0, none⟩ (.slice A3 (done.length + 1) c3')) H A l := (hr.below' hBw9 hH).keep (fun p hp => HS4.cell (p := p) ⟨by omega, by omega⟩)
                   replace HR4 := Lib.hid HR4
                   replace hrd4 := Lib.hid hrd4)
                | (go_at_call 15
                   refine (sweep2_any A l c H (wP.heap.size + 1) wP.heap.size mb w.heap.size 0 (done ++ [⟨1, h, .empty⟩]) M.length w1.heap.size wB.heap.size h S (rowsOf l M) _ HO3.out hrd4.out hq4 (by omega) (by simp; omega) (by omega) (by simp [World.setCell]; omega) (by omega) (by omega) hob (by omega) (by omega) (by omega) (by omega) (by omega) (by omega) (by omega) (by omega) (by omega) HR4.out (by omega) b1 (by omega) 2000 (by omega) (fun k _ => by have := rowsOf_len l M k; omega) (fun k _ x hx => rowsOf_mem hx)).mono ?_
                   rintro e w5 ⟨rfl, hout5, hrows5, hS5⟩
                   rw [HSW.out] at hrows5
                   obtain ⟨v5, ho5, hown5, hm5⟩ := hout5
                   have m5 := hm5.cell 0 _ rfl
                   have l5 := hm5.lt
                   have z5 := hS5.size
                   have HOUT5 := Lib.hid (show OutInv _ _ _ _ _ _ from ⟨v5, ho5, hown5, hm5⟩)
                   clear ho5 hown5 hm5))
              go_roundg (gk - 1)
              case measure => omega
              case rel =>
                have hx1 := HOF.out
                have hx2 := HNW.out
                rw [hx1] at hpos hoff
                simp only [World.size_setCell] at z5
                refine ⟨M ++ (swp h S 2000 h (rowsOf l M)).1, done ++ [⟨1, h, .empty⟩] ++ (swp h S 2000 h (rowsOf l M)).1.map (stepAt l), w5.heap.size, rfl, hx2, by simp; omega, by simp; omega, ?_, by simp; omega, ?_, ?_, by omega, ?_, by simp; omega⟩
                · rw [Hid, hinv.out, HQ.out]; simp
                · rw [Hid, List.length_append]; exact OutInv.next HOUT5.out (by simp)
                · exact hrows5.same (Same.below_mono (B := w5.heap.size) (by (repeat' first | exact Below.refl _ _ | apply Below.drew | (refine Below.setCells ?_ _ _ ?_) | (refine Below.setCell ?_ ?_ _) | (refine Below.alloc ?_ ?_ _) | (simp; done) | (simp; omega))) (fun k hk => by rcases hk with hk | rfl <;> omega))
                · exact (HS4.trans (hS5.mono (fun k hk => ⟨by omega, by omega, by omega, hk.2⟩))).trans (Same.below_mono (B := w5.heap.size) (by (repeat' first | exact Below.refl _ _ | apply Below.drew | (refine Below.setCells ?_ _ _ ?_) | (refine Below.setCell ?_ ?_ _) | (refine Below.alloc ?_ ?_ _) | (simp; done) | (simp; omega))) (fun k hk => by omega))
            · have o0 := ho.cell 0 v rfl
              go_wp2
              go_ret2
              exact ⟨v, rfl, by rw [hinv.out, qloop_end hlt2]; simpa using hown.base (by omega), hBw9.trans (Same.below (hS.mono (fun k hk => ⟨by omega, by omega⟩)))⟩
end Go.Proofs.YtogkgoabonbkkaaDoor
