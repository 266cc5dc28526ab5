/- Quick's counting closure: a copy of the rows, swept. -/
import Derived.Test.YtogkgoabonbkkaaDoorSweep2
import Derived.Deep.MidRow
import Derived.Deep.WholeRow
set_option linter.unusedSimpArgs false
set_option linter.unusedVariables false
namespace Go.Proofs.YtogkgoabonbkkaaDoor
open Go Go.RowKit Tor

theorem info_rows : (Tryd.prog.info? 44).map (fun i => (i.zero, i.size)) = some (some (.agg (Array.replicate 24 (.slice none 0 0))), 24) := by kernel_rfl


/-- the rows as a list of values -/
theorem RowsAt.list {w : World} {R B : Nat} {f : Nat → List Nat} (h : RowsAt w R B f) :
    ∃ cs : List Value, cs.length = 24 ∧ w.rangeAt R 0 cs ∧ (∀ v ∈ cs, v.oneCell' = true) ∧ ∀ k, k < 24 → ∃ A c, cs[k]? = some (.slice A (f k).length c) ∧ (f k).length ≤ c ∧ RdN w B A (f k) := by
  have h' : ∀ k : Fin 24, ∃ v, w.cell? ⟨R, k.1, none⟩ = some v ∧ ∃ A c, v = .slice A (f k.1).length c ∧ (f k.1).length ≤ c ∧ RdN w B A (f k.1) := fun k => by
    obtain ⟨A, c, h1, h2, _, h4, _⟩ := h k.1 k.2
    exact ⟨_, h1, A, c, rfl, h2, h4⟩
  let g : Fin 24 → Value := fun k => Classical.choose (h' k)
  have hg : ∀ k, w.cell? ⟨R, k.1, none⟩ = some (g k) ∧ ∃ A c, g k = .slice A (f k.1).length c ∧ (f k.1).length ≤ c ∧ RdN w B A (f k.1) := fun k => Classical.choose_spec (h' k)
  refine ⟨List.ofFn g, by simp, ?_, ?_, ?_⟩
  · intro j v hv
    rw [List.getElem?_ofFn] at hv
    split at hv
    · rename_i hj
      simp only [Option.some.injEq] at hv
      subst hv
      simpa using (hg ⟨j, hj⟩).1
    · cases hv
  · intro v hv
    rw [List.mem_ofFn] at hv
    obtain ⟨k, rfl⟩ := hv
    obtain ⟨_, A, c, e, _⟩ := hg k
    rw [e]; rfl
  · intro k hk
    obtain ⟨_, A, c, e, h1, h2⟩ := hg ⟨k, hk⟩
    exact ⟨A, c, by rw [List.getElem?_ofFn, dif_pos hk, e], h1, h2⟩

theorem there_new (w : World) (Z : Array Value) (t : TypeId) (hZ : Z.size = 24) : (w.alloc (.cells Z t)).there w.heap.size 0 24 := fun j hj => by
  have hb := Blk.new w t Z
  refine ⟨?_, hb.frozen _⟩
  rw [hb.cell (0 + j) Z[0 + j] (by simp)]; rfl
theorem there_set {w : World} {b o n : Nat} (h : w.there b o n) (p : Addr) (v : Value) : (w.setCell p v).there b o n := fun j hj => by
  obtain ⟨h1, h2⟩ := h j hj
  refine ⟨?_, by rw [World.frozen?_setCell]; exact h2⟩
  obtain ⟨u, hu⟩ := Option.isSome_iff_exists.1 h1
  by_cases e : p = ⟨b, o + j, none⟩
  · subst e; rw [World.cell?_setCell_same _ _ _ hu]; rfl
  · rw [World.cell?_setCell_other _ _ _ _ e, hu]; rfl

theorem Below.setCells {B : Nat} {a : World} {b : Nat} (hb : B ≤ b) : ∀ (vs : List Value) (o : Nat) {w : World}, Below B a w → Below B a (w.setCells b o vs)
  | [], _, _, h => h
  | v :: vs, o, _, h => Below.setCells hb vs (o + 1) (h.setCell (p := ⟨b, o, none⟩) hb v)

theorem heap_setCells (b : Nat) (g : Nat) (hg : g ≠ b) : ∀ (vs : List Value) (o : Nat) (w : World), (w.setCells b o vs).heap[g]? = w.heap[g]?
  | [], _, _ => rfl
  | v :: vs, o, w => (heap_setCells b g hg vs (o + 1) _).trans (Below.heap_setCell w ⟨b, o, none⟩ v g hg)
theorem Blk.setCells {w : World} {g : Nat} {t : TypeId} {cs : Array Value} (h : Blk w g t cs) {b : Nat} (hg : g ≠ b) (o : Nat) (vs : List Value) : Blk (w.setCells b o vs) g t cs := (heap_setCells b g hg vs o w).trans h

theorem Blk.drew {w : World} {g : Nat} {t : TypeId} {cs : Array Value} (h : Blk w g t cs) : Blk w.drew g t cs := h

theorem copy_rows {w w1 : World} {B R' : Nat} {f : Nat → List Nat} {cs : List Value} (hB1 : Below w.heap.size w w1) (ht : w1.there R' 0 24) (hR' : w.heap.size ≤ R') (hBw : B ≤ w.heap.size) (hcl : cs.length = 24)
    (hcg : ∀ k, k < 24 → ∃ A c, cs[k]? = some (.slice A (f k).length c) ∧ (f k).length ≤ c ∧ RdN w B A (f k)) : RowsAt (w1.setCells R' 0 cs) R' B f := fun k hk => by
  obtain ⟨A, c, h1, h2, h3⟩ := hcg k hk
  have hB2 : Below w.heap.size w (w1.setCells R' 0 cs) := Below.setCells hR' _ _ hB1
  have hr := World.rangeAt_setCells_same w1 R' 0 cs (by rw [hcl]; exact ht)
  refine ⟨A, c, by simpa using hr k _ h1, h2, ?_, h3.below' hB2 hBw, ?_⟩
  · rw [World.frozen?_setCells]; simpa using (ht k hk).2
  · intro hne g o z e
    obtain ⟨b, o', e', hb, _⟩ := h3 hne
    rw [e'] at e
    simp only [Option.some.injEq, Addr.mk.injEq] at e
    omega


theorem keepR {w w' : World} {rb R : Nat} {v : Value} {cs : List Value} (h : w.cell? ⟨rb, 0, none⟩ = some v) (hr : w.rangeAt R 0 cs) (hR : R < w.heap.size) (hB : Below w.heap.size w w') : w'.cell? ⟨rb, 0, none⟩ = some v ∧ w'.rangeAt R 0 cs :=
  ⟨(hB.cell (p := ⟨rb, 0, none⟩) (lt_of_cell h)).trans h, fun j u hu => (hB.cell (p := ⟨R, 0 + j, none⟩) hR).trans (hr j u hu)⟩


set_option maxRecDepth 100000 in
set_option maxHeartbeats 2000000 in
theorem quick1_any (R B rb pb hd s : Nat) (f : Nat → List Nat) (w : World) (hr : RowsAt w R B f) (hrp : w.cell? ⟨rb, 0, none⟩ = some (.pointer (some ⟨R, 0, none⟩))) (hsp : w.cell? ⟨pb, 0, none⟩ = some (.int .i64 s))
    (hh : hd + s ≤ 24) (h2 : 2 ≤ s) (hs : sumTo f 24 ≤ 2000) (N : Nat) (hN : 2 * sumTo f 24 + s ≤ N) (hf : ∀ k, k < 24 → (f k).length ≤ 1000) (hBw : B ≤ w.heap.size) :
    Calls Tryd.prog 14 #[.int .i64 hd, .pointer (some ⟨rb, 0, none⟩), .pointer (some ⟨pb, 0, none⟩)] w (Ret (.int .i64 (swp hd s N hd f).1.length) w) := by
  obtain ⟨Z, hZs, hz⟩ : ∃ Z : Array Value, Z.size = 24 ∧ ∀ w, (zeroValue 44).run Tryd.prog w = .ok (.agg Z) w := ⟨_, by simp, (zero_of_info info_rows).1⟩
  have hi := (zero_of_info info_rows).2
  obtain ⟨cs, hcl, hcr, hc1, hcg⟩ := hr.list
  have hi' : (Tryd.prog.info? 44).map (·.size) = some cs.length := by rw [hcl]; exact hi
  have hu := Tryd.underlying44
  have HF := Lib.hid hf
  have HR := Lib.hid hr
  have HG := Lib.hid hcg
  clear hf hr hi hcg
  go_enter Tryd.func14, Tryd.ntmps14
  go_wp2
  have hRlt : R < w.heap.size := by obtain ⟨_, _, r0, _⟩ := HR.out 0 (by omega); exact lt_of_cell r0
  have s1 := there_new (w.alloc (.cells #[.int .i64 0] 3)) Z 44 hZs
  have s2 := World.there_alloc (there_new w Z 44 hZs) (.cells #[.int .i64 0] 3)
  simp only [World.size_alloc] at s1
  have s1' := (World.there_drew _ _ _ _).2 s1
  have s2' := (World.there_drew _ _ _ _).2 s2
  go_region_held3 (fun w' => w'.cell? ⟨rb, 0, none⟩ = some (.pointer (some ⟨R, 0, none⟩)) ∧ w'.rangeAt R 0 cs) (first | (refine keepR hrp hcr hRlt ?_; (repeat' first | exact Below.refl _ _ | apply Below.drew | (refine Below.setCells ?_ _ _ ?_) | (refine Below.setCell ?_ ?_ _) | (refine Below.alloc ?_ ?_ _) | (simp; done) | (simp; omega)))) (fail)
  case' _ =>
    have hBw2 : Below w.heap.size w (((w.alloc (.cells #[.int .i64 0] 3)).alloc (.cells Z 44)).drew) := by (repeat' first | exact Below.refl _ _ | apply Below.drew | (refine Below.setCells ?_ _ _ ?_) | (refine Below.setCell ?_ ?_ _) | (refine Below.alloc ?_ ?_ _) | (simp; done) | (simp; omega))
    have hR2 := copy_rows hBw2 s1' (by omega) hBw hcl HG.out
    have hC2 := Blk.setCells (b := w.heap.size + 1) ((Blk.new w 3 #[.int .i64 0]).alloc (.cells Z 44)).drew (by omega) 0 cs
    have hBn := Below.setCells (B := w.heap.size) (a := w) (b := w.heap.size + 1) (by omega) cs 0 hBw2
    generalize ((((w.alloc (.cells #[.int .i64 0] 3)).alloc (.cells Z 44)).drew).setCells (w.heap.size + 1) 0 cs) = w2 at hR2 hC2 hBn ⊢
    have hcr' : w.heap.size ≠ w.heap.size + 1 := by omega
  rotate_left
  case' _ =>
    have hBw2 : Below w.heap.size w (((w.alloc (.cells Z 44)).alloc (.cells #[.int .i64 0] 3)).drew) := by (repeat' first | exact Below.refl _ _ | apply Below.drew | (refine Below.setCells ?_ _ _ ?_) | (refine Below.setCell ?_ ?_ _) | (refine Below.alloc ?_ ?_ _) | (simp; done) | (simp; omega))
    have hR2 := copy_rows hBw2 s2' (by omega) hBw hcl HG.out
    have hC2 := Blk.setCells (b := w.heap.size) (Blk.new (w.alloc (.cells Z 44)) 3 #[.int .i64 0]).drew (by simp) 0 cs
    have hBn := Below.setCells (B := w.heap.size) (a := w) (b := w.heap.size) (by omega) cs 0 hBw2
    have e0 : (w.alloc (.cells Z 44)).heap.size = w.heap.size + 1 := by simp
    rw [e0] at hC2
    generalize ((((w.alloc (.cells Z 44)).alloc (.cells #[.int .i64 0] 3)).drew).setCells w.heap.size 0 cs) = w2 at hR2 hC2 hBn ⊢
    have hcr' : w.heap.size + 1 ≠ w.heap.size := by omega
  all_goals
    have e2 := (hBn.cell (p := ⟨pb, 0, none⟩) (lt_of_cell hsp)).trans hsp
    clear s1 s1' s2 s2' hBw2 hcr hc1
    go_wp2_with (first | (go_at_call 15; refine (sweep1_any _ B _ hd s f 0 w2 hR2 hC2 (by omega) hcr' hh h2 hs (by omega) N hN HF.out (Nat.le_trans hBw hBn.size)).mono ?_; rintro e w3 ⟨rfl, hb3, hS3⟩; rw [Nat.zero_add] at hb3; have q0 := hb3.cell 0 _ rfl))
    go_ret
    exact Ret.val rfl (hBn.trans ((hS3.mono (fun k hk => ⟨Nat.lt_of_lt_of_le hk hBn.size, by omega, by omega⟩)).below))
end Go.Proofs.YtogkgoabonbkkaaDoor
