/- Plain theory and walks of small functions (OldA3). -/
import Derived.Test.YtfnklchhhojimaaOldA2
import Derived.Deep.MidRow
import Derived.Deep.WholeRow
import Derived.Test.YtfnklchhhojimaaOldA1
import Derived.Maps.AppendAt
import Derived.Deep.RegionHeld3
import Derived.Deep.LoopGhost
set_option linter.unusedSimpArgs false
set_option linter.unusedVariables false
namespace Go.Proofs.Ytfnklchhhojimaa
open Go Go.RowKit Tor


/-- the rows as a list of values -/
theorem RowsAt.list {w : World} {R B : Nat} {f : Nat → List Nat} (h : RowsAt w R B f) :
    ∃ cs : List Value, cs.length = 24 ∧ w.rangeAt R 0 cs ∧ (∀ v ∈ cs, v.oneCell' = true) ∧ ∀ k, k < 24 → ∃ A c, cs[k]? = some (.slice A (f k).length c) ∧ (f k).length ≤ c ∧ RdN w B A (f k) := by
  have h' : ∀ k : Fin 24, ∃ v, w.cell? ⟨R, k.1, none⟩ = some v ∧ ∃ A c, v = .slice A (f k.1).length c ∧ (f k.1).length ≤ c ∧ RdN w B A (f k.1) := fun k => by
    obtain ⟨A, c, h1, h2, _, h4, _⟩ := h k.1 k.2
    exact ⟨_, h1, A, c, rfl, h2, h4⟩
  let g : Fin 24 → Value := fun k => Classical.choose (h' k)
  have hg : ∀ k, w.cell? ⟨R, k.1, none⟩ = some (g k) ∧ ∃ A c, g k = .slice A (f k.1).length c ∧ (f k.1).length ≤ c ∧ RdN w B A (f k.1) := fun k => Classical.choose_spec (h' k)
  refine ⟨List.ofFn g, by simp, ?_, ?_, ?_⟩
  · intro j v hv
    rw [List.getElem?_ofFn] at hv
    split at hv
    · rename_i hj
      simp only [Option.some.injEq] at hv
      subst hv
      simpa using (hg ⟨j, hj⟩).1
    · cases hv
  · intro v hv
    rw [List.mem_ofFn] at hv
    obtain ⟨k, rfl⟩ := hv
    obtain ⟨_, A, c, e, _⟩ := hg k
    rw [e]; rfl
  · intro k hk
    obtain ⟨_, A, c, e, h1, h2⟩ := hg ⟨k, hk⟩
    exact ⟨A, c, by rw [List.getElem?_ofFn, dif_pos hk, e], h1, h2⟩

theorem there_new (w : World) (Z : Array Value) (t : TypeId) (hZ : Z.size = 24) : (w.alloc (.cells Z t)).there w.heap.size 0 24 := fun j hj => by
  have hb := Blk.new w t Z
  refine ⟨?_, hb.frozen _⟩
  rw [hb.cell (0 + j) Z[0 + j] (by simp)]; rfl
theorem there_set {w : World} {b o n : Nat} (h : w.there b o n) (p : Addr) (v : Value) : (w.setCell p v).there b o n := fun j hj => by
  obtain ⟨h1, h2⟩ := h j hj
  refine ⟨?_, by rw [World.frozen?_setCell]; exact h2⟩
  obtain ⟨u, hu⟩ := Option.isSome_iff_exists.1 h1
  by_cases e : p = ⟨b, o + j, none⟩
  · subst e; rw [World.cell?_setCell_same _ _ _ hu]; rfl
  · rw [World.cell?_setCell_other _ _ _ _ e, hu]; rfl

theorem Below.setCells {B : Nat} {a : World} {b : Nat} (hb : B ≤ b) : ∀ (vs : List Value) (o : Nat) {w : World}, Below B a w → Below B a (w.setCells b o vs)
  | [], _, _, h => h
  | v :: vs, o, _, h => Below.setCells hb vs (o + 1) (h.setCell (p := ⟨b, o, none⟩) hb v)

theorem heap_setCells (b : Nat) (g : Nat) (hg : g ≠ b) : ∀ (vs : List Value) (o : Nat) (w : World), (w.setCells b o vs).heap[g]? = w.heap[g]?
  | [], _, _ => rfl
  | v :: vs, o, w => (heap_setCells b g hg vs (o + 1) _).trans (Below.heap_setCell w ⟨b, o, none⟩ v g hg)
theorem Blk.setCells {w : World} {g : Nat} {t : TypeId} {cs : Array Value} (h : Blk w g t cs) {b : Nat} (hg : g ≠ b) (o : Nat) (vs : List Value) : Blk (w.setCells b o vs) g t cs := (heap_setCells b g hg vs o w).trans h

theorem Blk.drew {w : World} {g : Nat} {t : TypeId} {cs : Array Value} (h : Blk w g t cs) : Blk w.drew g t cs := h

theorem copy_rows {w w1 : World} {B R' : Nat} {f : Nat → List Nat} {cs : List Value} (hB1 : Below w.heap.size w w1) (ht : w1.there R' 0 24) (hR' : w.heap.size ≤ R') (hBw : B ≤ w.heap.size) (hcl : cs.length = 24)
    (hcg : ∀ k, k < 24 → ∃ A c, cs[k]? = some (.slice A (f k).length c) ∧ (f k).length ≤ c ∧ RdN w B A (f k)) : RowsAt (w1.setCells R' 0 cs) R' B f := fun k hk => by
  obtain ⟨A, c, h1, h2, h3⟩ := hcg k hk
  have hB2 : Below w.heap.size w (w1.setCells R' 0 cs) := Below.setCells hR' _ _ hB1
  have hr := World.rangeAt_setCells_same w1 R' 0 cs (by rw [hcl]; exact ht)
  refine ⟨A, c, by simpa using hr k _ h1, h2, ?_, h3.below' hB2 hBw, ?_⟩
  · rw [World.frozen?_setCells]; simpa using (ht k hk).2
  · intro hne g o z e
    obtain ⟨b, o', e', hb, _⟩ := h3 hne
    rw [e'] at e
    simp only [Option.some.injEq, Addr.mk.injEq] at e
    omega


theorem keepR {w w' : World} {rb R : Nat} {v : Value} {cs : List Value} (h : w.cell? ⟨rb, 0, none⟩ = some v) (hr : w.rangeAt R 0 cs) (hR : R < w.heap.size) (hB : Below w.heap.size w w') : w'.cell? ⟨rb, 0, none⟩ = some v ∧ w'.rangeAt R 0 cs :=
  ⟨(hB.cell (p := ⟨rb, 0, none⟩) (lt_of_cell h)).trans h, fun j u hu => (hB.cell (p := ⟨R, 0 + j, none⟩) hR).trans (hr j u hu)⟩


end Go.Proofs.Ytfnklchhhojimaa

namespace Go.Proofs.Ytfnklchhhojimaa
open Go Go.RowKit Tor

theorem RdN.at {w : World} {B : Nat} {A : Option Addr} {n : Nat} (h : RdN w B A (List.range n)) {k : Nat} (hk : k < n) : ∃ b o, A = some ⟨b, o, none⟩ ∧ b < B ∧ w.cell? ⟨b, o + k, none⟩ = some (.int .i64 k) := by
  have hne : List.range n ≠ [] := by intro e; have := congrArg List.length e; simp at this; omega
  obtain ⟨b, o, e, hb, hc⟩ := h hne
  exact ⟨b, o, e, hb, by simpa using hc k k (by simp [hk]) 0 _ rfl⟩

theorem bestUpto_succ_gt {f : Nat → Nat} {k b : Nat} (h : b = bestUpto f k) (hf : f b < f k) : k = bestUpto f (k + 1) := by subst h; rw [bestUpto, if_pos hf]
theorem bestUpto_succ_le {f : Nat → Nat} {k b : Nat} (h : b = bestUpto f k) (hf : ¬ f b < f k) : b = bestUpto f (k + 1) := by subst h; rw [bestUpto, if_neg hf]


/-- how many works fall off at a place -/
def offN (s N : Nat) (f : Nat → List Nat) (h : Nat) : Nat := (swp h s N h f).1.length


end Go.Proofs.Ytfnklchhhojimaa

namespace Go.Proofs.Ytfnklchhhojimaa
open Go Go.RowKit Tor

def FamV (w : World) (base : Nat) (vs : Nat → Value) (f : Nat → List Nat) : Prop :=
  (∀ k, k < 24 → Own 1 nenc w base 3 (vs k) (f k)) ∧ ∀ j k, j < 24 → k < 24 → j ≠ k → (vs j).ownBlock = none ∨ (vs j).ownBlock ≠ (vs k).ownBlock

def upd2 {α : Type} (g : Nat → α) (t : Nat) (a b : α) : Nat → α := fun k => if k = t then a else if k = t + 1 then b else g k

def Fam2 (w : World) (base : Nat) (vs : Nat → Value) (f : Nat → List Nat) (t : Nat) (x1 : Value) (l1 : List Nat) (x2 : Value) (l2 : List Nat) : Prop :=
  FamV w base (upd2 vs t x1 x2) (upd2 f t l1 l2)

theorem FamV.start {w : World} {base : Nat} {vs : Nat → Value} {f : Nat → List Nat} (h : FamV w base vs f) (t : Nat) : Fam2 w base vs f t (vs t) (f t) (vs (t + 1)) (f (t + 1)) := by
  have e1 : upd2 vs t (vs t) (vs (t + 1)) = vs := by funext k; unfold upd2; split; · rename_i e; rw [e]
                                                     · split; · rename_i e; rw [e]
                                                       · rfl
  have e2 : upd2 f t (f t) (f (t + 1)) = f := by funext k; unfold upd2; split; · rename_i e; rw [e]
                                                 · split; · rename_i e; rw [e]
                                                   · rfl
  rw [Fam2, e1, e2]; exact h

theorem FamV.alloc {w : World} {base : Nat} {vs : Nat → Value} {f : Nat → List Nat} (h : FamV w base vs f) (o : Obj) : FamV (w.alloc o) base vs f := ⟨fun k hk => (h.1 k hk).alloc o, h.2⟩
theorem FamV.drew {w : World} {base : Nat} {vs : Nat → Value} {f : Nat → List Nat} (h : FamV w base vs f) : FamV w.drew base vs f := h
theorem FamV.set_ {w : World} {base : Nat} {vs : Nat → Value} {f : Nat → List Nat} (h : FamV w base vs f) {p : Addr} (hp : p.block < base) (u : Value) : FamV (w.setCell p u) base vs f := ⟨fun k hk => Own.far (h.1 k hk) hp u, h.2⟩
theorem FamV.below {w w' : World} {base : Nat} {vs : Nat → Value} {f : Nat → List Nat} (h : FamV w base vs f) (hB : Below w.heap.size w w') : FamV w' base vs f := ⟨fun k hk => (h.1 k hk).below hB, h.2⟩

theorem FamV.lt {w : World} {base : Nat} {vs : Nat → Value} {f : Nat → List Nat} (h : FamV w base vs f) {k : Nat} (hk : k < 24) {g : Nat} (hg : (vs k).ownBlock = some g) : g < w.heap.size := (World.ownsRow.lt (h.1 k hk) g hg).2

theorem FamV.app {w w' : World} {base : Nat} {vs : Nat → Value} {f : Nat → List Nat} {t : Nat} {v' : Value} {l' : List Nat} (h : FamV w base vs f) (ht : t < 24) (hg : w.grownBy w' (vs t).ownBlock) (ho : Own 1 nenc w' base 3 v' l') (hb : v'.ownBlock = (vs t).ownBlock ∨ v'.ownBlock = some w.heap.size) :
    FamV w' base (fun k => if k = t then v' else vs k) (fun k => if k = t then l' else f k) := by
  refine ⟨fun k hk => ?_, fun j k hj hk hjk => ?_⟩
  · by_cases e : k = t
    · simp only [e, if_true]; exact ho
    · simp only [e, if_false]
      exact World.ownsRow.kept (h.1 k hk) hg (h.2 k t hk ht e)
  · by_cases e1 : j = t
    · by_cases e2 : k = t
      · exact absurd (e1.trans e2.symm) hjk
      · simp only [e1, e2, if_true, if_false]
        rcases hb with hb | hb
        · rw [hb]
          exact h.2 t k ht hk (fun e => e2 e.symm)
        · right
          rw [hb]
          intro e
          exact absurd (h.lt hk e.symm) (Nat.lt_irrefl _)
    · by_cases e2 : k = t
      · simp only [e1, e2, if_true, if_false]
        rcases hb with hb | hb
        · rw [hb]
          exact h.2 j t hj ht e1
        · cases hv : (vs j).ownBlock with
          | none => left; rfl
          | some g =>
            right
            rw [hb]
            intro e
            simp only [Option.some.injEq] at e
            have := h.lt hj hv
            omega
      · simp only [e1, e2, if_false]
        exact h.2 j k hj hk hjk

theorem FamV.congr {w : World} {base : Nat} {vs vs' : Nat → Value} {f f' : Nat → List Nat} (h : FamV w base vs f) (hv : ∀ k, k < 24 → vs' k = vs k) (hf : ∀ k, k < 24 → f' k = f k) : FamV w base vs' f' := by
  refine ⟨fun k hk => ?_, fun j k hj hk hjk => ?_⟩
  · rw [hv k hk, hf k hk]; exact h.1 k hk
  · rw [hv j hj, hv k hk]; exact h.2 j k hj hk hjk

theorem Fam2.own1 {w : World} {base : Nat} {vs : Nat → Value} {f : Nat → List Nat} {t : Nat} {x1 x2 : Value} {l1 l2 : List Nat} (h : Fam2 w base vs f t x1 l1 x2 l2) (ht : t + 1 < 24) : Own 1 nenc w base 3 x1 l1 := by
  have := h.1 t (by omega); simpa [upd2] using this
theorem Fam2.own2 {w : World} {base : Nat} {vs : Nat → Value} {f : Nat → List Nat} {t : Nat} {x1 x2 : Value} {l1 l2 : List Nat} (h : Fam2 w base vs f t x1 l1 x2 l2) (ht : t + 1 < 24) : Own 1 nenc w base 3 x2 l2 := by
  have := h.1 (t + 1) ht; simpa [upd2] using this
theorem Fam2.app1 {w w' : World} {base : Nat} {vs : Nat → Value} {f : Nat → List Nat} {t : Nat} {x1 x2 v' : Value} {l1 l2 l' : List Nat} (h : Fam2 w base vs f t x1 l1 x2 l2) (ht : t + 1 < 24) (hg : w.grownBy w' x1.ownBlock) (ho : Own 1 nenc w' base 3 v' l') (hb : v'.ownBlock = x1.ownBlock ∨ v'.ownBlock = some w.heap.size) : Fam2 w' base vs f t v' l' x2 l2 := by
  have e : upd2 vs t x1 x2 t = x1 := by simp [upd2]
  have := FamV.app (t := t) h (by omega) (by rw [e]; exact hg) ho (by rw [e]; exact hb)
  refine this.congr (fun k _ => ?_) (fun k _ => ?_) <;> (unfold upd2; split <;> simp_all)
theorem Fam2.app2 {w w' : World} {base : Nat} {vs : Nat → Value} {f : Nat → List Nat} {t : Nat} {x1 x2 v' : Value} {l1 l2 l' : List Nat} (h : Fam2 w base vs f t x1 l1 x2 l2) (ht : t + 1 < 24) (hg : w.grownBy w' x2.ownBlock) (ho : Own 1 nenc w' base 3 v' l') (hb : v'.ownBlock = x2.ownBlock ∨ v'.ownBlock = some w.heap.size) : Fam2 w' base vs f t x1 l1 v' l' := by
  have e : upd2 vs t x1 x2 (t + 1) = x2 := by simp [upd2]
  have := FamV.app (t := t + 1) h ht (by rw [e]; exact hg) ho (by rw [e]; exact hb)
  refine this.congr (fun k _ => ?_) (fun k _ => ?_) <;> (unfold upd2; by_cases e1 : k = t <;> by_cases e2 : k = t + 1 <;> simp_all)
theorem Fam2.alloc {w : World} {base : Nat} {vs : Nat → Value} {f : Nat → List Nat} {t : Nat} {x1 x2 : Value} {l1 l2 : List Nat} (h : Fam2 w base vs f t x1 l1 x2 l2) (o : Obj) : Fam2 (w.alloc o) base vs f t x1 l1 x2 l2 := FamV.alloc h o
theorem Fam2.drew {w : World} {base : Nat} {vs : Nat → Value} {f : Nat → List Nat} {t : Nat} {x1 x2 : Value} {l1 l2 : List Nat} (h : Fam2 w base vs f t x1 l1 x2 l2) : Fam2 w.drew base vs f t x1 l1 x2 l2 := h
theorem Fam2.set_ {w : World} {base : Nat} {vs : Nat → Value} {f : Nat → List Nat} {t : Nat} {x1 x2 : Value} {l1 l2 : List Nat} (h : Fam2 w base vs f t x1 l1 x2 l2) {p : Addr} (hp : p.block < base) (u : Value) : Fam2 (w.setCell p u) base vs f t x1 l1 x2 l2 := FamV.set_ h hp u


/-- what the round's operations keep: blocks below base but R, blocks that are no row -/
def Kp (base R : Nat) (w w' : World) : Prop := Same (fun j => j < base ∧ j ≠ R) w w' ∧ ∀ g cs ty, ty ≠ 3 → g ≠ R → Blk w g ty cs → Blk w' g ty cs
theorem Kp.refl (base R : Nat) (w : World) : Kp base R w w := ⟨Same.refl _ _, fun _ _ _ _ _ h => h⟩
theorem Kp.drew {base R : Nat} {w w' : World} (h : Kp base R w w') : Kp base R w w'.drew := ⟨h.1.drew, h.2⟩
theorem Kp.alloc {base R : Nat} {w w' : World} (h : Kp base R w w') (hb : base ≤ w.heap.size) (o : Obj) : Kp base R w (w'.alloc o) :=
  ⟨h.1.trans ⟨rfl, rfl, rfl, by simp, fun k hk => Below.heap_alloc w' o k (by have := h.1.size; omega)⟩, fun g cs ty h1 h2 h3 => (h.2 g cs ty h1 h2 h3).alloc o⟩
theorem Kp.setR {base R : Nat} {w w' : World} (h : Kp base R w w') (k : Nat) (u : Value) : Kp base R w (w'.setCell ⟨R, k, none⟩ u) :=
  ⟨h.1.setCell (fun e => e.2 rfl) u, fun g cs ty h1 h2 h3 => (h.2 g cs ty h1 h2 h3).far h2 u⟩
theorem Kp.app {base R : Nat} {w w1 w2 : World} (h : Kp base R w w1) (hb : base ≤ w.heap.size) {v : Value} {l : List Nat} (ho : Own 1 nenc w1 base 3 v l) (hg : w1.grownBy w2 v.ownBlock) : Kp base R w w2 := by
  refine ⟨h.1.trans ⟨hg.os, hg.tape, hg.output, hg.size, fun k hk => hg.block k (by have := h.1.size; omega) (fun e => ?_)⟩, fun g cs ty h1 h2 h3 => ?_⟩
  · have := (World.ownsRow.lt ho k e.symm).1
    omega
  · exact (h.2 g cs ty h1 h2 h3).grown hg (Own.ne_block ho (h.2 g cs ty h1 h2 h3).heap h1)


/-- an append of one number to row t or t+1, in a region that draws its order -/
theorem step_append_n {P : Program} {ops : Array Oper} {o : Oper} {a : Act} {K : Act → World → Prop} {Q : Exit → Act → World → Prop} {E : Prop} {w : World} (hgd : o.guard = none) (s x : Operand) (t : TypeId)
    (ho : o.op = .call { callee := .builtin .append, args := #[s, x], argTypes := #[t, t] })
    (base : Nat) (e : TypeId) (i : TypeInfo) (z : Value) (ht : P.underlying t = some (.slice e)) (hi : P.info? e = some i) (hz : i.zero = some z)
    (hsize : i.size = 1) (hby : i.bytes = 8) (hzs : z.cells.size = 1)
    (v : Value) (l : List Nat) (hs : a.eval s = v) (hown : Own 1 nenc w base e v l)
    (g : Nat) (y : Nat) (hx : a.eval x = .slice (some ⟨g, 0, none⟩) 1 1)
    (h0 : w.cell? ⟨g, 0, none⟩ = some (.int .i64 y))
    (hlen : l.length ≤ 1000000) (hbase : base ≤ w.heap.size)
    (h : ∀ v' w', Own 1 nenc w base e v l → Own 1 nenc w' base e v' (l ++ [y]) → w.grownBy w' v.ownBlock → (v'.ownBlock = v.ownBlock ∨ v'.ownBlock = some w.heap.size) → K (a.put o.dst v') w') :
    if Region.wanted o (yielded ops a.tmps) = true then Oper.wp P o a w K Q else E := by
  have hw : Region.wanted o (yielded ops a.tmps) = true := by simp [Region.wanted, hgd]
  rw [if_pos hw]
  obtain ⟨v', w', hr, h2, h3, h4, h5⟩ := run_append_own_at (P := P) w base t o.type e i z 1 8 ht hi hz hsize hby hzs (by omega) v l.length (l.flatMap nenc) hown ⟨g, 0, none⟩ 1 1 (nenc y) rfl
    (by intro j u hu; match j, hu with | 0, hu => simp [nenc] at hu; subst hu; simpa [Addr.add] using h0)
    (by intro u hu; simp [nenc] at hu; subst hu; rfl) (by unfold maxLen; omega) (by omega) hbase
  have hK := h v' w' hown (Own.append1 rfl h2) h3 h5
  unfold Oper.wp execOp
  simp only [ho, resolve, invoke, builtin, Sem.run_bind, Sem.run_pure, Result.andThen_ok, List.map_toArray, List.map_cons, List.map_nil, hs, hx, hr]
  exact hK
end Go.Proofs.Ytfnklchhhojimaa

namespace Tor
open Go

/-- whatever order is picked; behind each operation of J the condition S is shown -/
def wpAnyJ (P : Program) (md : Region.Mode) (ops : Array Oper) (Q : Exit → Act → World → Prop) (S1 S2 : World → Prop) (J : Nat → Bool) : Nat → Array Bool → Act → World → Prop
  | 0, listed, a, w => Region.ready md ops listed = [] ∧ Q .normal a w
  | fuel + 1, listed, a, w =>
    (Region.ready md ops listed = [] → Q .normal a w) ∧
    ∀ i ∈ Region.ready md ops listed, wpOp P ops Q i (fun a' w' => S1 w' ∧ (J i = true → S2 w') ∧ wpAnyJ P md ops Q S1 S2 J fuel (listed.setIfInBounds i true) a' w') a w

section
variable {P : Program} {ops : Array Oper} {Q : Exit → Act → World → Prop} {md : Region.Mode} {S1 S2 T : World → Prop} {J : Nat → Bool}

theorem wpAny_of_J : ∀ (fuel : Nat) (listed : Array Bool) (a : Act) (w : World), wpAnyJ P md ops Q S1 S2 J fuel listed a w → wpAny P md ops Q fuel listed a w
  | 0, _, _, _, h => h
  | fuel + 1, _, _, _, h => ⟨h.1, fun i hi => wpOp_mono (fun a' w' h' => wpAny_of_J fuel _ a' w' h'.2.2) (h.2 i hi)⟩


/-- who is not in J waits for i -/
def waitsJ (md : Region.Mode) (ops : Array Oper) (listed : Array Bool) (J : Nat → Bool) (i : Nat) : Bool :=
  (List.range ops.size).all fun j => j == i || listed.getD j true || J j || (match ops[j]? with
    | some oj => oj.after.any fun e => Region.binds md e && e.on == i
    | none => true)

theorem wpAnyJ_first {i : Nat} {oi : Oper} {v : Value} (hi : ops[i]? = some oi) (hsel : ∀ (j : Nat) (o : Oper) cs b, ops[j]? = some o → o.op ≠ .select cs b)
    (hQ : ∀ c a w, Q (.panic c) (a.put oi.dst v) w → Q (.panic c) a w) :
    ∀ (fuel : Nat) (listed : Array Bool) (a : Act) (w : World),
      (∀ j oj, ops[j]? = some oj → j ≠ i → listed.getD j true = false → (∀ e ∈ oj.after, Region.binds md e = true → e.on ≠ i) → oi.apart ops oj = true) →
      (∀ j oj, ops[j]? = some oj → j ≠ i → listed.getD j true = false → (∀ e ∈ oj.after, Region.binds md e = true → e.on ≠ i) → (J i = true → J j = true) ∧ ∀ w, S1 w → (J j = true → S2 w) → T w) →
      i ∈ Region.ready md ops listed → YieldsIf P ops T oi v a → S1 w → (J i = true → S2 w) → T w →
      wpAnyJ P md ops Q S1 S2 J fuel (listed.setIfInBounds i true) (a.put oi.dst v) w → wpAnyJ P md ops Q S1 S2 J (fuel + 1) listed a w := by
  intro fuel
  induction fuel with
  | zero =>
    intro listed a w _ _ hr hy h1 h2 hS H
    refine ⟨fun h => (by rw [h] at hr; cases hr), fun j hj => ?_⟩
    by_cases hji : j = i
    · subst hji; exact hy.wpOp hi hS ⟨h1, h2, H⟩
    · have := ready_mono hj hji
      rw [H.1] at this
      cases this
  | succ fuel ih =>
    intro listed a w hfree hwt hr hy g1 g2 hS H
    refine ⟨fun h => (by rw [h] at hr; cases hr), fun j hj => ?_⟩
    by_cases hji : j = i
    · subst hji; exact hy.wpOp hi hS ⟨g1, g2, H⟩
    · have h1 := H.2 j (ready_mono hj hji)
      obtain ⟨hjun, oj, hoj, hall⟩ := mem_ready.1 hj
      have hnot : ∀ e ∈ oj.after, Region.binds md e = true → e.on ≠ i := fun e he hb heq => by
        have h1 := hall e he hb
        have h0 := (mem_ready.1 hr).1
        rw [heq] at h1
        rcases Nat.lt_or_ge i listed.size with h' | h'
        · simp [h'] at h0 h1; rw [h0] at h1; cases h1
        · simp [Array.getElem?_eq_none h'] at h1
      have h2 := wpOp_putIf (S := T) hoj (hfree j oj hoj hji hjun hnot) (fun cs b => hsel i oi cs b hi) (fun cs b => hsel j oj cs b hoj) hQ hy h1
      have hfree' : ∀ k ok, ops[k]? = some ok → k ≠ i → (listed.setIfInBounds j true).getD k true = false →
          (∀ e ∈ ok.after, Region.binds md e = true → e.on ≠ i) → oi.apart ops ok = true := fun k ok hk hki hun hno => by
        refine hfree k ok hk hki ?_ hno
        by_cases hjk : j = k
        · subst hjk; exact hjun
        · rw [getD_set_ne true hjk] at hun; exact hun
      have hwt' : ∀ k ok, ops[k]? = some ok → k ≠ i → (listed.setIfInBounds j true).getD k true = false →
          (∀ e ∈ ok.after, Region.binds md e = true → e.on ≠ i) → (J i = true → J k = true) ∧ ∀ w, S1 w → (J k = true → S2 w) → T w := fun k ok hk hki hun hno => by
        refine hwt k ok hk hki ?_ hno
        by_cases hjk : j = k
        · subst hjk; exact hjun
        · rw [getD_set_ne true hjk] at hun; exact hun
      obtain ⟨j1, j2⟩ := hwt j oj hoj hji hjun hnot
      refine wpOp_mono (fun a' w' h3 => ⟨h3.2.1, h3.2.2.1, ih (listed.setIfInBounds j true) a' w' hfree' hwt' (ready_mono hr (Ne.symm hji)) h3.1 h3.2.1 (fun hi => h3.2.2.1 (j1 hi)) (j2 w' h3.2.1 h3.2.2.1) ?_⟩) h2
      rw [Array.setIfInBounds_comm _ _ hji]
      exact h3.2.2.2


/-- an operation that yields wherever S1 holds -/
theorem wpAnyJ_take1 (i : Nat) {oi : Oper} {v : Value} {fuel : Nat} {listed : Array Bool} {a : Act} {w : World} (hi : ops[i]? = some oi)
    (hs : Region.noSelect ops = true) (hf : Region.free md ops listed i = true) (hJ : J i = false) (hr : (Region.ready md ops listed).contains i = true)
    (hQ : ∀ c a w, Q (.panic c) (a.put oi.dst v) w → Q (.panic c) a w) (hwant : Region.wanted oi (yielded ops a.tmps) = true) (hS : S1 w) (hy : ∀ w, S1 w → (execOp a.eval oi).run P w = .ok (.value v) w)
    (h : wpAnyJ P md ops Q S1 S2 J fuel (listed.setIfInBounds i true) (a.put oi.dst v) w) : wpAnyJ P md ops Q S1 S2 J (fuel + 1) listed a w :=
  wpAnyJ_first (T := S1) hi (Region.noSelect_spec hs) hQ fuel listed a w (Region.free_spec hi hf) (fun _ _ _ _ _ _ => ⟨fun h => (by rw [hJ] at h; cases h), fun _ h _ => h⟩) (by simpa using hr) (Or.inl ⟨hwant, hy⟩) hS (fun h => (by rw [hJ] at h; cases h)) hS h

theorem waitsJ_spec {listed : Array Bool} {i : Nat} (hwt : waitsJ md ops listed J i = true) : ∀ j oj, ops[j]? = some oj → j ≠ i → listed.getD j true = false → (∀ e ∈ oj.after, Region.binds md e = true → e.on ≠ i) → J j = true := fun j oj hoj hji hjun hnot => by
  have hjs : j < ops.size := (Array.getElem?_eq_some_iff.1 hoj).1
  unfold waitsJ at hwt
  rw [List.all_eq_true] at hwt
  have := hwt j (by simpa using hjs)
  simp only [hoj, Bool.or_eq_true, beq_iff_eq, hji, hjun, Array.any_eq_true'] at this
  rcases this with ((h1 | h1) | h1) | ⟨e, he, h1⟩
  · exact h1.elim
  · cases h1
  · exact h1
  · simp only [Bool.and_eq_true, beq_iff_eq] at h1
    exact absurd h1.2 (hnot e he h1.1)


/-- an operation that yields wherever S1 and S2 hold, for which whoever is not in J waits -/
theorem wpAnyJ_take2 (i : Nat) {oi : Oper} {v : Value} {fuel : Nat} {listed : Array Bool} {a : Act} {w : World} (hi : ops[i]? = some oi)
    (hs : Region.noSelect ops = true) (hf : Region.free md ops listed i = true) (hJ : waitsJ md ops listed J i = true) (hr : (Region.ready md ops listed).contains i = true)
    (hQ : ∀ c a w, Q (.panic c) (a.put oi.dst v) w → Q (.panic c) a w) (hwant : Region.wanted oi (yielded ops a.tmps) = true) (hS : S1 w) (hS2 : S2 w) (hy : ∀ w, S1 w ∧ S2 w → (execOp a.eval oi).run P w = .ok (.value v) w)
    (h : wpAnyJ P md ops Q S1 S2 J fuel (listed.setIfInBounds i true) (a.put oi.dst v) w) : wpAnyJ P md ops Q S1 S2 J (fuel + 1) listed a w :=
  wpAnyJ_first (T := fun w => S1 w ∧ S2 w) hi (Region.noSelect_spec hs) hQ fuel listed a w (Region.free_spec hi hf)
    (fun j oj h1 h2 h3 h4 => have hj := waitsJ_spec hJ j oj h1 h2 h3 h4; ⟨fun _ => hj, fun _ g1 g2 => ⟨g1, g2 hj⟩⟩) (by simpa using hr) (Or.inl ⟨hwant, hy⟩) hS (fun _ => hS2) ⟨hS, hS2⟩ h


/-- the operations of a list come up next, each followed by the rest -/
def NextJ (P : Program) (md : Region.Mode) (ops : Array Oper) (Q : Exit → Act → World → Prop) (S1 S2 : World → Prop) (J : Nat → Bool) (fuel : Nat) (listed : Array Bool) (a : Act) (w : World) (rs : List Nat) : Prop :=
  ∀ i ∈ rs, wpOp P ops Q i (fun a' w' => S1 w' ∧ (J i = true → S2 w') ∧ wpAnyJ P md ops Q S1 S2 J fuel (listed.setIfInBounds i true) a' w') a w
theorem NextJ.nil {fuel : Nat} {listed : Array Bool} {a : Act} {w : World} : NextJ P md ops Q S1 S2 J fuel listed a w [] := fun _ h => by cases h
theorem NextJ.cons {fuel : Nat} {listed : Array Bool} {a : Act} {w : World} {i : Nat} {o : Oper} {rs : List Nat} (ho : ops[i]? = some o)
    (h : ∀ K' : Act → World → Prop, Shut (∀ a w, S1 w → (J i = true → S2 w) → wpAnyJ P md ops Q S1 S2 J fuel (listed.setIfInBounds i true) a w → K' a w) → if Region.wanted o (yielded ops a.tmps) = true then Oper.wp P o a w K' Q else K' (a.put o.dst undef) w)
    (hs : NextJ P md ops Q S1 S2 J fuel listed a w rs) : NextJ P md ops Q S1 S2 J fuel listed a w (i :: rs) := fun j hj => by
  rcases List.mem_cons.1 hj with rfl | hj
  · exact wpOp_step ho (fun K' hK => h K' (fun a w hS h2 hW => hK a w ⟨hS, h2, hW⟩))
  · exact hs j hj
theorem wpAnyJ_ready (rs : List Nat) {fuel : Nat} {listed : Array Bool} {a : Act} {w : World} (hr : Region.ready md ops listed = rs) (hne : rs ≠ [])
    (h : NextJ P md ops Q S1 S2 J fuel listed a w rs) : wpAnyJ P md ops Q S1 S2 J (fuel + 1) listed a w :=
  ⟨fun h0 => absurd (hr ▸ h0) hne, hr ▸ h⟩
theorem wpAnyJ_done {listed : Array Bool} {a : Act} {w : World} (hr : Region.ready md ops listed = []) (h : Q .normal a w) : ∀ fuel, wpAnyJ P md ops Q S1 S2 J fuel listed a w
  | 0 => ⟨hr, h⟩
  | _ + 1 => ⟨fun _ => h, by rw [hr]; simp⟩
theorem wp_region_J (S1 S2 : World → Prop) (J : Nat → Bool) {id : Nat} {a : Act} {w : World} (hm : P.follows .mixedOrders = true)
    (h : wpAnyJ P .any ops Q S1 S2 J ops.size (Array.replicate ops.size false) a w.drew) : (Code.region id ops true).wp P Q a w :=
  wp_region_any hm (wpAny_of_J _ _ _ _ h)
end
end Tor

namespace Go.Proofs.Ytfnklchhhojimaa
open Go Go.RowKit Tor

/-- row k behind the first m works -/
def fill (l : List Tri) (m : Nat) (k : Nat) : List Nat := (List.range m).filter fun i => (l[i]?.map (·.b)) == some (k : Int) || (l[i]?.map (·.b)) == some ((k : Int) - 1)

theorem fill_zero (l : List Tri) (k : Nat) : fill l 0 k = [] := rfl
theorem fill_succ {l : List Tri} {m t : Nat} (hm : m < l.length) (ht : l[m].b = t) (k : Nat) : fill l (m + 1) k = upd2 (fill l m) t (fill l m t ++ [m]) (fill l m (t + 1) ++ [m]) k := by
  unfold fill
  rw [List.range_succ, List.filter_append]
  have e : (l[m]?.map (·.b)) = some (t : Int) := by rw [List.getElem?_eq_getElem hm]; simp [ht]
  have e2 : List.filter (fun i => (l[i]?.map (·.b)) == some (k : Int) || (l[i]?.map (·.b)) == some ((k : Int) - 1)) [m] = if k = t ∨ k = t + 1 then [m] else [] := by
    rw [List.filter_cons, List.filter_nil, e]
    by_cases h : k = t ∨ k = t + 1
    · rw [if_pos h]
      have : (some (t : Int) == some (k : Int) || some (t : Int) == some ((k : Int) - 1)) = true := by simp; omega
      rw [this]; rfl
    · rw [if_neg h]
      have : (some (t : Int) == some (k : Int) || some (t : Int) == some ((k : Int) - 1)) = false := by simp; omega
      rw [this]; rfl
  rw [e2]
  unfold upd2
  by_cases h1 : k = t
  · subst h1; simp
  · by_cases h2 : k = t + 1
    · subst h2; simp
    · rw [if_neg h1, if_neg h2, if_neg (by omega), List.append_nil]
theorem fill_len (l : List Tri) (m k : Nat) : (fill l m k).length ≤ m := by
  unfold fill
  exact Nat.le_trans (List.length_filter_le _ _) (by simp)

theorem nenc_len (x : Nat) : (nenc x).length = 1 := rfl
theorem Own.rdn {w : World} {base : Nat} {e : TypeId} {v : Value} {l : List Nat} {y : Nat} (h : Own 1 nenc w base e v (l ++ [y])) : ∃ A c, v = .slice A (l.length + 1) c := by
  obtain ⟨A, c, h1, _, _⟩ := Own.rd nenc_len h
  exact ⟨A, c, by rw [h1]; simp⟩
theorem infoInt : (Try.prog.info? 3).map (fun i => (i.zero, i.size, i.bytes)) = some (some (.int .i64 0), 1, 8) := by kernel_rfl



/-- does work i take place k? -/
def tk (l : List Tri) (k i : Nat) : Bool := (l[i]?.map (·.b)) == some (k : Int) || (l[i]?.map (·.b)) == some ((k : Int) - 1)

/-- the works that take a place and are not in M -/
def rowsOf (l : List Tri) (M : List Nat) (k : Nat) : List Nat := (List.range l.length).filter fun i => tk l k i && !M.contains i

theorem tk_iff {l : List Tri} {k i : Nat} (hi : i < l.length) : tk l k i = true ↔ l[i].b = k ∨ l[i].b = (k : Int) - 1 := by
  unfold tk
  rw [List.getElem?_eq_getElem hi]
  simp

theorem rowsOf_len (l : List Tri) (M : List Nat) (k : Nat) : (rowsOf l M k).length ≤ l.length := by
  unfold rowsOf
  exact Nat.le_trans (List.length_filter_le _ _) (by simp)
theorem rowsOf_mem {l : List Tri} {M : List Nat} {k x : Nat} (h : x ∈ rowsOf l M k) : x < l.length := by
  unfold rowsOf at h
  simpa using (List.mem_filter.1 h).1

theorem filter_head {p : Nat → Bool} {n i : Nat} {r : List Nat} (h : (List.range n).filter p = i :: r) : p i = true ∧ i < n ∧ (∀ j, j < i → p j = false) ∧ r = (List.range n).filter (fun x => p x && decide (x ≠ i)) := by
  have h1 : ((List.range n).filter p).head? = some i := by rw [h]; rfl
  rw [List.head?_filter, List.find?_range_eq_some] at h1
  refine ⟨h1.1, by simpa using h1.2.1, fun j hj => by simpa using h1.2.2 j hj, ?_⟩
  have hnd : ((List.range n).filter p).Nodup := List.Pairwise.filter _ List.nodup_range
  rw [h] at hnd
  have hni : i ∉ r := (List.nodup_cons.1 hnd).1
  have e : (List.range n).filter (fun x => p x && decide (x ≠ i)) = ((List.range n).filter p).filter (fun x => decide (x ≠ i)) := by
    rw [List.filter_filter]
    congr 1
    funext x
    rw [Bool.and_comm]
  rw [e, h, List.filter_cons, if_neg (by simp)]
  symm
  rw [List.filter_eq_self]
  intro x hx
  simp only [ne_eq, decide_eq_true_eq]
  intro e'; subst e'; exact hni hx
theorem filter_head_of {p : Nat → Bool} {n i : Nat} (h1 : p i = true) (h2 : i < n) (h3 : ∀ j, j < i → p j = false) : ∃ r, (List.range n).filter p = i :: r := by
  have h : ((List.range n).filter p).head? = some i := by
    rw [List.head?_filter, List.find?_range_eq_some]
    exact ⟨h1, by simpa using h2, fun j hj => by simp [h3 j hj]⟩
  cases e : (List.range n).filter p with
  | nil => rw [e] at h; cases h
  | cons x r => rw [e] at h; simp at h; exact ⟨r, by rw [h]⟩


/-- work i is ready: not made, and no earlier one that is not made touches it -/
def rdy (l : List Tri) (M : List Nat) (i : Nat) : Prop := ∃ hi : i < l.length, i ∉ M ∧ ∀ j (hj : j < i), j ∉ M → ¬ (l[j].b - l[i].b ≤ 1 ∧ l[i].b - l[j].b ≤ 1)

theorem front_rdy {l : List Tri} {M : List Nat} {a i : Nat} (h : front (rowsOf l M) a = some i) : rdy l M i ∧ ∃ hi : i < l.length, l[i].b = a := by
  obtain ⟨_, r1, r2, h1, h2⟩ := frontZ_some h
  obtain ⟨p1, hi, n1, _⟩ := filter_head h1
  obtain ⟨p2, _, n2, _⟩ := filter_head h2
  simp only [Bool.and_eq_true, Bool.not_eq_true', List.contains_eq_mem, decide_eq_false_iff_not] at p1 p2
  have e1 := (tk_iff hi).1 p1.1
  have e2 := (tk_iff hi).1 p2.1
  have hb : l[i].b = a := by omega
  refine ⟨⟨hi, p1.2, fun j hj hjM ht => ?_⟩, hi, hb⟩
  have hjl : j < l.length := by omega
  have m1 := n1 j hj
  have m2 := n2 j hj
  have nc : M.contains j = false := by simpa using hjM
  rw [nc] at m1 m2
  simp only [Bool.not_false, Bool.and_true] at m1 m2
  have m1' : ¬ (tk l a j = true) := by rw [m1]; simp
  have m2' : ¬ (tk l (a + 1) j = true) := by rw [m2]; simp
  rw [tk_iff hjl] at m1' m2'
  omega

theorem front_of_rdy {l : List Tri} {M : List Nat} {a i : Nat} (h : rdy l M i) (hb : ∀ hi : i < l.length, l[i].b = a) : front (rowsOf l M) a = some i := by
  obtain ⟨hi, hM, hn⟩ := h
  have hb := hb hi
  have nc : M.contains i = false := by simpa using hM
  have aux : ∀ k, (k = a ∨ k = a + 1) → ∃ r, rowsOf l M k = i :: r := fun k hk => by
    refine filter_head_of ?_ hi (fun j hj => ?_)
    · rw [nc, (tk_iff hi).2 (by omega)]; rfl
    · by_cases hjM : j ∈ M
      · have : M.contains j = true := by simpa using hjM
        rw [this]; simp
      · have h1 := hn j hj hjM
        have : ¬ (tk l k j = true) := by rw [tk_iff (by omega)]; omega
        simp [this]
  obtain ⟨r1, h1⟩ := aux a (Or.inl rfl)
  obtain ⟨r2, h2⟩ := aux (a + 1) (Or.inr rfl)
  unfold front
  rw [h1, h2]
  simp

theorem pop_rows {l : List Tri} {M : List Nat} {a i : Nat} (h : front (rowsOf l M) a = some i) : pop (rowsOf l M) a = rowsOf l (M ++ [i]) := by
  obtain ⟨_, hi, hb⟩ := front_rdy h
  obtain ⟨_, r1, r2, h1, h2⟩ := frontZ_some h
  have aux : ∀ (k : Nat) r, rowsOf l M k = i :: r → r = rowsOf l (M ++ [i]) k := fun k r hr => by
    obtain ⟨_, _, _, e⟩ := filter_head hr
    rw [e]
    unfold rowsOf
    congr 1
    funext x
    by_cases hx : x = i <;> simp [hx, Bool.and_assoc]
  funext k
  unfold pop
  split
  · rename_i hk
    rcases hk with rfl | rfl
    · rw [h1]; exact aux _ _ h1
    · rw [h2]; exact aux _ _ h2
  · rename_i hk
    unfold rowsOf
    refine List.filter_congr (fun x hx => ?_)
    have hx' : x < l.length := by simpa using hx
    by_cases e : x = i
    · subst e
      have : ¬ (tk l k x = true) := by rw [tk_iff hx']; omega
      simp [this]
    · simp [e]


/-- what the sweep makes, in which order -/
theorem swp_rows {l : List Tri} {h s : Nat} : ∀ (n a : Nat) (M : List Nat), (swp h s n a (rowsOf l M)).2 = rowsOf l (M ++ (swp h s n a (rowsOf l M)).1)
  | 0, a, M => by simp [swp]
  | n + 1, a, M => by
    unfold swp
    split
    · cases hf : front (rowsOf l M) a with
      | none => simp only [swp_rows n (a + 1) M]
      | some i =>
        simp only [pop_rows hf, swp_rows n (max h (a - 1)) (M ++ [i])]
        simp
    · simp


/-- all that the sweep makes is new, and each once -/
theorem swp_new {l : List Tri} {h s : Nat} : ∀ (n a : Nat) (M : List Nat), M.Nodup → (∀ x ∈ M, x < l.length) → (M ++ (swp h s n a (rowsOf l M)).1).Nodup ∧ ∀ x ∈ M ++ (swp h s n a (rowsOf l M)).1, x < l.length
  | 0, a, M, hM, hl => by simpa [swp] using ⟨hM, hl⟩
  | n + 1, a, M, hM, hl => by
    unfold swp
    split
    · cases hf : front (rowsOf l M) a with
      | none => exact swp_new n (a + 1) M hM hl
      | some i =>
        obtain ⟨⟨hi, hiM, _⟩, _⟩ := front_rdy hf
        have h1 : (M ++ [i]).Nodup := by
          rw [List.nodup_append]
          exact ⟨hM, by simp, fun x hx y hy e => by simp at hy; subst hy; subst e; exact hiM hx⟩
        have h2 : ∀ x ∈ M ++ [i], x < l.length := fun x hx => by
          rcases List.mem_append.1 hx with hx | hx
          · exact hl x hx
          · simp at hx; subst hx; exact hi
        have := swp_new (h := h) (s := s) n (max h (a - 1)) (M ++ [i]) h1 h2
        simp only [pop_rows hf]
        simpa using this
    · simpa using ⟨hM, hl⟩

theorem swp_some_ne {h s : Nat} {f : Nat → List Nat} {b i : Nat} (hf : front f b = some i) (hb : b + 1 < h + s) : ∀ (n a : Nat), a ≤ b → b - a < n → (swp h s n a f).1 ≠ []
  | 0, _, _, h => absurd h (by omega)
  | n + 1, a, h1, h2 => by
    unfold swp
    rw [if_pos (by omega)]
    cases hfa : front f a with
    | none =>
      have : a ≠ b := fun e => by subst e; rw [hf] at hfa; cases hfa
      exact swp_some_ne hf hb n (a + 1) (by omega) (by omega)
    | some j => simp

theorem bestUpto_max (f : Nat → Nat) : ∀ n k, k < n → f k ≤ f (bestUpto f n)
  | 0, _, h => absurd h (by omega)
  | n + 1, k, h => by
    unfold bestUpto
    by_cases e : k = n
    · subst e
      split
      · exact Nat.le_refl _
      · omega
    · have := bestUpto_max f n k (by omega)
      split <;> omega
theorem bestUpto_lt (f : Nat → Nat) : ∀ n, 0 < n → bestUpto f n < n
  | 0, h => absurd h (by omega)
  | n + 1, _ => by
    unfold bestUpto
    split
    · omega
    · by_cases h : n = 0
      · subst h; simp [bestUpto]
      · have := bestUpto_lt f n (by omega); omega

theorem len_of_all : ∀ (n : Nat) (M : List Nat), (∀ i, i < n → i ∈ M) → n ≤ M.length
  | 0, _, _ => Nat.zero_le _
  | n + 1, M, h => by
    have hm := h n (by omega)
    have := len_of_all n (M.erase n) (fun i hi => (List.mem_erase_of_ne (by omega)).2 (h i (by omega)))
    rw [List.length_erase_of_mem hm] at this
    have := List.length_pos_of_mem hm
    omega
theorem len_of_nodup : ∀ (n : Nat) (M : List Nat), M.Nodup → (∀ x ∈ M, x < n) → M.length ≤ n
  | 0, M, _, h => by
    cases M with
    | nil => simp
    | cons x r => exact absurd (h x (by simp)) (by omega)
  | n + 1, M, hn, h => by
    have := len_of_nodup n (M.erase n) (hn.erase n) (fun x hx => by
      have h1 := h x (List.mem_of_mem_erase hx)
      have h2 : x ≠ n := fun e => by subst e; exact (List.Nodup.not_mem_erase hn) hx
      omega)
    rw [List.length_erase] at this
    split at this <;> omega
theorem exists_not_mem {n : Nat} {M : List Nat} (h : M.length < n) : ∃ i, i < n ∧ i ∉ M ∧ ∀ j, j < i → j ∈ M := by
  have h1 : ∃ i, i < n ∧ i ∉ M := by
    refine Classical.byContradiction fun hc => ?_
    have hs : ∀ i, i < n → i ∈ M := fun i hi => Classical.byContradiction fun hm => hc ⟨i, hi, hm⟩
    have := len_of_all n M hs
    omega
  obtain ⟨i, hi, hm⟩ := h1
  induction i using Nat.strongRecOn with
  | _ i ih =>
    by_cases hall : ∀ j, j < i → j ∈ M
    · exact ⟨i, hi, hm, hall⟩
    · simp only [Classical.not_forall] at hall
      obtain ⟨j, hj, hjm⟩ := hall
      exact ih j hj (by omega) hjm


/-- a place from which something can be made -/
theorem much_pos {l : List Tri} {M : List Nat} {p s N : Nat} (hM : M.length < l.length) (hb : ∀ (k : Nat) (hk : k < l.length), 0 ≤ l[k].b ∧ l[k].b ≤ (p : Int) - 2) (h2 : 2 ≤ s) (hsp : s ≤ p) (hN : s ≤ N) :
    0 < offN s N (rowsOf l M) (bestUpto (offN s N (rowsOf l M)) (p - s + 1)) := by
  obtain ⟨i, hi, hiM, hall⟩ := exists_not_mem hM
  obtain ⟨b, hb'⟩ : ∃ b : Nat, l[i].b = b := ⟨l[i].b.toNat, by have := hb i hi; omega⟩
  have hbd := hb i hi
  have hr : rdy l M i := ⟨hi, hiM, fun j hj hjM => absurd (hall j hj) hjM⟩
  have hf := front_of_rdy (a := b) hr (fun _ => hb')
  have h1 := bestUpto_max (offN s N (rowsOf l M)) (p - s + 1) (min b (p - s)) (by omega)
  have h3 : 0 < offN s N (rowsOf l M) (min b (p - s)) := by
    unfold offN
    exact List.length_pos_iff.2 (swp_some_ne hf (by omega) N _ (by omega) (by omega))
  omega

theorem sum_filter_le {p : Nat → Nat → Bool} (hp : ∀ i m, sumTo (fun k => if p k i then [0] else []) m ≤ 2) (R : List Nat) (m : Nat) : sumTo (fun k => R.filter (p k)) m ≤ 2 * R.length := by
  induction R with
  | nil => simp only [List.filter_nil, List.length_nil]; clear hp; induction m with
    | zero => simp [sumTo]
    | succ m ih => simp only [sumTo]; simpa using ih
  | cons x R ih =>
    have e : sumTo (fun k => (x :: R).filter (p k)) m = sumTo (fun k => R.filter (p k)) m + sumTo (fun k => if p k x then [0] else []) m := by
      clear ih hp
      induction m with
      | zero => simp [sumTo]
      | succ m ih =>
        show sumTo (fun k => (x :: R).filter (p k)) m + ((x :: R).filter (p m)).length = sumTo (fun k => R.filter (p k)) m + (R.filter (p m)).length + (sumTo (fun k => if p k x then [0] else []) m + (if p m x then [0] else []).length)
        rw [ih, List.filter_cons]
        split <;> simp <;> omega
    have := hp x m
    rw [e, List.length_cons]
    omega

theorem sumTo_rowsOf (l : List Tri) (M : List Nat) (m : Nat) : sumTo (rowsOf l M) m ≤ 2 * l.length := by
  have h := sum_filter_le (p := fun k i => tk l k i && !M.contains i) (fun i m => ?_) (List.range l.length) m
  · rw [List.length_range] at h; exact h
  · have aux : ∀ m, sumTo (fun k => if (tk l k i && !M.contains i) = true then [0] else []) m ≤ (if ∃ x, l[i]?.map (·.b) = some x ∧ x < m then 1 else 0) + (if ∃ x, l[i]?.map (·.b) = some x ∧ x + 1 < m then 1 else 0) := fun m => by
      induction m with
      | zero => simp [sumTo]
      | succ m ih =>
        simp only [sumTo]
        cases hl : l[i]?.map (·.b) with
        | none =>
          have : tk l m i = false := by unfold tk; rw [hl]; rfl
          simp only [hl, this] at ih ⊢
          simpa using ih
        | some x =>
          simp only [hl, Option.some.injEq, exists_eq_left'] at ih ⊢
          have ht : tk l m i = true → x = m ∨ x = (m : Int) - 1 := fun h => by unfold tk at h; rw [hl] at h; simpa using h
          by_cases h0 : (tk l m i && !M.contains i) = true
          · rw [if_pos h0]
            have := ht (by simp only [Bool.and_eq_true] at h0; exact h0.1)
            simp only [List.length_singleton]
            rcases this with rfl | rfl
            · rw [if_neg (by omega), if_neg (by omega)] at ih
              rw [if_pos (by omega)]
              split <;> omega
            · rw [if_pos (by omega), if_neg (by omega)] at ih
              rw [if_pos (by omega), if_pos (by omega)]
              omega
          · rw [if_neg h0]
            simp only [List.length_nil, Nat.add_zero]
            refine Nat.le_trans ih ?_
            split <;> split <;> split <;> split <;> omega
    refine Nat.le_trans (aux m) ?_
    split <;> split <;> omega

theorem off_le {l : List Tri} {M : List Nat} {s N h : Nat} (hn : M.Nodup) (hl : ∀ x ∈ M, x < l.length) : M.length + offN s N (rowsOf l M) h ≤ l.length := by
  obtain ⟨h1, h2⟩ := swp_new (h := h) (s := s) N h M hn hl
  have := len_of_nodup _ _ h1 h2
  rw [List.length_append] at this
  exact this
theorem fill_all (l : List Tri) : fill l l.length = rowsOf l [] := by
  funext k
  unfold fill rowsOf tk
  simp

theorem fam_end {w : World} {base : Nat} {cs : Array Value} {l : List Tri} {m t : Nat} {v1 v2 : Value} (hcs : cs.size = 24) (ht : t + 1 < 24) (hm : m < l.length) (hb : l[m].b = t)
    (h : Fam2 w base (fun k => cs.getD k undef) (fill l m) t v1 (fill l m t ++ [m]) v2 (fill l m (t + 1) ++ [m])) :
    FamV w base (fun k => ((cs.setIfInBounds t v1).setIfInBounds (t + 1) v2).getD k undef) (fill l (m + 1)) := by
  refine FamV.congr h (fun k hk => ?_) (fun k hk => fill_succ hm hb k)
  unfold upd2
  by_cases e1 : k = t
  · subst e1
    simp [Array.getD, hcs, show k < 24 by omega]
  · by_cases e2 : k = t + 1
    · subst e2
      simp [Array.getD, hcs, ht]
    · rw [if_neg e1, if_neg e2]
      have h1 : ¬ t = k := fun e => e1 e.symm
      have h2 : ¬ t + 1 = k := fun e => e2 e.symm
      simp [Array.getD, hcs, hk, Array.getElem_setIfInBounds, h1, h2]

theorem fam_rows {w : World} {base R : Nat} {cs : Array Value} {ty : TypeId} {f : Nat → List Nat} (hcs : cs.size = 24) (hR : R < base) (hb : Blk w R ty cs) (h : FamV w base (fun k => cs.getD k undef) f) : RowsAt w R w.heap.size f := fun k hk => by
  have ho := h.1 k hk
  obtain ⟨A, c, hv, hc, hd⟩ := Own.rd nenc_len ho
  have e : cs[k]? = some (.slice A (f k).length c) := by
    rw [← hv]
    simp [Array.getD, hcs, hk]
  refine ⟨A, c, hb.cell k _ e, hc, hb.frozen k, hd, fun hne g o z hA => ?_⟩
  obtain ⟨b, o', e', _, _⟩ := hd hne
  rw [e'] at hA
  simp only [Option.some.injEq, Addr.mk.injEq] at hA
  have h1 := (World.ownsRow.lt ho b (by rw [hv, e']; rfl)).1
  omega


/-- the quick instructions -/
def qloop (l : List Tri) (p s N : Nat) : Nat → List Nat → List Tri
  | 0, _ => []
  | n + 1, M => if M.length < l.length then
      ⟨1, bestUpto (offN s N (rowsOf l M)) (p - s + 1), .empty⟩ :: ((swp (bestUpto (offN s N (rowsOf l M)) (p - s + 1)) s N (bestUpto (offN s N (rowsOf l M)) (p - s + 1)) (rowsOf l M)).1.map (stepAt l) ++ qloop l p s N n (M ++ (swp (bestUpto (offN s N (rowsOf l M)) (p - s + 1)) s N (bestUpto (offN s N (rowsOf l M)) (p - s + 1)) (rowsOf l M)).1))
    else []

theorem qloop_step {l : List Tri} {P S N gk h : Nat} {M : List Nat} (hlt : M.length < l.length) (hh : bestUpto (offN S N (rowsOf l M)) (P - S + 1) = h) (hg : 0 < gk) :
    qloop l P S N gk M = ⟨1, h, .empty⟩ :: ((swp h S N h (rowsOf l M)).1.map (stepAt l) ++ qloop l P S N (gk - 1) (M ++ (swp h S N h (rowsOf l M)).1)) := by
  obtain ⟨g, rfl⟩ : ∃ g, gk = g + 1 := ⟨gk - 1, by omega⟩
  subst hh
  rw [qloop, if_pos hlt]
  rfl
theorem qloop_end {l : List Tri} {P S N gk : Nat} {M : List Nat} (hlt : ¬ M.length < l.length) : qloop l P S N gk M = [] := by
  cases gk with
  | zero => rfl
  | succ g => rw [qloop, if_neg hlt]

theorem Own.rdn_far {w : World} {base : Nat} {e : TypeId} {v : Value} {l : List Nat} (h : Own 1 nenc w base e v l) :
    ∃ A c, v = .slice A l.length c ∧ ∀ w', (∀ k, base ≤ k → k < w.heap.size → w'.heap[k]? = w.heap[k]?) → RdN w' w.heap.size A l := by
  obtain ⟨A, c, hv, _, hd⟩ := Own.rd nenc_len h
  refine ⟨A, c, hv, fun w' hw => fun hl => ?_⟩
  obtain ⟨b, o, e', hb, hc⟩ := hd hl
  have h1 := (World.ownsRow.lt h b (by rw [hv, e']; rfl)).1
  exact ⟨b, o, e', hb, fun k x hx j u hu => (World.cell?_of_block (w := w) (hw b h1 hb)).trans (hc k x hx j u hu)⟩
theorem Blk.same {w w' : World} {g : Nat} {t : TypeId} {cs : Array Value} {S : Nat → Prop} (h : Blk w g t cs) (hs : Same S w w') (hg : S g) : Blk w' g t cs := (hs.block g hg).trans h
theorem Same.below_mono {B : Nat} {S : Nat → Prop} {w w' : World} (h : Below B w w') (hS : ∀ k, S k → k < B) : Same S w w' := (Same.of_below h).mono hS
theorem outInv_start (w : World) : OutInv (w.heap.size + 1) w.heap.size (w.heap.size + 1) [] 0 ((w.alloc (.cells #[.slice none 0 0] 22)).alloc (.cells #[.int .i64 0] 3)) := by
  refine ⟨.slice none 0 0, (Blk.new w _ _).alloc _, Own.nil _ _ _, ?_⟩
  have := Blk.new (w.alloc (.cells #[.slice none 0 0] 22)) 3 #[.int .i64 0]
  rw [World.size_alloc] at this
  exact this
theorem OutInv.next {base ob mb k : Nat} {done : List Tri} {w : World} {k' : Int} (h : OutInv base ob mb done k w) (hk : k' = k) : OutInv base ob w.heap.size done k (w.alloc (.cells #[.int .i64 k'] 3)) := by
  obtain ⟨v, h1, h2, h3⟩ := h
  subst hk
  exact ⟨v, h1.alloc _, h2.alloc _, Blk.new w _ _⟩
theorem OutInv.put {base ob mb k : Nat} {done : List Tri} {w : World} {v' : Value} {v : Value} (ho : Blk w ob 22 #[v]) (hm : Blk w mb 3 #[.int .i64 k]) (hown : Own 3 Tri.enc w base 45 v' done) (hb : ob < base) (hne : ob ≠ mb) :
    OutInv base ob mb done k (w.setCell ⟨ob, 0, none⟩ v') :=
  ⟨v', ho.set_ 0 v', Own.far hown hb _, hm.far (p := ⟨ob, 0, none⟩) (fun e => hne e.symm) _⟩

end Go.Proofs.Ytfnklchhhojimaa

namespace Go.Proofs.Ytfnklchhhojimaa
open Go Go.RowKit Tor

theorem wpList_append_n {P : Program} {ops : Array Oper} {rest : List Oper} {o : Oper} {a : Act} {Q : Exit → Act → World → Prop} {w : World} (hgd : o.guard = none) (s x : Operand) (t : TypeId)
    (ho : o.op = .call { callee := .builtin .append, args := #[s, x], argTypes := #[t, t] })
    (base : Nat) (e : TypeId) (i : TypeInfo) (z : Value) (ht : P.underlying t = some (.slice e)) (hi : P.info? e = some i) (hz : i.zero = some z)
    (hsize : i.size = 1) (hby : i.bytes = 8) (hzs : z.cells.size = 1)
    (v : Value) (l : List Nat) (hs : a.eval s = v) (hown : Own 1 nenc w base e v l)
    (g : Nat) (y : Nat) (hx : a.eval x = .slice (some ⟨g, 0, none⟩) 1 1)
    (h0 : w.cell? ⟨g, 0, none⟩ = some (.int .i64 y))
    (hlen : l.length ≤ 1000000) (hbase : base ≤ w.heap.size)
    (h : ∀ v' w', Own 1 nenc w' base e v' (l ++ [y]) → w.grownBy w' v.ownBlock → wpList P ops Q rest (a.put o.dst v') w') : wpList P ops Q (o :: rest) a w := by
  refine wpList_append_own w hgd s x t ho base e i z 1 8 ht hi hz hsize hby hzs (by omega) v l.length (l.flatMap nenc) hs hown ⟨g, 0, none⟩ 1 1 (nenc y) hx rfl ?_ ?_ (by unfold maxLen; omega) (by omega) hbase
    (fun v' w' a b _ => h v' w' (Own.append1 rfl a) b)
  · intro j u hu
    match j, hu with
    | 0, hu => simp [nenc] at hu; subst hu; simpa [Addr.add] using h0
  · intro u hu
    simp [nenc] at hu; subst hu; rfl

theorem keepS {base R rb wb : Nat} {w0 w' : World} {tr tw : TypeId} {v u0 u1 u2 : Value} (hr : Blk w0 rb tr #[v]) (hw : Blk w0 wb tw #[u0, u1, u2]) (h1 : tr ≠ 3) (h2 : tw ≠ 3) (h3 : rb ≠ R) (h4 : wb ≠ R) (hk : Kp base R w0 w') :
    w'.cell? ⟨rb, 0, none⟩ = some v ∧ w'.cell? ⟨wb, 1, none⟩ = some u1 := ⟨(hk.2 _ _ _ h1 h3 hr).cell 0 v rfl, (hk.2 _ _ _ h2 h4 hw).cell 1 u1 rfl⟩

theorem cell_new {w : World} {v : Value} {t : TypeId} {n : Nat} (h : n = w.heap.size) : (w.alloc (.cells #[v] t)).cell? ⟨n, 0, none⟩ = some v := by subst h; exact (Blk.new w t #[v]).cell 0 v rfl
theorem cell_old {w : World} {o : Obj} {p : Addr} {v : Value} (h : w.cell? p = some v) : (w.alloc o).cell? p = some v := by
  rw [World.cell?_alloc_lt _ _ _ (World.block_lt_of_cell? w _ h)]; exact h
theorem cell_drew {w : World} {p : Addr} {v : Value} (h : w.cell? p = some v) : w.drew.cell? p = some v := h



end Go.Proofs.Ytfnklchhhojimaa
