/- The rows while Quick fills them: a family of owned rows. -/
import Derived.Test.YtogkgoabonbkkaaDoorQuick2
import Derived.Maps.AppendAt
import Derived.Deep.RegionHeld3
set_option linter.unusedSimpArgs false
set_option linter.unusedVariables false
namespace Go.Proofs.YtogkgoabonbkkaaDoor
open Go Go.RowKit Tor

def FamV (w : World) (base : Nat) (vs : Nat → Value) (f : Nat → List Nat) : Prop :=
  (∀ k, k < 24 → Own 1 nenc w base 3 (vs k) (f k)) ∧ ∀ j k, j < 24 → k < 24 → j ≠ k → (vs j).ownBlock = none ∨ (vs j).ownBlock ≠ (vs k).ownBlock

def upd2 {α : Type} (g : Nat → α) (t : Nat) (a b : α) : Nat → α := fun k => if k = t then a else if k = t + 1 then b else g k

def Fam2 (w : World) (base : Nat) (vs : Nat → Value) (f : Nat → List Nat) (t : Nat) (x1 : Value) (l1 : List Nat) (x2 : Value) (l2 : List Nat) : Prop :=
  FamV w base (upd2 vs t x1 x2) (upd2 f t l1 l2)

theorem FamV.start {w : World} {base : Nat} {vs : Nat → Value} {f : Nat → List Nat} (h : FamV w base vs f) (t : Nat) : Fam2 w base vs f t (vs t) (f t) (vs (t + 1)) (f (t + 1)) := by
  have e1 : upd2 vs t (vs t) (vs (t + 1)) = vs := by funext k; unfold upd2; split; · rename_i e; rw [e]
                                                     · split; · rename_i e; rw [e]
                                                       · rfl
  have e2 : upd2 f t (f t) (f (t + 1)) = f := by funext k; unfold upd2; split; · rename_i e; rw [e]
                                                 · split; · rename_i e; rw [e]
                                                   · rfl
  rw [Fam2, e1, e2]; exact h

theorem FamV.alloc {w : World} {base : Nat} {vs : Nat → Value} {f : Nat → List Nat} (h : FamV w base vs f) (o : Obj) : FamV (w.alloc o) base vs f := ⟨fun k hk => (h.1 k hk).alloc o, h.2⟩
theorem FamV.drew {w : World} {base : Nat} {vs : Nat → Value} {f : Nat → List Nat} (h : FamV w base vs f) : FamV w.drew base vs f := h
theorem FamV.set_ {w : World} {base : Nat} {vs : Nat → Value} {f : Nat → List Nat} (h : FamV w base vs f) {p : Addr} (hp : p.block < base) (u : Value) : FamV (w.setCell p u) base vs f := ⟨fun k hk => Own.far (h.1 k hk) hp u, h.2⟩
theorem FamV.below {w w' : World} {base : Nat} {vs : Nat → Value} {f : Nat → List Nat} (h : FamV w base vs f) (hB : Below w.heap.size w w') : FamV w' base vs f := ⟨fun k hk => (h.1 k hk).below hB, h.2⟩

theorem FamV.lt {w : World} {base : Nat} {vs : Nat → Value} {f : Nat → List Nat} (h : FamV w base vs f) {k : Nat} (hk : k < 24) {g : Nat} (hg : (vs k).ownBlock = some g) : g < w.heap.size := (World.ownsRow.lt (h.1 k hk) g hg).2

theorem FamV.app {w w' : World} {base : Nat} {vs : Nat → Value} {f : Nat → List Nat} {t : Nat} {v' : Value} {l' : List Nat} (h : FamV w base vs f) (ht : t < 24) (hg : w.grownBy w' (vs t).ownBlock) (ho : Own 1 nenc w' base 3 v' l') (hb : v'.ownBlock = (vs t).ownBlock ∨ v'.ownBlock = some w.heap.size) :
    FamV w' base (fun k => if k = t then v' else vs k) (fun k => if k = t then l' else f k) := by
  refine ⟨fun k hk => ?_, fun j k hj hk hjk => ?_⟩
  · by_cases e : k = t
    · simp only [e, if_true]; exact ho
    · simp only [e, if_false]
      exact World.ownsRow.kept (h.1 k hk) hg (h.2 k t hk ht e)
  · by_cases e1 : j = t
    · by_cases e2 : k = t
      · exact absurd (e1.trans e2.symm) hjk
      · simp only [e1, e2, if_true, if_false]
        rcases hb with hb | hb
        · rw [hb]
          exact h.2 t k ht hk (fun e => e2 e.symm)
        · right
          rw [hb]
          intro e
          exact absurd (h.lt hk e.symm) (Nat.lt_irrefl _)
    · by_cases e2 : k = t
      · simp only [e1, e2, if_true, if_false]
        rcases hb with hb | hb
        · rw [hb]
          exact h.2 j t hj ht e1
        · cases hv : (vs j).ownBlock with
          | none => left; rfl
          | some g =>
            right
            rw [hb]
            intro e
            simp only [Option.some.injEq] at e
            have := h.lt hj hv
            omega
      · simp only [e1, e2, if_false]
        exact h.2 j k hj hk hjk

theorem FamV.congr {w : World} {base : Nat} {vs vs' : Nat → Value} {f f' : Nat → List Nat} (h : FamV w base vs f) (hv : ∀ k, k < 24 → vs' k = vs k) (hf : ∀ k, k < 24 → f' k = f k) : FamV w base vs' f' := by
  refine ⟨fun k hk => ?_, fun j k hj hk hjk => ?_⟩
  · rw [hv k hk, hf k hk]; exact h.1 k hk
  · rw [hv j hj, hv k hk]; exact h.2 j k hj hk hjk

theorem Fam2.own1 {w : World} {base : Nat} {vs : Nat → Value} {f : Nat → List Nat} {t : Nat} {x1 x2 : Value} {l1 l2 : List Nat} (h : Fam2 w base vs f t x1 l1 x2 l2) (ht : t + 1 < 24) : Own 1 nenc w base 3 x1 l1 := by
  have := h.1 t (by omega); simpa [upd2] using this
theorem Fam2.own2 {w : World} {base : Nat} {vs : Nat → Value} {f : Nat → List Nat} {t : Nat} {x1 x2 : Value} {l1 l2 : List Nat} (h : Fam2 w base vs f t x1 l1 x2 l2) (ht : t + 1 < 24) : Own 1 nenc w base 3 x2 l2 := by
  have := h.1 (t + 1) ht; simpa [upd2] using this
theorem Fam2.app1 {w w' : World} {base : Nat} {vs : Nat → Value} {f : Nat → List Nat} {t : Nat} {x1 x2 v' : Value} {l1 l2 l' : List Nat} (h : Fam2 w base vs f t x1 l1 x2 l2) (ht : t + 1 < 24) (hg : w.grownBy w' x1.ownBlock) (ho : Own 1 nenc w' base 3 v' l') (hb : v'.ownBlock = x1.ownBlock ∨ v'.ownBlock = some w.heap.size) : Fam2 w' base vs f t v' l' x2 l2 := by
  have e : upd2 vs t x1 x2 t = x1 := by simp [upd2]
  have := FamV.app (t := t) h (by omega) (by rw [e]; exact hg) ho (by rw [e]; exact hb)
  refine this.congr (fun k _ => ?_) (fun k _ => ?_) <;> (unfold upd2; split <;> simp_all)
theorem Fam2.app2 {w w' : World} {base : Nat} {vs : Nat → Value} {f : Nat → List Nat} {t : Nat} {x1 x2 v' : Value} {l1 l2 l' : List Nat} (h : Fam2 w base vs f t x1 l1 x2 l2) (ht : t + 1 < 24) (hg : w.grownBy w' x2.ownBlock) (ho : Own 1 nenc w' base 3 v' l') (hb : v'.ownBlock = x2.ownBlock ∨ v'.ownBlock = some w.heap.size) : Fam2 w' base vs f t x1 l1 v' l' := by
  have e : upd2 vs t x1 x2 (t + 1) = x2 := by simp [upd2]
  have := FamV.app (t := t + 1) h ht (by rw [e]; exact hg) ho (by rw [e]; exact hb)
  refine this.congr (fun k _ => ?_) (fun k _ => ?_) <;> (unfold upd2; by_cases e1 : k = t <;> by_cases e2 : k = t + 1 <;> simp_all)
theorem Fam2.alloc {w : World} {base : Nat} {vs : Nat → Value} {f : Nat → List Nat} {t : Nat} {x1 x2 : Value} {l1 l2 : List Nat} (h : Fam2 w base vs f t x1 l1 x2 l2) (o : Obj) : Fam2 (w.alloc o) base vs f t x1 l1 x2 l2 := FamV.alloc h o
theorem Fam2.drew {w : World} {base : Nat} {vs : Nat → Value} {f : Nat → List Nat} {t : Nat} {x1 x2 : Value} {l1 l2 : List Nat} (h : Fam2 w base vs f t x1 l1 x2 l2) : Fam2 w.drew base vs f t x1 l1 x2 l2 := h
theorem Fam2.set_ {w : World} {base : Nat} {vs : Nat → Value} {f : Nat → List Nat} {t : Nat} {x1 x2 : Value} {l1 l2 : List Nat} (h : Fam2 w base vs f t x1 l1 x2 l2) {p : Addr} (hp : p.block < base) (u : Value) : Fam2 (w.setCell p u) base vs f t x1 l1 x2 l2 := FamV.set_ h hp u


/-- what the round's operations keep: blocks below base but R, blocks that are no row -/
def Kp (base R : Nat) (w w' : World) : Prop := Same (fun j => j < base ∧ j ≠ R) w w' ∧ ∀ g cs ty, ty ≠ 3 → g ≠ R → Blk w g ty cs → Blk w' g ty cs
theorem Kp.refl (base R : Nat) (w : World) : Kp base R w w := ⟨Same.refl _ _, fun _ _ _ _ _ h => h⟩
theorem Kp.drew {base R : Nat} {w w' : World} (h : Kp base R w w') : Kp base R w w'.drew := ⟨h.1.drew, h.2⟩
theorem Kp.alloc {base R : Nat} {w w' : World} (h : Kp base R w w') (hb : base ≤ w.heap.size) (o : Obj) : Kp base R w (w'.alloc o) :=
  ⟨h.1.trans ⟨rfl, rfl, rfl, by simp, fun k hk => Below.heap_alloc w' o k (by have := h.1.size; omega)⟩, fun g cs ty h1 h2 h3 => (h.2 g cs ty h1 h2 h3).alloc o⟩
theorem Kp.setR {base R : Nat} {w w' : World} (h : Kp base R w w') (k : Nat) (u : Value) : Kp base R w (w'.setCell ⟨R, k, none⟩ u) :=
  ⟨h.1.setCell (fun e => e.2 rfl) u, fun g cs ty h1 h2 h3 => (h.2 g cs ty h1 h2 h3).far h2 u⟩
theorem Kp.app {base R : Nat} {w w1 w2 : World} (h : Kp base R w w1) (hb : base ≤ w.heap.size) {v : Value} {l : List Nat} (ho : Own 1 nenc w1 base 3 v l) (hg : w1.grownBy w2 v.ownBlock) : Kp base R w w2 := by
  refine ⟨h.1.trans ⟨hg.os, hg.tape, hg.output, hg.size, fun k hk => hg.block k (by have := h.1.size; omega) (fun e => ?_)⟩, fun g cs ty h1 h2 h3 => ?_⟩
  · have := (World.ownsRow.lt ho k e.symm).1
    omega
  · exact (h.2 g cs ty h1 h2 h3).grown hg (Own.ne_block ho (h.2 g cs ty h1 h2 h3).heap h1)


/-- an append of one number to row t or t+1, in a region that draws its order -/
theorem step_append_n {P : Program} {ops : Array Oper} {o : Oper} {a : Act} {K : Act → World → Prop} {Q : Exit → Act → World → Prop} {E : Prop} {w : World} (hgd : o.guard = none) (s x : Operand) (t : TypeId)
    (ho : o.op = .call { callee := .builtin .append, args := #[s, x], argTypes := #[t, t] })
    (base : Nat) (e : TypeId) (i : TypeInfo) (z : Value) (ht : P.underlying t = some (.slice e)) (hi : P.info? e = some i) (hz : i.zero = some z)
    (hsize : i.size = 1) (hby : i.bytes = 8) (hzs : z.cells.size = 1)
    (v : Value) (l : List Nat) (hs : a.eval s = v) (hown : Own 1 nenc w base e v l)
    (g : Nat) (y : Nat) (hx : a.eval x = .slice (some ⟨g, 0, none⟩) 1 1)
    (h0 : w.cell? ⟨g, 0, none⟩ = some (.int .i64 y))
    (hlen : l.length ≤ 1000000) (hbase : base ≤ w.heap.size)
    (h : ∀ v' w', Own 1 nenc w base e v l → Own 1 nenc w' base e v' (l ++ [y]) → w.grownBy w' v.ownBlock → (v'.ownBlock = v.ownBlock ∨ v'.ownBlock = some w.heap.size) → K (a.put o.dst v') w') :
    if Region.wanted o (yielded ops a.tmps) = true then Oper.wp P o a w K Q else E := by
  have hw : Region.wanted o (yielded ops a.tmps) = true := by simp [Region.wanted, hgd]
  rw [if_pos hw]
  obtain ⟨v', w', hr, h2, h3, h4, h5⟩ := run_append_own_at (P := P) w base t o.type e i z 1 8 ht hi hz hsize hby hzs (by omega) v l.length (l.flatMap nenc) hown ⟨g, 0, none⟩ 1 1 (nenc y) rfl
    (by intro j u hu; match j, hu with | 0, hu => simp [nenc] at hu; subst hu; simpa [Addr.add] using h0)
    (by intro u hu; simp [nenc] at hu; subst hu; rfl) (by unfold maxLen; omega) (by omega) hbase
  have hK := h v' w' hown (Own.append1 rfl h2) h3 h5
  unfold Oper.wp execOp
  simp only [ho, resolve, invoke, builtin, Sem.run_bind, Sem.run_pure, Result.andThen_ok, List.map_toArray, List.map_cons, List.map_nil, hs, hx, hr]
  exact hK
end Go.Proofs.YtogkgoabonbkkaaDoor
