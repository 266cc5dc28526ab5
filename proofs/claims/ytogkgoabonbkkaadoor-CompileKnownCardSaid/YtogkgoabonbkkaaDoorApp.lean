/- append of one element onto an owned row. -/
import Derived.Test.YtogkgoabonbkkaaDoorCheck3
import Derived.Deep.RegionHeld3
set_option linter.unusedSimpArgs false
set_option linter.unusedVariables false
namespace Tor
open Go Go.RowKit

theorem _root_.Tor.Rd.triAt {w : World} {B b o : Nat} {l : List Tri} (h : RdT w B (some ⟨b, o, none⟩) l) {k : Nat} (hk : k < l.length) :
    b < B ∧ w.cell? ⟨b, o + k * 3, none⟩ = some (.int .i64 l[k].a) ∧
      w.cell? ⟨b, o + k * 3 + 1, none⟩ = some (.int .i64 l[k].b) ∧ w.cell? ⟨b, o + k * 3 + 2, none⟩ = some (.string l[k].s) := by
  obtain ⟨b', o', e, h0, h1, h2, h3⟩ := h.tri hk
  simp only [Option.some.injEq, Addr.mk.injEq, and_true] at e
  obtain ⟨rfl, rfl⟩ := e
  exact ⟨h0, h1, h2, h3⟩

theorem Own.append1 {α : Type} {sz : Nat} {enc : α → List Value} {w : World} {base : Nat} {e : TypeId} {v : Value} {l : List α} {y : α} (henc : (enc y).length = sz)
    (h : w.ownsRow base e sz v (l.length + 1) (l.flatMap enc ++ enc y)) : Own sz enc w base e v (l ++ [y]) := by
  unfold Own
  simpa using h

theorem tri_one (x : Tri) : ∀ u ∈ x.enc, u.oneCell' = true := by
  intro u hu
  simp only [Tri.enc, List.mem_cons, List.not_mem_nil, or_false] at hu
  rcases hu with rfl | rfl | rfl <;> rfl
theorem int_one (x : Int) : ∀ u ∈ ienc x, u.oneCell' = true := by
  intro u hu
  simp only [ienc, List.mem_cons, List.not_mem_nil, or_false] at hu
  rcases hu with rfl; rfl

theorem Own.alloc {α : Type} {sz : Nat} {enc : α → List Value} {w : World} {base : Nat} {e : TypeId} {v : Value} {l : List α} (h : Own sz enc w base e v l) (o : Obj) : Own sz enc (w.alloc o) base e v l :=
  World.ownsRow.alloc h o
theorem Own.drewN {α : Type} {sz : Nat} {enc : α → List Value} {w : World} {base : Nat} {e : TypeId} {v : Value} {l : List α} (h : Own sz enc w base e v l) (n : Nat) : Own sz enc (w.drewN n) base e v l := h


/-- an owned row stays owned where what was there stays as it was -/
theorem Own.below {α : Type} {sz : Nat} {enc : α → List Value} {w w' : World} {base : Nat} {e : TypeId} {v : Value} {l : List α} (h : Own sz enc w base e v l) (hB : Below w.heap.size w w') : Own sz enc w' base e v l := by
  obtain ⟨h1, h2⟩ := h
  refine ⟨h1, ?_⟩
  rcases h2 with h2 | ⟨g, cap, cur, hv, hg, hh, r⟩
  · exact Or.inl h2
  · refine Or.inr ⟨g, cap, cur, hv, hg, ?_, r⟩
    rw [hB.block g ?_]; exact hh
    rcases Nat.lt_or_ge g w.heap.size with h | h
    · exact h
    · rw [Array.getElem?_eq_none h] at hh; cases hh

theorem Own.base {α : Type} {sz : Nat} {enc : α → List Value} {w : World} {base base' : Nat} {e : TypeId} {v : Value} {l : List α} (h : Own sz enc w base e v l) (hb : base' ≤ base) : Own sz enc w base' e v l := by
  obtain ⟨h1, h2⟩ := h
  refine ⟨h1, ?_⟩
  rcases h2 with h2 | ⟨g, cap, cur, hv, hg, r⟩
  · exact Or.inl h2
  · exact Or.inr ⟨g, cap, cur, hv, Nat.le_trans hb hg, r⟩


/-- behind append: what was below the owned rows' base is as it was -/
theorem Own.grown {α : Type} {sz : Nat} {enc : α → List Value} {W w w' : World} {base : Nat} {e : TypeId} {v : Value} {l : List α} (h : Own sz enc w base e v l) (hB : Below base W w) (hg : w.grownBy w' v.ownBlock) (hs : base ≤ w.heap.size) : Below base W w' :=
  hB.grown hg hs (fun k hk => (World.ownsRow.lt h k hk).1)


/-- a block of the call's own whose element type is another one is not the row that is written -/
theorem Own.ne_block {α : Type} {sz : Nat} {enc : α → List Value} {w : World} {base : Nat} {e : TypeId} {v : Value} {l : List α} (h : Own sz enc w base e v l) {g : Nat} {cs : Array Value} {t : TypeId} {z : Nat × Nat} (hg : w.heap[g]? = some (.cells cs t z)) (ht : t ≠ e) : some g ≠ v.ownBlock := by
  intro hk
  obtain ⟨_, h2⟩ := h
  rcases h2 with ⟨rfl, _⟩ | ⟨g', cap, cur, rfl, _, hh, _⟩
  · simp [Value.ownBlock] at hk
  · simp only [Value.ownBlock, Option.some.injEq] at hk
    subst hk
    rw [hh] at hg
    simp only [Option.some.injEq, Obj.cells.injEq] at hg
    exact ht hg.2.1.symm

theorem wpList_append_tri {P : Program} {ops : Array Oper} {rest : List Oper} {o : Oper} {a : Act} {Q : Exit → Act → World → Prop} {w : World} (hgd : o.guard = none) (s x : Operand) (t : TypeId)
    (ho : o.op = .call { callee := .builtin .append, args := #[s, x], argTypes := #[t, t] })
    (base : Nat) (e : TypeId) (i : TypeInfo) (z : Value) (ht : P.underlying t = some (.slice e)) (hi : P.info? e = some i) (hz : i.zero = some z)
    (hsize : i.size = 3) (hby : i.bytes = 32) (hzs : z.cells.size = 3)
    (v : Value) (l : List Tri) (hs : a.eval s = v) (hown : Own 3 Tri.enc w base e v l)
    (g : Nat) (y : Tri) (hx : a.eval x = .slice (some ⟨g, 0, none⟩) 1 1)
    (h0 : w.cell? ⟨g, 0, none⟩ = some (.int .i64 y.a)) (h1 : w.cell? ⟨g, 1, none⟩ = some (.int .i64 y.b)) (h2 : w.cell? ⟨g, 2, none⟩ = some (.string y.s))
    (hlen : l.length ≤ 1000000) (hbase : base ≤ w.heap.size)
    (h : ∀ v' w', Own 3 Tri.enc w' base e v' (l ++ [y]) → w.grownBy w' v.ownBlock → wpList P ops Q rest (a.put o.dst v') w') : wpList P ops Q (o :: rest) a w := by
  refine wpList_append_own w hgd s x t ho base e i z 3 32 ht hi hz hsize hby hzs (by omega) v l.length (l.flatMap Tri.enc) hs hown ⟨g, 0, none⟩ 1 1 y.enc hx rfl ?_ (tri_one y) (by unfold maxLen; omega) (by omega) hbase
    (fun v' w' a b _ => h v' w' (Own.append1 rfl a) b)
  intro j u hu
  match j, hu with
  | 0, hu => simp [Tri.enc] at hu; subst hu; exact h0
  | 1, hu => simp [Tri.enc] at hu; subst hu; simpa [Addr.add] using h1
  | 2, hu => simp [Tri.enc] at hu; subst hu; simpa [Addr.add] using h2
end Tor

namespace Go.Proofs.YtogkgoabonbkkaaDoor
open Go Go.RowKit Tor
theorem infoStep : (Tryd.prog.info? 33).map (fun i => (i.zero, i.size, i.bytes)) = some (some (.agg #[.int .i64 0, .int .i64 0, .string ⟨#[]⟩]), 3, 32) := by kernel_rfl
theorem infoWork : (Tryd.prog.info? 46).map (fun i => (i.zero, i.size, i.bytes)) = some (some (.agg #[.int .i64 0, .int .i64 0, .string ⟨#[]⟩]), 3, 32) := by kernel_rfl


/-- how many works from one on are in reach -/
def runN (l : List Tri) (h s : Int) : Nat := (l.takeWhile (fun x => heldB h s x.b)).length

theorem runN_step {l : List Tri} {i : Nat} {h s : Int} (hi : i < l.length) (hh : heldB h s l[i].b = true) : runN (l.drop i) h s = runN (l.drop (i + 1)) h s + 1 := by
  rw [List.drop_eq_getElem_cons hi]
  unfold runN
  rw [List.takeWhile_cons, if_pos hh]
  rfl
theorem runN_stop {l : List Tri} {i : Nat} {h s : Int} (hi : i < l.length) (hh : heldB h s l[i].b = false) : runN (l.drop i) h s = 0 := by
  rw [List.drop_eq_getElem_cons hi]
  unfold runN
  rw [List.takeWhile_cons, if_neg (by simp [hh])]
  rfl
theorem runN_end {l : List Tri} {i : Nat} {h s : Int} (hi : ¬ i < l.length) : runN (l.drop i) h s = 0 := by
  rw [List.drop_of_length_le (by omega)]; rfl

end Go.Proofs.YtogkgoabonbkkaaDoor
