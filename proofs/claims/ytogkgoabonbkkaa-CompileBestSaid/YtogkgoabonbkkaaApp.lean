/- append of one element onto an owned row. -/
import Derived.Test.YtogkgoabonbkkaaCheck3
import Derived.Deep.RegionHeld3
set_option linter.unusedSimpArgs false
set_option linter.unusedVariables false
namespace Tor
open Go Go.RowKit

theorem _root_.Tor.Rd.triAt {w : World} {B b o : Nat} {l : List Tri} (h : RdT w B (some ⟨b, o, none⟩) l) {k : Nat} (hk : k < l.length) :
    b < B ∧ w.cell? ⟨b, o + k * 3, none⟩ = some (.int .i64 l[k].a) ∧
      w.cell? ⟨b, o + k * 3 + 1, none⟩ = some (.int .i64 l[k].b) ∧ w.cell? ⟨b, o + k * 3 + 2, none⟩ = some (.string l[k].s) := by
  obtain ⟨b', o', e, h0, h1, h2, h3⟩ := h.tri hk
  simp only [Option.some.injEq, Addr.mk.injEq, and_true] at e
  obtain ⟨rfl, rfl⟩ := e
  exact ⟨h0, h1, h2, h3⟩

theorem Own.append1 {α : Type} {sz : Nat} {enc : α → List Value} {w : World} {base : Nat} {e : TypeId} {v : Value} {l : List α} {y : α} (henc : (enc y).length = sz)
    (h : w.ownsRow base e sz v (l.length + 1) (l.flatMap enc ++ enc y)) : Own sz enc w base e v (l ++ [y]) := by
  unfold Own
  simpa using h

theorem tri_one (x : Tri) : ∀ u ∈ x.enc, u.oneCell' = true := by
  intro u hu
  simp only [Tri.enc, List.mem_cons, List.not_mem_nil, or_false] at hu
  rcases hu with rfl | rfl | rfl <;> rfl
theorem int_one (x : Int) : ∀ u ∈ ienc x, u.oneCell' = true := by
  intro u hu
  simp only [ienc, List.mem_cons, List.not_mem_nil, or_false] at hu
  rcases hu with rfl; rfl

theorem Own.alloc {α : Type} {sz : Nat} {enc : α → List Value} {w : World} {base : Nat} {e : TypeId} {v : Value} {l : List α} (h : Own sz enc w base e v l) (o : Obj) : Own sz enc (w.alloc o) base e v l :=
  World.ownsRow.alloc h o
theorem Own.drewN {α : Type} {sz : Nat} {enc : α → List Value} {w : World} {base : Nat} {e : TypeId} {v : Value} {l : List α} (h : Own sz enc w base e v l) (n : Nat) : Own sz enc (w.drewN n) base e v l := h

/-- an owned row stays owned where what was there stays as it was -/
theorem Own.below {α : Type} {sz : Nat} {enc : α → List Value} {w w' : World} {base : Nat} {e : TypeId} {v : Value} {l : List α} (h : Own sz enc w base e v l) (hB : Below w.heap.size w w') : Own sz enc w' base e v l := by
  obtain ⟨h1, h2⟩ := h
  refine ⟨h1, ?_⟩
  rcases h2 with h2 | ⟨g, cap, cur, hv, hg, hh, r⟩
  · exact Or.inl h2
  · refine Or.inr ⟨g, cap, cur, hv, hg, ?_, r⟩
    rw [hB.block g ?_]; exact hh
    rcases Nat.lt_or_ge g w.heap.size with h | h
    · exact h
    · rw [Array.getElem?_eq_none h] at hh; cases hh

theorem Own.base {α : Type} {sz : Nat} {enc : α → List Value} {w : World} {base base' : Nat} {e : TypeId} {v : Value} {l : List α} (h : Own sz enc w base e v l) (hb : base' ≤ base) : Own sz enc w base' e v l := by
  obtain ⟨h1, h2⟩ := h
  refine ⟨h1, ?_⟩
  rcases h2 with h2 | ⟨g, cap, cur, hv, hg, r⟩
  · exact Or.inl h2
  · exact Or.inr ⟨g, cap, cur, hv, Nat.le_trans hb hg, r⟩

/-- behind append: what was below the owned rows' base is as it was -/
theorem Own.grown {α : Type} {sz : Nat} {enc : α → List Value} {W w w' : World} {base : Nat} {e : TypeId} {v : Value} {l : List α} (h : Own sz enc w base e v l) (hB : Below base W w) (hg : w.grownBy w' v.ownBlock) (hs : base ≤ w.heap.size) : Below base W w' :=
  hB.grown hg hs (fun k hk => (World.ownsRow.lt h k hk).1)

/-- a block of the call's own whose element type is another one is not the row that is written -/
theorem Own.ne_block {α : Type} {sz : Nat} {enc : α → List Value} {w : World} {base : Nat} {e : TypeId} {v : Value} {l : List α} (h : Own sz enc w base e v l) {g : Nat} {cs : Array Value} {t : TypeId} {z : Nat × Nat} (hg : w.heap[g]? = some (.cells cs t z)) (ht : t ≠ e) : some g ≠ v.ownBlock := by
  intro hk
  obtain ⟨_, h2⟩ := h
  rcases h2 with ⟨rfl, _⟩ | ⟨g', cap, cur, rfl, _, hh, _⟩
  · simp [Value.ownBlock] at hk
  · simp only [Value.ownBlock, Option.some.injEq] at hk
    subst hk
    rw [hh] at hg
    simp only [Option.some.injEq, Obj.cells.injEq] at hg
    exact ht hg.2.1.symm

theorem wpList_append_tri {P : Program} {ops : Array Oper} {rest : List Oper} {o : Oper} {a : Act} {Q : Exit → Act → World → Prop} {w : World} (hgd : o.guard = none) (s x : Operand) (t : TypeId)
    (ho : o.op = .call { callee := .builtin .append, args := #[s, x], argTypes := #[t, t] })
    (base : Nat) (e : TypeId) (i : TypeInfo) (z : Value) (ht : P.underlying t = some (.slice e)) (hi : P.info? e = some i) (hz : i.zero = some z)
    (hsize : i.size = 3) (hby : i.bytes = 32) (hzs : z.cells.size = 3)
    (v : Value) (l : List Tri) (hs : a.eval s = v) (hown : Own 3 Tri.enc w base e v l)
    (g : Nat) (y : Tri) (hx : a.eval x = .slice (some ⟨g, 0, none⟩) 1 1)
    (h0 : w.cell? ⟨g, 0, none⟩ = some (.int .i64 y.a)) (h1 : w.cell? ⟨g, 1, none⟩ = some (.int .i64 y.b)) (h2 : w.cell? ⟨g, 2, none⟩ = some (.string y.s))
    (hlen : l.length ≤ 1000000) (hbase : base ≤ w.heap.size)
    (h : ∀ v' w', Own 3 Tri.enc w' base e v' (l ++ [y]) → w.grownBy w' v.ownBlock → wpList P ops Q rest (a.put o.dst v') w') : wpList P ops Q (o :: rest) a w := by
  refine wpList_append_own w hgd s x t ho base e i z 3 32 ht hi hz hsize hby hzs (by omega) v l.length (l.flatMap Tri.enc) hs hown ⟨g, 0, none⟩ 1 1 y.enc hx rfl ?_ (tri_one y) (by unfold maxLen; omega) (by omega) hbase
    (fun v' w' a b _ => h v' w' (Own.append1 rfl a) b)
  intro j u hu
  match j, hu with
  | 0, hu => simp [Tri.enc] at hu; subst hu; exact h0
  | 1, hu => simp [Tri.enc] at hu; subst hu; simpa [Addr.add] using h1
  | 2, hu => simp [Tri.enc] at hu; subst hu; simpa [Addr.add] using h2
end Tor

namespace Go.Proofs.Ytogkgoabonbkkaa
open Go Go.RowKit Tor
theorem infoStep : (Try.prog.info? 63).map (fun i => (i.zero, i.size, i.bytes)) = some (some (.agg #[.int .i64 0, .int .i64 0, .string ⟨#[]⟩]), 3, 32) := by kernel_rfl
theorem infoWork : (Try.prog.info? 57).map (fun i => (i.zero, i.size, i.bytes)) = some (some (.agg #[.int .i64 0, .int .i64 0, .string ⟨#[]⟩]), 3, 32) := by kernel_rfl

/-- how many works from one on are in reach -/
def runN (l : List Tri) (h s : Int) : Nat := (l.takeWhile (fun x => heldB h s x.b)).length

theorem runN_step {l : List Tri} {i : Nat} {h s : Int} (hi : i < l.length) (hh : heldB h s l[i].b = true) : runN (l.drop i) h s = runN (l.drop (i + 1)) h s + 1 := by
  rw [List.drop_eq_getElem_cons hi]
  unfold runN
  rw [List.takeWhile_cons, if_pos hh]
  rfl
theorem runN_stop {l : List Tri} {i : Nat} {h s : Int} (hi : i < l.length) (hh : heldB h s l[i].b = false) : runN (l.drop i) h s = 0 := by
  rw [List.drop_eq_getElem_cons hi]
  unfold runN
  rw [List.takeWhile_cons, if_neg (by simp [hh])]
  rfl
theorem runN_end {l : List Tri} {i : Nat} {h s : Int} (hi : ¬ i < l.length) : runN (l.drop i) h s = 0 := by
  rw [List.drop_of_length_le (by omega)]; rfl

theorem run_any (p : Int) (A : Option Addr) (l : List Tri) (c : Nat) (i : Nat) (h s : Int) (w : World) (H : Nat) (hr : RdT w H A l) (hH : H ≤ w.heap.size)
    (hb : ∀ (k : Nat) (hk : k < l.length), 0 ≤ l[k].b ∧ l[k].b ≤ 100) (hl : l.length ≤ 1000000) (b1 : -1000 ≤ h) (b2 : h ≤ 1000) (b3 : -1000 ≤ s) (b4 : s ≤ 1000) (hi : i ≤ l.length) :
    Calls Try.prog 76 #[.agg #[.int .i64 p, .slice A l.length c], .int .i64 i, .int .i64 h, .int .i64 s] w (Ret (.int .i64 (runN (l.drop i) h s)) w) := by
  have HH := Lib.hid hb
  clear hb
  go_enter Try.func76, Try.ntmps76
  go_wp2
  go_loopw [9, 10] (fun n k wr => ∃ (j m : Nat), j ≤ l.length ∧ k = .int .i64 j ∧ n = .int .i64 m ∧ Hid (runN (l.drop i) h s = m + runN (l.drop j) h s) ∧ m ≤ j ∧ Below (w.heap.size + 1) (w.alloc (.cells #[.int .i64 p, .slice A l.length c] 24)) wr) (fun _ k _ => l.length - (intOf k).toNat)
  case atStart => exact ⟨i, 0, hi, rfl, rfl, by simp [Hid], by omega, Below.refl _ _⟩
  case round =>
    obtain ⟨j, m, hj, rfl, rfl, hinv, hmj, hB⟩ := hrel
    have hN1 := box_cell hB 1 (.slice A l.length c) rfl
    by_cases hlt : j < l.length
    · obtain ⟨b, o, rfl, hb0, h0, h1, h2⟩ := (hr.below' (box_below hB) hH).tri hlt
      have hbd := HH.out j hlt
      cases hheld : heldB h s l[j].b
      · have HD := Lib.hid hheld
        clear hheld
        go_wp2_with (go_at_call 69; refine (held_any _ _ _ _ b1 b2 b3 b4 (by omega) (by omega)).mono ?_; rintro e w1 ⟨rfl, hB1⟩; rw [HD.out])
        go_ret
        exact Ret.int (by rw [hinv.out, runN_stop hlt HD.out]; simp) ((box_below hB).trans (hB1.mono (Nat.le_of_lt (box_lt hB))))
      · have HD := Lib.hid hheld
        clear hheld
        go_wp2_with (go_at_call 69; refine (held_any _ _ _ _ b1 b2 b3 b4 (by omega) (by omega)).mono ?_; rintro e w1 ⟨rfl, hB1⟩; rw [HD.out])
        go_roundw
        case rel => exact ⟨j + 1, m + 1, by omega, by go_num, by go_num, by have h1 := hinv.out; have h2 := runN_step hlt HD.out; show _ = _; omega, by omega, hB.trans (hB1.mono (by have := box_lt hB; omega))⟩
        case measure => simp [intOf]; omega
    · go_wp2
      go_ret
      exact Ret.int (by rw [hinv.out, runN_end hlt]; simp) (box_below hB)
end Go.Proofs.Ytogkgoabonbkkaa
