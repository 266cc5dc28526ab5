/- Rows of works of one's own: an empty one, a whole slice appended (in a region that draws its order), works that are stored. -/
import Derived.Test.YtoccplfnjammjaaGreatDoorDTrA
import Derived.Test.YtoccplfnjammjaaGreatDoorTRow
set_option linter.unusedSimpArgs false
set_option linter.unusedVariables false
namespace Go.Proofs.YtoccplfnjammjaaGreatDoor
open Go Go.RowKit Tor

theorem own_empty (w : World) (base : Nat) (hb : base ≤ w.heap.size) (T : TypeId) : Own 3 Tri.enc (w.alloc (.cells #[] T)) base T (.slice (some ⟨w.heap.size, 0, none⟩) 0 0) ([] : List Tri) := by
  refine ⟨rfl, Or.inr ⟨w.heap.size, 0, #[], rfl, hb, heap_alloc_new _ _, Nat.le_refl _, by simp, ?_, ?_⟩⟩
  · simp
  · simp
theorem step_append_tris {P : Program} {ops : Array Oper} {o : Oper} {a : Act} {K : Act → World → Prop} {Q : Exit → Act → World → Prop} {E : Prop} {w : World} (hgd : o.guard = none) (s x : Operand) (t : TypeId)
    (ho : o.op = .call { callee := .builtin .append, args := #[s, x], argTypes := #[t, t] })
    (base : Nat) (e : TypeId) (i : TypeInfo) (z : Value) (ht : P.underlying t = some (.slice e)) (hi : P.info? e = some i) (hz : i.zero = some z)
    (hsize : i.size = 3) (hby : i.bytes = 32) (hzs : z.cells.size = 3)
    (v : Value) (acc : List Tri) (hs : a.eval s = v) (hown : Own 3 Tri.enc w base e v acc)
    (ao : Option Addr) (ws : List Tri) (c H : Nat) (hx : a.eval x = .slice ao ws.length c) (hnone : ao = none → c = 0) (hr : RdT w H ao ws)
    (hlen : acc.length ≤ 1000000) (hlen2 : ws.length ≤ 1000000) (hbase : base ≤ w.heap.size)
    (h : ∀ v' w', Own 3 Tri.enc w' base e v' (acc ++ ws) → w.grownBy w' v.ownBlock → K (a.put o.dst v') w') :
    if Region.wanted o (yielded ops a.tmps) = true then Oper.wp P o a w K Q else E := by
  have hw : Region.wanted o (yielded ops a.tmps) = true := by simp [Region.wanted, hgd]
  rw [if_pos hw]
  cases ao with
  | some ad =>
    obtain ⟨v', w', hrn, h2, h3, h4, h5⟩ := run_append_own_at (P := P) w base t o.type e i z 3 32 ht hi hz hsize hby hzs (by omega) v acc.length (acc.flatMap Tri.enc) hown ad ws.length c (ws.flatMap Tri.enc) (flat_tri_len ws)
      (rdT_news' hr) (flat_one ws) (by unfold maxLen; omega) (by omega) hbase
    have hK := h v' w' (by unfold Own; rw [List.length_append, List.flatMap_append]; exact h2) h3
    unfold Oper.wp execOp
    simp only [ho, resolve, invoke, builtin, Sem.run_bind, Sem.run_pure, Result.andThen_ok, List.map_toArray, List.map_cons, List.map_nil, hs, hx, hrn]
    exact hK
  | none =>
    have hw0 : ws = [] := by
      cases ws with
      | nil => rfl
      | cons y r => obtain ⟨b, o, e, _⟩ := hr (by simp); cases e
    subst hw0
    have hc := hnone rfl
    subst hc
    have hrun := run_append_owned_none (P := P) w base t o.type e i 3 ht hi _ acc.length (acc.flatMap Tri.enc) hown
    rw [List.length_nil] at hx
    have hK := h v w (by simpa using hown) (World.grownBy.refl _ _)
    unfold Oper.wp execOp
    simp only [ho, resolve, invoke, builtin, Sem.run_bind, Sem.run_pure, Result.andThen_ok, List.map_toArray, List.map_cons, List.map_nil, hs, hx, hrun]
    exact hK
section
variable {T : TypeId} {w : World} {base g cap : Nat} {l : List Tri}
theorem xAt_set {l : List Tri} {i : Nat} (h : i < l.length) (y : Tri) : xAt (l.set i y) i = y := by rw [xAt_of (by simpa using h)]; simp
/-- a whole work is stored -/
theorem TRow.set3 (h : TRow T w base g cap l) {i : Nat} (hi : i < l.length) (y : Tri) :
    TRow T (((w.setCell ⟨g, i * 3, none⟩ (.int .i64 y.a)).setCell ⟨g, i * 3 + 1, none⟩ (.int .i64 y.b)).setCell ⟨g, i * 3 + 2, none⟩ (.string y.s)) base g cap (l.set i y) := by
  have h0 := h.set_ (i := i) (j := 0) (y := ⟨y.a, (xAt l i).b, (xAt l i).s⟩) (u := .int .i64 y.a) hi (by omega) rfl
  have h1 := h0.set_ (i := i) (j := 1) (y := ⟨y.a, y.b, (xAt l i).s⟩) (u := .int .i64 y.b) (by simpa using hi) (by omega) (by rw [xAt_set hi]; rfl)
  have h2 := h1.set_ (i := i) (j := 2) (y := y) (u := .string y.s) (by simpa using hi) (by omega) (by rw [List.set_set, xAt_set hi]; rfl)
  simpa using h2
end
end Go.Proofs.YtoccplfnjammjaaGreatDoor
