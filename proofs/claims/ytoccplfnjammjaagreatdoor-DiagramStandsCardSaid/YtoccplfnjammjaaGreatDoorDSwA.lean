/- Merged: TRow DApp DSwapM. -/
import Derived.Test.YtoccplfnjammjaaGreatDoorOldB
import Derived.Test.YtoccplfnjammjaaGreatDoorDTrA
set_option linter.unusedSimpArgs false
set_option linter.unusedVariables false
namespace Go.Proofs.YtoccplfnjammjaaGreatDoor
open Go Go.RowKit Tor

/-- an owned row of steps (or works) at a block -/
def TRow (T : TypeId) (w : World) (base g cap : Nat) (l : List Tri) : Prop := Own 3 Tri.enc w base T (.slice (some ⟨g, 0, none⟩) l.length cap) l

theorem flat_tri_len (l : List Tri) : (l.flatMap Tri.enc).length = l.length * 3 := by
  induction l with
  | nil => rfl
  | cons x r ih => rw [List.flatMap_cons, List.length_append, ih]; simp [Tri.enc]; omega
theorem flat_set : ∀ (l : List Tri) (i j : Nat) (y : Tri) (u : Value), i < l.length → j < 3 → y.enc = (xAt l i).enc.set j u → (l.flatMap Tri.enc).set (i * 3 + j) u = (l.set i y).flatMap Tri.enc
  | [], i, j, y, u, hi, _, _ => by simp at hi
  | x :: r, 0, j, y, u, _, hj, hy => by
    have hy' : y.enc = x.enc.set j u := by simpa [xAt] using hy
    rw [List.flatMap_cons, List.set_cons_zero, List.flatMap_cons, hy', Nat.zero_mul, Nat.zero_add, List.set_append_left _ _ (by simp [Tri.enc]; omega)]
  | x :: r, i + 1, j, y, u, hi, hj, hy => by
    have ih := flat_set r i j y u (by simpa using hi) hj (by simpa [xAt] using hy)
    rw [List.flatMap_cons, List.set_cons_succ, List.flatMap_cons, ← ih, List.set_append_right _ _ (by simp [Tri.enc]; omega)]
    congr 2
    simp [Tri.enc]; omega

section
variable {T : TypeId} {w w' : World} {base g cap : Nat} {l : List Tri}
theorem TRow.heap (h : TRow T w base g cap l) : base ≤ g ∧ g < w.heap.size ∧ l.length ≤ cap ∧ ∃ cur, w.heap[g]? = some (.cells cur T (0, 0)) := by
  rcases h.2 with ⟨h', _⟩ | ⟨g', cap', cur, h', hb, hg, hn, _⟩
  · simp at h'
  · simp only [Value.slice.injEq, Option.some.injEq, Addr.mk.injEq, and_true, true_and] at h'
    obtain ⟨rfl, rfl⟩ := h'
    exact ⟨hb, (Array.getElem?_eq_some_iff.1 hg).1, hn, cur, hg⟩
theorem TRow.lt (h : TRow T w base g cap l) : g < w.heap.size := h.heap.2.1
theorem TRow.rd (h : TRow T w base g cap l) : RdT w w.heap.size (some ⟨g, 0, none⟩) l := by
  obtain ⟨A, c, e, _, hr⟩ := Own.rd tri_len h
  injection e with e1 _ _
  rw [e1]; exact hr
theorem TRow.cells (h : TRow T w base g cap l) {i : Nat} (hi : i < l.length) :
    w.cell? ⟨g, i * 3, none⟩ = some (.int .i64 (xAt l i).a) ∧ w.cell? ⟨g, i * 3 + 1, none⟩ = some (.int .i64 (xAt l i).b) ∧ w.cell? ⟨g, i * 3 + 2, none⟩ = some (.string (xAt l i).s) := by
  obtain ⟨b, o, e, _, h0, h1, h2⟩ := Rd.tri h.rd hi
  injection e with e
  injection e with e1 e2 _
  subst e1; subst e2
  rw [xAt_of hi]
  simp only [Nat.zero_add] at h0 h1 h2
  exact ⟨h0, h1, h2⟩
theorem TRow.frozen (h : TRow T w base g cap l) (i : Nat) : w.frozen? ⟨g, i, none⟩ = false := by
  have h' := h
  unfold TRow Own at h'
  exact h'.frozenAt i
theorem TRow.below (h : TRow T w base g cap l) (hB : Below w.heap.size w w') : TRow T w' base g cap l := Own.below h hB
theorem TRow.alloc (h : TRow T w base g cap l) (o : Obj) : TRow T (w.alloc o) base g cap l := Own.alloc h o
theorem TRow.drew (h : TRow T w base g cap l) : TRow T w.drew base g cap l := h
theorem TRow.set_ (h : TRow T w base g cap l) {i j : Nat} {y : Tri} {u : Value} (hi : i < l.length) (hj : j < 3) (hy : y.enc = (xAt l i).enc.set j u) :
    TRow T (w.setCell ⟨g, i * 3 + j, none⟩ u) base g cap (l.set i y) := by
  have h' := h
  unfold TRow Own at h' ⊢
  obtain ⟨h1, h2⟩ := h'.stored (i * 3 + j) u
  rw [flat_set l i j y u hi hj hy] at h1
  rw [List.length_set]
  exact h1
/-- a row of n > 0 has an address -/
theorem TRow.of {v : Value} (hl : l ≠ []) (h : Own 3 Tri.enc w base T v l) : ∃ g cap, v = .slice (some ⟨g, 0, none⟩) l.length cap ∧ TRow T w base g cap l := by
  have h2 := h.2
  rcases h2 with ⟨_, h0⟩ | ⟨g, cap, cur, hv, _⟩
  · exact absurd (List.eq_nil_of_length_eq_zero h0) hl
  · subst hv
    exact ⟨g, cap, rfl, h⟩
theorem TRow.own (h : TRow T w base g cap l) : Own 3 Tri.enc w base T (.slice (some ⟨g, 0, none⟩) l.length cap) l := h
end
end Go.Proofs.YtoccplfnjammjaaGreatDoor

namespace Go.Proofs.YtoccplfnjammjaaGreatDoor
open Go Go.RowKit Tor

theorem own_empty (w : World) (base : Nat) (hb : base ≤ w.heap.size) (T : TypeId) : Own 3 Tri.enc (w.alloc (.cells #[] T)) base T (.slice (some ⟨w.heap.size, 0, none⟩) 0 0) ([] : List Tri) := by
  refine ⟨rfl, Or.inr ⟨w.heap.size, 0, #[], rfl, hb, heap_alloc_new _ _, Nat.le_refl _, by simp, ?_, ?_⟩⟩
  · simp
  · simp
theorem step_append_tris {P : Program} {ops : Array Oper} {o : Oper} {a : Act} {K : Act → World → Prop} {Q : Exit → Act → World → Prop} {E : Prop} {w : World} (hgd : o.guard = none) (s x : Operand) (t : TypeId)
    (ho : o.op = .call { callee := .builtin .append, args := #[s, x], argTypes := #[t, t] })
    (base : Nat) (e : TypeId) (i : TypeInfo) (z : Value) (ht : P.underlying t = some (.slice e)) (hi : P.info? e = some i) (hz : i.zero = some z)
    (hsize : i.size = 3) (hby : i.bytes = 32) (hzs : z.cells.size = 3)
    (v : Value) (acc : List Tri) (hs : a.eval s = v) (hown : Own 3 Tri.enc w base e v acc)
    (ao : Option Addr) (ws : List Tri) (c H : Nat) (hx : a.eval x = .slice ao ws.length c) (hnone : ao = none → c = 0) (hr : RdT w H ao ws)
    (hlen : acc.length ≤ 1000000) (hlen2 : ws.length ≤ 1000000) (hbase : base ≤ w.heap.size)
    (h : ∀ v' w', Own 3 Tri.enc w' base e v' (acc ++ ws) → w.grownBy w' v.ownBlock → K (a.put o.dst v') w') :
    if Region.wanted o (yielded ops a.tmps) = true then Oper.wp P o a w K Q else E := by
  have hw : Region.wanted o (yielded ops a.tmps) = true := by simp [Region.wanted, hgd]
  rw [if_pos hw]
  cases ao with
  | some ad =>
    obtain ⟨v', w', hrn, h2, h3, h4, h5⟩ := run_append_own_at (P := P) w base t o.type e i z 3 32 ht hi hz hsize hby hzs (by omega) v acc.length (acc.flatMap Tri.enc) hown ad ws.length c (ws.flatMap Tri.enc) (flat_tri_len ws)
      (rdT_news' hr) (flat_one ws) (by unfold maxLen; omega) (by omega) hbase
    have hK := h v' w' (by unfold Own; rw [List.length_append, List.flatMap_append]; exact h2) h3
    unfold Oper.wp execOp
    simp only [ho, resolve, invoke, builtin, Sem.run_bind, Sem.run_pure, Result.andThen_ok, List.map_toArray, List.map_cons, List.map_nil, hs, hx, hrn]
    exact hK
  | none =>
    have hw0 : ws = [] := by
      cases ws with
      | nil => rfl
      | cons y r => obtain ⟨b, o, e, _⟩ := hr (by simp); cases e
    subst hw0
    have hc := hnone rfl
    subst hc
    have hrun := run_append_owned_none (P := P) w base t o.type e i 3 ht hi _ acc.length (acc.flatMap Tri.enc) hown
    rw [List.length_nil] at hx
    have hK := h v w (by simpa using hown) (World.grownBy.refl _ _)
    unfold Oper.wp execOp
    simp only [ho, resolve, invoke, builtin, Sem.run_bind, Sem.run_pure, Result.andThen_ok, List.map_toArray, List.map_cons, List.map_nil, hs, hx, hrun]
    exact hK
section
variable {T : TypeId} {w : World} {base g cap : Nat} {l : List Tri}
theorem xAt_set {l : List Tri} {i : Nat} (h : i < l.length) (y : Tri) : xAt (l.set i y) i = y := by rw [xAt_of (by simpa using h)]; simp
/-- a whole work is stored -/
theorem TRow.set3 (h : TRow T w base g cap l) {i : Nat} (hi : i < l.length) (y : Tri) :
    TRow T (((w.setCell ⟨g, i * 3, none⟩ (.int .i64 y.a)).setCell ⟨g, i * 3 + 1, none⟩ (.int .i64 y.b)).setCell ⟨g, i * 3 + 2, none⟩ (.string y.s)) base g cap (l.set i y) := by
  have h0 := h.set_ (i := i) (j := 0) (y := ⟨y.a, (xAt l i).b, (xAt l i).s⟩) (u := .int .i64 y.a) hi (by omega) rfl
  have h1 := h0.set_ (i := i) (j := 1) (y := ⟨y.a, y.b, (xAt l i).s⟩) (u := .int .i64 y.b) (by simpa using hi) (by omega) (by rw [xAt_set hi]; rfl)
  have h2 := h1.set_ (i := i) (j := 2) (y := y) (u := .string y.s) (by simpa using hi) (by omega) (by rw [List.set_set, xAt_set hi]; rfl)
  simpa using h2
end
end Go.Proofs.YtoccplfnjammjaaGreatDoor

namespace Go.Proofs.YtoccplfnjammjaaGreatDoor
open Go Go.RowKit Tor

/-- two neighbours change places -/
def swapL (m : List Tri) (k : Nat) : List Tri := (m.set k (xAt m (k + 1))).set (k + 1) (xAt m k)
theorem swapL_len (m : List Tri) (k : Nat) : (swapL m k).length = m.length := by simp [swapL]
theorem swap_split {m : List Tri} {k : Nat} (hk : k + 1 < m.length) : m = m.take k ++ xAt m k :: xAt m (k + 1) :: m.drop (k + 2) := by
  rw [xAt_of (by omega), xAt_of hk]
  have h1 := List.drop_eq_getElem_cons (l := m) (i := k) (by omega)
  have h2 := List.drop_eq_getElem_cons (l := m) (i := k + 1) hk
  rw [← h2, ← h1, List.take_append_drop]
theorem swapL_eq {m : List Tri} {k : Nat} (hk : k + 1 < m.length) : swapL m k = m.take k ++ xAt m (k + 1) :: xAt m k :: m.drop (k + 2) := by
  have hl : (m.take k).length = k := by rw [List.length_take]; omega
  unfold swapL
  generalize hx : xAt m k = x
  generalize hy : xAt m (k + 1) = y
  have e := swap_split hk
  rw [hx, hy] at e
  conv => lhs; rw [e]
  rw [List.set_append_right _ _ (by omega), hl, Nat.sub_self, List.set_cons_zero, List.set_append_right _ _ (by omega), hl, show k + 1 - k = 1 by omega, List.set_cons_succ, List.set_cons_zero]
theorem trEq_swapL {m : List Tri} {k : Nat} (hk : k + 1 < m.length) (ht : touchB (xAt m k).b (xAt m (k + 1)).b = false) : TrEq m (swapL m k) := by
  rw [swapL_eq hk]
  conv => lhs; rw [swap_split hk]
  exact TrEq.swap _ _ _ _ ht
/-- a sheet that is the same lace is a sheet -/
theorem TrEq.okD {p : Nat} {l m : List Tri} (h : TrEq l m) (ok : OkD p l) : OkD p m := by
  have hlen := h.len
  obtain ⟨A, hA, hA2, rfl⟩ := h
  obtain ⟨_, hlt, _⟩ := lin_full hA hA2
  have hmem : ∀ (k : Nat) (hk : k < (A.map (xAt l)).length), ∃ (j : Nat) (hj : j < l.length), (A.map (xAt l))[k] = l[j] := fun k hk => by
    have hk' : k < A.length := by simpa using hk
    refine ⟨A[k], hlt _ (List.getElem_mem hk'), ?_⟩
    rw [List.getElem_map, xAt_of (hlt _ (List.getElem_mem hk'))]
  have hall : ∀ f : Tri → Bool, l.any f ≠ true → (A.map (xAt l)).any f ≠ true := fun f hf e => by
    obtain ⟨x, hx, he⟩ := List.any_eq_true.1 e
    obtain ⟨k, hk, rfl⟩ := List.getElem_of_mem hx
    obtain ⟨j, hj, e2⟩ := hmem k hk
    rw [e2] at he
    exact hf (List.any_eq_true.2 ⟨_, List.getElem_mem hj, he⟩)
  obtain ⟨g1, g2, g3, g4⟩ := chk_parts ok.chk
  have hle := ok.len
  refine ⟨?_, ok.p2, ok.p24, fun k hk => ?_, by omega⟩
  · unfold sheetE
    rw [if_neg (fun g => by
      rcases g with g | g | g
      · exact g1 (.inl g)
      · omega
      · exact hall longW (fun e => g1 (.inr (.inr e))) g), if_neg g2, if_neg (hall _ g3), if_neg (hall _ g4)]
  · obtain ⟨j, hj, e⟩ := hmem k hk
    rw [e]; exact ok.bd j hj
/-- sheets with the same drawing are the same lace -/
theorem textD_inj {p q : Nat} {l m : List Tri} (h : OkD p l) (g : OkD q m) (h52 : (looksL (sheetD p l)).length ≤ 52) (g52 : (looksL (sheetD q m)).length ≤ 52) (e : textD p l = textD q m) : p = q ∧ TrEq l m := by
  have h1 := readA_draw h h52
  have h2 := readA_draw g g52
  rw [e, h2] at h1
  injection h1 with h1
  injection h1 with e1 e2
  refine ⟨e1.symm, ?_⟩
  have t1 := trEq_sheetD h.inP
  have t2 := trEq_sheetD g.inP
  rw [← e2] at t1
  exact t1.trans t2.symm
theorem trace_text {p q : Nat} {l m : List Tri} (h : OkD p l) (g : OkD q m) (h52 : (looksL (sheetD p l)).length ≤ 52) (g52 : (looksL (sheetD q m)).length ≤ 52) : traceB p l q m = decide (textD p l = textD q m) := by
  rw [Bool.eq_iff_iff, decide_eq_true_eq, traceB_iff (fun k hk => (h.bd k hk).1)]
  constructor
  · rintro ⟨e, ht⟩
    have e' : p = q := by omega
    subst e'
    exact (ht.textD h.inP).symm
  · intro e
    obtain ⟨e1, e2⟩ := textD_inj h g h52 g52 e
    exact ⟨by rw [e1], e2⟩
theorem okD_w16 {p : Nat} {l : List Tri} (h : OkD p l) : ∀ (k : Nat) (hk : k < l.length), l[k].s.size ≤ 16 := fun k hk => by
  have h1 := (chk_parts h.chk).1
  simp only [not_or] at h1
  have := any_not (by simpa using h1.2.2) k hk
  simpa [longW] using this
/-- numbers of 16 bits -/
def henc (x : Int) : List Value := [.int .u16 x]
end Go.Proofs.YtoccplfnjammjaaGreatDoor
