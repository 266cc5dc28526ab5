/- words: what List needs: the marks of several ranges over functions, the row of the least lengths, the items. -/
import Derived.Test.YtohcmfobnkaaiaaGreatDoorWItm
import Derived.Test.YtohcmfobnkaaiaaGreatDoorWByte
import Derived.Test.YtohcmfobnkaaiaaGreatDoorRound
set_option linter.unusedSimpArgs false
set_option linter.unusedVariables false
namespace Go.Proofs.YtohcmfobnkaaiaaGreatDoor
open Go Go.RowKit Go.Shelf Tor

/-! ### the marks -/
def mkD (D : Nat) : Deferred := { target := .collected D, args := #[] }
structure MarksAt (B : Nat) (Ds : List Nat) (W : World) : Prop where
  nd : Ds.Nodup
  at_ : ∀ D ∈ Ds, B ≤ D ∧ W.heap[D]? = some (.deferred (some []))
theorem MarksAt.nil (B : Nat) (W : World) : MarksAt B [] W := ⟨List.nodup_nil, fun D h => by simp at h⟩
theorem MarksAt.keep {B : Nat} {Ds : List Nat} {W W' : World} (h : MarksAt B Ds W) (k : KeepsOthers W W') : MarksAt B Ds W' := ⟨h.nd, fun D hD => ⟨(h.at_ D hD).1, k.same _ _ (h.at_ D hD).2 rfl⟩⟩
theorem ko_below {W W' : World} (h : Below W.heap.size W W') : KeepsOthers W W' := ⟨h.size, fun k o hk _ => (h.block k (Array.getElem?_eq_some_iff.1 hk).1).trans hk⟩
theorem kfb {B : Nat} {W W' : World} (h : Below W.heap.size W W') : KeepsFrom B W W' := (ko_below h).from B
theorem MarksAt.cons {B : Nat} {Ds : List Nat} {W0 W : World} {D : Nat} (h0 : MarksAt B Ds W0) (k : KeepsOthers W0 W) (hD : W0.heap.size ≤ D) (hB : B ≤ W0.heap.size) (hd : W.heap[D]? = some (.deferred (some []))) : MarksAt B (D :: Ds) W := by
  have h := h0.keep k
  refine ⟨List.nodup_cons.2 ⟨fun hm => ?_, h.nd⟩, fun E hE => ?_⟩
  · have := (Array.getElem?_eq_some_iff.1 (h0.at_ D hm).2).1
    omega
  · rcases List.mem_cons.1 hE with rfl | hE
    · exact ⟨Nat.le_trans hB hD, hd⟩
    · exact h.at_ E hE
theorem MarksAt.leave {P : Program} {fn : Func} {tmps : Array Value} {v : Value} {w0 : World} {R : Ending → World → Prop} {n : Nat} (hres : ∀ W, (results fn tmps).run P W = .ok v W) (hR : ∀ W, Below w0.heap.size w0 W → R (.returned v) W) :
    ∀ (Ds : List Nat) (W : World), MarksAt w0.heap.size Ds W → Below w0.heap.size w0 W → LeavesInM Fence.wide n P fn tmps R (Ds.map mkD) .returning W
  | [], W, _, hb => ⟨v, hres W, hR W hb⟩
  | D :: Ds, W, h, hb => by
    obtain ⟨hB, hd⟩ := h.at_ D (by simp)
    have hnd := List.nodup_cons.1 h.nd
    refine ⟨by simp, .inl ⟨D, _, rfl, run_takeDeferred hd, ?_⟩⟩
    refine MarksAt.leave hres hR Ds _ ⟨hnd.2, fun E hE => ⟨(h.at_ E (by simp [hE])).1, ?_⟩⟩ (hb.grown (grownBy_putObj' W D _) hb.size (fun k e => by cases e; exact hB))
    exact (World.putObj_heap_other (fun e => by subst e; exact hnd.1 hE)).trans (h.at_ E (by simp [hE])).2

/-! ### the row -/
def ib (v : Value) (W : World) : Int := match v with
  | .pointer (some p) => (match W.cell? p with
    | some (.int _ i) => i
    | _ => 0)
  | _ => 0
theorem ib_blk {W : World} {b : Nat} {i : Int} (h : Blk W b 3 #[.int .i64 i]) : ib (.pointer (some ⟨b, 0, none⟩)) W = i := by
  have := h.cell 0 _ rfl
  simp only [ib, this]
  rfl
def rowV (r : List Int) : Array Value := (r.map (Value.int .i64)).toArray
theorem rowV_get {r : List Int} {k : Nat} (h : k < r.length) : (rowV r)[k]? = some (.int .i64 r[k]) := by simp [rowV, h]
theorem rowV_set (r : List Int) (k : Nat) (m : Int) : (rowV r).setIfInBounds k (.int .i64 m) = rowV (r.set k m) := by
  unfold rowV
  apply Array.ext'
  simp [List.map_set]
theorem madeRow (n : Nat) : madeCells (Value.int .i64 0).cells (n * 1) = rowV (List.replicate n 0) := by
  show madeCells #[Value.int .i64 0] (n * 1) = _
  rw [Nat.mul_one]
  apply Array.ext'
  rw [toList_madeCells_one]
  simp [rowV]
def rowM (l : List Int) (i : Nat) (m : Int) : List Int := List.replicate i 0 ++ m :: costs (l.drop (i + 1))
theorem rowM_len {l : List Int} {i : Nat} (h : i < l.length) (m : Int) : (rowM l i m).length = l.length + 1 := by
  unfold rowM; simp [costs_len]; omega
theorem rowM_here (l : List Int) (i : Nat) (m : Int) (h : i < (rowM l i m).length) : (rowM l i m)[i] = m := by
  simp [rowM]
theorem rowM_set (l : List Int) (i : Nat) (m m' : Int) : (rowM l i m).set i m' = rowM l i m' := by
  unfold rowM
  rw [List.set_append_right _ _ (by simp)]
  simp
theorem rowM_next (l : List Int) {i : Nat} (h : i < l.length) (m : Int) (j : Nat) (hj : 1 ≤ j) (hl : i + j < (rowM l i m).length) : (rowM l i m)[i + j] = (costs (l.drop (i + 1))).getD (j - 1) 0 := by
  unfold rowM at hl ⊢
  have hlen : (List.replicate i (0 : Int)).length = i := by simp
  rw [List.getElem_append_right (by rw [hlen]; omega)]
  simp only [hlen, show i + j - i = (j - 1) + 1 by omega, List.getElem_cons_succ]
  have hc : j - 1 < (costs (l.drop (i + 1))).length := by
    rw [List.length_append, hlen, List.length_cons] at hl; omega
  simp [List.getD, List.getElem?_eq_getElem hc]
theorem rowM_done (l : List Int) {i : Nat} (h : i < l.length) : rowM l i ((costs (l.drop i)).headD 0) = List.replicate i 0 ++ costs (l.drop i) := by
  unfold rowM
  rw [List.drop_eq_getElem_cons h]
  rfl
/-- the row before number i is reckoned -/
theorem row_before (l : List Int) {i : Nat} (h : i < l.length) : List.replicate (i + 1) (0 : Int) ++ costs (l.drop (i + 1)) = rowM l i 0 := by
  unfold rowM
  rw [List.replicate_succ']
  simp

/-- the row, its variable and the loop's variable -/
structure LsAt (w W : World) (n : Nat) (row : List Int) (bi : Nat) (i : Int) : Prop where
  bl : Below w.heap.size w W
  row : Blk W w.heap.size 3 (rowV row)
  bx : Blk W (w.heap.size + 1) 22 #[.slice (some ⟨w.heap.size, 0, none⟩) (n + 1) (n + 1)]
  ix : Blk W bi 3 #[.int .i64 i]
  lt : w.heap.size + 1 < bi
theorem LsAt.on {w W W' : World} {n : Nat} {row : List Int} {bi : Nat} {i : Int} (h : LsAt w W n row bi i) (k : Below W.heap.size W W') : LsAt w W' n row bi i :=
  ⟨h.bl.trans (k.mono h.bl.size), h.row.below' k, h.bx.below' k, h.ix.below' k, h.lt⟩
theorem LsAt.rowc {w W : World} {n : Nat} {row : List Int} {bi : Nat} {i : Int} (h : LsAt w W n row bi i) {k : Nat} (hk : k < row.length) : W.cell? ⟨w.heap.size, k, none⟩ = some (.int .i64 row[k]) := h.row.cell k _ (rowV_get hk)
theorem LsAt.put {w W : World} {n : Nat} {row : List Int} {bi : Nat} {i : Int} (h : LsAt w W n row bi i) (k : Nat) (m : Int) : LsAt w (W.setCell ⟨w.heap.size, k, none⟩ (.int .i64 m)) n (row.set k m) bi i :=
  ⟨h.bl.setCell (p := ⟨w.heap.size, k, none⟩) (Nat.le_refl _) _, by rw [← rowV_set]; exact h.row.set_ k _, h.bx.far (by simp) _, h.ix.far (by have := h.lt; simp; omega) _, h.lt⟩
theorem LsAt.grown {w W W' : World} {n : Nat} {row : List Int} {bi : Nat} {i : Int} (h : LsAt w W n row bi i) {r : Option Nat} (hg : W.grownBy W' r) {M : Nat} (hM : bi < M) (hr : ∀ k, r = some k → M ≤ k) : LsAt w W' n row bi i := by
  have hl := h.lt
  refine ⟨h.bl.grown hg h.bl.size (fun k e => ?_), h.row.grown hg (fun e => ?_), h.bx.grown hg (fun e => ?_), h.ix.grown hg (fun e => ?_), h.lt⟩
  · have := hr k e; omega
  · have := hr _ e.symm; omega
  · have := hr _ e.symm; omega
  · have := hr _ e.symm; omega
theorem kpi_set {H R : Nat} {W : World} {cs : Array Value} (hb : Blk W R 3 cs) (hH : H ≤ R) (k : Nat) (v : Value) : KpI H W (W.setCell ⟨R, k, none⟩ v) :=
  ⟨(Below.refl H W).setCell hH v, fun b vs h => h.far (fun e => by
    simp only at e
    subst e
    have := (show W.heap[b]? = _ from h).symm.trans hb
    simp only [Option.some.injEq, Obj.cells.injEq] at this
    exact absurd this.2.1 (by decide)) v⟩
theorem ko_grown {w0 X Y : World} {row : Option Nat} (h : KeepsOthers w0 X) (hg : X.grownBy Y row)
    (hr : ∀ r, row = some r → w0.heap.size ≤ r) : KeepsOthers w0 Y := by
  refine ⟨Nat.le_trans h.size hg.size, fun k o hk ho => ?_⟩
  refine kept_at hg (h.same k o hk ho) (fun e => ?_)
  have h1 := hr k e
  have := (Array.getElem?_eq_some_iff.1 hk).1
  omega
theorem owr {wB : Nat} {X : World} {row : Option Nat} (hrw : ∀ r, row = some r → some r = none ∨ (wB ≤ r ∧ ∃ o : Obj, X.heap[r]? = some o ∧ o.isCells = false)) : ∀ r, row = some r → wB ≤ r ∧ ∃ o : Obj, X.heap[r]? = some o ∧ o.isCells = false := fun r e => by
  rcases hrw r e with h | h
  · cases h
  · exact h
theorem rdi_drop {w : World} {B b o : Nat} {l : List Int} (h : RdI w B (some ⟨b, o, none⟩) l) (i : Nat) : RdI w B (some ⟨b, o + i, none⟩) (l.drop i) := fun hne => by
  obtain ⟨b', o', e, hb, hc⟩ := h (fun e => hne (by rw [e]; simp))
  simp only [Option.some.injEq, Addr.mk.injEq, and_true] at e
  obtain ⟨rfl, rfl⟩ := e
  refine ⟨b, o + i, rfl, hb, fun k x hx j u hu => ?_⟩
  have := hc (i + k) x (by rw [← List.getElem?_drop]; exact hx) j u hu
  rw [show o + (i + k) * 1 + j = o + i + k * 1 + j by omega] at this
  exact this

/-! ### the items -/
theorem items_any (A : Option Addr) (n c : Nat) (w : World) : Calls Tryz.prog 15 #[.slice A n c] w fun e w' =>
    e = .returned (.func (.func 32) #[] #[.pointer (some ⟨w.heap.size, 0, none⟩)]) ∧ w' = w.alloc (.cells #[.slice A n c] 22) := by
  go_enter Tryz.func15, Tryz.ntmps15
  go_wp2_with fail
  go_ret
  exact ⟨by simp, rfl⟩
theorem items_stops (n : Nat) (w0 : World) (A : Option Addr) (l : List Int) (c b1 : Nat) (hl1 : 1 ≤ l.length) (hl : l.length ≤ 1000) (hok : OkL l) (w : World) (hI : ItmAt w0 w A l c b1) :
    SeqW Fence.wide n Tryz.prog 32 #[.pointer (some ⟨b1, 0, none⟩)] (fun x : ItA l => #[.agg #[.string (bN x.1.1), .int .i64 x.1.2]])
      (KpI w0.heap.size) (fun _ => True) (fun ys => ys.map (·.1) = itemsW l) (fun _ => True) none w := fun lp J Jx W hW hJ _ hY h0 =>
  items1_in n lp w0 A l c b1 J Jx hl1 hl hok (fun pre w w' h b => hJ pre w w' none h (grows_none b) (fun r e => by cases e)) (fun pre x W1 h => hY pre x W1 h trivial) W (hI.on hW) h0
end Go.Proofs.YtohcmfobnkaaiaaGreatDoor
