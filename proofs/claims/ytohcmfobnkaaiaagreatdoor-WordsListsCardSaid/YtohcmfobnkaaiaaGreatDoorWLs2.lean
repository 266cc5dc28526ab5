/- words: what the second half of List needs: the text that grows. -/
import Derived.Test.YtohcmfobnkaaiaaGreatDoorWLs1
set_option linter.unusedSimpArgs false
set_option linter.unusedVariables false
namespace Go.Proofs.YtohcmfobnkaaiaaGreatDoor
open Go Go.RowKit Go.Shelf Tor

theorem IsB.grown {B b : Nat} {bs : List Value} {W W' : World} (h : IsB B b bs W) {row : Option Nat} (hg : W.grownBy W' row) (hrow : ∀ r, row = some r → ∃ vs T, Blk W r T vs ∧ T ≠ 5 ∧ T ≠ 49) : IsB B b bs W' := by
  have key : ∀ p, Lib.BuilderAt 49 5 B b p bs W → Lib.BuilderAt 49 5 B b p bs W' := fun p h => by
    have hlt := h.lt
    obtain ⟨hB, v, hv, hown, hne⟩ := h
    refine ⟨hB, v, (hg.block b hlt (fun e => ?_)).trans hv, hown.kept hg ?_, hne⟩
    · obtain ⟨vs, T, hb, h1, h2⟩ := hrow b e.symm
      rw [show W.heap[b]? = _ from hb] at hv
      simp only [Option.some.injEq, Obj.cells.injEq] at hv
      exact h2 hv.2.1
    · cases hvb : v.ownBlock with
      | none => exact .inl rfl
      | some g =>
        refine .inr (fun e => ?_)
        obtain ⟨vs, T, hb, h1, h2⟩ := hrow g e.symm
        rcases hown.2 with ⟨rfl, _⟩ | ⟨g', cap, cur, rfl, _, hh, _⟩
        · simp [Value.ownBlock] at hvb
        · simp only [Value.ownBlock, Option.some.injEq] at hvb
          subst hvb
          rw [show W.heap[g']? = _ from hb] at hh
          simp only [Option.some.injEq, Obj.cells.injEq] at hh
          exact h1 hh.2.1
  rcases h with h | h
  · exact .inl (key _ h)
  · exact .inr (key _ h)

theorem marks_kept {B b : Nat} {e : TypeId} {Ds : List Nat} {V V' : World} (h : MarksAt B Ds V) (hk : Lib.OthersKept e (some b) V V') (hb : ∃ o : Obj, V.heap[b]? = some o ∧ o.isCells = true) : MarksAt B Ds V' :=
  ⟨h.nd, fun D hD => ⟨(h.at_ D hD).1, hk D _ (h.at_ D hD).2 (fun e => by
    obtain ⟨o, ho, hc⟩ := hb
    have e2 := Option.some.inj e
    rw [← e2, (h.at_ D hD).2] at ho
    cases ho; cases hc) (fun c fz e => by cases e)⟩⟩
theorem gb_stp {w X Y : World} {row : Option Nat} {wb : Nat} (h : w.grownBy X (some wb)) (hg : X.grownBy Y row) (hr : ∀ r, row = some r → r = wb ∨ w.heap.size ≤ r) : w.grownBy Y (some wb) :=
  ⟨hg.os.trans h.os, hg.tape.trans h.tape, hg.output.trans h.output, Nat.le_trans h.size hg.size, fun k hk hne =>
    (hg.block k (by have := h.size; omega) (fun e => by
      rcases hr k e.symm with rfl | h2
      · exact hne rfl
      · omega)).trans (h.block k hk hne)⟩
theorem gb_rfl (w : World) (wb : Nat) : w.grownBy w (some wb) := ⟨rfl, rfl, rfl, Nat.le_refl _, fun _ _ _ => rfl⟩
theorem gb_setk (W : World) (b k : Nat) (v : Value) : W.grownBy (W.setCell ⟨b, k, none⟩ v) (some b) :=
  ⟨rfl, rfl, rfl, by simp, fun j _ hne => Below.heap_setCell W ⟨b, k, none⟩ v j (fun e => hne (by rw [e]))⟩
theorem kpi_setT {H R : Nat} {W : World} {cs : Array Value} {T : TypeId} (hb : Blk W R T cs) (hT : T ≠ 22) (hH : H ≤ R) (k : Nat) (v : Value) : KpI H W (W.setCell ⟨R, k, none⟩ v) :=
  ⟨(Below.refl H W).setCell hH v, fun b vs h => h.far (fun e => by
    simp only at e
    subst e
    have := (show W.heap[b]? = _ from h).symm.trans hb
    simp only [Option.some.injEq, Obj.cells.injEq] at this
    exact hT this.2.1.symm) v⟩
/-- what is still to be written when k numbers are done -/
def restT (l : List Int) (k : Nat) : List UInt8 := if k = 0 then joinC (pcs l) else tailC (pcs (l.drop k))
theorem txt_first {l : List Int} (ho : OkL l) (hl : 1 ≤ l.length) (hn : l.length ≤ 9999) : restT l 0 = (bestI l).1 ++ restT l (0 + (bestI l).2) := by
  have hb := (best_ok ho hl hn).2.one
  unfold restT
  rw [if_pos rfl, if_neg (by omega), pcs_cons ho hl hn, joinC_cons, Nat.zero_add]
theorem txt_next {l : List Int} {k : Nat} (ho : OkL l) (hk : k < l.length) (hk0 : k ≠ 0) (hn : l.length ≤ 9999) : restT l k = [44] ++ (bestI (l.drop k)).1 ++ restT l (k + (bestI (l.drop k)).2) := by
  have hl : 1 ≤ (l.drop k).length := by rw [List.length_drop]; omega
  have hn' : (l.drop k).length ≤ 9999 := by rw [List.length_drop]; omega
  have hb := (best_ok (ho.drop k) hl hn').2.one
  unfold restT
  rw [if_neg hk0, if_neg (by omega), pcs_cons (ho.drop k) hl hn', List.drop_drop]
  simp [tailC]
theorem txt_end (l : List Int) : restT l l.length = [] := by
  unfold restT
  split
  · rename_i h
    have : l = [] := List.length_eq_zero_iff.1 h
    subst this; rfl
  · rw [List.drop_length]; rfl
theorem joinC_le : ∀ L : List (List UInt8), (joinC L).length ≤ (tailC L).length
  | [] => by simp [joinC, tailC]
  | x :: r => by rw [joinC_cons]; simp [tailC]
theorem txt_len {l : List Int} (ho : OkL l) (hn : l.length ≤ 9999) {T : List UInt8} {k : Nat} (h : joinC (pcs l) = T ++ restT l k) : T.length ≤ 10 * l.length := by
  have h1 := pcs_len _ l rfl ho hn
  have h2 := joinC_le (pcs l)
  rw [h, List.length_append] at h2
  omega
/-- the least lengths, as they stand in the row -/
theorem costs_row (l : List Int) {k m : Nat} (hk : k ≤ l.length) (h : k + m < (costs l).length) : (costs l)[k + m] = (costs (l.drop k)).getD m 0 := by
  rw [← costs_at l hk m]
  simp [List.getD, List.getElem?_eq_getElem h]
/-- what the last loop of List holds -/
structure L3At (w W : World) (l : List Int) (bb bi : Nat) (k : Nat) (T : List UInt8) : Prop where
  ls : LsAt w W l.length (costs l) bi k
  isb : IsB bb bb (Lib.byteCells T) W
  b1 : w.heap.size + 1 < bb
  b2 : bb < bi
theorem L3At.on {w W W' : World} {l : List Int} {bb bi k : Nat} {T : List UInt8} (h : L3At w W l bb bi k T) (hb : Below W.heap.size W W') : L3At w W' l bb bi k T := ⟨h.ls.on hb, h.isb.below hb, h.b1, h.b2⟩
/-- a builder's method has run -/
theorem LsAt.wrote {w W W' : World} {n : Nat} {row : List Int} {bi bb : Nat} {i : Int} (h : LsAt w W n row bi i) (hb : Below bb W W') (hk : ∀ g t cs, W.heap[g]? = some (.cells cs t (0, 0)) → t ≠ 5 → g ≠ bb → W'.heap[g]? = some (.cells cs t (0, 0))) (h1 : w.heap.size + 1 < bb) (h2 : bi ≠ bb) : LsAt w W' n row bi i :=
  ⟨h.bl.trans (hb.mono (by omega)), h.row.below hb (by omega), h.bx.below hb h1, hk _ _ _ h.ix (by decide) h2, h.lt⟩
theorem bytes_cat (T : List UInt8) (S : List UInt8) : Lib.byteCells T ++ Lib.strCells (bN S) = Lib.byteCells (T ++ S) := by
  simp [Lib.byteCells, Lib.strCells, bN]
theorem bytes_one (T : List UInt8) : Lib.byteCells T ++ [Value.int .u8 ((44 : Nat) : Int)] = Lib.byteCells (T ++ [44]) := by
  simp [Lib.byteCells]
theorem L3At.next {w Y2 : World} {l : List Int} {bb bj k : Nat} {T : List UInt8} (h : LsAt w Y2 l.length (costs l) bj k) (hi : IsB bb bb (Lib.byteCells T) Y2) (h1 : w.heap.size + 1 < bb) (h2 : bb < bj) (m : Nat) :
    L3At w ((Y2.setCell ⟨bj, 0, none⟩ (.int .i64 ((k : Int) + (m : Int)))).alloc (.cells #[.int .i64 ((k : Int) + (m : Int))] 3)) l bb Y2.heap.size (k + m) T ∧ KeepsOthers Y2 ((Y2.setCell ⟨bj, 0, none⟩ (.int .i64 ((k : Int) + (m : Int)))).alloc (.cells #[.int .i64 ((k : Int) + (m : Int))] 3)) := by
  have hl := h.lt
  have hj := h.ix.lt
  have hs : (Y2.setCell ⟨bj, 0, none⟩ (.int .i64 ((k : Int) + (m : Int)))).heap.size = Y2.heap.size := by simp
  refine ⟨⟨⟨?_, ?_, ?_, ?_, by omega⟩, ?_, h1, by omega⟩, (KeepsOthers.setCell _ _ _).trans (KeepsOthers.alloc _ _)⟩
  · exact (h.bl.setCell (p := ⟨bj, 0, none⟩) (by show w.heap.size ≤ bj; omega) _).alloc (by rw [hs]; exact h.bl.size) _
  · exact (h.row.far (by show w.heap.size ≠ bj; omega) _).alloc _
  · exact (h.bx.far (by show w.heap.size + 1 ≠ bj; omega) _).alloc _
  · have := Blk.new (Y2.setCell ⟨bj, 0, none⟩ (.int .i64 ((k : Int) + (m : Int)))) 3 #[.int .i64 ((k : Int) + (m : Int))]
    rw [hs] at this
    rw [show ((k + m : Nat) : Int) = (k : Int) + (m : Int) by omega]
    exact this
  · exact IsB.below (hi.grown (gb_setk Y2 bj 0 _) (fun r e => by cases e; exact ⟨_, _, h.ix, by decide, by decide⟩)) ((Below.refl _ _).alloc (Nat.le_refl _) _)
end Go.Proofs.YtohcmfobnkaaiaaGreatDoor
