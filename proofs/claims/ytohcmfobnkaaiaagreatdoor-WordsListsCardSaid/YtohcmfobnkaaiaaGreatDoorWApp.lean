/- append of one element onto an owned row, whatever the elements; rows of parts, fields, strings. -/
import Derived.OwnWalkIn
import Derived.Test.YtohcmfobnkaaiaaGreatDoorWdP
import Derived.Test.YtohcmfobnkaaiaaGreatDoorOldA
set_option linter.unusedSimpArgs false
set_option linter.unusedVariables false
namespace Tor
open Go Go.RowKit

theorem wpList_append_enc {α : Type} {sz byt : Nat} {enc : α → List Value} (hln : ∀ x, (enc x).length = sz) (hone : ∀ x, ∀ u ∈ enc x, u.oneCell' = true) (hpos : 0 < sz) (hb1 : byt ≤ 1000)
    {P : Program} {ops : Array Oper} {rest : List Oper} {o : Oper} {a : Act} {Q : Exit → Act → World → Prop} {w : World} (hgd : o.guard = none) (s x : Operand) (t : TypeId)
    (ho : o.op = .call { callee := .builtin .append, args := #[s, x], argTypes := #[t, t] })
    (base : Nat) (e : TypeId) (i : TypeInfo) (z : Value) (ht : P.underlying t = some (.slice e)) (hi : P.info? e = some i) (hz : i.zero = some z)
    (hsize : i.size = sz) (hby : i.bytes = byt) (hzs : z.cells.size = sz)
    (v : Value) (l : List α) (hs : a.eval s = v) (hown : Own sz enc w base e v l)
    (g : Nat) (y : α) (hx : a.eval x = .slice (some ⟨g, 0, none⟩) 1 1) (hc : ∀ j u, (enc y)[j]? = some u → w.cell? ⟨g, j, none⟩ = some u)
    (hlen : l.length ≤ 1000000) (hbase : base ≤ w.heap.size)
    (h : ∀ v' w', Own sz enc w' base e v' (l ++ [y]) → w.grownBy w' v.ownBlock → wpList P ops Q rest (a.put o.dst v') w') : wpList P ops Q (o :: rest) a w := by
  have hb : (l.length + 1) * byt ≤ 140737488355328 := Nat.le_trans (Nat.mul_le_mul (show l.length + 1 ≤ 1000001 by omega) hb1) (by omega)
  refine wpList_append_own w hgd s x t ho base e i z sz byt ht hi hz hsize hby hzs hpos v l.length (l.flatMap enc) hs hown ⟨g, 0, none⟩ 1 1 (enc y) hx (by rw [hln]; omega) ?_ (hone y) (by unfold maxLen; omega) hb hbase
    (fun v' w' a b _ => h v' w' (Own.append1 (hln y) a) b)
  intro j u hu
  have e : (⟨g, 0, none⟩ : Addr).add j = ⟨g, j, none⟩ := by
    unfold Addr.add
    split
    · rename_i h; subst h; rfl
    · simp
  rw [e]
  exact hc j u hu
theorem wpListIn_append_enc {α : Type} {sz byt : Nat} {enc : α → List Value} (hln : ∀ x, (enc x).length = sz) (hone : ∀ x, ∀ u ∈ enc x, u.oneCell' = true) (hpos : 0 < sz) (hb1 : byt ≤ 1000)
    {F : Fence} {n : Nat} {P : Program} {ops : Array Oper} {rest : List Oper} {o : Oper} {a : Act} {Q : Exit → Act → World → Prop} {w : World} (hgd : o.guard = none) (s x : Operand) (t : TypeId)
    (ho : o.op = .call { callee := .builtin .append, args := #[s, x], argTypes := #[t, t] })
    (base : Nat) (e : TypeId) (i : TypeInfo) (z : Value) (ht : P.underlying t = some (.slice e)) (hi : P.info? e = some i) (hz : i.zero = some z)
    (hsize : i.size = sz) (hby : i.bytes = byt) (hzs : z.cells.size = sz)
    (v : Value) (l : List α) (hs : a.eval s = v) (hown : Own sz enc w base e v l)
    (g : Nat) (y : α) (hx : a.eval x = .slice (some ⟨g, 0, none⟩) 1 1) (hc : ∀ j u, (enc y)[j]? = some u → w.cell? ⟨g, j, none⟩ = some u)
    (hlen : l.length ≤ 1000000) (hbase : base ≤ w.heap.size)
    (h : ∀ v' w', Own sz enc w' base e v' (l ++ [y]) → w.grownBy w' v.ownBlock → wpListIn F n P ops Q rest (a.put o.dst v') w') : wpListIn F n P ops Q (o :: rest) a w := by
  have hb : (l.length + 1) * byt ≤ 140737488355328 := Nat.le_trans (Nat.mul_le_mul (show l.length + 1 ≤ 1000001 by omega) hb1) (by omega)
  refine wpListIn_append_own w hgd s x t ho base e i z sz byt ht hi hz hsize hby hzs hpos v l.length (l.flatMap enc) hs hown ⟨g, 0, none⟩ 1 1 (enc y) hx (by rw [hln]; omega) ?_ (hone y) (by unfold maxLen; omega) hb hbase
    (fun v' w' a b _ => h v' w' (Own.append1 (hln y) a) b)
  intro j u hu
  have e : (⟨g, 0, none⟩ : Addr).add j = ⟨g, j, none⟩ := by
    unfold Addr.add
    split
    · rename_i h; subst h; rfl
    · simp
  rw [e]
  exact hc j u hu
end Tor
namespace Go.Proofs.YtohcmfobnkaaiaaGreatDoor
open Go Go.RowKit Tor
/-- the cells of one element that has just been laid -/
theorem cells_new {w : World} {t : TypeId} {cs : List Value} : ∀ j u, cs[j]? = some u → (w.alloc (.cells cs.toArray t)).cell? ⟨w.heap.size, j, none⟩ = some u := fun j u hu =>
  (Blk.new w t cs.toArray).cell j u (by simpa using hu)
theorem cells_at {w : World} {t : TypeId} {g : Nat} (cs : List Value) (hg : w.heap.size = g) : ∀ j u, cs[j]? = some u → (w.alloc (.cells cs.toArray t)).cell? ⟨g, j, none⟩ = some u := fun j u hu => by
  subst hg
  exact (Blk.new w t cs.toArray).cell j u (by simpa using hu)
def penc (x : Part) : List Value := [.int .i64 x.a, .int .i64 x.b, .int .i64 x.t]
theorem penc_len (x : Part) : (penc x).length = 3 := rfl
theorem penc_one (x : Part) : ∀ u ∈ penc x, u.oneCell' = true := by
  intro u hu
  simp only [penc, List.mem_cons, List.not_mem_nil, or_false] at hu
  rcases hu with rfl | rfl | rfl <;> rfl
def fenc (x : Fld) : List Value := [.bool x.q, .string ⟨x.s.toArray⟩]
theorem fenc_len (x : Fld) : (fenc x).length = 2 := rfl
theorem fenc_one (x : Fld) : ∀ u ∈ fenc x, u.oneCell' = true := by
  intro u hu
  simp only [fenc, List.mem_cons, List.not_mem_nil, or_false] at hu
  rcases hu with rfl | rfl <;> rfl
theorem infoPart : (Tryz.prog.info? 61).map (fun i => (i.zero, i.size, i.bytes)) = some (some (.agg #[.int .i64 0, .int .i64 0, .int .i64 0]), 3, 24) := by kernel_rfl
theorem infoFld : (Tryz.prog.info? 78).map (fun i => (i.zero, i.size, i.bytes)) = some (some (.agg #[.bool false, .string ByteArray.empty]), 2, 24) := by kernel_rfl
theorem infoInt1 : (Tryz.prog.info? 3).map (fun i => (i.zero, i.size, i.bytes)) = some (some (.int .i64 0), 1, 8) := by kernel_rfl
end Go.Proofs.YtohcmfobnkaaiaaGreatDoor
