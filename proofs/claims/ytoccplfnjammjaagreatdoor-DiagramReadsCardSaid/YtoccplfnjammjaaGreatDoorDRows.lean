/- diagram.Rows. -/
import Derived.Test.YtoccplfnjammjaaGreatDoorGrid
import Derived.Test.YtoccplfnjammjaaGreatDoorOldA1
import Derived.Test.YtoccplfnjammjaaGreatDoorOldB
import Derived.BigRegion
set_option linter.unusedSimpArgs false
set_option linter.unusedVariables false
namespace Go.Proofs.YtoccplfnjammjaaGreatDoor
open Go Go.RowKit Tor

theorem infoInts : (Tryz.prog.info? 45).map (fun i => (i.zero, i.size, i.bytes)) = some (some (.slice none 0 0), 1, 24) := by kernel_rfl
/-- append of one number; where the row lies then -/
theorem wpList_append_nb {P : Program} {ops : Array Oper} {rest : List Oper} {o : Oper} {a : Act} {Q : Exit → Act → World → Prop} {w : World} (hgd : o.guard = none) (s x : Operand) (t : TypeId)
    (ho : o.op = .call { callee := .builtin .append, args := #[s, x], argTypes := #[t, t] })
    (base : Nat) (e : TypeId) (i : TypeInfo) (z : Value) (ht : P.underlying t = some (.slice e)) (hi : P.info? e = some i) (hz : i.zero = some z)
    (hsize : i.size = 1) (hby : i.bytes = 8) (hzs : z.cells.size = 1)
    (v : Value) (l : List Nat) (hs : a.eval s = v) (hown : Own 1 nenc w base e v l)
    (g : Nat) (y : Nat) (hx : a.eval x = .slice (some ⟨g, 0, none⟩) 1 1) (h0 : w.cell? ⟨g, 0, none⟩ = some (.int .i64 y))
    (hlen : l.length ≤ 1000000) (hbase : base ≤ w.heap.size)
    (h : ∀ v' w', Own 1 nenc w' base e v' (l ++ [y]) → w.grownBy w' v.ownBlock → (v'.ownBlock = v.ownBlock ∨ v'.ownBlock = some w.heap.size) → wpList P ops Q rest (a.put o.dst v') w') : wpList P ops Q (o :: rest) a w := by
  obtain ⟨v', w', hr, h2, h3, h4, h5⟩ := run_append_own_at (P := P) w base t o.type e i z 1 8 ht hi hz hsize hby hzs (by omega) v l.length (l.flatMap nenc) hown ⟨g, 0, none⟩ 1 1 (nenc y) rfl
    (by intro j u hu; match j, hu with | 0, hu => simp [nenc] at hu; subst hu; simpa [Addr.add] using h0)
    (by intro u hu; simp [nenc] at hu; subst hu; rfl) (by unfold maxLen; omega) (by omega) hbase
  refine wpList_plain hgd fun K hK => ?_
  unfold Oper.wp execOp
  simp only [ho, resolve, invoke, builtin, Sem.run_bind, Sem.run_pure, Result.andThen_ok, List.map_toArray, List.map_cons, List.map_nil, hs, hx, hr]
  exact hK _ _ (h v' w' (Own.append1 rfl h2) h3 h5)
/-- append of one empty row -/
theorem wpList_append_row {P : Program} {ops : Array Oper} {rest : List Oper} {o : Oper} {a : Act} {Q : Exit → Act → World → Prop} {w : World} (hgd : o.guard = none) (s x : Operand) (t : TypeId)
    (ho : o.op = .call { callee := .builtin .append, args := #[s, x], argTypes := #[t, t] })
    (base : Nat) (e : TypeId) (i : TypeInfo) (z : Value) (ht : P.underlying t = some (.slice e)) (hi : P.info? e = some i) (hz : i.zero = some z)
    (hsize : i.size = 1) (hby : i.bytes = 24) (hzs : z.cells.size = 1)
    (v : Value) (l : List Value) (hs : a.eval s = v) (hown : Own 1 venc w base e v l)
    (g : Nat) (y : Value) (hy : y.oneCell' = true) (hx : a.eval x = .slice (some ⟨g, 0, none⟩) 1 1) (h0 : w.cell? ⟨g, 0, none⟩ = some y)
    (hlen : l.length ≤ 1000000) (hbase : base ≤ w.heap.size)
    (h : ∀ v' w', Own 1 venc w' base e v' (l ++ [y]) → w.grownBy w' v.ownBlock → wpList P ops Q rest (a.put o.dst v') w') : wpList P ops Q (o :: rest) a w := by
  refine wpList_append_own w hgd s x t ho base e i z 1 24 ht hi hz hsize hby hzs (by omega) v l.length (l.flatMap venc) hs hown ⟨g, 0, none⟩ 1 1 (venc y) hx rfl ?_ (by intro u hu; simp [venc] at hu; subst hu; exact hy) (by unfold maxLen; omega) (by omega) hbase
    (fun v' w' a b _ => h v' w' (Own.append1 rfl a) b)
  intro j u hu
  match j, hu with
  | 0, hu => simp [venc] at hu; subst hu; exact h0

def rowsU (L : List Nat) : List (List Nat) := (List.range (rowsN L)).map (rowF L)
theorem rowsU_len (L : List Nat) : (rowsU L).length = rowsN L := by simp [rowsU]
theorem rowF_of_ge {L : List Nat} {n : Nat} (h : rowsN L ≤ n) : rowF L n = [] := by
  unfold rowF
  rw [List.filter_eq_nil_iff]
  intro i hi hn
  have hi' : i < L.length := List.mem_range.1 hi
  have h1 : L[i] + 1 ≤ rowsN L := le_supL (List.mem_map.2 ⟨L[i], List.getElem_mem hi', rfl⟩)
  have h2 : L.getD i 0 = L[i] := by rw [List.getD_eq_getElem?_getD, List.getElem?_eq_getElem hi']; rfl
  rw [h2] at hn
  have := beq_iff_eq.1 hn
  omega
/-- a work of a new row -/
theorem rowsU_new {L : List Nat} {n : Nat} (h : n = rowsN L) : (rowsU L ++ [[]]).set n ([] ++ [L.length]) = rowsU (L ++ [n]) := by
  have hr : rowsN (L ++ [n]) = rowsN L + 1 := by rw [rowsN_snoc]; omega
  apply List.ext_getElem?
  intro k
  unfold rowsU
  rw [hr, List.getElem?_set]
  have hl : ((List.range (rowsN L)).map (rowF L)).length = rowsN L := by simp
  by_cases hk : n = k
  · subst hk
    rw [if_pos rfl, if_pos (by simp [h]), List.getElem?_map, List.getElem?_range (by omega)]
    simp only [Option.map_some, Option.some.injEq, List.nil_append]
    rw [rowF_snoc, if_pos rfl, rowF_of_ge (by omega)]; rfl
  · rw [if_neg hk]
    by_cases h2 : k < rowsN L
    · rw [List.getElem?_append_left (by rw [hl]; exact h2), List.getElem?_map, List.getElem?_map, List.getElem?_range h2, List.getElem?_range (by omega)]
      simp only [Option.map_some, Option.some.injEq]
      rw [rowF_snoc, if_neg (fun e => hk e.symm)]
    · rw [List.getElem?_append_right (by rw [hl]; omega), hl, List.getElem?_eq_none (by simp; omega), List.getElem?_eq_none (by simp; omega)]
/-- a work of a row that is there -/
theorem rowsU_old {L : List Nat} {n : Nat} (h : n < rowsN L) : (rowsU L).set n (rowF L n ++ [L.length]) = rowsU (L ++ [n]) := by
  have hr : rowsN (L ++ [n]) = rowsN L := by rw [rowsN_snoc]; omega
  apply List.ext_getElem?
  intro k
  unfold rowsU
  rw [hr, List.getElem?_set]
  by_cases hk : n = k
  · subst hk
    rw [if_pos rfl, if_pos (by simp [h]), List.getElem?_map, List.getElem?_range h]
    simp only [Option.map_some, Option.some.injEq]
    rw [rowF_snoc, if_pos rfl]
  · rw [if_neg hk]
    by_cases h2 : k < rowsN L
    · rw [List.getElem?_map, List.getElem?_map, List.getElem?_range h2]
      simp only [Option.map_some, Option.some.injEq]
      rw [rowF_snoc, if_neg (fun e => hk e.symm)]
    · rw [List.getElem?_eq_none (by simp; omega), List.getElem?_eq_none (by simp; omega)]
theorem rowF_len (L : List Nat) (n : Nat) : (rowF L n).length ≤ L.length := by
  unfold rowF
  exact Nat.le_trans (List.length_filter_le _ _) (by simp)
theorem rowsN_le : ∀ (l : List Tri) (m : Nat), rowsN (levL l m) ≤ m
  | l, 0 => by simp [levL, rowsN, supL_nil]
  | l, m + 1 => by
    have h1 := rowsN_le l m
    have h2 := lev_le_rows l (levL l m) m (levL_len l m)
    rw [levL, rowsN_snoc]; omega
end Go.Proofs.YtoccplfnjammjaaGreatDoor
