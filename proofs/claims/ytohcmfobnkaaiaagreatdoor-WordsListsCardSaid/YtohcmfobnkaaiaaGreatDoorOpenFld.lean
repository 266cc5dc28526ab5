/- torchonlaw01: opening a list of fields. -/
import Derived.Test.YtohcmfobnkaaiaaGreatDoorOpen01
import Derived.Test.YtohcmfobnkaaiaaGreatDoorLaw01
set_option linter.unusedSimpArgs false
set_option linter.unusedVariables false
namespace Tor
open Go Go.RowKit Go.WideShapes Go.ChangeShapes Go.Deep
section
variable {H : Type} {enc : TypeId × Value → H} {P : Program} {w : World} {base : Nat} {spare : Nat → Bool} {held : Bool}
theorem open_slice_fields1 {t e : TypeId} {fs : Array Field} {fuel : Nat} {cs : List Value} {x : DataW H × List MemPlace} (ht : P.underlying t = some (.slice e)) (he : P.underlying e = some (.struct fs))
    (hone : oneCellFields P fs = true) (hC : P.cellsOf e = fs.size) (h : DataW.trod enc P w base spare held fuel t cs = some x) :
    (cs = [.slice none 0 0] ∧ x = (.nil, [])) ∨
    ∃ (a : Addr) (len cap m : Nat) (D : Nat → DataW H) (Pl : Nat → List MemPlace), cs = [.slice (some a) len cap] ∧ base ≤ a.block ∧ len ≤ cap ∧ cap ≤ maxLen ∧ m = (if spare a.block then cap else len) ∧
      x = (.slice ((List.range len).map D) ((List.range (m - len)).map fun j => D (len + j)), MemPlace.row a (m * fs.size) ++ (List.range m).flatMap Pl) ∧
      ∀ i, i < m → ∃ (ys : List (DataW H × List MemPlace)) (n : Nat), D i = .agg (ys.map (·.1)) ∧ Pl i = ys.flatMap (·.2) ∧ ys.length = fs.size ∧
        ∀ (j : Nat) (f : Field), fs[j]? = some f → ∃ (v : Value) (y : DataW H × List MemPlace), w.cell? (a.add (i * fs.size + j)) = some v ∧ ys[j]? = some y ∧ DataW.trod enc P w base spare held n f.type [v] = some y := by
  rcases open_slice ht h with h0 | ⟨a, len, cap, m, n, D, Pl, hcs, hb, hl, hm, hmm, hx, hi⟩
  · exact .inl h0
  · refine .inr ⟨a, len, cap, m, D, Pl, hcs, hb, hl, hm, hmm, by rw [hC] at hx; exact hx, fun i him => ?_⟩
    obtain ⟨cs', hc, ht'⟩ := hi i him
    rw [hC] at hc
    obtain ⟨ys, n', hn', hy, hlen, hyl, hf⟩ := DataW.trod_struct he ht'
    obtain ⟨_, hcl, hat⟩ := World.cells?_some hc
    simp only [Prod.mk.injEq] at hy
    refine ⟨ys, n', hy.1, hy.2, hyl, fun j f hj => ?_⟩
    obtain ⟨ho, hk⟩ := hone_of hone j f hj
    have hjl : j < fs.size := (Array.getElem?_eq_some_iff.1 hj).1
    have hcell := hat j hjl
    have hv : cs'[j]? = some (cs'[j]'(by omega)) := List.getElem?_eq_getElem (by omega)
    have h1 := hf j f hj
    rw [ho, hk] at h1
    have hone' : (cs'.drop j).take 1 = [cs'[j]'(by omega)] := by
      rw [List.drop_eq_getElem_cons (by omega)]
      rfl
    rw [hone'] at h1
    have hys : ys[j]? = some (ys[j]'(by omega)) := List.getElem?_eq_getElem (by omega)
    refine ⟨_, _, ?_, hys, h1.trans hys⟩
    rw [← Go.Deep.add_add, hcell, hv]
end
end Tor
namespace Go.Proofs.YtohcmfobnkaaiaaGreatDoor
open Go Go.RowKit Tor Go.WideShapes Go.ChangeShapes Go.ChangeAt Go.Deep
theorem open_flds {H : Type} {enc : TypeId × Value → H} {P : Program} {w : World} {base : Nat} {spare : Nat → Bool} {held : Bool} {t e : TypeId} {f0 f1 : Field} {fuel : Nat} {cs : List Value} {x : DataW H × List MemPlace} (ht : P.underlying t = some (.slice e)) (he : P.underlying e = some (.struct #[f0, f1]))
    (hone : oneCellFields P #[f0, f1] = true) (hC : P.cellsOf e = 2) (h0 : P.underlying f0.type = some .bool) (h1 : P.underlying f1.type = some .string)
    (h : DataW.trod enc P w base spare held fuel t cs = some x) :
    ∃ (A : Option Addr) (l : List Fld) (c : Nat), cs = [.slice A l.length c] ∧ Rd 2 fenc w w.heap.size A l ∧ l.length ≤ c ∧ c ≤ maxLen ∧ ∀ (k : Nat) (hk : k < l.length), l[k].s.length ≤ maxLen := by
  rcases open_slice_fields1 ht he hone hC h with ⟨rfl, _⟩ | ⟨a, len, cap, m, D, Pl, rfl, _, hlc, hcm, hm, _, hf⟩
  · exact ⟨none, [], 0, rfl, Rd.nil, Nat.le_refl _, Nat.zero_le _, fun k hk => by simp at hk⟩
  · have hx : ∀ i, i < len → ∃ y : Fld, w.cell? (a.add (i * 2 + 0)) = some (.bool y.q) ∧ w.cell? (a.add (i * 2 + 1)) = some (.string (bN y.s)) ∧ y.s.length ≤ maxLen := fun i hi => by
      obtain ⟨ys, n, _, _, _, hg⟩ := hf i (by rw [hm]; split <;> omega)
      obtain ⟨v0, y0, c0, _, r0⟩ := hg 0 f0 rfl
      obtain ⟨v1, y1, c1, _, r1⟩ := hg 1 f1 rfl
      obtain ⟨b0, e0, _⟩ := DataW.trod_bool h0 r0
      obtain ⟨s1, e1, _, hs⟩ := DataW.trod_string h1 r1
      simp only [List.cons.injEq, and_true] at e0 e1
      subst e0 e1
      exact ⟨⟨b0, s1.data.toList⟩, c0, by rw [bN_self]; exact c1, hs⟩
    let g : Fin len → Fld := fun i => Classical.choose (hx i.1 i.2)
    have hg : ∀ i : Fin len, w.cell? (a.add (i.1 * 2 + 0)) = some (.bool (g i).q) ∧ w.cell? (a.add (i.1 * 2 + 1)) = some (.string (bN (g i).s)) ∧ (g i).s.length ≤ maxLen := fun i => Classical.choose_spec (hx i.1 i.2)
    have hlen : (List.ofFn g).length = len := List.length_ofFn
    refine ⟨some a, List.ofFn g, cap, by rw [hlen], fun hl => ?_, by rw [hlen]; exact hlc, hcm, fun k hk => ?_⟩
    · obtain ⟨b, off, spot⟩ := a
      have hpos : 0 < len := by
        rcases Nat.eq_zero_or_pos len with h0 | h0
        · exact absurd (List.eq_nil_of_length_eq_zero (by rw [hlen]; exact h0)) hl
        · exact h0
      have hspot : spot = none := by simpa [Addr.add] using World.cell?_spot (hg ⟨0, hpos⟩).1
      subst hspot
      refine ⟨b, off, rfl, ?_, fun k x hk j u hu => ?_⟩
      · have := (hg ⟨0, hpos⟩).1
        rw [Go.WideShapes.add_plain] at this
        exact lt_of_cell this
      · rw [List.getElem?_ofFn] at hk
        split at hk
        · rename_i hkl
          simp only [Option.some.injEq] at hk
          subst hk
          obtain ⟨g0, g1, _⟩ := hg ⟨k, hkl⟩
          rw [Go.WideShapes.add_plain, ← Nat.add_assoc] at g0 g1
          match j, hu with
          | 0, hu => simp [fenc] at hu; subst hu; exact g0
          | 1, hu => simp [fenc] at hu; subst hu; exact g1
        · cases hk
    · have hk' : k < len := by rw [← hlen]; exact hk
      rw [List.getElem_ofFn]
      exact (hg ⟨k, hk'⟩).2.2
theorem open_nums {H : Type} {enc : TypeId × Value → H} {P : Program} {w : World} {base : Nat} {spare : Nat → Bool} {held : Bool} {t e : TypeId} {fuel : Nat} {cs : List Value} {x : DataW H × List MemPlace} (ht : P.underlying t = some (.slice e)) (he : P.underlying e = some (.int .i64))
    (hC : P.cellsOf e = 1) (h : DataW.trod enc P w base spare held fuel t cs = some x) :
    ∃ (A : Option Addr) (l : List Int) (c : Nat), cs = [.slice A l.length c] ∧ RdI w w.heap.size A l ∧ l.length ≤ c ∧ c ≤ 9223372036854775807 ∧ ∀ x ∈ l, -9223372036854775808 ≤ x ∧ x ≤ 9223372036854775807 := by
  rcases open_ints ht he hC h with ⟨rfl, _⟩ | ⟨a, len, cap, zs, rfl, _, hlc, hcm, hzl, _, hf, hwf⟩
  · exact ⟨none, [], 0, rfl, Rd.nil, Nat.le_refl _, Nat.zero_le _, fun x hx => by simp at hx⟩
  · have hle : len ≤ zs.length := by rw [hzl]; split <;> omega
    have hlen : (zs.take len).length = len := by rw [List.length_take]; omega
    refine ⟨some a, zs.take len, cap, by rw [hlen], fun hl => ?_, by rw [hlen]; exact hlc, hcm, fun x hx => ?_⟩
    · obtain ⟨b, off, spot⟩ := a
      have hpos : 0 < len := by
        rcases Nat.eq_zero_or_pos len with h0 | h0
        · exact absurd (List.eq_nil_of_length_eq_zero (by rw [hlen]; exact h0)) hl
        · exact h0
      have hspot : spot = none := by simpa [Addr.add] using World.cell?_spot (hf 0 (by omega))
      subst hspot
      refine ⟨b, off, rfl, ?_, fun k x hk j u hu => ?_⟩
      · have := hf 0 (by omega)
        rw [Go.WideShapes.add_plain] at this
        exact lt_of_cell this
      · obtain ⟨hkl, rfl⟩ := List.getElem?_eq_some_iff.1 hk
        rw [hlen] at hkl
        have hc := hf k (by omega)
        rw [Go.WideShapes.add_plain] at hc
        match j, hu with
        | 0, hu =>
          simp [ienc] at hu
          subst hu
          rw [Nat.mul_one, Nat.add_zero, hc]
          have : zs.getD k 0 = zs[k]'(by omega) := by simp [List.getD_eq_getElem?_getD, List.getElem?_eq_getElem (show k < zs.length by omega)]
          rw [this]
    · have hx' := hwf x (List.mem_of_mem_take hx)
      have hh : (decide (IntKind.min .i64 ≤ x) && decide (x ≤ IntKind.max .i64)) = true := hx'
      rw [Bool.and_eq_true, decide_eq_true_eq, decide_eq_true_eq] at hh
      rw [show IntKind.min .i64 = -9223372036854775808 by decide, show IntKind.max .i64 = 9223372036854775807 by decide] at hh
      exact hh
end Go.Proofs.YtohcmfobnkaaiaaGreatDoor
