/- Opening the arguments: sheets, slices of steps. -/
import Derived.Test.YtfnklchhhojimaaOldA1
import Derived.Test.YtfnklchhhojimaaRows
import Derived.Deep.Slices
import Derived.Deep.Fields
import Derived.ChangeSame
import Derived.ProofKit
import Derived.OpenShut
import Derived.Lib.SmallJoins
set_option linter.unusedSimpArgs false
set_option linter.unusedVariables false
namespace Tor
open Go Go.RowKit Go.WideShapes Go.ChangeShapes Go.Deep
section
variable {H : Type} {enc : TypeId × Value → H} {P : Program} {w : World} {base : Nat} {spare : Nat → Bool} {held : Bool}
theorem open_slice_fields {t e : TypeId} {fs : Array Field} {fuel : Nat} {cs : List Value} {x : DataW H × List MemPlace} (ht : P.underlying t = some (.slice e)) (he : P.underlying e = some (.struct fs))
    (hone : oneCellFields P fs = true) (hC : P.cellsOf e = fs.size) (h : DataW.trod enc P w base spare held fuel t cs = some x) :
    (cs = [.slice none 0 0] ∧ x = (.nil, [])) ∨
    ∃ (a : Addr) (len cap m : Nat) (D : Nat → DataW H) (Pl : Nat → List MemPlace), cs = [.slice (some a) len cap] ∧ base ≤ a.block ∧ len ≤ cap ∧ cap ≤ maxLen ∧ m = (if spare a.block then cap else len) ∧
      x = (.slice ((List.range len).map D) ((List.range (m - len)).map fun j => D (len + j)), MemPlace.row a (m * fs.size) ++ (List.range m).flatMap Pl) ∧
      ∀ i, i < m → ∃ (ys : List (DataW H × List MemPlace)) (n : Nat), D i = .agg (ys.map (·.1)) ∧ Pl i = ys.flatMap (·.2) ∧ ys.length = fs.size ∧
        ∀ (j : Nat) (f : Field), fs[j]? = some f → ∃ (v : Value) (y : DataW H × List MemPlace), w.cell? (a.add (i * fs.size + j)) = some v ∧ ys[j]? = some y ∧ DataW.trod enc P w base spare held n f.type [v] = some y := by
  rcases open_slice ht h with h0 | ⟨a, len, cap, m, n, D, Pl, hcs, hb, hl, hm, hmm, hx, hi⟩
  · exact .inl h0
  · refine .inr ⟨a, len, cap, m, D, Pl, hcs, hb, hl, hm, hmm, by rw [hC] at hx; exact hx, fun i him => ?_⟩
    obtain ⟨cs', hc, ht'⟩ := hi i him
    rw [hC] at hc
    obtain ⟨ys, n', hn', hy, hlen, hyl, hf⟩ := DataW.trod_struct he ht'
    obtain ⟨_, hcl, hat⟩ := World.cells?_some hc
    simp only [Prod.mk.injEq] at hy
    refine ⟨ys, n', hy.1, hy.2, hyl, fun j f hj => ?_⟩
    obtain ⟨ho, hk⟩ := hone_of hone j f hj
    have hjl : j < fs.size := (Array.getElem?_eq_some_iff.1 hj).1
    have hcell := hat j hjl
    have hv : cs'[j]? = some (cs'[j]'(by omega)) := List.getElem?_eq_getElem (by omega)
    have h1 := hf j f hj
    rw [ho, hk] at h1
    have hone' : (cs'.drop j).take 1 = [cs'[j]'(by omega)] := by
      rw [List.drop_eq_getElem_cons (by omega)]
      rfl
    rw [hone'] at h1
    have hys : ys[j]? = some (ys[j]'(by omega)) := List.getElem?_eq_getElem (by omega)
    refine ⟨_, _, ?_, hys, h1.trans hys⟩
    rw [← Go.Deep.add_add, hcell, hv]
end
section
variable {H : Type} {enc : TypeId × Value → H} {P : Program}
theorem post_of_below {f : Func} {s : ChangeSpec} {apart fresh handsOn again : Bool} {W W' : World} {args : Array Value} {v : Value} {ds gs : List (DataW H)} {before pa pv : List MemPlace}
    (hW : DataW.Whole enc P f.params.toList s.vars apart W args.toList ds gs before)
    (hres : ∀ (b : Nat) (sp : Nat → Bool) (hd : Bool), DataW.TrodAll enc P W' b sp hd f.resultTypes.toList (v.resultList f.resultTypes.size) (s.fn H (ds ++ gs)).results [])
    (hargs : ∀ sp : Nat → Bool, (∀ p ∈ before, sp p.block = true) → DataW.TrodAll enc P W' 0 sp true f.params.toList args.toList (s.fn H (ds ++ gs)).args pa)
    (hvars : ∀ sp : Nat → Bool, (∀ p ∈ before, sp p.block = true) → DataW.TrodVars enc P W' sp s.vars (s.fn H (ds ++ gs)).vars pv)
    (hps : before = pa ++ pv) (hb : Below W.heap.size W W')
    (hok : ∀ (j : Nat) (t : TypeId) (r : Value), f.resultTypes[j]? = some t → (v.resultList f.resultTypes.size)[j]? = some r → Value.okWide P W' .any 0 t r) :
    s.post enc P f apart fresh handsOn again W args v W' := by
  have hlt : ∀ p ∈ before, p.block < W.heap.size := fun p hp => hW.lt p hp
  have hold : ∀ p ∈ before, (fun b => decide (b < W.heap.size)) p.block = true := fun p hp => by simpa using hlt p hp
  refine ⟨ds, gs, before, [], pa, pv, hW, hres _ _ _, hargs _ hold, hvars _ hold, World.keptBut_mono (fun p hp => ⟨hp, ?_⟩) (hb.frame (· ∈ before)), fun _ => ?_⟩
  · rw [hps, List.mem_append] at hp
    exact Or.inr hp
  · obtain ⟨_, _, _, _, _, hz, hn⟩ := hW
    refine ⟨hok, _, _, ([] ++ pa) ++ pv, ⟨[] ++ pa, pv, trodAll_append (hargs _ (fun _ _ => rfl)) (hres _ _ _), hvars _ (fun _ _ => rfl), rfl, ?_, ?_⟩, ?_⟩
    · intro b off hp
      have hin : MemPlace.cell b off ∈ before := by rw [hps]; simpa using hp
      rw [hb.frozen (hlt _ hin)]
      exact hz b off hin
    · intro ha
      have := hn ha
      rw [hps] at this
      simpa using this
    · intro p hp _
      rw [hps]
      simpa using hp
end

theorem triples {H : Type} {enc : TypeId × Value → H} {P : Program} {w : World} {base : Nat} {spare : Nat → Bool} {held : Bool} {t e : TypeId} {f0 f1 f2 : Field} {fuel : Nat} {cs : List Value} {x : DataW H × List MemPlace} (ht : P.underlying t = some (.slice e)) (he : P.underlying e = some (.struct #[f0, f1, f2]))
    (hone : oneCellFields P #[f0, f1, f2] = true) (hC : P.cellsOf e = 3) (h0 : P.underlying f0.type = some (.int .i64)) (h1 : P.underlying f1.type = some (.int .i64)) (h2 : P.underlying f2.type = some .string)
    (h : DataW.trod enc P w base spare held fuel t cs = some x) :
    ∃ (A : Option Addr) (l : List Tri) (c : Nat), cs = [.slice A l.length c] ∧ RdT w w.heap.size A l ∧ l.length ≤ c ∧ c ≤ maxLen ∧ ∀ (k : Nat) (hk : k < l.length), l[k].s.size ≤ maxLen := by
  rcases open_slice_fields ht he hone hC h with ⟨rfl, _⟩ | ⟨a, len, cap, m, D, Pl, rfl, _, hlc, hcm, hm, _, hf⟩
  · exact ⟨none, [], 0, rfl, Rd.nil, Nat.le_refl _, Nat.zero_le _, fun k hk => by simp at hk⟩
  · have hx : ∀ i, i < len → ∃ y : Tri, w.cell? (a.add (i * 3 + 0)) = some (.int .i64 y.a) ∧ w.cell? (a.add (i * 3 + 1)) = some (.int .i64 y.b) ∧ w.cell? (a.add (i * 3 + 2)) = some (.string y.s) ∧ y.s.size ≤ maxLen := fun i hi => by
      obtain ⟨ys, n, _, _, _, hg⟩ := hf i (by rw [hm]; split <;> omega)
      obtain ⟨v0, y0, c0, _, r0⟩ := hg 0 f0 rfl
      obtain ⟨v1, y1, c1, _, r1⟩ := hg 1 f1 rfl
      obtain ⟨v2, y2, c2, _, r2⟩ := hg 2 f2 rfl
      obtain ⟨n0, e0, _, _⟩ := DataW.trod_int h0 r0
      obtain ⟨n1, e1, _, _⟩ := DataW.trod_int h1 r1
      obtain ⟨s2, e2, _, hs⟩ := DataW.trod_string h2 r2
      simp only [List.cons.injEq, and_true] at e0 e1 e2
      subst e0 e1 e2
      exact ⟨⟨n0, n1, s2⟩, c0, c1, c2, hs⟩
    let g : Fin len → Tri := fun i => Classical.choose (hx i.1 i.2)
    have hg : ∀ i : Fin len, w.cell? (a.add (i.1 * 3 + 0)) = some (.int .i64 (g i).a) ∧ w.cell? (a.add (i.1 * 3 + 1)) = some (.int .i64 (g i).b) ∧ w.cell? (a.add (i.1 * 3 + 2)) = some (.string (g i).s) ∧ (g i).s.size ≤ maxLen := fun i => Classical.choose_spec (hx i.1 i.2)
    have hlen : (List.ofFn g).length = len := List.length_ofFn
    refine ⟨some a, List.ofFn g, cap, by rw [hlen], fun hl => ?_, by rw [hlen]; exact hlc, hcm, fun k hk => ?_⟩
    · obtain ⟨b, off, spot⟩ := a
      have hpos : 0 < len := by
        rcases Nat.eq_zero_or_pos len with h0 | h0
        · exact absurd (List.eq_nil_of_length_eq_zero (by rw [hlen]; exact h0)) hl
        · exact h0
      have hspot : spot = none := by simpa [Addr.add] using World.cell?_spot (hg ⟨0, hpos⟩).1
      subst hspot
      refine ⟨b, off, rfl, ?_, fun k x hk j u hu => ?_⟩
      · have := (hg ⟨0, hpos⟩).1
        rw [Go.WideShapes.add_plain] at this
        exact lt_of_cell this
      · rw [List.getElem?_ofFn] at hk
        split at hk
        · rename_i hkl
          simp only [Option.some.injEq] at hk
          subst hk
          obtain ⟨g0, g1, g2, _⟩ := hg ⟨k, hkl⟩
          rw [Go.WideShapes.add_plain, ← Nat.add_assoc] at g0 g1 g2
          match j, hu with
          | 0, hu => simp [Tri.enc] at hu; subst hu; exact g0
          | 1, hu => simp [Tri.enc] at hu; subst hu; exact g1
          | 2, hu => simp [Tri.enc] at hu; subst hu; exact g2
        · cases hk
    · have hk' : k < len := by rw [← hlen]; exact hk
      rw [List.getElem_ofFn]
      exact (hg ⟨k, hk'⟩).2.2.2
end Tor

namespace Go.Proofs.Ytfnklchhhojimaa
open Go Go.RowKit Tor Go.WideShapes Go.ChangeShapes Go.Deep Go.Joins

theorem laidOut' : laidOutB Try.prog = true := by kernel_rfl
theorem own : ownKnob Try.prog.godebug = none := by kernel_rfl
theorem cellsSheet : Try.prog.cellsOf 35 = 2 := by kernel_rfl
theorem cellsWork : Try.prog.cellsOf 54 = 3 := by kernel_rfl
theorem cellsStep : Try.prog.cellsOf 45 = 3 := by kernel_rfl


set_option maxRecDepth 100000 in
/-- a sheet that came in -/
theorem open_sheet {H : Type} {enc : TypeId × Value → H} {W : World} {base b0 : Nat} {r : Reach} {sp : Nat → Bool} {held : Bool} {v : Value} {d : DataW H} {ps : List MemPlace}
    (hv : Value.okWide Try.prog W r b0 35 v) (h : DataW.Trod enc Try.prog W base sp held 35 v d ps) :
    ∃ (p : Int) (A : Option Addr) (l : List Tri) (c : Nat), v = .agg #[.int .i64 p, .slice A l.length c] ∧ RdT W W.heap.size A l ∧ l.length ≤ c ∧ c ≤ 9223372036854775807 ∧ ∀ (k : Nat) (hk : k < l.length), l[k].s.size ≤ 9223372036854775807 := by
  obtain ⟨v0, v1, y0, y1, n, rfl, _, _, h0, h1⟩ := open_agg2 Try.underlying35 (by kernel_rfl) cellsSheet hv h
  obtain ⟨p, e0, _, _⟩ := DataW.trod_int Try.underlying3 h0
  obtain ⟨A, l, c, e1, hr, hlc, hc, hs⟩ := triples Try.underlying33 Try.underlying54 (by kernel_rfl) cellsWork Try.underlying3 Try.underlying3 Try.underlying9 h1
  simp only [List.cons.injEq, and_true] at e0 e1
  subst e0 e1
  exact ⟨p, A, l, c, rfl, hr, hlc, hc, hs⟩
end Go.Proofs.Ytfnklchhhojimaa
