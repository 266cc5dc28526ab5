/- Opening the arguments; the listed variables. -/
import Derived.Test.YtmfklcnocekdlaaGreatDoorOpen
import Derived.ChangeMaps5
import Derived.LaidMore
import Derived.Lay
import Derived.SevenTiedAt
import Derived.HandedShaped
import Derived.Test.YtmfklcnocekdlaaGreatDoorFaultM
import Derived.Test.YtmfklcnocekdlaaGreatDoorFWr
import Derived.Test.YtmfklcnocekdlaaGreatDoorRows
import Derived.Stop.LaidErr
import Derived.Lib.LaidTab
set_option linter.unusedSimpArgs false
set_option linter.unusedVariables false
namespace Go.Proofs.YtmfklcnocekdlaaGreatDoor
open Go Go.RowKit Tor Go.WideShapes Go.ChangeShapes Go.ChangeAt

/-- a condition on the listed variables, and the world's shape, for the contract -/
theorem wrap {H : Type} {enc : TypeId × Value → H} {a : Assume} {C : Checked} {os : Os} {f : FuncId} {fn : Func} {s : ChangeSpec} {conds : List PathCond} {apart fresh handsOn again : Bool} {X : World → Array Value → Prop}
    (hX : ∀ (w w' : World) (args : Array Value), w.heap = w'.heap → X w args → X w' args)
    (own : ownKnob C.prog.godebug = none) (started : os.Started) (noInit : C.prog.inits.idxOf? f = none) (hfn : C.prog.funcs[f]? = some fn)
    (witness : ∃ (w : World) (tape : Tape) (i : Input), w.os = os ∧ (w.forCall tape i).Shaped C.prog ∧ i.vars = [] ∧ Input.okWide C.prog (w.forCall tape i) .any w.heap.size f i ∧
      ((s.pre enc C.prog fn conds apart (w.forCall tape i).memory i.args ∧ X (w.forCall tape i).memory i.args) ∧ sizedMet enc C.prog fn (OpenSpec.ofChange s) apart (w.forCall tape i).memory i.args) ∧ a.holds C.prog (lone (Frame.enter C.prog f i.args .normal) [] (w.forCall tape i)))
    (contract : ∀ (W : World) (base : Nat) (args : Array Value) (ds gs : List (DataW H)) (before : List MemPlace),
      (∀ (j : Nat) t v, fn.params[j]? = some t → args[j]? = some v → Value.okWide C.prog W .any base t v) →
      DataW.Whole enc C.prog fn.params.toList s.vars apart W args.toList ds gs before → X W args → W.ShapedOpen C.prog →
      Calls C.prog f args W fun e W' => ∃ v, e = .returned v ∧ s.post enc C.prog fn apart fresh handsOn again W args v W') :
    ReturnsInHanded a C os f .any (fun w args => (s.pre enc C.prog fn conds apart w args ∧ X w args) ∧ sizedMet enc C.prog fn (OpenSpec.ofChange s) apart w args) (s.post enc C.prog fn apart fresh handsOn again) := by
  refine returnsInHanded_of_calls own started noInit witness ?_
  intro w tape i _ hsh _ hok hpre hholds
  obtain ⟨_, _, _, fn', hfn', _, _, _, _, hval⟩ := hok
  have e : fn' = fn := Option.some.inj (hfn'.symm.trans hfn)
  subst e
  obtain ⟨⟨⟨ds, gs, before, hw, hc⟩, hx⟩, hz⟩ := hpre
  have hw' := DataW.Whole.of_heap (w' := w.forCall tape i) (by rfl) hw
  refine (contract (w.forCall tape i) w.heap.size i.args ds gs before hval hw' (hX _ _ _ (by rfl) hx) hsh).mono fun e W' ⟨v, he, hp⟩ => ?_
  subst he
  exact ChangeSpec.post_blind hp

end Go.Proofs.YtmfklcnocekdlaaGreatDoor

namespace Go.Proofs.YtmfklcnocekdlaaGreatDoor
open Go Go.RowKit Tor Go.WideShapes Go.ChangeShapes Go.Deep Go.Joins

theorem cellsFault : Tryz.prog.cellsOf 41 = 4 := by kernel_rfl
theorem cellsInt25 : Tryz.prog.cellsOf 3 = 1 := by kernel_rfl

theorem some_of_len {α : Type} {xs : List α} {n i : Nat} (h : xs.length = n) (hi : i < n) : ∃ y, xs[i]? = some y := ⟨xs[i], List.getElem?_eq_getElem (by omega)⟩

section
variable {H : Type} {enc : TypeId × Value → H} {W : World} {base : Nat} {sp : Nat → Bool} {held : Bool}
set_option maxRecDepth 100000 in
theorem fault_of {fuel : Nat} {c0 c1 c2 c3 : Value} {x : DataW H × List MemPlace} (h : DataW.trod enc Tryz.prog W base sp held fuel 41 [c0, c1, c2, c3] = some x) :
    ∃ f : Flt, c0 = .int .i64 f.k ∧ c1 = .int .i64 f.st ∧ c2 = .int .i64 f.lt ∧ c3 = .int .i64 f.wi := by
  obtain ⟨ys, n, _, _, _, hl, hg⟩ := DataW.trod_struct Tryz.underlying41 h
  have g0 := hg 0 _ rfl
  have g1 := hg 1 _ rfl
  have g2 := hg 2 _ rfl
  have g3 := hg 3 _ rfl
  simp only [List.getElem_toArray, List.getElem_cons_zero, List.getElem_cons_succ, cellsInt25, List.drop_zero, List.drop_succ_cons, List.take_succ_cons, List.take_zero] at g0 g1 g2 g3
  have hl4 : ys.length = 4 := hl
  obtain ⟨y0, r0⟩ := some_of_len (i := 0) hl4 (by omega)
  obtain ⟨y1, r1⟩ := some_of_len (i := 1) hl4 (by omega)
  obtain ⟨y2, r2⟩ := some_of_len (i := 2) hl4 (by omega)
  obtain ⟨y3, r3⟩ := some_of_len (i := 3) hl4 (by omega)
  obtain ⟨n0, e0, _, _⟩ := DataW.trod_int Tryz.underlying3 (g0.trans r0)
  obtain ⟨n1, e1, _, _⟩ := DataW.trod_int Tryz.underlying3 (g1.trans r1)
  obtain ⟨n2, e2, _, _⟩ := DataW.trod_int Tryz.underlying3 (g2.trans r2)
  obtain ⟨n3, e3, _, _⟩ := DataW.trod_int Tryz.underlying3 (g3.trans r3)
  simp at e0 e1 e2 e3
  exact ⟨⟨n0, n1, n2, n3⟩, e0, e1, e2, e3⟩

set_option maxRecDepth 100000 in
theorem open_fault {b0 : Nat} {r : Reach} {v : Value} {d : DataW H} {ps : List MemPlace} (hv : Value.okWide Tryz.prog W r b0 41 v) (h : DataW.Trod enc Tryz.prog W base sp held 41 v d ps) :
    ∃ f : Flt, v = .agg #[.int .i64 f.k, .int .i64 f.st, .int .i64 f.lt, .int .i64 f.wi] := by
  obtain ⟨cs, rfl, hsz⟩ := okWide_struct Tryz.underlying41 hv
  rw [cellsFault] at hsz
  obtain ⟨L⟩ := cs
  match L, hsz with
  | [a0, a1, a2, a3], _ =>
    obtain ⟨fuel, hf⟩ := h
    obtain ⟨f, f0, f1, f2, f3⟩ := fault_of hf
    subst f0 f1 f2 f3
    exact ⟨f, rfl⟩
end
end Go.Proofs.YtmfklcnocekdlaaGreatDoor

namespace Go.Proofs.YtmfklcnocekdlaaGreatDoor
open Go Go.RowKit Tor

theorem rowErrF (u : TypeId) (h : Tryz.prog.typeName? 3 u = some "*errors.errorString") : u = 229 :=
  typeName_ptr_named (nm := "errors.errorString") (by rw [show "*" ++ "errors.errorString" = "*errors.errorString" by decide]; kernel_rfl) (by kernel_rfl) (by decide) u (by rw [show "*" ++ "errors.errorString" = "*errors.errorString" by decide]; exact h)
theorem dt_of_laid {W : World} (hsh : W.ShapedOpen Tryz.prog) (h : laidMet Tryz.prog Rows.faultsTextsRow.laid W) : DtAt W := by
  have h1 := h.tail.tail
  have h2 := h1.tail.tail
  have hp : Lib.TabIs Tryz.prog W "internal/strconv.uint64pow10" .u64 Lib.pow10Tab :=
    Lib.tabIs_of_head (g := 1) (t := 196) (by kernel_rfl) (by kernel_rfl) Tryz.underlying196 Tryz.underlying176 (by kernel_rfl) (by kernel_rfl) h1
  obtain ⟨a, s, hv, _⟩ := laid_sentinel h2 (g := 3) (ti := 68) (by kernel_rfl) (by kernel_rfl) Tryz.underlying68 rowErrF Tryz.underlying229 Tryz.underlying231 rfl rfl Tryz.underlying9 (by kernel_rfl) (by kernel_rfl)
  refine ⟨Tryz.laysM146.s1_3 W hsh, hp, .iface 229 (.pointer (some a)), ?_, .inr ⟨_, _, rfl⟩⟩
  rw [World.var?_cell (g := 3) (by kernel_rfl) hv 0]; rfl
end Go.Proofs.YtmfklcnocekdlaaGreatDoor

