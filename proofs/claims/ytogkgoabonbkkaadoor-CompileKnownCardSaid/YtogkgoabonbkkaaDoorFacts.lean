/- Facts on the program's types: equality of steps and of works. -/
import Derived.Test.YtogkgoabonbkkaaDoorRows
import Derived.Test.YtogkgoabonbkkaaDoorBase
namespace Go.Proofs.YtogkgoabonbkkaaDoor
open Go Go.RowKit Tor

theorem beqS (a b : ByteArray) : (a.toList == b.toList) = decide (a = b) := by
  rw [ByteArray.toList_eq, ByteArray.toList_eq]
  obtain ⟨⟨x⟩⟩ := a
  obtain ⟨⟨y⟩⟩ := b
  by_cases h : x = y <;> simp [h]

theorem guardStep : Tryd.prog.eqGuardType Tryd.prog.depth 33 = false := by kernel_rfl
theorem guardWork : Tryd.prog.eqGuardType Tryd.prog.depth 46 = false := by kernel_rfl
theorem heldStep : Tryd.prog.stoodInHeld 33 = false := by kernel_rfl
theorem heldWork : Tryd.prog.stoodInHeld 46 = false := by kernel_rfl

theorem eqTri (t : TypeId) (f0 f1 f2 : Field) (hu : Tryd.prog.underlying t = some (.struct #[f0, f1, f2])) (hh : Tryd.prog.stoodInHeld t = false)
    (h0 : f0.name ≠ "_" ∧ f0.type = 3 ∧ f0.offset = 0) (h1 : f1.name ≠ "_" ∧ f1.type = 3 ∧ f1.offset = 1) (h2 : f2.name ≠ "_" ∧ f2.type = 9 ∧ f2.offset = 2)
    (x y : Tri) (w : World) (d : Nat) :
    (Op.equalIn (d + 2) t (.agg #[.int .i64 x.a, .int .i64 x.b, .string x.s]) (.agg #[.int .i64 y.a, .int .i64 y.b, .string y.s])).run Tryd.prog w = .ok (decide (x = y)) w := by
  have hf : Tryd.prog.fieldsOf t = #[f0, f1, f2] := by simp [Program.fieldsOf, hu]
  rw [run_equalIn_struct w (d + 1) t _ _ (by rw [hf, hu]) hh, hf]
  have u3 := Tryd.underlying3
  have u9 := Tryd.underlying9
  obtain ⟨a0, b0, c0⟩ := h0
  obtain ⟨a1, b1, c1⟩ := h1
  obtain ⟨a2, b2, c2⟩ := h2
  obtain ⟨xa, xb, xs⟩ := x
  obtain ⟨ya, yb, ys⟩ := y
  by_cases e0 : xa = ya <;> by_cases e1 : xb = yb <;> by_cases e2 : xs = ys <;>
    simp [go_sem, a0, a1, a2, b0, b1, b2, c0, c1, c2, u3, u9, e0, e1, e2, beqS, part]

theorem eqStep (x y : Tri) (w : World) (d : Nat) :
    (Op.equalIn (d + 2) 33 (.agg #[.int .i64 x.a, .int .i64 x.b, .string x.s]) (.agg #[.int .i64 y.a, .int .i64 y.b, .string y.s])).run Tryd.prog w = .ok (decide (x = y)) w :=
  eqTri 33 _ _ _ Tryd.underlying33 heldStep (by simp) (by simp) (by simp) x y w d
theorem eqWork (x y : Tri) (w : World) (d : Nat) :
    (Op.equalIn (d + 2) 46 (.agg #[.int .i64 x.a, .int .i64 x.b, .string x.s]) (.agg #[.int .i64 y.a, .int .i64 y.b, .string y.s])).run Tryd.prog w = .ok (decide (x = y)) w :=
  eqTri 46 _ _ _ Tryd.underlying46 heldWork (by simp) (by simp) (by simp) x y w d

attribute [go_sem] guardStep guardWork heldStep heldWork

theorem tri_eq (x y : Tri) : x = y ↔ x.a = y.a ∧ x.b = y.b ∧ x.s.toList = y.s.toList := by
  have h : x.s.toList = y.s.toList ↔ x.s = y.s := by
    have := beqS x.s y.s
    by_cases e : x.s = y.s
    · simp [e]
    · simp only [e, decide_false, beq_eq_false_iff_ne, iff_false] at this ⊢; exact this
  obtain ⟨xa, xb, xs⟩ := x
  obtain ⟨ya, yb, ys⟩ := y
  simp only [Tri.mk.injEq] at *
  rw [h]


/-- the walk's nested test of two triples, as one test -/
@[go_sem] theorem tri_ite_neq (x y : Tri) (w : World) :
    (if x.a = y.a then if x.b = y.b then if x.s.toList = y.s.toList then Result.ok (Next.value (Value.bool false)) w else Result.ok (Next.value (Value.bool true)) w
      else Result.ok (Next.value (Value.bool true)) w else Result.ok (Next.value (Value.bool true)) w) = Result.ok (Next.value (Value.bool (!decide (x = y)))) w := by
  by_cases h0 : x.a = y.a <;> by_cases h1 : x.b = y.b <;> by_cases h2 : x.s.toList = y.s.toList <;> simp [tri_eq, h0, h1, h2]
@[go_sem] theorem tri_ite_eql (x y : Tri) (w : World) :
    (if x.a = y.a then if x.b = y.b then if x.s.toList = y.s.toList then Result.ok (Next.value (Value.bool true)) w else Result.ok (Next.value (Value.bool false)) w
      else Result.ok (Next.value (Value.bool false)) w else Result.ok (Next.value (Value.bool false)) w) = Result.ok (Next.value (Value.bool (decide (x = y)))) w := by
  by_cases h0 : x.a = y.a <;> by_cases h1 : x.b = y.b <;> by_cases h2 : x.s.toList = y.s.toList <;> simp [tri_eq, h0, h1, h2]

end Go.Proofs.YtogkgoabonbkkaaDoor
