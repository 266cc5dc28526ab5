/- Plain theory and walks of small functions (OldA1). -/
import Derived.WalkKit
import Derived.Lib.Hide
import Derived.BigQuiet
import Derived.Deep.QuietTactic
import Derived.Outline
import Derived.Test.YtfnklchhhojimaaRows
import Derived.Lib.Bytealg
import Derived.Deep.RegionHeld3
set_option linter.unusedSimpArgs false
set_option linter.unusedVariables false
namespace Tor
open Go Go.RowKit

/-- three cells: a number, a number, a string (a work of a sheet; a step of instructions) -/
structure Tri where
  a : Int
  b : Int
  s : ByteArray
deriving DecidableEq

instance : Inhabited Tri := ⟨⟨0, 0, .empty⟩⟩

def Tri.enc (x : Tri) : List Value := [.int .i64 x.a, .int .i64 x.b, .string x.s]
def ienc (x : Int) : List Value := [.int .i64 x]
def benc (x : Bool) : List Value := [.bool x]
def senc (x : ByteArray) : List Value := [.string x]


/-- the slice's address A is that of a row below block B that reads as the list l (sz cells an element) -/
def Rd {α : Type} (sz : Nat) (enc : α → List Value) (w : World) (B : Nat) (A : Option Addr) (l : List α) : Prop :=
  l ≠ [] → ∃ b o, A = some ⟨b, o, none⟩ ∧ b < B ∧ ∀ k x, l[k]? = some x → ∀ j u, (enc x)[j]? = some u → w.cell? ⟨b, o + k * sz + j, none⟩ = some u

abbrev RdT := Rd 3 Tri.enc
abbrev RdI := Rd 1 ienc
abbrev RdB := Rd 1 benc
abbrev RdS := Rd 1 senc

section
variable {α : Type} {sz : Nat} {enc : α → List Value} {w w' : World} {B B' : Nat} {A : Option Addr} {l : List α}

theorem Rd.nil : Rd sz enc w B A [] := fun h => absurd rfl h

theorem Rd.keep (h : Rd sz enc w B A l) (hk : ∀ p : Addr, p.block < B → w'.cell? p = w.cell? p) : Rd sz enc w' B A l := fun hl => by
  obtain ⟨b, o, e, hb, hc⟩ := h hl
  exact ⟨b, o, e, hb, fun k x hx j u hu => (hk ⟨b, _, none⟩ hb).trans (hc k x hx j u hu)⟩

theorem Rd.below (h : Rd sz enc w B A l) (hb : Below B w w') : Rd sz enc w' B A l := h.keep fun _ hp => hb.cell hp

theorem Rd.below' (h : Rd sz enc w B A l) (hb : Below B' w w') (hB : B ≤ B') : Rd sz enc w' B A l := h.keep fun _ hp => hb.cell (Nat.lt_of_lt_of_le hp hB)

theorem Rd.more (h : Rd sz enc w B A l) (hB : B ≤ B') : Rd sz enc w B' A l := fun hl => by
  obtain ⟨b, o, e, hb, hc⟩ := h hl
  exact ⟨b, o, e, by omega, hc⟩
end

theorem Rd.tri {w : World} {B : Nat} {A : Option Addr} {l : List Tri} (h : RdT w B A l) {k : Nat} (hk : k < l.length) :
    ∃ b o, A = some ⟨b, o, none⟩ ∧ b < B ∧ w.cell? ⟨b, o + k * 3, none⟩ = some (.int .i64 l[k].a) ∧
      w.cell? ⟨b, o + k * 3 + 1, none⟩ = some (.int .i64 l[k].b) ∧ w.cell? ⟨b, o + k * 3 + 2, none⟩ = some (.string l[k].s) := by
  obtain ⟨b, o, e, hb, hc⟩ := h (by intro e; subst e; simp at hk)
  have hx : l[k]? = some l[k] := List.getElem?_eq_getElem hk
  exact ⟨b, o, e, hb, hc k _ hx 0 _ rfl, hc k _ hx 1 _ rfl, hc k _ hx 2 _ rfl⟩

theorem Rd.int {w : World} {B : Nat} {A : Option Addr} {l : List Int} (h : RdI w B A l) {k : Nat} (hk : k < l.length) :
    ∃ b o, A = some ⟨b, o, none⟩ ∧ b < B ∧ w.cell? ⟨b, o + k, none⟩ = some (.int .i64 l[k]) := by
  obtain ⟨b, o, e, hb, hc⟩ := h (by intro e; subst e; simp at hk)
  have hx : l[k]? = some l[k] := List.getElem?_eq_getElem hk
  have := hc k _ hx 0 _ rfl
  simp only [Nat.mul_one, Nat.add_zero] at this
  exact ⟨b, o, e, hb, this⟩

theorem Rd.bool {w : World} {B : Nat} {A : Option Addr} {l : List Bool} (h : RdB w B A l) {k : Nat} (hk : k < l.length) :
    ∃ b o, A = some ⟨b, o, none⟩ ∧ b < B ∧ w.cell? ⟨b, o + k, none⟩ = some (.bool l[k]) := by
  obtain ⟨b, o, e, hb, hc⟩ := h (by intro e; subst e; simp at hk)
  have hx : l[k]? = some l[k] := List.getElem?_eq_getElem hk
  have := hc k _ hx 0 _ rfl
  simp only [Nat.mul_one, Nat.add_zero] at this
  exact ⟨b, o, e, hb, this⟩


/-- an owned row (made by the call) that reads as the list l -/
def Own {α : Type} (sz : Nat) (enc : α → List Value) (w : World) (base : Nat) (e : TypeId) (v : Value) (l : List α) : Prop :=
  w.ownsRow base e sz v l.length (l.flatMap enc)

theorem flatMap_get {α : Type} {sz : Nat} {enc : α → List Value} (henc : ∀ x, (enc x).length = sz) :
    ∀ (l : List α) (k : Nat) (x : α), l[k]? = some x → ∀ j u, (enc x)[j]? = some u → (l.flatMap enc)[k * sz + j]? = some u
  | [], _, _, h => by simp at h
  | y :: l, 0, x, h => fun j u hu => by
    simp only [List.getElem?_cons_zero, Option.some.injEq] at h
    subst h
    have hj : j < (enc y).length := (List.getElem?_eq_some_iff.1 hu).1
    simp only [List.flatMap_cons, Nat.zero_mul, Nat.zero_add]
    rw [List.getElem?_append_left hj]
    exact hu
  | y :: l, k + 1, x, h => fun j u hu => by
    simp only [List.getElem?_cons_succ] at h
    have ih := flatMap_get henc l k x h j u hu
    simp only [List.flatMap_cons]
    rw [List.getElem?_append_right (by rw [henc]; have : (k+1) * sz = k * sz + sz := Nat.succ_mul k sz; omega), henc]
    rw [← ih]
    congr 1
    have : (k+1) * sz = k * sz + sz := Nat.succ_mul k sz
    omega

theorem Own.rd {α : Type} {sz : Nat} {enc : α → List Value} (henc : ∀ x, (enc x).length = sz) {w : World} {base : Nat} {e : TypeId} {v : Value} {l : List α} (h : Own sz enc w base e v l) :
    ∃ A c, v = .slice A l.length c ∧ l.length ≤ c ∧ Rd sz enc w w.heap.size A l := by
  obtain ⟨hlen, h2⟩ := h
  rcases h2 with ⟨rfl, hn⟩ | ⟨g, cap, cur, rfl, hg, hh, hnc, hcm, hcs, htake⟩
  · have : l = [] := List.eq_nil_of_length_eq_zero hn
    subst this
    exact ⟨none, 0, rfl, Nat.le_refl _, Rd.nil⟩
  · refine ⟨_, cap, rfl, hnc, fun hl => ⟨g, 0, rfl, ?_, fun k x hx j u hu => ?_⟩⟩
    · rcases Nat.lt_or_ge g w.heap.size with h | h
      · exact h
      · rw [Array.getElem?_eq_none h] at hh; cases hh
    · have hg' := flatMap_get henc l k x hx j u hu
      rw [← htake, List.getElem?_take] at hg'
      split at hg'
      · simp only [World.cell?, hh, Nat.zero_add]
        simpa using hg'
      · cases hg'

theorem Own.nil {α : Type} {sz : Nat} {enc : α → List Value} (w : World) (base : Nat) (e : TypeId) : Own sz enc w base e (.slice none 0 0) ([] : List α) :=
  World.ownsRow_nil w base e sz

theorem tri_len (x : Tri) : x.enc.length = 3 := rfl
theorem int_len (x : Int) : (ienc x).length = 1 := rfl
theorem bool_len (x : Bool) : (benc x).length = 1 := rfl

theorem ret_int {k : IntKind} {a b : Int} (h : a = b) : Ending.returned (.int k a) = .returned (.int k b) := by rw [h]
theorem ret_bool {a b : Bool} (h : a = b) : Ending.returned (.bool a) = .returned (.bool b) := by rw [h]

theorem _root_.Go.RowKit.Below.drewN {B : Nat} {a w : World} (h : Below B a w) (n : Nat) : Below B a (w.drewN n) := ⟨h.os, h.tape, h.output, h.size, h.block⟩


/-- the call returned v; what was there is as it was -/
def Ret (v : Value) (w : World) (e : Ending) (w' : World) : Prop := e = .returned v ∧ Below w.heap.size w w'
theorem Ret.int {k : IntKind} {a b : Int} {w w' : World} (h : a = b) (hB : Below w.heap.size w w') : Ret (.int k b) w (.returned (.int k a)) w' := ⟨by rw [h], hB⟩
theorem Ret.bool {a b : Bool} {w w' : World} (h : a = b) (hB : Below w.heap.size w w') : Ret (.bool b) w (.returned (.bool a)) w' := ⟨by rw [h], hB⟩
theorem Ret.val {u v : Value} {w w' : World} (h : u = v) (hB : Below w.heap.size w w') : Ret v w (.returned u) w' := ⟨by rw [h], hB⟩

theorem lt_of_cell {w : World} {b o : Nat} {v : Value} (h : w.cell? ⟨b, o, none⟩ = some v) : b < w.heap.size := by
  rcases Nat.lt_or_ge b w.heap.size with h1 | h1
  · exact h1
  · simp [World.cell?, Array.getElem?_eq_none h1] at h

/-! ### a region that draws its order, whose operations read and whose callees may make memory -/

/-- a world that has grown: what was there is as it was -/
structure Ex (w0 : World) where
  w : World
  h : Below w0.heap.size w0 w

instance (w0 : World) : Inhabited (Ex w0) := ⟨⟨w0, Below.refl _ _⟩⟩

@[go_sem] theorem Ex.cell {w0 : World} (g : Ex w0) (b o : Nat) (hb : b < w0.heap.size) : g.w.cell? ⟨b, o, none⟩ = w0.cell? ⟨b, o, none⟩ := g.h.cell (p := ⟨b, o, none⟩) hb

theorem wp_region_ex {P : Program} {id : Nat} {Q : Exit → Act → World → Prop} {a : Act} {w : World} {l : List Oper} (hm : P.follows .mixedOrders = true) (hB : Region.lexB .any l.toArray = true)
    (h : wpQuiet P l.toArray (fun w' => ∃ g : Ex w, w' = g.w) (fun a' => ∀ w', (∃ g : Ex w, w' = g.w) → Q .normal a' w') l a) : (Code.region id l.toArray true).wp P Q a w :=
  wp_region_quiet (C := fun w' => ∃ g : Ex w, w' = g.w) hm hB ⟨⟨{ w with drawn := w.drawn + 1 }, ⟨rfl, rfl, rfl, Nat.le_refl _, fun _ _ => rfl⟩⟩, rfl⟩ (by simpa using h)

theorem calls_ex {P : Program} {f : FuncId} {args : Array Value} {w : World} {g : Ex w} {v : Value}
    (h : Calls P f args g.w (Ret v g.w)) : Calls P f args g.w fun e w'' => e = .returned v ∧ ∃ g' : Ex w, w'' = g'.w :=
  h.mono fun _ _ ⟨he, hb⟩ => ⟨he, ⟨_, g.h.trans (hb.mono g.h.size)⟩, rfl⟩

/-! ### lists -/
theorem take_snoc {α : Type} (l : List α) (k : Nat) (h : k < l.length) : l.take (k + 1) = l.take k ++ [l[k]] := List.take_succ_eq_append_getElem h
theorem take_all {α : Type} (l : List α) (k : Nat) (h : ¬ k < l.length) : l.take k = l := List.take_of_length_le (by omega)
theorem take_ne {α : Type} {l m : List α} {k : Nat} (hl : k < l.length) (hm : k < m.length) (h : l[k] ≠ m[k]) : l ≠ m := fun e => by subst e; exact h rfl
theorem take_eq_snoc {α : Type} {l m : List α} {k : Nat} (hl : k < l.length) (hm : k < m.length) (h : l[k] = m[k]) (ht : l.take k = m.take k) : l.take (k + 1) = m.take (k + 1) := by
  rw [take_snoc l k hl, take_snoc m k hm, ht, h]
theorem take_eq_all {α : Type} {l m : List α} {k : Nat} (hl : ¬ k < l.length) (hn : l.length = m.length) (ht : l.take k = m.take k) : l = m := by
  rw [take_all l k hl, take_all m k (by omega)] at ht
  exact ht

end Tor

namespace Go.Proofs.Ytfnklchhhojimaa
open Go Go.RowKit Tor

theorem beqS (a b : ByteArray) : (a.toList == b.toList) = decide (a = b) := by
  rw [ByteArray.toList_eq, ByteArray.toList_eq]
  obtain ⟨⟨x⟩⟩ := a
  obtain ⟨⟨y⟩⟩ := b
  by_cases h : x = y <;> simp [h]

theorem guardStep : Try.prog.eqGuardType Try.prog.depth 45 = false := by kernel_rfl
theorem guardWork : Try.prog.eqGuardType Try.prog.depth 54 = false := by kernel_rfl
theorem heldStep : Try.prog.stoodInHeld 45 = false := by kernel_rfl
theorem heldWork : Try.prog.stoodInHeld 54 = false := by kernel_rfl

theorem eqTri (t : TypeId) (f0 f1 f2 : Field) (hu : Try.prog.underlying t = some (.struct #[f0, f1, f2])) (hh : Try.prog.stoodInHeld t = false)
    (h0 : f0.name ≠ "_" ∧ f0.type = 3 ∧ f0.offset = 0) (h1 : f1.name ≠ "_" ∧ f1.type = 3 ∧ f1.offset = 1) (h2 : f2.name ≠ "_" ∧ f2.type = 9 ∧ f2.offset = 2)
    (x y : Tri) (w : World) (d : Nat) :
    (Op.equalIn (d + 2) t (.agg #[.int .i64 x.a, .int .i64 x.b, .string x.s]) (.agg #[.int .i64 y.a, .int .i64 y.b, .string y.s])).run Try.prog w = .ok (decide (x = y)) w := by
  have hf : Try.prog.fieldsOf t = #[f0, f1, f2] := by simp [Program.fieldsOf, hu]
  rw [run_equalIn_struct w (d + 1) t _ _ (by rw [hf, hu]) hh, hf]
  have u3 := Try.underlying3
  have u9 := Try.underlying9
  obtain ⟨a0, b0, c0⟩ := h0
  obtain ⟨a1, b1, c1⟩ := h1
  obtain ⟨a2, b2, c2⟩ := h2
  obtain ⟨xa, xb, xs⟩ := x
  obtain ⟨ya, yb, ys⟩ := y
  by_cases e0 : xa = ya <;> by_cases e1 : xb = yb <;> by_cases e2 : xs = ys <;>
    simp [go_sem, a0, a1, a2, b0, b1, b2, c0, c1, c2, u3, u9, e0, e1, e2, beqS, part]

theorem eqStep (x y : Tri) (w : World) (d : Nat) :
    (Op.equalIn (d + 2) 45 (.agg #[.int .i64 x.a, .int .i64 x.b, .string x.s]) (.agg #[.int .i64 y.a, .int .i64 y.b, .string y.s])).run Try.prog w = .ok (decide (x = y)) w :=
  eqTri 45 _ _ _ Try.underlying45 heldStep (by simp) (by simp) (by simp) x y w d
theorem eqWork (x y : Tri) (w : World) (d : Nat) :
    (Op.equalIn (d + 2) 54 (.agg #[.int .i64 x.a, .int .i64 x.b, .string x.s]) (.agg #[.int .i64 y.a, .int .i64 y.b, .string y.s])).run Try.prog w = .ok (decide (x = y)) w :=
  eqTri 54 _ _ _ Try.underlying54 heldWork (by simp) (by simp) (by simp) x y w d

attribute [go_sem] guardStep guardWork heldStep heldWork

theorem tri_eq (x y : Tri) : x = y ↔ x.a = y.a ∧ x.b = y.b ∧ x.s.toList = y.s.toList := by
  have h : x.s.toList = y.s.toList ↔ x.s = y.s := by
    have := beqS x.s y.s
    by_cases e : x.s = y.s
    · simp [e]
    · simp only [e, decide_false, beq_eq_false_iff_ne, iff_false] at this ⊢; exact this
  obtain ⟨xa, xb, xs⟩ := x
  obtain ⟨ya, yb, ys⟩ := y
  simp only [Tri.mk.injEq] at *
  rw [h]


/-- the walk's nested test of two triples, as one test -/
@[go_sem] theorem tri_ite_neq (x y : Tri) (w : World) :
    (if x.a = y.a then if x.b = y.b then if x.s.toList = y.s.toList then Result.ok (Next.value (Value.bool false)) w else Result.ok (Next.value (Value.bool true)) w
      else Result.ok (Next.value (Value.bool true)) w else Result.ok (Next.value (Value.bool true)) w) = Result.ok (Next.value (Value.bool (!decide (x = y)))) w := by
  by_cases h0 : x.a = y.a <;> by_cases h1 : x.b = y.b <;> by_cases h2 : x.s.toList = y.s.toList <;> simp [tri_eq, h0, h1, h2]
@[go_sem] theorem tri_ite_eql (x y : Tri) (w : World) :
    (if x.a = y.a then if x.b = y.b then if x.s.toList = y.s.toList then Result.ok (Next.value (Value.bool true)) w else Result.ok (Next.value (Value.bool false)) w
      else Result.ok (Next.value (Value.bool false)) w else Result.ok (Next.value (Value.bool false)) w) = Result.ok (Next.value (Value.bool (decide (x = y)))) w := by
  by_cases h0 : x.a = y.a <;> by_cases h1 : x.b = y.b <;> by_cases h2 : x.s.toList = y.s.toList <;> simp [tri_eq, h0, h1, h2]

end Go.Proofs.Ytfnklchhhojimaa

namespace Go.Proofs.Ytfnklchhhojimaa
open Go Go.RowKit Tor



/-- Reaches, program and reference -/
def reachesN (l : List Tri) : Nat := (l.filter (fun x => decide (x.a = 1))).length
theorem reachesN_step (l : List Tri) (k : Nat) (h : k < l.length) : reachesN (l.take (k + 1)) = reachesN (l.take k) + (if l[k].a = 1 then 1 else 0) := by
  rw [take_snoc l k h]
  unfold reachesN
  rw [List.filter_append, List.length_append]
  by_cases e : l[k].a = 1 <;> simp [e]
theorem reachesN_le (l : List Tri) (k : Nat) : reachesN (l.take k) ≤ k := by
  unfold reachesN
  have := List.length_filter_le (fun x : Tri => decide (x.a = 1)) (l.take k)
  have := List.length_take_le k l
  omega

end Go.Proofs.Ytfnklchhhojimaa

namespace Go.Proofs.Ytfnklchhhojimaa
open Go Go.RowKit Tor

def spansB (pairs span : Int) : Bool := decide (2 ≤ span) && decide (span ≤ 8) && decide (span ≤ pairs)

theorem spans_any (p s : Int) (w : World) :
    Calls Try.prog 42 #[.int .i64 p, .int .i64 s] w (Ret (.bool (spansB p s)) w) := by
  by_cases h1 : 2 ≤ s <;> by_cases h2 : s ≤ 8 <;> by_cases h3 : s ≤ p
  all_goals
    go_enter Try.func42, Try.ntmps42
    go_wp2
    go_ret
    exact Ret.bool (by rw [Bool.eq_iff_iff]; simp [spansB] <;> omega) (Below.refl _ _)

theorem cspans_any (p s : Int) (w : World) :
    Calls Try.prog 57 #[.int .i64 p, .int .i64 s] w (Ret (.bool (spansB p s)) w) := by
  by_cases h1 : 2 ≤ s <;> by_cases h2 : s ≤ 8 <;> by_cases h3 : s ≤ p
  all_goals
    go_enter Try.func57, Try.ntmps57
    go_wp2
    all_goals go_ret
    all_goals exact Ret.bool (by rw [Bool.eq_iff_iff]; simp [spansB] <;> omega) (Below.refl _ _)

def heldB (h s at' : Int) : Bool := decide (0 ≤ h) && decide (h ≤ at') && decide (at' + 2 ≤ h + s)

theorem held_any (h s t : Int) (w : World) (b1 : -1000 ≤ h) (b2 : h ≤ 1000) (b3 : -1000 ≤ s) (b4 : s ≤ 1000) (b5 : -1000 ≤ t) (b6 : t ≤ 1000) :
    Calls Try.prog 45 #[.int .i64 h, .int .i64 s, .int .i64 t] w (Ret (.bool (heldB h s t)) w) := by
  by_cases h1 : 0 ≤ h <;> by_cases h2 : h ≤ t <;> by_cases h3 : t + 2 ≤ h + s
  all_goals
    go_enter Try.func45, Try.ntmps45
    go_wp2
    all_goals go_ret
    all_goals exact Ret.bool (by rw [Bool.eq_iff_iff]; simp [heldB] <;> omega) (Below.refl _ _)

def touchB (x y : Int) : Bool := decide (x - y ≤ 1) && decide (y - x ≤ 1)


end Go.Proofs.Ytfnklchhhojimaa

namespace Tor
open Go

theorem idx_none : ∀ (l : List UInt8) (c : UInt8), (∀ j, j < l.length → l[j]? ≠ some c) → Lib.indexByte l c = -1
  | [], _, _ => rfl
  | b :: l, c, h => by
    have h0 : b ≠ c := by have := h 0 (by simp); simpa using this
    have ih := idx_none l c (fun j hj => by have := h (j + 1) (by simp; omega); simpa using this)
    unfold Lib.indexByte
    simp [h0, ih]

theorem idx_at : ∀ (l : List UInt8) (c : UInt8) (k : Nat), (∀ j, j < k → l[j]? ≠ some c) → l[k]? = some c → Lib.indexByte l c = k
  | [], _, _, _, h => by simp at h
  | b :: l, c, 0, _, h => by
    simp only [List.getElem?_cons_zero, Option.some.injEq] at h
    unfold Lib.indexByte
    simp [h]
  | b :: l, c, k + 1, hn, h => by
    have h0 : b ≠ c := by have := hn 0 (by omega); simpa using this
    have ih := idx_at l c k (fun j hj => by have := hn (j + 1) (by omega); simpa using this) (by simpa using h)
    unfold Lib.indexByte
    have : ¬ (k : Int) = -1 := by omega
    simp [h0, ih, this]

theorem idx_neg (l : List UInt8) (c : UInt8) : Lib.indexByte l c < 0 ↔ c ∉ l := by
  induction l with
  | nil => simp [Lib.indexByte]
  | cons b l ih =>
    unfold Lib.indexByte
    by_cases hb : b = c
    · subst hb; simp
    · have hge := Lib.indexByte_ge l c
      have hb' : ¬ c = b := fun e => hb e.symm
      simp only [beq_iff_eq, hb, if_false, List.mem_cons, hb', false_or]
      rw [← ih]
      by_cases h1 : Lib.indexByte l c = -1
      · simp [h1]
      · simp only [h1, if_false]
        constructor
        · intro h; omega
        · intro h; omega


/-- the letters of moves -/
def letters : ByteArray := ⟨#[67, 84, 76, 82, 80, 99, 116, 108, 114]⟩
def lettersL : List UInt8 := [67, 84, 76, 82, 80, 99, 116, 108, 114]
theorem letters_data : letters.data.toList = lettersL := rfl
def isLetter (c : UInt8) : Bool := decide (c ∈ lettersL)


/-- what is wrong with a word -/
def wordE (s : ByteArray) : Int := if 16 < s.size then 3 else if s.data.toList.all isLetter then 0 else 6

theorem bsize (s : ByteArray) : s.data.toList.length = s.size := by rw [Array.length_toList]; rfl

theorem bget (s : ByteArray) (k : Nat) (h : k < s.size) : s.data.toList[k]? = some s[k] := by
  have : k < s.data.size := h
  simp [Array.getElem?_eq_getElem this]; rfl

theorem isLetter_neg (c : UInt8) : Lib.indexByte lettersL c < 0 ↔ isLetter c = false := by rw [idx_neg]; simp [isLetter]

theorem isLetter_pos (c : UInt8) : 0 ≤ Lib.indexByte lettersL c ↔ isLetter c = true := by
  have := isLetter_neg c
  cases h : isLetter c
  · simp only [h, iff_true] at this; simp; omega
  · simp only [h] at this; simp at this ⊢; omega

theorem all_snoc (l : List UInt8) (k : Nat) (h : k < l.length) (h1 : (l.take k).all isLetter = true) (h2 : isLetter l[k] = true) : (l.take (k + 1)).all isLetter = true := by
  rw [take_snoc l k h]; simp only [List.all_append, h1, List.all_cons, h2, List.all_nil, Bool.and_self]
theorem all_not (l : List UInt8) (k : Nat) (h : k < l.length) (h2 : isLetter l[k] = false) : l.all isLetter = false := by
  rw [List.all_eq_false]; exact ⟨l[k], List.getElem_mem h, by simp [h2]⟩
theorem bgetL (s : ByteArray) (k : Nat) (h : k < s.size) : s.data.toList[k]'(by rw [bsize]; exact h) = s[k] := by
  have := bget s k h
  rw [List.getElem?_eq_getElem (by rw [bsize]; exact h)] at this
  simpa using this


/-- a work that is not as it should be (of so many pairs) -/
def badW (p : Int) (x : Tri) : Bool := decide (x.a ≠ 1 ∧ x.a ≠ 2) || decide (x.b < 0) || decide (p - 2 < x.b) || decide (x.a = 2 ∧ x.s.size ≠ 0)
def longW (x : Tri) : Bool := decide (16 < x.s.size)
def wrongW (x : Tri) : Bool := decide (wordE x.s ≠ 0)

/-- what is wrong with a sheet -/
def sheetE (p : Int) (l : List Tri) : Int :=
  if 24 < p ∨ 400 < l.length ∨ l.any longW = true then 3 else if p < 2 then 2 else if l.any (badW p) = true then 2 else if l.any wrongW = true then 6 else 0

theorem any_snoc {α : Type} (f : α → Bool) (l : List α) (k : Nat) (h : k < l.length) (h1 : (l.take k).any f = false) (h2 : f l[k] = false) : (l.take (k + 1)).any f = false := by
  rw [take_snoc l k h]; simp only [List.any_append, h1, List.any_cons, h2, List.any_nil, Bool.or_self]
theorem any_at {α : Type} (f : α → Bool) (l : List α) (k : Nat) (h : k < l.length) (h2 : f l[k] = true) : l.any f = true := by
  rw [List.any_eq_true]; exact ⟨l[k], List.getElem_mem h, h2⟩
theorem any_end {α : Type} (f : α → Bool) (l : List α) (k : Nat) (h : ¬ k < l.length) (h1 : (l.take k).any f = false) : l.any f = false := by
  rwa [take_all l k h] at h1
theorem any_not {α : Type} {f : α → Bool} {l : List α} (h : l.any f = false) (k : Nat) (hk : k < l.length) : f l[k] = false := by
  rw [List.any_eq_false] at h
  simpa using h l[k] (List.getElem_mem hk)

theorem bemp (s : ByteArray) : (!s.toList.isEmpty) = decide (s.size ≠ 0) := by
  have h : s.toList.length = s.size := by rw [ByteArray.toList_eq, bsize]
  cases e : s.toList with
  | nil => rw [e] at h; simp at h; simp [← h]
  | cons a r => rw [e] at h; simp at h; simp [← h]
theorem snil (s : ByteArray) : s.toList = [] ↔ s.size = 0 := by
  have h : s.toList.length = s.size := by rw [ByteArray.toList_eq, bsize]
  rw [← List.length_eq_zero_iff, h]
theorem maxif (a b : Int) : (if a < b then b else a) = max a b := by split <;> omega
theorem badW_true (p : Int) (x : Tri) : badW p x = true ↔ (x.a ≠ 1 ∧ x.a ≠ 2) ∨ x.b < 0 ∨ p - 2 < x.b ∨ (x.a = 2 ∧ x.s.size ≠ 0) := by
  simp only [badW, Bool.or_eq_true, decide_eq_true_eq, or_assoc]
theorem badW_false (p : Int) (x : Tri) : badW p x = false ↔ ¬ ((x.a ≠ 1 ∧ x.a ≠ 2) ∨ x.b < 0 ∨ p - 2 < x.b ∨ (x.a = 2 ∧ x.s.size ≠ 0)) := by
  rw [← badW_true]; simp

end Tor

namespace Go.Proofs.Ytfnklchhhojimaa
open Go Go.RowKit Tor

theorem index_any (s : ByteArray) (c : UInt8) (w : World) (hs : s.size ≤ 1000000) :
    Calls Try.prog 67 #[.string s, .int .u8 c.toNat] w (Ret (.int .i64 (Lib.indexByte s.data.toList c)) w) := by
  go_enter Try.func67, Try.ntmps67
  go_wp2
  go_loop [5] (fun i => ∃ k : Nat, k ≤ s.size ∧ i = .int .i64 k ∧ Hid (∀ j, j < k → s.data.toList[j]? ≠ some c)) (fun i => s.size - (intOf i).toNat)
  case atStart => exact ⟨0, Nat.zero_le _, rfl, fun j hj => by omega⟩
  case round =>
    obtain ⟨k, hk, rfl, hno⟩ := hrel
    by_cases hlt : k < s.size
    · go_wp2
      · go_ret
        have h : ((s[k].toNat : Int) == (c.toNat : Int)) = true := by assumption
        have h' : s[k] = c := UInt8.toNat_inj.1 (by simp at h; omega)
        exact Ret.int (idx_at _ c k hno.out (by rw [bget s k hlt, h'])).symm (Below.refl _ _)
      · have h : ((s[k].toNat : Int) == (c.toNat : Int)) = false := by assumption
        have h' : s[k] ≠ c := fun e => by rw [e] at h; simp at h
        go_round
        case rel =>
          refine ⟨k + 1, by omega, by go_num, fun j hj => ?_⟩
          rcases Nat.lt_or_ge j k with hjk | hjk
          · exact hno.out j hjk
          · obtain rfl : j = k := by omega
            rw [bget s j hlt]
            simpa using h'
        case measure => simp [intOf]; omega
    · go_wp2
      go_ret
      exact Ret.int (idx_none _ c (fun j hj => hno.out j (by rw [bsize] at hj; omega))).symm (Below.refl _ _)

theorem ibs (s : ByteArray) (c : Int) (w : World) : (callFunc 88 #[.string s, .int .u8 c]).run Try.prog w = .ok (.value (.int .i64 (Lib.indexByte s.data.toList c.toNat.toUInt8))) w := by
  rw [run_callFunc_extern (e := Extern.BytealgIndexByte.indexByte) Try.func88 (by kernel_rfl) (by kernel_rfl) (by kernel_rfl) (by kernel_rfl), Lib.run_indexByteString]
  rfl

theorem indexByte_any (s : ByteArray) (c : UInt8) (w : World) :
    Calls Try.prog 71 #[.string s, .int .u8 c.toNat] w (Ret (.int .i64 (Lib.indexByte s.data.toList c)) w) := by
  have h := ibs s c.toNat
  have e : ((c.toNat : Int)).toNat.toUInt8 = c := by simp
  rw [e] at h
  go_enter Try.func71, Try.ntmps71
  go_wp2_with go_in
  go_ret
  exact Ret.int rfl (Below.refl _ _)


/-- what the walk of one letter gives -/
theorem letterRef (c : UInt8) (w : World) :
    Calls Try.prog 67 #[.string ⟨#[67, 84, 76, 82, 80, 99, 116, 108, 114]⟩, .int .u8 c.toNat] w (Ret (.int .i64 (Lib.indexByte lettersL c)) w) := index_any letters c w (by decide)
theorem letterIdx (c : UInt8) (w : World) :
    Calls Try.prog 71 #[.string ⟨#[67, 84, 76, 82, 80, 99, 116, 108, 114]⟩, .int .u8 c.toNat] w (Ret (.int .i64 (Lib.indexByte lettersL c)) w) := indexByte_any letters c w

theorem wordE_all (s : ByteArray) (k : Nat) (h16 : ¬ 16 < s.size) (hlt : ¬ k < s.size) (hno : (s.data.toList.take k).all isLetter = true) : wordE s = 0 := by
  rw [take_all _ _ (by rw [bsize]; exact hlt)] at hno
  simp [wordE, h16, hno]
theorem wordE_not (s : ByteArray) (k : Nat) (h16 : ¬ 16 < s.size) (hlt : k < s.size) (h2 : isLetter s[k] = false) : wordE s = 6 := by
  have := all_not s.data.toList k (by rw [bsize]; exact hlt) (by rw [bgetL s k hlt]; exact h2)
  simp [wordE, h16, this]
theorem wordE_step (s : ByteArray) (k : Nat) (hlt : k < s.size) (hno : (s.data.toList.take k).all isLetter = true) (h2 : isLetter s[k] = true) : (s.data.toList.take (k + 1)).all isLetter = true :=
  all_snoc _ k (by rw [bsize]; exact hlt) hno (by rw [bgetL s k hlt]; exact h2)

theorem wordRef_any (s : ByteArray) (w : World) (hs : s.size ≤ 9223372036854775807) :
    Calls Try.prog 44 #[.string s] w (Ret (.int .i64 (wordE s)) w) := by
  by_cases h16 : 16 < s.size
  · go_enter Try.func44, Try.ntmps44
    go_wp2
    go_ret
    exact Ret.int (by simp [wordE, h16]) (Below.refl _ _)
  · go_enter Try.func44, Try.ntmps44
    go_wp2
    go_loopw [3] (fun i wr => ∃ k : Nat, k ≤ s.size ∧ i = .int .i64 k ∧ Hid ((s.data.toList.take k).all isLetter = true) ∧ Below w.heap.size w wr) (fun i _ => s.size - (intOf i).toNat)
    case atStart => exact ⟨0, Nat.zero_le _, rfl, by simp [Hid], Below.refl _ _⟩
    case round =>
      obtain ⟨k, hk, rfl, hno, hB⟩ := hrel
      by_cases hlt : k < s.size
      · by_cases hl : Lib.indexByte lettersL s[k] < 0
        · go_wp2_with (go_at_call 67; refine (letterRef _ _).mono ?_; rintro e w1 ⟨rfl, hB1⟩)
          go_ret
          exact Ret.int (wordE_not s k h16 hlt ((isLetter_neg _).1 hl)).symm (hB.trans (hB1.mono hB.size))
        · go_wp2_with (go_at_call 67; refine (letterRef _ _).mono ?_; rintro e w1 ⟨rfl, hB1⟩)
          go_roundw
          case rel => exact ⟨k + 1, by omega, by go_num, wordE_step s k hlt hno.out ((isLetter_pos _).1 (by omega)), hB.trans (hB1.mono hB.size)⟩
          case measure => simp [intOf]; omega
      · go_wp2
        go_ret
        exact Ret.int (wordE_all s k h16 hlt hno.out).symm hB

theorem word_any (s : ByteArray) (w : World) (hs : s.size ≤ 9223372036854775807) :
    Calls Try.prog 59 #[.string s] w (Ret (.int .i64 (wordE s)) w) := by
  by_cases h16 : 16 < s.size
  · go_enter Try.func59, Try.ntmps59
    go_wp2
    go_ret
    exact Ret.int (by simp [wordE, h16]) (Below.refl _ _)
  · go_enter Try.func59, Try.ntmps59
    go_wp2
    go_loopw [9] (fun i wr => ∃ k : Nat, k ≤ s.size ∧ i = .int .i64 k ∧ Hid ((s.data.toList.take k).all isLetter = true) ∧ Below w.heap.size w wr) (fun i _ => s.size - (intOf i).toNat)
    case atStart => exact ⟨0, Nat.zero_le _, rfl, by simp [Hid], Below.refl _ _⟩
    case round =>
      obtain ⟨k, hk, rfl, hno, hB⟩ := hrel
      by_cases hlt : k < s.size
      · by_cases hl : Lib.indexByte lettersL s[k] < 0
        · go_wp2_with (go_at_call 71; refine (letterIdx _ _).mono ?_; rintro e w1 ⟨rfl, hB1⟩)
          go_ret
          exact Ret.int (wordE_not s k h16 hlt ((isLetter_neg _).1 hl)).symm (hB.trans (hB1.mono hB.size))
        · go_wp2_with (go_at_call 71; refine (letterIdx _ _).mono ?_; rintro e w1 ⟨rfl, hB1⟩)
          go_roundw
          case rel => exact ⟨k + 1, by omega, by go_num, wordE_step s k hlt hno.out ((isLetter_pos _).1 (by omega)), hB.trans (hB1.mono hB.size)⟩
          case measure => simp [intOf]; omega
      · go_wp2
        go_ret
        exact Ret.int (wordE_all s k h16 hlt hno.out).symm hB

theorem box_cell {w wr : World} {cs : Array Value} {t : TypeId} (hB : Below (w.heap.size + 1) (w.alloc (.cells cs t)) wr) (i : Nat) (v : Value) (h : cs[i]? = some v) : wr.cell? ⟨w.heap.size, i, none⟩ = some v := by
  rw [hB.cell (p := ⟨w.heap.size, i, none⟩) (by simp), World.cell?_alloc_new]; exact h
theorem box_below {w wr : World} {o : Obj} (hB : Below (w.heap.size + 1) (w.alloc o) wr) : Below w.heap.size w wr :=
  ((Below.refl _ _).alloc (Nat.le_refl _) _).trans (hB.mono (by simp))

theorem box_up {w wr : World} {o : Obj} (hB : Below (w.alloc o).heap.size (w.alloc o) wr) : Below (w.heap.size + 1) (w.alloc o) wr := by
  simpa using hB

theorem box_lt {w wr : World} {o : Obj} (hB : Below (w.heap.size + 1) (w.alloc o) wr) : w.heap.size < wr.heap.size := by
  have := hB.size
  simp at this
  omega

theorem sheetE_long {p : Int} {l : List Tri} (k : Nat) (hlt : k < l.length) (h : 16 < l[k].s.size) : sheetE p l = 3 := by
  have : l.any longW = true := any_at _ _ k hlt (by simp [longW, h])
  simp [sheetE, this]
theorem sheetE_pairs {p : Int} {l : List Tri} (h400 : ¬ 400 < l.length) (hL : l.any longW = false) (h : p < 2) : sheetE p l = 2 := by
  have e : ¬ 24 < p := by omega
  simp only [sheetE, e, h400, hL, h, if_true]; simp
theorem sheetE_bad {p : Int} {l : List Tri} (h24 : p ≤ 24) (h400 : ¬ 400 < l.length) (hL : l.any longW = false) (k : Nat) (hlt : k < l.length) (h : badW p l[k] = true) : sheetE p l = 2 := by
  have : l.any (badW p) = true := any_at _ _ k hlt h
  have e : ¬ 24 < p := by omega
  simp only [sheetE, e, h400, hL, this, if_true]; simp
theorem sheetE_wrong {p : Int} {l : List Tri} (h24 : p ≤ 24) (h400 : ¬ 400 < l.length) (hL : l.any longW = false) (h2 : 2 ≤ p) (hb : l.any (badW p) = false) (k : Nat) (hlt : k < l.length) (h : wordE l[k].s ≠ 0) : sheetE p l = 6 := by
  have : l.any wrongW = true := any_at _ _ k hlt (by simp [wrongW, h])
  have e : ¬ 24 < p := by omega
  have e2 : ¬ p < 2 := by omega
  simp only [sheetE, e, h400, hL, e2, hb, this, if_true]; simp
theorem sheetE_ok {p : Int} {l : List Tri} (h24 : p ≤ 24) (h400 : ¬ 400 < l.length) (hL : l.any longW = false) (h2 : 2 ≤ p) (hb : l.any (badW p) = false) (hw : l.any wrongW = false) : sheetE p l = 0 := by
  have e : ¬ 24 < p := by omega
  have e2 : ¬ p < 2 := by omega
  simp only [sheetE, e, h400, hL, e2, hb, hw]; simp


set_option maxHeartbeats 1000000 in
theorem sheetRef_any (p : Int) (A : Option Addr) (l : List Tri) (c : Nat) (w : World) (H : Nat) (hr : RdT w H A l) (hH : H ≤ w.heap.size) (hw : ∀ (k : Nat) (hk : k < l.length), l[k].s.size ≤ 9223372036854775807) (hl : l.length ≤ 9223372036854775807) :
    Calls Try.prog 46 #[.agg #[.int .i64 p, .slice A l.length c]] w (Ret (.int .i64 (sheetE p l)) w) := by
  by_cases h24 : 24 < p
  · go_enter Try.func46, Try.ntmps46
    go_wp2
    go_ret
    exact Ret.int (by simp [sheetE, h24]) ((Below.refl _ _).alloc (Nat.le_refl _) _)
  by_cases h400 : 400 < l.length
  · go_enter Try.func46, Try.ntmps46
    go_wp2
    go_ret
    exact Ret.int (by simp [sheetE, h400]) ((Below.refl _ _).alloc (Nat.le_refl _) _)
  have H24 := Lib.hid h24
  have H400 := Lib.hid h400
  go_enter Try.func46, Try.ntmps46
  go_wp2
  go_loopw [3] (fun i wr => ∃ k : Nat, k ≤ l.length ∧ i = .int .i64 k ∧ Hid ((l.take k).any longW = false) ∧ Below (w.heap.size + 1) (w.alloc (.cells #[.int .i64 p, .slice A l.length c] 35)) wr) (fun i _ => l.length - (intOf i).toNat)
  case atStart => exact ⟨0, Nat.zero_le _, rfl, by simp [Hid], Below.refl _ _⟩
  case round =>
    obtain ⟨k, hk, rfl, hno, hB⟩ := hrel
    have hN0 := box_cell hB 0 (.int .i64 p) rfl
    have hN1 := box_cell hB 1 (.slice A l.length c) rfl
    by_cases hlt : k < l.length
    · obtain ⟨b, o, rfl, hb0, h0, h1, h2⟩ := (hr.below' (box_below hB) hH).tri hlt
      by_cases h16 : 16 < l[k].s.size
      · have HE := Lib.hid (sheetE_long (p := p) k hlt h16)
        go_wp2
        go_ret
        exact Ret.int HE.out.symm (box_below hB)
      · go_wp2
        go_roundw
        case rel => exact ⟨k + 1, by omega, by go_num, any_snoc _ _ _ hlt hno.out (by simp [longW, h16]), hB⟩
        case measure => simp [intOf]; omega
    · have HL := Lib.hid (any_end _ _ _ hlt hno.out)
      by_cases h2 : p < 2
      · have HE := Lib.hid (sheetE_pairs H400.out HL.out h2)
        go_wp2
        go_ret
        exact Ret.int HE.out.symm (box_below hB)
      · have H2 := Lib.hid h2
        go_wp2
        clear hN0 hN1 hno
        obtain ⟨wo, rfl⟩ : ∃ wo : World, wo = wr := ⟨_, rfl⟩
        go_loopw [4] (fun i wr => ∃ k : Nat, k ≤ l.length ∧ i = .int .i64 k ∧ Hid ((l.take k).any (badW p) = false) ∧ Below (w.heap.size + 1) (w.alloc (.cells #[.int .i64 p, .slice A l.length c] 35)) wr) (fun i _ => l.length - (intOf i).toNat)
        case atStart => exact ⟨0, Nat.zero_le _, rfl, by simp [Hid], hB⟩
        case round =>
          obtain ⟨k', hk', rfl, hno, hC⟩ := hrel
          have hN0 := box_cell hC 0 (.int .i64 p) rfl
          have hN1 := box_cell hC 1 (.slice A l.length c) rfl
          have hNs := box_lt hC
          by_cases hlt' : k' < l.length
          · obtain ⟨b, o, rfl, hb0, h0, h1, h2⟩ := (hr.below' (box_below hC) hH).tri hlt'
            have hbb := lt_of_cell h0
            go_wp2
            all_goals first
              | (go_roundw
                 case rel => exact ⟨k' + 1, by omega, by go_num, any_snoc _ _ _ hlt' hno.out (by rw [badW_false]; (try simp only [bemp, decide_eq_true_eq, decide_eq_false_iff_not] at *); omega), hC.alloc (by omega) _⟩
                 case measure => simp [intOf]; omega)
              | (go_ret; exact Ret.int (sheetE_bad H24.out H400.out HL.out k' hlt' (by rw [badW_true]; (try simp only [bemp, decide_eq_true_eq, decide_eq_false_iff_not] at *); omega)).symm ((box_below hC).alloc (by omega) _))
          · have HB := Lib.hid (any_end _ _ _ hlt' hno.out)
            go_wp2
            clear hN0 hN1 hno
            obtain ⟨wo2, rfl⟩ : ∃ wo2 : World, wo2 = wr := ⟨_, rfl⟩
            go_loopw [6] (fun i wr => ∃ k : Nat, k ≤ l.length ∧ i = .int .i64 k ∧ Hid ((l.take k).any wrongW = false) ∧ Below (w.heap.size + 1) (w.alloc (.cells #[.int .i64 p, .slice A l.length c] 35)) wr) (fun i _ => l.length - (intOf i).toNat)
            case atStart => exact ⟨0, Nat.zero_le _, rfl, by simp [Hid], hC⟩
            case round =>
              obtain ⟨k2, hk2, rfl, hno, hD⟩ := hrel
              have hN0 := box_cell hD 0 (.int .i64 p) rfl
              have hN1 := box_cell hD 1 (.slice A l.length c) rfl
              have hNs := box_lt hD
              by_cases hlt2 : k2 < l.length
              · obtain ⟨b, o, rfl, hb0, h0, h1, h2⟩ := (hr.below' (box_below hD) hH).tri hlt2
                have hW := Lib.hid (hw k2 hlt2)
                by_cases hwe : wordE l[k2].s = 0
                · have hwe' : (wordE l[k2].s != 0) = false := by simp [hwe]
                  have HWE := Lib.hid hwe
                  clear hwe
                  go_wp2_with (go_at_call 44; refine (wordRef_any _ _ hW.out).mono ?_; rintro e w1 ⟨rfl, hB1⟩)
                  go_roundw
                  case rel => exact ⟨k2 + 1, by omega, by go_num, any_snoc _ _ _ hlt2 hno.out (by simp [wrongW, HWE.out]), hD.trans (hB1.mono (by omega))⟩
                  case measure => simp [intOf]; omega
                · have hwe' : (wordE l[k2].s != 0) = true := by simp [hwe]
                  have HWE := Lib.hid hwe
                  clear hwe
                  go_wp2_with (go_at_call 44; refine (wordRef_any _ _ hW.out).mono ?_; rintro e w1 ⟨rfl, hB1⟩)
                  go_ret
                  exact Ret.int (sheetE_wrong H24.out H400.out HL.out H2.out HB.out k2 hlt2 HWE.out).symm ((box_below hD).trans (hB1.mono (by omega)))
              · go_wp2
                go_ret
                exact Ret.int (sheetE_ok H24.out H400.out HL.out H2.out HB.out (any_end _ _ _ hlt2 hno.out)).symm (box_below hD)
end Go.Proofs.Ytfnklchhhojimaa

namespace Go.Proofs.Ytfnklchhhojimaa
open Go Go.RowKit Tor

theorem long1_any (x : Tri) (w : World) (hs : x.s.size ≤ 9223372036854775807) :
    Calls Try.prog 73 #[.agg #[.int .i64 x.a, .int .i64 x.b, .string x.s]] w (Ret (.bool (longW x)) w) := by
  go_enter Try.func73, Try.ntmps73
  go_wp2
  go_ret
  exact Ret.bool (by simp [longW]; omega) ((Below.refl _ _).alloc (Nat.le_refl _) _)

theorem indexFunc_any (A : Option Addr) (l : List Tri) (c : Nat) (w : World) (H : Nat) (hr : RdT w H A l) (hH : H ≤ w.heap.size) (hw : ∀ (k : Nat) (hk : k < l.length), l[k].s.size ≤ 9223372036854775807) (hl : l.length ≤ 9223372036854775807) :
    Calls Try.prog 83 #[.slice A l.length c, .func (.func 73) #[] #[]] w
      fun e w' => ∃ i : Int, e = .returned (.int .i64 i) ∧ Hid (decide (0 ≤ i) = l.any longW) ∧ Below w.heap.size w w' := by
  go_enter Try.func83, Try.ntmps83
  go_wp2
  go_loopw [8] (fun i wr => ∃ k : Nat, k ≤ l.length ∧ i = .int .i64 k ∧ Hid ((l.take k).any longW = false) ∧ Below w.heap.size w wr) (fun i _ => l.length - (intOf i).toNat)
  case atStart => exact ⟨0, Nat.zero_le _, rfl, by simp [Hid], Below.refl _ _⟩
  case round =>
    obtain ⟨k, hk, rfl, hno, hB⟩ := hrel
    by_cases hlt : k < l.length
    · obtain ⟨b, o, rfl, hb0, h0, h1, h2⟩ := (hr.below' hB hH).tri hlt
      have hW := Lib.hid (hw k hlt)
      cases hlong : longW l[k]
      · have HL := Lib.hid hlong
        go_wp2_with (go_at_call 73; refine (long1_any _ _ hW.out).mono ?_; rintro e w1 ⟨rfl, hB1⟩)
        go_roundw
        case rel => exact ⟨k + 1, by omega, by go_num, any_snoc _ _ _ hlt hno.out HL.out, hB.trans (hB1.mono (by have := hB.size; omega))⟩
        case measure => simp [intOf]; omega
      · have HL := Lib.hid hlong
        go_wp2_with (go_at_call 73; refine (long1_any _ _ hW.out).mono ?_; rintro e w1 ⟨rfl, hB1⟩)
        go_ret
        exact ⟨k, rfl, by have := any_at _ _ k hlt HL.out; simp [Hid, this], hB.trans (hB1.mono (by have := hB.size; omega))⟩
    · go_wp2
      go_ret
      exact ⟨-1, rfl, by have := any_end _ _ k hlt hno.out; simp [Hid, this], hB⟩

theorem contains_any (A : Option Addr) (l : List Tri) (c : Nat) (w : World) (H : Nat) (hr : RdT w H A l) (hH : H ≤ w.heap.size) (hw : ∀ (k : Nat) (hk : k < l.length), l[k].s.size ≤ 9223372036854775807) (hl : l.length ≤ 9223372036854775807) :
    Calls Try.prog 72 #[.slice A l.length c, .func (.func 73) #[] #[]] w (Ret (.bool (l.any longW)) w) := by
  have HW := Lib.hid hw
  clear hw
  go_enter Try.func72, Try.ntmps72
  go_wp2_with (go_at_call 83; refine (indexFunc_any _ l _ _ H hr hH HW.out hl).mono ?_; rintro e w1 ⟨i, rfl, hi, hB1⟩)
  go_ret
  exact Ret.bool hi.out hB1

theorem max2 (a b : Int) (ha : a = 0 ∨ a = 6) (hb : b = 0 ∨ b = 6) : max a b = if a = 6 ∨ b = 6 then 6 else 0 := by
  rcases ha with rfl | rfl <;> rcases hb with rfl | rfl <;> decide

theorem wordE_short (s : ByteArray) (h : ¬ 16 < s.size) : wordE s = 0 ∨ wordE s = 6 := by
  unfold wordE; rw [if_neg h]; split <;> simp


/-- the form of the first k works -/
def formE (l : List Tri) (k : Nat) : Int := if (l.take k).any wrongW then 6 else 0
theorem formE_step (l : List Tri) (k : Nat) (h : k < l.length) (hs : longW l[k] = false) : max (formE l k) (wordE l[k].s) = formE l (k + 1) := by
  have hw := wordE_short l[k].s (by simpa [longW] using hs)
  unfold formE
  rw [take_snoc l k h]
  simp only [List.any_append, List.any_cons, List.any_nil, Bool.or_false]
  cases (l.take k).any wrongW <;> rcases hw with e | e <;> simp [wrongW, e] <;> decide
theorem formE_bd (l : List Tri) (k : Nat) : 0 ≤ formE l k ∧ formE l k ≤ 6 := by unfold formE; split <;> simp

theorem sheetE_form {p : Int} {l : List Tri} (h24 : p ≤ 24) (h400 : ¬ 400 < l.length) (hL : l.any longW = false) (h2 : 2 ≤ p) (hb : l.any (badW p) = false) (k : Nat) (hk : ¬ k < l.length) : sheetE p l = formE l k := by
  unfold formE
  rw [take_all _ _ hk]
  have e : ¬ 24 < p := by omega
  have e2 : ¬ p < 2 := by omega
  simp only [sheetE, e, h400, hL, e2, hb]
  simp


set_option maxHeartbeats 1000000 in
theorem sheet_any (p : Int) (A : Option Addr) (l : List Tri) (c : Nat) (w : World) (H : Nat) (hr : RdT w H A l) (hH : H ≤ w.heap.size) (hw : ∀ (k : Nat) (hk : k < l.length), l[k].s.size ≤ 9223372036854775807) (hl : l.length ≤ 9223372036854775807) :
    Calls Try.prog 60 #[.agg #[.int .i64 p, .slice A l.length c]] w (Ret (.int .i64 (sheetE p l)) w) := by
  by_cases h24 : 24 < p
  · go_enter Try.func60, Try.ntmps60
    go_wp2
    go_ret
    exact Ret.int (by simp [sheetE, h24]) ((Below.refl _ _).alloc (Nat.le_refl _) _)
  by_cases h400 : 400 < l.length
  · go_enter Try.func60, Try.ntmps60
    go_wp2
    go_ret
    exact Ret.int (by simp [sheetE, h400]) ((Below.refl _ _).alloc (Nat.le_refl _) _)
  have H24 := Lib.hid h24
  have H400 := Lib.hid h400
  have HW := Lib.hid hw
  have hA : RdT (w.alloc (.cells #[.int .i64 p, .slice A l.length c] 35)) H A l := hr.below' ((Below.refl _ _).alloc (Nat.le_refl _) _) hH
  clear hw
  cases hlong : l.any longW
  · have HL := Lib.hid hlong
    by_cases h2 : p < 2
    · have HE := Lib.hid (sheetE_pairs H400.out HL.out h2)
      go_enter Try.func60, Try.ntmps60
      go_wp2_with (go_at_call 72; refine (contains_any _ l _ _ H hA (by simp; omega) HW.out hl).mono ?_; rintro e w1 ⟨rfl, hB⟩; replace hB := box_up hB; have hN0 := box_cell hB 0 (.int .i64 p) rfl)
      go_ret
      exact Ret.int HE.out.symm (box_below hB)
    · have H2 := Lib.hid h2
      go_enter Try.func60, Try.ntmps60
      go_wp2_with (go_at_call 72; refine (contains_any _ l _ _ H hA (by simp; omega) HW.out hl).mono ?_; rintro e w1 ⟨rfl, hB⟩; replace hB := box_up hB; have hN0 := box_cell hB 0 (.int .i64 p) rfl; have hN1 := box_cell hB 1 (.slice A l.length c) rfl)
      have hE := formE_bd l 0
      go_loopw [3, 26] (fun f i wr => ∃ k : Nat, k ≤ l.length ∧ i = .int .i64 k ∧ f = .int .i64 (formE l k) ∧ Hid ((l.take k).any (badW p) = false) ∧ Below (w.heap.size + 1) (w.alloc (.cells #[.int .i64 p, .slice A l.length c] 35)) wr) (fun _ i _ => l.length - (intOf i).toNat)
      case atStart => exact ⟨0, Nat.zero_le _, rfl, by simp [formE], by simp [Hid], hB⟩
      case round =>
        obtain ⟨k', hk', rfl, rfl, hno, hC⟩ := hrel
        clear hN0 hN1 hE
        have hN0 := box_cell hC 0 (.int .i64 p) rfl
        have hN1 := box_cell hC 1 (.slice A l.length c) rfl
        have hNs := box_lt hC
        by_cases hlt' : k' < l.length
        · obtain ⟨b, o, rfl, hb0, h0, h1, h2⟩ := (hr.below' (box_below hC) hH).tri hlt'
          have hbb := lt_of_cell h0
          have hW := Lib.hid (HW.out k' hlt')
          have HK := Lib.hid (any_not HL.out k' hlt')
          go_wp2_with (go_at_call 59; refine (word_any _ _ hW.out).mono ?_; rintro e w1 ⟨rfl, hB1⟩)
          all_goals first
            | (go_roundw
               case rel => exact ⟨k' + 1, by omega, by go_num, (by rw [← formE_step l k' hlt' HK.out, maxif]), any_snoc _ _ _ hlt' hno.out (by rw [badW_false]; (try simp only [bemp, snil, decide_eq_true_eq, decide_eq_false_iff_not] at *); omega), (hC.alloc (by omega) _).trans (hB1.mono (by simp; omega))⟩
               case measure => simp [intOf]; omega)
            | (go_ret; exact Ret.int (sheetE_bad H24.out H400.out HL.out k' hlt' (by rw [badW_true]; (try simp only [bemp, snil, decide_eq_true_eq, decide_eq_false_iff_not] at *); omega)).symm ((box_below hC).alloc (by omega) _))
        · go_wp2
          go_ret
          exact Ret.int (sheetE_form H24.out H400.out HL.out H2.out (any_end _ _ _ hlt' hno.out) k' hlt').symm (box_below hC)
  · go_enter Try.func60, Try.ntmps60
    go_wp2_with (go_at_call 72; refine (contains_any _ l _ _ H hA (by simp; omega) HW.out hl).mono ?_; rintro e w1 ⟨rfl, hB⟩; replace hB := box_up hB)
    go_ret
    exact Ret.int (by simp [sheetE, hlong]) (box_below hB)
end Go.Proofs.Ytfnklchhhojimaa

namespace Go.Proofs.Ytfnklchhhojimaa
open Go Go.RowKit Tor

/-- what is wrong with a sheet and a span -/
def chkE (p : Int) (l : List Tri) (s : Int) : Int := if sheetE p l = 0 then (if spansB p s = true then 0 else 7) else sheetE p l

theorem chk_ok {p : Int} {l : List Tri} {s : Int} (h : sheetE p l = 0) (h2 : spansB p s = true) : chkE p l s = 0 := by simp [chkE, h, h2]
theorem chk_no {p : Int} {l : List Tri} {s : Int} (h : sheetE p l = 0) (h2 : spansB p s = false) : chkE p l s = 7 := by simp [chkE, h, h2]
theorem chk_e {p : Int} {l : List Tri} {s : Int} (h : ¬ sheetE p l = 0) : chkE p l s = sheetE p l := by simp [chkE, h]


/-- Hands: the error of a number of pairs and a span -/
def handsE (p s : Int) : Int := if 2 ≤ p ∧ p ≤ 24 ∧ spansB p s = true then 0 else 7
theorem hands_any (p s : Int) (w : World) :
    Calls Try.prog 15 #[.int .i64 p, .int .i64 s] w (Ret (.int .i64 (handsE p s)) w) := by
  by_cases h2 : 2 ≤ p
  · by_cases h24 : p ≤ 24
    · cases hs : spansB p s
      all_goals
        have HS := Lib.hid hs
        clear hs
        go_enter Try.func15, Try.ntmps15
        go_wp2_with (go_at_call 42; refine (spans_any _ _ _).mono ?_; rintro e w2 ⟨rfl, hB2⟩; rw [HS.out])
        go_ret
        exact Ret.int (by simp [handsE, HS.out, h2, h24]) hB2
    · go_enter Try.func15, Try.ntmps15
      go_wp2
      go_ret
      exact Ret.int (by simp [handsE]; omega) (Below.refl _ _)
  · go_enter Try.func15, Try.ntmps15
    go_wp2
    go_ret
    exact Ret.int (by simp [handsE]; omega) (Below.refl _ _)


/-- the step of a work -/
def stepOf (x : Tri) : Tri := if x.a = 2 then ⟨3, x.b, .empty⟩ else ⟨2, x.b, x.s⟩
def Tri.val (x : Tri) : Value := .agg #[.int .i64 x.a, .int .i64 x.b, .string x.s]

end Go.Proofs.Ytfnklchhhojimaa

namespace Tor
open Go Go.RowKit

theorem _root_.Tor.Rd.triAt {w : World} {B b o : Nat} {l : List Tri} (h : RdT w B (some ⟨b, o, none⟩) l) {k : Nat} (hk : k < l.length) :
    b < B ∧ w.cell? ⟨b, o + k * 3, none⟩ = some (.int .i64 l[k].a) ∧
      w.cell? ⟨b, o + k * 3 + 1, none⟩ = some (.int .i64 l[k].b) ∧ w.cell? ⟨b, o + k * 3 + 2, none⟩ = some (.string l[k].s) := by
  obtain ⟨b', o', e, h0, h1, h2, h3⟩ := h.tri hk
  simp only [Option.some.injEq, Addr.mk.injEq, and_true] at e
  obtain ⟨rfl, rfl⟩ := e
  exact ⟨h0, h1, h2, h3⟩

theorem Own.append1 {α : Type} {sz : Nat} {enc : α → List Value} {w : World} {base : Nat} {e : TypeId} {v : Value} {l : List α} {y : α} (henc : (enc y).length = sz)
    (h : w.ownsRow base e sz v (l.length + 1) (l.flatMap enc ++ enc y)) : Own sz enc w base e v (l ++ [y]) := by
  unfold Own
  simpa using h

theorem tri_one (x : Tri) : ∀ u ∈ x.enc, u.oneCell' = true := by
  intro u hu
  simp only [Tri.enc, List.mem_cons, List.not_mem_nil, or_false] at hu
  rcases hu with rfl | rfl | rfl <;> rfl
theorem int_one (x : Int) : ∀ u ∈ ienc x, u.oneCell' = true := by
  intro u hu
  simp only [ienc, List.mem_cons, List.not_mem_nil, or_false] at hu
  rcases hu with rfl; rfl

theorem Own.alloc {α : Type} {sz : Nat} {enc : α → List Value} {w : World} {base : Nat} {e : TypeId} {v : Value} {l : List α} (h : Own sz enc w base e v l) (o : Obj) : Own sz enc (w.alloc o) base e v l :=
  World.ownsRow.alloc h o
theorem Own.drewN {α : Type} {sz : Nat} {enc : α → List Value} {w : World} {base : Nat} {e : TypeId} {v : Value} {l : List α} (h : Own sz enc w base e v l) (n : Nat) : Own sz enc (w.drewN n) base e v l := h


/-- an owned row stays owned where what was there stays as it was -/
theorem Own.below {α : Type} {sz : Nat} {enc : α → List Value} {w w' : World} {base : Nat} {e : TypeId} {v : Value} {l : List α} (h : Own sz enc w base e v l) (hB : Below w.heap.size w w') : Own sz enc w' base e v l := by
  obtain ⟨h1, h2⟩ := h
  refine ⟨h1, ?_⟩
  rcases h2 with h2 | ⟨g, cap, cur, hv, hg, hh, r⟩
  · exact Or.inl h2
  · refine Or.inr ⟨g, cap, cur, hv, hg, ?_, r⟩
    rw [hB.block g ?_]; exact hh
    rcases Nat.lt_or_ge g w.heap.size with h | h
    · exact h
    · rw [Array.getElem?_eq_none h] at hh; cases hh

theorem Own.base {α : Type} {sz : Nat} {enc : α → List Value} {w : World} {base base' : Nat} {e : TypeId} {v : Value} {l : List α} (h : Own sz enc w base e v l) (hb : base' ≤ base) : Own sz enc w base' e v l := by
  obtain ⟨h1, h2⟩ := h
  refine ⟨h1, ?_⟩
  rcases h2 with h2 | ⟨g, cap, cur, hv, hg, r⟩
  · exact Or.inl h2
  · exact Or.inr ⟨g, cap, cur, hv, Nat.le_trans hb hg, r⟩


/-- behind append: what was below the owned rows' base is as it was -/
theorem Own.grown {α : Type} {sz : Nat} {enc : α → List Value} {W w w' : World} {base : Nat} {e : TypeId} {v : Value} {l : List α} (h : Own sz enc w base e v l) (hB : Below base W w) (hg : w.grownBy w' v.ownBlock) (hs : base ≤ w.heap.size) : Below base W w' :=
  hB.grown hg hs (fun k hk => (World.ownsRow.lt h k hk).1)


/-- a block of the call's own whose element type is another one is not the row that is written -/
theorem Own.ne_block {α : Type} {sz : Nat} {enc : α → List Value} {w : World} {base : Nat} {e : TypeId} {v : Value} {l : List α} (h : Own sz enc w base e v l) {g : Nat} {cs : Array Value} {t : TypeId} {z : Nat × Nat} (hg : w.heap[g]? = some (.cells cs t z)) (ht : t ≠ e) : some g ≠ v.ownBlock := by
  intro hk
  obtain ⟨_, h2⟩ := h
  rcases h2 with ⟨rfl, _⟩ | ⟨g', cap, cur, rfl, _, hh, _⟩
  · simp [Value.ownBlock] at hk
  · simp only [Value.ownBlock, Option.some.injEq] at hk
    subst hk
    rw [hh] at hg
    simp only [Option.some.injEq, Obj.cells.injEq] at hg
    exact ht hg.2.1.symm

theorem wpList_append_tri {P : Program} {ops : Array Oper} {rest : List Oper} {o : Oper} {a : Act} {Q : Exit → Act → World → Prop} {w : World} (hgd : o.guard = none) (s x : Operand) (t : TypeId)
    (ho : o.op = .call { callee := .builtin .append, args := #[s, x], argTypes := #[t, t] })
    (base : Nat) (e : TypeId) (i : TypeInfo) (z : Value) (ht : P.underlying t = some (.slice e)) (hi : P.info? e = some i) (hz : i.zero = some z)
    (hsize : i.size = 3) (hby : i.bytes = 32) (hzs : z.cells.size = 3)
    (v : Value) (l : List Tri) (hs : a.eval s = v) (hown : Own 3 Tri.enc w base e v l)
    (g : Nat) (y : Tri) (hx : a.eval x = .slice (some ⟨g, 0, none⟩) 1 1)
    (h0 : w.cell? ⟨g, 0, none⟩ = some (.int .i64 y.a)) (h1 : w.cell? ⟨g, 1, none⟩ = some (.int .i64 y.b)) (h2 : w.cell? ⟨g, 2, none⟩ = some (.string y.s))
    (hlen : l.length ≤ 1000000) (hbase : base ≤ w.heap.size)
    (h : ∀ v' w', Own 3 Tri.enc w' base e v' (l ++ [y]) → w.grownBy w' v.ownBlock → wpList P ops Q rest (a.put o.dst v') w') : wpList P ops Q (o :: rest) a w := by
  refine wpList_append_own w hgd s x t ho base e i z 3 32 ht hi hz hsize hby hzs (by omega) v l.length (l.flatMap Tri.enc) hs hown ⟨g, 0, none⟩ 1 1 y.enc hx rfl ?_ (tri_one y) (by unfold maxLen; omega) (by omega) hbase
    (fun v' w' a b _ => h v' w' (Own.append1 rfl a) b)
  intro j u hu
  match j, hu with
  | 0, hu => simp [Tri.enc] at hu; subst hu; exact h0
  | 1, hu => simp [Tri.enc] at hu; subst hu; simpa [Addr.add] using h1
  | 2, hu => simp [Tri.enc] at hu; subst hu; simpa [Addr.add] using h2
end Tor

namespace Go.Proofs.Ytfnklchhhojimaa
open Go Go.RowKit Tor
theorem infoStep : (Try.prog.info? 45).map (fun i => (i.zero, i.size, i.bytes)) = some (some (.agg #[.int .i64 0, .int .i64 0, .string ⟨#[]⟩]), 3, 32) := by kernel_rfl
theorem infoWork : (Try.prog.info? 54).map (fun i => (i.zero, i.size, i.bytes)) = some (some (.agg #[.int .i64 0, .int .i64 0, .string ⟨#[]⟩]), 3, 32) := by kernel_rfl


/-- how many works from one on are in reach -/
def runN (l : List Tri) (h s : Int) : Nat := (l.takeWhile (fun x => heldB h s x.b)).length

theorem runN_step {l : List Tri} {i : Nat} {h s : Int} (hi : i < l.length) (hh : heldB h s l[i].b = true) : runN (l.drop i) h s = runN (l.drop (i + 1)) h s + 1 := by
  rw [List.drop_eq_getElem_cons hi]
  unfold runN
  rw [List.takeWhile_cons, if_pos hh]
  rfl
theorem runN_stop {l : List Tri} {i : Nat} {h s : Int} (hi : i < l.length) (hh : heldB h s l[i].b = false) : runN (l.drop i) h s = 0 := by
  rw [List.drop_eq_getElem_cons hi]
  unfold runN
  rw [List.takeWhile_cons, if_neg (by simp [hh])]
  rfl
theorem runN_end {l : List Tri} {i : Nat} {h s : Int} (hi : ¬ i < l.length) : runN (l.drop i) h s = 0 := by
  rw [List.drop_of_length_le (by omega)]; rfl

end Go.Proofs.Ytfnklchhhojimaa

namespace Go.Proofs.Ytfnklchhhojimaa
open Go Go.RowKit Tor

/-- the least of the places below k from which most can be made -/
def bestUpto (f : Nat → Nat) : Nat → Nat
  | 0 => 0
  | k + 1 => if f (bestUpto f k) < f k then k else bestUpto f k
theorem bestUpto_le (f : Nat → Nat) : ∀ k, bestUpto f k ≤ k
  | 0 => Nat.le_refl _
  | k + 1 => by unfold bestUpto; have := bestUpto_le f k; split <;> omega


/-- the instructions in the order of a sheet, hands at a place -/
def rst (p s : Int) : List Tri → Int → List Tri
  | [], _ => []
  | x :: r, h => if heldB h s x.b = true then stepOf x :: rst p s r h
    else ⟨1, bestUpto (fun h : Nat => runN (x :: r) h s) (p - s + 1).toNat, .empty⟩ :: stepOf x :: rst p s r (bestUpto (fun h : Nat => runN (x :: r) h s) (p - s + 1).toNat)

theorem rst_held {p s h : Int} {l : List Tri} {i : Nat} (hi : i < l.length) (hh : heldB h s l[i].b = true) : rst p s (l.drop i) h = stepOf l[i] :: rst p s (l.drop (i + 1)) h := by
  rw [List.drop_eq_getElem_cons hi, rst, if_pos hh]
theorem rst_reach {p s h : Int} {l : List Tri} {i b : Nat} (hi : i < l.length) (hh : heldB h s l[i].b = false) (hb : b = bestUpto (fun h : Nat => runN (l.drop i) h s) (p - s + 1).toNat) :
    rst p s (l.drop i) h = ⟨1, b, .empty⟩ :: stepOf l[i] :: rst p s (l.drop (i + 1)) b := by
  subst hb
  rw [List.drop_eq_getElem_cons hi, rst, if_neg (by simp [hh])]
theorem rst_end {p s h : Int} {l : List Tri} {i : Nat} (hi : ¬ i < l.length) : rst p s (l.drop i) h = [] := by
  rw [List.drop_of_length_le (by omega)]; rfl


end Go.Proofs.Ytfnklchhhojimaa

namespace Go.Proofs.Ytfnklchhhojimaa
open Go Go.RowKit Tor

theorem bestUpto_is (f : Nat → Nat) (b : Nat) : ∀ n, b < n → (∀ k, k < n → f k ≤ f b) → (∀ k, k < b → f k < f b) → bestUpto f n = b
  | 0, h, _, _ => absurd h (by omega)
  | n + 1, h, h1, h2 => by
    unfold bestUpto
    by_cases hb : b = n
    · subst hb
      by_cases h0 : b = 0
      · subst h0; simp [bestUpto]
      · have hlt : bestUpto f b < b := by
          have aux : ∀ n, 0 < n → bestUpto f n < n := by
            intro n hn
            induction n with
            | zero => omega
            | succ n ih =>
              unfold bestUpto
              split
              · omega
              · by_cases hz : n = 0
                · subst hz; simp [bestUpto]
                · have := ih (by omega); omega
          exact aux b (by omega)
        rw [if_pos (h2 _ hlt)]
    · rw [bestUpto_is f b n (by omega) (fun k hk => h1 k (by omega)) h2, if_neg (by have := h1 n (by omega); omega)]

theorem runN_ge {l : List Tri} {h s : Int} : ∀ {m : Nat}, m ≤ runN l h s ↔ ∀ j, j < m → ∃ x, l[j]? = some x ∧ heldB h s x.b = true := by
  induction l with
  | nil =>
    intro m
    simp only [runN, List.takeWhile_nil, List.length_nil, Nat.le_zero]
    constructor
    · rintro rfl j hj; omega
    · intro h
      rcases Nat.eq_zero_or_pos m with h0 | h0
      · exact h0
      · obtain ⟨x, hx, _⟩ := h 0 h0; simp at hx
  | cons y r ih =>
    intro m
    cases hy : heldB h s y.b
    · have e : runN (y :: r) h s = 0 := by unfold runN; rw [List.takeWhile_cons, if_neg (by simp [hy])]; rfl
      rw [e]
      constructor
      · intro hm j hj; omega
      · intro hh
        rcases Nat.eq_zero_or_pos m with h0 | h0
        · omega
        · obtain ⟨x, hx, hv⟩ := hh 0 h0; simp at hx; subst hx; rw [hy] at hv; cases hv
    · have e : runN (y :: r) h s = runN r h s + 1 := by unfold runN; rw [List.takeWhile_cons, if_pos hy]; rfl
      rw [e]
      cases m with
      | zero => simp
      | succ m =>
        rw [Nat.add_le_add_iff_right, ih]
        constructor
        · intro hh j hj
          cases j with
          | zero => exact ⟨y, rfl, hy⟩
          | succ j => simpa using hh j (by omega)
        · intro hh j hj
          simpa using hh (j + 1) (by omega)


/-- lo..hi is where the hands may lie for the works from i up to m -/
def Win (p s : Int) (l : List Tri) (i m : Nat) (lo hi : Int) : Prop :=
  i < m ∧ m ≤ l.length ∧ 0 ≤ lo ∧ hi ≤ p - s ∧ lo ≤ hi ∧ ∀ h : Int, (lo ≤ h ∧ h ≤ hi) ↔ (0 ≤ h ∧ h ≤ p - s ∧ ∀ j, i ≤ j → j < m → ∃ x, l[j]? = some x ∧ heldB h s x.b = true)

theorem held_iff (h s b : Int) : heldB h s b = true ↔ 0 ≤ h ∧ h ≤ b ∧ b + 2 ≤ h + s := by
  simp [heldB, and_assoc]

theorem Win.start {p s : Int} {l : List Tri} {i : Nat} (hi : i < l.length) (h1 : 0 ≤ l[i].b) (h2 : l[i].b ≤ p - 2) (h3 : 2 ≤ s) (h4 : s ≤ p) : Win p s l i (i + 1) (max 0 (l[i].b + 2 - s)) (min l[i].b (p - s)) := by
  refine ⟨by omega, by omega, by omega, by omega, by omega, fun h => ?_⟩
  constructor
  · rintro ⟨a, b⟩
    refine ⟨by omega, by omega, fun j hj hj' => ?_⟩
    obtain rfl : j = i := by omega
    exact ⟨l[j], List.getElem?_eq_getElem hi, (held_iff _ _ _).2 (by omega)⟩
  · rintro ⟨a, b, hh⟩
    obtain ⟨x, hx, hv⟩ := hh i (Nat.le_refl _) (by omega)
    rw [List.getElem?_eq_getElem hi] at hx
    simp only [Option.some.injEq] at hx
    subst hx
    rw [held_iff] at hv
    omega

theorem Win.next {p s : Int} {l : List Tri} {i m : Nat} {lo hi : Int} (hw : Win p s l i m lo hi) (hm : m < l.length)
    (ho : max lo (max 0 (l[m].b + 2 - s)) ≤ min hi (min l[m].b (p - s))) : Win p s l i (m + 1) (max lo (max 0 (l[m].b + 2 - s))) (min hi (min l[m].b (p - s))) := by
  obtain ⟨h1, h2, h3, h4, h5, h6⟩ := hw
  refine ⟨by omega, by omega, by omega, by omega, ho, fun h => ?_⟩
  constructor
  · rintro ⟨a, b⟩
    obtain ⟨c1, c2, c3⟩ := (h6 h).1 ⟨by omega, by omega⟩
    refine ⟨c1, c2, fun j hj hj' => ?_⟩
    rcases Nat.lt_or_ge j m with hjm | hjm
    · exact c3 j hj hjm
    · obtain rfl : j = m := by omega
      exact ⟨l[j], List.getElem?_eq_getElem hm, (held_iff _ _ _).2 (by omega)⟩
  · rintro ⟨a, b, hh⟩
    obtain ⟨d1, d2⟩ := (h6 h).2 ⟨a, b, fun j hj hj' => hh j hj (by omega)⟩
    obtain ⟨x, hx, hv⟩ := hh m (by omega) (by omega)
    rw [List.getElem?_eq_getElem hm] at hx
    simp only [Option.some.injEq] at hx
    subst hx
    rw [held_iff] at hv
    omega


/-- the window is as long as can be -/
def WinEnd (p s : Int) (l : List Tri) (i m : Nat) (lo : Int) : Prop :=
  (∃ hi, Win p s l i m lo hi) ∧ (∀ hm : m < l.length, ∀ h : Int, 0 ≤ h → h ≤ p - s → (∀ j, i ≤ j → j < m → ∃ x, l[j]? = some x ∧ heldB h s x.b = true) → heldB h s l[m].b = false)

theorem WinEnd.all {p s : Int} {l : List Tri} {i m : Nat} {lo hi : Int} (hw : Win p s l i m lo hi) (hm : ¬ m < l.length) : WinEnd p s l i m lo := ⟨⟨hi, hw⟩, fun h => absurd h hm⟩
theorem WinEnd.shut {p s : Int} {l : List Tri} {i m : Nat} {lo hi : Int} (hw : Win p s l i m lo hi) (hm : m < l.length)
    (ho : ¬ max lo (max 0 (l[m].b + 2 - s)) ≤ min hi (min l[m].b (p - s))) : WinEnd p s l i m lo := by
  refine ⟨⟨hi, hw⟩, fun _ h a b hh => ?_⟩
  obtain ⟨d1, d2⟩ := (hw.2.2.2.2.2 h).2 ⟨a, b, hh⟩
  cases hv : heldB h s l[m].b
  · rfl
  · rw [held_iff] at hv
    omega

theorem WinEnd.held {p s : Int} {l : List Tri} {i m : Nat} {lo : Int} (hw : WinEnd p s l i m lo) (j : Nat) (hj : i ≤ j) (hj' : j < m) (hl : j < l.length) : heldB lo s l[j].b = true := by
  obtain ⟨⟨hi, h1, h2, h3, h4, h5, h6⟩, _⟩ := hw
  obtain ⟨_, _, c⟩ := (h6 lo).1 ⟨by omega, h5⟩
  obtain ⟨x, hx, hv⟩ := c j hj hj'
  rw [List.getElem?_eq_getElem hl] at hx
  simp only [Option.some.injEq] at hx
  subst hx
  exact hv
theorem WinEnd.next {p s : Int} {l : List Tri} {i m : Nat} {lo : Int} (hw : WinEnd p s l i m lo) (hm : m < l.length) : heldB lo s l[m].b = false := by
  obtain ⟨⟨hi, h1, h2, h3, h4, h5, h6⟩, h7⟩ := hw
  obtain ⟨c1, c2, c⟩ := (h6 lo).1 ⟨by omega, h5⟩
  exact h7 hm lo c1 c2 c

theorem WinEnd.best {p s : Int} {l : List Tri} {i m b : Nat} (hw : WinEnd p s l i m b) : bestUpto (fun h : Nat => runN (l.drop i) h s) (p - s + 1).toNat = b := by
  obtain ⟨⟨hi, h1, h2, h3, h4, h5, h6⟩, h7⟩ := hw
  have key : ∀ h : Int, 0 ≤ h → h ≤ p - s → (m - i ≤ runN (l.drop i) h s ↔ ((b : Int) ≤ h ∧ h ≤ hi)) := by
    intro h a a'
    rw [runN_ge, h6]
    constructor
    · intro hh
      refine ⟨a, a', fun j hj hj' => ?_⟩
      obtain ⟨x, hx, hv⟩ := hh (j - i) (by omega)
      rw [List.getElem?_drop, show i + (j - i) = j from by omega] at hx
      exact ⟨x, hx, hv⟩
    · rintro ⟨_, _, hh⟩ j hj
      obtain ⟨x, hx, hv⟩ := hh (i + j) (by omega) (by omega)
      exact ⟨x, by rw [List.getElem?_drop]; exact hx, hv⟩
  have hup : ∀ h : Int, 0 ≤ h → h ≤ p - s → runN (l.drop i) h s ≤ m - i := by
    intro h a a'
    rcases Nat.lt_or_ge (m - i) (runN (l.drop i) h s) with hgt | hle
    · have hh := (runN_ge (l := l.drop i) (h := h) (s := s) (m := m - i + 1)).1 (by omega)
      have hm : m < l.length := by
        obtain ⟨x, hx, _⟩ := hh (m - i) (by omega)
        rw [List.getElem?_drop, show i + (m - i) = m from by omega] at hx
        exact (List.getElem?_eq_some_iff.1 hx).1
      have hf := h7 hm h a a' (fun j hj hj' => by
        obtain ⟨x, hx, hv⟩ := hh (j - i) (by omega)
        rw [List.getElem?_drop, show i + (j - i) = j from by omega] at hx
        exact ⟨x, hx, hv⟩)
      obtain ⟨x, hx, hv⟩ := hh (m - i) (by omega)
      rw [List.getElem?_drop, show i + (m - i) = m from by omega, List.getElem?_eq_getElem hm] at hx
      simp only [Option.some.injEq] at hx
      subst hx
      rw [hf] at hv; cases hv
    · exact hle
  have hb : m - i ≤ runN (l.drop i) b s := (key b (by omega) (by omega)).2 ⟨by omega, h5⟩
  refine bestUpto_is _ b _ (by omega) (fun k hk => ?_) (fun k hk => ?_)
  · have := hup k (by omega) (by omega)
    show runN _ _ _ ≤ runN _ _ _
    omega
  · have := (not_congr (key k (by omega) (by omega))).2 (by omega)
    show runN _ _ _ < runN _ _ _
    omega
end Go.Proofs.Ytfnklchhhojimaa

namespace Go.Proofs.Ytfnklchhhojimaa
open Go Go.RowKit Tor

/-- block g is just these cells, none of them frozen -/
def Blk (w : World) (g : Nat) (t : TypeId) (cs : Array Value) : Prop := w.heap[g]? = some (.cells cs t (0, 0))
theorem Blk.lt {w : World} {g : Nat} {t : TypeId} {cs : Array Value} (h : Blk w g t cs) : g < w.heap.size := by
  rcases Nat.lt_or_ge g w.heap.size with hlt | hge
  · exact hlt
  · unfold Blk at h; rw [Array.getElem?_eq_none hge] at h; cases h
theorem Blk.cell {w : World} {g : Nat} {t : TypeId} {cs : Array Value} (h : Blk w g t cs) (i : Nat) (v : Value) (hv : cs[i]? = some v) : w.cell? ⟨g, i, none⟩ = some v := by
  unfold Blk at h; simp [World.cell?, h, hv]
theorem Blk.frozen {w : World} {g : Nat} {t : TypeId} {cs : Array Value} (h : Blk w g t cs) (i : Nat) : w.frozen? ⟨g, i, none⟩ = false := by
  unfold Blk at h; simp [World.frozen?, h]
theorem Blk.new (w : World) (t : TypeId) (cs : Array Value) : Blk (w.alloc (.cells cs t)) w.heap.size t cs := heap_alloc_new w _
theorem Blk.below {w w' : World} {g : Nat} {t : TypeId} {cs : Array Value} (h : Blk w g t cs) {B : Nat} (hb : Below B w w') (hg : g < B) : Blk w' g t cs := (hb.block g hg).trans h
theorem Blk.below' {w w' : World} {g : Nat} {t : TypeId} {cs : Array Value} (h : Blk w g t cs) (hb : Below w.heap.size w w') : Blk w' g t cs := h.below hb h.lt
theorem Blk.alloc {w : World} {g : Nat} {t : TypeId} {cs : Array Value} (h : Blk w g t cs) (o : Obj) : Blk (w.alloc o) g t cs := (Below.heap_alloc w o g h.lt).trans h
theorem Blk.set_ {w : World} {g : Nat} {t : TypeId} {cs : Array Value} (h : Blk w g t cs) (i : Nat) (u : Value) : Blk (w.setCell ⟨g, i, none⟩ u) g t (cs.setIfInBounds i u) := by
  unfold Blk at h ⊢
  simp [World.setCell, Array.getElem?_modify, h]
theorem Blk.far {w : World} {g : Nat} {t : TypeId} {cs : Array Value} (h : Blk w g t cs) {p : Addr} (hp : g ≠ p.block) (u : Value) : Blk (w.setCell p u) g t cs := (Below.heap_setCell w p u g hp).trans h
theorem Blk.grown {w w' : World} {g : Nat} {t : TypeId} {cs : Array Value} (h : Blk w g t cs) {row : Option Nat} (hb : w.grownBy w' row) (hg : some g ≠ row) : Blk w' g t cs := (hb.block g h.lt hg).trans h

theorem nc {w w5 : World} {cs : Array Value} {t : TypeId} (hB : Below ((w.alloc (.cells cs t)).drew).heap.size ((w.alloc (.cells cs t)).drew) w5) : Blk w5 w.heap.size t cs :=
  Blk.below' (w := (w.alloc (.cells cs t)).drew) (Blk.new w t cs) hB
theorem nc' {w w5 : World} {cs : Array Value} {t : TypeId} (hB : Below ((w.alloc (.cells cs t))).heap.size ((w.alloc (.cells cs t))) w5) : Blk w5 w.heap.size t cs :=
  Blk.below' (w := (w.alloc (.cells cs t))) (Blk.new w t cs) hB


/-- what a region that draws keeps: old memory, and two cells in it -/
theorem keep2_call {w0 w1 w2 : World} {a0 a1 : Addr} {v0 v1 : Value} (hS : Below w0.heap.size w0 w1 ∧ w1.cell? a0 = some v0 ∧ w1.cell? a1 = some v1) (h0 : a0.block < w0.heap.size) (h1 : a1.block < w0.heap.size) (hB : Below w1.heap.size w1 w2) :
    Below w0.heap.size w0 w2 ∧ w2.cell? a0 = some v0 ∧ w2.cell? a1 = some v1 :=
  ⟨hS.1.trans (hB.mono hS.1.size), (hB.cell (Nat.lt_of_lt_of_le h0 hS.1.size)).trans hS.2.1, (hB.cell (Nat.lt_of_lt_of_le h1 hS.1.size)).trans hS.2.2⟩
theorem keep2_alloc {w0 w1 : World} {a0 a1 : Addr} {v0 v1 : Value} (hS : Below w0.heap.size w0 w1 ∧ w1.cell? a0 = some v0 ∧ w1.cell? a1 = some v1) (h0 : a0.block < w0.heap.size) (h1 : a1.block < w0.heap.size) (o : Obj) :
    Below w0.heap.size w0 (w1.alloc o) ∧ (w1.alloc o).cell? a0 = some v0 ∧ (w1.alloc o).cell? a1 = some v1 :=
  keep2_call hS h0 h1 ((Below.refl _ _).alloc (Nat.le_refl _) _)
theorem keep2_set {w0 w1 : World} {a0 a1 : Addr} {v0 v1 : Value} (hS : Below w0.heap.size w0 w1 ∧ w1.cell? a0 = some v0 ∧ w1.cell? a1 = some v1) (h0 : a0.block < w0.heap.size) (h1 : a1.block < w0.heap.size) {p q : Addr} (hp : w0.heap.size ≤ p.block) (hq : w0.heap.size ≤ q.block) (u v : Value) :
    Below w0.heap.size w0 ((w1.setCell p u).setCell q v) ∧ ((w1.setCell p u).setCell q v).cell? a0 = some v0 ∧ ((w1.setCell p u).setCell q v).cell? a1 = some v1 := by
  have hB : Below w0.heap.size w1 ((w1.setCell p u).setCell q v) := ((Below.refl _ _).setCell hp u).setCell hq v
  exact ⟨hS.1.trans hB, (hB.cell h0).trans hS.2.1, (hB.cell h1).trans hS.2.2⟩
theorem WinEnd.reach {p s hands lo : Int} {l : List Tri} {i m : Nat} (hw : WinEnd p s l i m lo) (hi : i < l.length) (hn : heldB hands s l[i].b = false) : rst p s (l.drop i) hands = ⟨1, lo, .empty⟩ :: rst p s (l.drop i) lo := by
  have h0 : 0 ≤ lo := hw.1.choose_spec.2.2.1
  have him : i < m := hw.1.choose_spec.1
  obtain ⟨b, rfl⟩ := Int.eq_ofNat_of_zero_le h0
  rw [rst_reach hi hn hw.best.symm, rst_held hi (hw.held i (Nat.le_refl _) him hi)]


end Go.Proofs.Ytfnklchhhojimaa

namespace Go.Proofs.Ytfnklchhhojimaa
open Go Go.RowKit Tor

def nenc (i : Nat) : List Value := [.int .i64 i]
abbrev RdN := Rd 1 nenc
theorem RdN.head {w : World} {B : Nat} {A : Option Addr} {x : Nat} {l : List Nat} (h : RdN w B A (x :: l)) : ∃ b o, A = some ⟨b, o, none⟩ ∧ b < B ∧ w.cell? ⟨b, o, none⟩ = some (.int .i64 x) := by
  obtain ⟨b, o, e, hb, hc⟩ := h (by simp)
  exact ⟨b, o, e, hb, by simpa using hc 0 x rfl 0 _ rfl⟩

def frontZ (l m : List Nat) : Int := match l, m with
  | x :: _, y :: _ => if x = y then x else -1
  | _, _ => -1

theorem RdN.head' {w : World} {B : Nat} {A : Option Addr} {x : Nat} {l l' : List Nat} (h : RdN w B A l) (e : l = x :: l') : ∃ b o, A = some ⟨b, o, none⟩ ∧ b < B ∧ w.cell? ⟨b, o, none⟩ = some (.int .i64 x) := by
  subst e; exact h.head

end Go.Proofs.Ytfnklchhhojimaa

namespace Go.Proofs.Ytfnklchhhojimaa
open Go Go.RowKit Tor

/-- an Op, and a Word only if it may -/
def shapedB (x : Tri) : Bool := decide (x.a = 2) || (decide (x.a = 1) || decide (x.a = 3)) && decide (x.s.size = 0)
theorem bempt (s : ByteArray) : s.toList.isEmpty = decide (s.size = 0) := by
  have h := bemp s
  by_cases e : s.size = 0
  · simp only [e, ne_eq, not_true_eq_false, decide_false, Bool.not_eq_false'] at h
    rw [h]; simp [e]
  · simp only [e, ne_eq, not_false_eq_true, decide_true, Bool.not_eq_true'] at h
    rw [h]; simp [e]

theorem shaped_any (x : Tri) (w : World) :
    Calls Try.prog 43 #[.agg #[.int .i64 x.a, .int .i64 x.b, .string x.s]] w (Ret (.bool (shapedB x)) w) := by
  rcases (show x.a = 2 ∨ x.a = 1 ∨ x.a = 3 ∨ (x.a ≠ 2 ∧ x.a ≠ 1 ∧ x.a ≠ 3) from by omega) with h | h | h | ⟨h, h', h''⟩
  all_goals
    have g2 : (x.a == 2) = decide (x.a = 2) := rfl
    have g1 : (x.a == 1) = decide (x.a = 1) := rfl
    have g3 : (x.a == 3) = decide (x.a = 3) := rfl
    simp only [h, decide_true, decide_false, *] at g1 g2 g3
    have e1 : Hid (shapedB x = shapedB x) := rfl
    rw [Hid] at e1
    have HH : Hid (shapedB x = (decide (x.a = 2) || (decide (x.a = 1) || decide (x.a = 3)) && x.s.toList.isEmpty)) := by rw [Hid, bempt]; rfl
    clear e1
    go_enter Try.func43, Try.ntmps43
    go_wp2_with fail
    go_ret
    exact Ret.bool (by rw [HH.out]; simp [*]) ((Below.refl _ _).alloc (Nat.le_refl _) _)
theorem cshaped_any (x : Tri) (w : World) :
    Calls Try.prog 58 #[.agg #[.int .i64 x.a, .int .i64 x.b, .string x.s]] w (Ret (.bool (shapedB x)) w) := by
  rcases (show x.a = 2 ∨ x.a = 1 ∨ x.a = 3 ∨ (x.a ≠ 2 ∧ x.a ≠ 1 ∧ x.a ≠ 3) from by omega) with h | h | h | ⟨h, h', h''⟩
  all_goals
    have g2 : (x.a == 2) = decide (x.a = 2) := rfl
    have g1 : (x.a == 1) = decide (x.a = 1) := rfl
    have g3 : (x.a == 3) = decide (x.a = 3) := rfl
    simp only [h, decide_true, decide_false, *] at g1 g2 g3
    have HH : Hid (shapedB x = (decide (x.a = 2) || (decide (x.a = 1) || decide (x.a = 3)) && x.s.toList.isEmpty)) := by rw [Hid, bempt]; rfl
    go_enter Try.func58, Try.ntmps58
    go_wp2_with fail
    go_ret
    exact Ret.bool (by rw [HH.out]; simp [*]) ((Below.refl _ _).alloc (Nat.le_refl _) _)


/-- the work of a step -/
def workOf (x : Tri) : Tri := if x.a = 3 then ⟨2, x.b, .empty⟩ else ⟨1, x.b, x.s⟩
theorem work_any (x : Tri) (w : World) :
    Calls Try.prog 17 #[.agg #[.int .i64 x.a, .int .i64 x.b, .string x.s]] w (Ret (.agg #[.int .i64 (workOf x).a, .int .i64 (workOf x).b, .string (workOf x).s]) w) := by
  by_cases h : x.a = 3
  · have h' : (x.a == 3) = true := by simp [h]
    have H := Lib.hid h
    clear h
    go_enter Try.func17, Try.ntmps17
    go_wp2
    refine bodyPost_ret (v := _) (by simp [results, Try.results17, go_sem]; rfl) rfl (Ret.val ?_ (by (repeat' first | exact Below.refl _ _ | apply Below.drew | (refine Below.setCells ?_ _ _ ?_) | (refine Below.setCell ?_ ?_ _) | (refine Below.alloc ?_ ?_ _) | (simp; done) | (simp; omega))))
    simp [workOf, H.out]
    rfl
  · have h' : (x.a == 3) = false := by simp [h]
    have H := Lib.hid h
    clear h
    go_enter Try.func17, Try.ntmps17
    go_wp2
    refine bodyPost_ret (v := _) (by simp [results, Try.results17, go_sem]; rfl) rfl (Ret.val ?_ (by (repeat' first | exact Below.refl _ _ | apply Below.drew | (refine Below.setCells ?_ _ _ ?_) | (refine Below.setCell ?_ ?_ _) | (refine Below.alloc ?_ ?_ _) | (simp; done) | (simp; omega))))
    simp [workOf, H.out]


/-- the error of a step -/
def doE (p s h n : Int) (x : Tri) : Int :=
  if shapedB x = false then 2 else if wordE x.s ≠ 0 then wordE x.s
  else if x.b < 0 ∨ p - 2 < x.b ∨ (x.a = 1 ∧ p - s < x.b) then 7
  else if x.a ≠ 1 ∧ heldB h s x.b = false then 9
  else if x.a ≠ 1 ∧ 400 ≤ n then 3 else 0

theorem doE_sh {p s h n : Int} {x : Tri} (h1 : shapedB x = false) : doE p s h n x = 2 := by unfold doE; rw [if_pos h1]
theorem doE_w {p s h n : Int} {x : Tri} (h1 : shapedB x = true) (h2 : wordE x.s ≠ 0) : doE p s h n x = wordE x.s := by
  unfold doE; rw [if_neg (by simp [h1]), if_pos h2]
theorem doE_r {p s h n : Int} {x : Tri} (h1 : shapedB x = true) (h2 : wordE x.s = 0) (h3 : x.b < 0 ∨ p - 2 < x.b ∨ (x.a = 1 ∧ p - s < x.b)) : doE p s h n x = 7 := by
  unfold doE; rw [if_neg (by simp [h1]), if_neg (by simp [h2]), if_pos h3]
theorem doE_d {p s h n : Int} {x : Tri} (h1 : shapedB x = true) (h2 : wordE x.s = 0) (h3 : ¬ (x.b < 0 ∨ p - 2 < x.b ∨ (x.a = 1 ∧ p - s < x.b))) (h4 : x.a ≠ 1) (h5 : heldB h s x.b = false) : doE p s h n x = 9 := by
  unfold doE; rw [if_neg (by simp [h1]), if_neg (by simp [h2]), if_neg h3, if_pos ⟨h4, h5⟩]
theorem doE_l {p s h n : Int} {x : Tri} (h1 : shapedB x = true) (h2 : wordE x.s = 0) (h3 : ¬ (x.b < 0 ∨ p - 2 < x.b ∨ (x.a = 1 ∧ p - s < x.b))) (h4 : x.a ≠ 1) (h5 : heldB h s x.b = true) (h6 : 400 ≤ n) : doE p s h n x = 3 := by
  unfold doE; rw [if_neg (by simp [h1]), if_neg (by simp [h2]), if_neg h3, if_neg (by simp [h5]), if_pos ⟨h4, h6⟩]
theorem doE_0 {p s h n : Int} {x : Tri} (h1 : shapedB x = true) (h2 : wordE x.s = 0) (h3 : ¬ (x.b < 0 ∨ p - 2 < x.b ∨ (x.a = 1 ∧ p - s < x.b))) (h4 : x.a = 1 ∨ (heldB h s x.b = true ∧ ¬ 400 ≤ n)) : doE p s h n x = 0 := by
  unfold doE
  rw [if_neg (by simp [h1]), if_neg (by simp [h2]), if_neg h3, if_neg ?_, if_neg ?_]
  · rintro ⟨a, b⟩
    rcases h4 with h4 | h4
    · exact a h4
    · exact h4.2 b
  · rintro ⟨a, b⟩
    rcases h4 with h4 | h4
    · exact a h4
    · rw [h4.1] at b; cases b


set_option maxRecDepth 100000 in
set_option maxHeartbeats 1000000 in
theorem do_any (p s h n : Int) (x : Tri) (w : World) (hs : x.s.size ≤ 9223372036854775807) (b1 : 2 ≤ s) (b2 : s ≤ p) (b3 : p ≤ 24) (a1 : -1 ≤ h) (a2 : h ≤ 24) :
    Calls Try.prog 16 #[.int .i64 p, .int .i64 s, .int .i64 h, .int .i64 n, .agg #[.int .i64 x.a, .int .i64 x.b, .string x.s]] w (Ret (.int .i64 (doE p s h n x)) w) := by
  cases hsh : shapedB x
  · obtain ⟨E, hE⟩ : ∃ E, Hid (doE p s h n x = E) := ⟨_, Lib.hid rfl⟩
    have HX := Lib.hid (doE_sh (p := p) (s := s) (h := h) (n := n) hsh)
    have HS := Lib.hid hsh
    clear hsh
    go_enter Try.func16, Try.ntmps16
    go_wp2_with (first | (go_at_call 43; refine (shaped_any x _).mono ?_; rintro e w1 ⟨rfl, hB1⟩; rw [HS.out]; have kX := (Blk.new w 45 #[.int .i64 x.a, .int .i64 x.b, .string x.s]).below' hB1; have c0 := kX.cell 0 (.int .i64 x.a) rfl; have c1 := kX.cell 1 (.int .i64 x.b) rfl; have c2 := kX.cell 2 (.string x.s) rfl; have n1 := kX.lt; have hBw : Below w.heap.size w w1 := Below.trans (b := w.alloc (.cells #[.int .i64 x.a, .int .i64 x.b, .string x.s] 45)) (by (repeat' first | exact Below.refl _ _ | apply Below.drew | (refine Below.setCells ?_ _ _ ?_) | (refine Below.setCell ?_ ?_ _) | (refine Below.alloc ?_ ?_ _) | (simp; done) | (simp; omega))) (hB1.mono (by simp)); have hz1 := hBw.size) | (go_at_call 44; refine (wordRef_any x.s _ hs).mono ?_; rintro e w2 ⟨rfl, hB2⟩; rw [HW.out]; have kX2 := kX.below' hB2; have d0 := kX2.cell 0 (.int .i64 x.a) rfl; have d1 := kX2.cell 1 (.int .i64 x.b) rfl; have d2 := kX2.cell 2 (.string x.s) rfl; have n2 := kX2.lt; have hBw2 := hBw.trans (hB2.mono hz1); have hz2 := hBw2.size) | (go_at_call 45; refine (held_any h s x.b _ (by omega) (by omega) (by omega) (by omega) (by omega) (by omega)).mono ?_; rintro e w3 ⟨rfl, hB3⟩; rw [HD.out]; have kX3 := kX2.below' hB3; have e0 := kX3.cell 0 (.int .i64 x.a) rfl; have n3 := kX3.lt; have hBw3 := hBw2.trans (hB3.mono hz2)))
    go_ret
    exact Ret.int HX.out.symm hBw
  · by_cases hw : wordE x.s = 0
    · have HW := Lib.hid hw
      rcases (show (x.b < 0) ∨ (¬ x.b < 0 ∧ p - 2 < x.b) ∨ (¬ x.b < 0 ∧ ¬ p - 2 < x.b ∧ x.a = 1 ∧ p - s < x.b) ∨ (¬ x.b < 0 ∧ ¬ p - 2 < x.b ∧ x.a = 1 ∧ ¬ p - s < x.b) ∨
        (¬ x.b < 0 ∧ ¬ p - 2 < x.b ∧ x.a ≠ 1 ∧ heldB h s x.b = false) ∨ (¬ x.b < 0 ∧ ¬ p - 2 < x.b ∧ x.a ≠ 1 ∧ heldB h s x.b = true ∧ 400 ≤ n) ∨ (¬ x.b < 0 ∧ ¬ p - 2 < x.b ∧ x.a ≠ 1 ∧ heldB h s x.b = true ∧ ¬ 400 ≤ n) from by
          cases heldB h s x.b <;> simp <;> omega) with h1 | ⟨h1, h2⟩ | ⟨h1, h2, h3, h4⟩ | ⟨h1, h2, h3, h4⟩ | ⟨h1, h2, h3, h4⟩ | ⟨h1, h2, h3, h4, h5⟩ | ⟨h1, h2, h3, h4, h5⟩
      · have HX := Lib.hid (doE_r (p := p) (s := s) (h := h) (n := n) hsh hw (by omega))
        have HS := Lib.hid hsh
        clear hsh hw
        go_enter Try.func16, Try.ntmps16
        go_wp2_with (first | (go_at_call 43; refine (shaped_any x _).mono ?_; rintro e w1 ⟨rfl, hB1⟩; rw [HS.out]; have kX := (Blk.new w 45 #[.int .i64 x.a, .int .i64 x.b, .string x.s]).below' hB1; have c0 := kX.cell 0 (.int .i64 x.a) rfl; have c1 := kX.cell 1 (.int .i64 x.b) rfl; have c2 := kX.cell 2 (.string x.s) rfl; have n1 := kX.lt; have hBw : Below w.heap.size w w1 := Below.trans (b := w.alloc (.cells #[.int .i64 x.a, .int .i64 x.b, .string x.s] 45)) (by (repeat' first | exact Below.refl _ _ | apply Below.drew | (refine Below.setCells ?_ _ _ ?_) | (refine Below.setCell ?_ ?_ _) | (refine Below.alloc ?_ ?_ _) | (simp; done) | (simp; omega))) (hB1.mono (by simp)); have hz1 := hBw.size) | (go_at_call 44; refine (wordRef_any x.s _ hs).mono ?_; rintro e w2 ⟨rfl, hB2⟩; rw [HW.out]; have kX2 := kX.below' hB2; have d0 := kX2.cell 0 (.int .i64 x.a) rfl; have d1 := kX2.cell 1 (.int .i64 x.b) rfl; have d2 := kX2.cell 2 (.string x.s) rfl; have n2 := kX2.lt; have hBw2 := hBw.trans (hB2.mono hz1); have hz2 := hBw2.size) | (go_at_call 45; refine (held_any h s x.b _ (by omega) (by omega) (by omega) (by omega) (by omega) (by omega)).mono ?_; rintro e w3 ⟨rfl, hB3⟩; rw [HD.out]; have kX3 := kX2.below' hB3; have e0 := kX3.cell 0 (.int .i64 x.a) rfl; have n3 := kX3.lt; have hBw3 := hBw2.trans (hB3.mono hz2)))
        go_ret
        exact Ret.int HX.out.symm hBw2
      · have HX := Lib.hid (doE_r (p := p) (s := s) (h := h) (n := n) hsh hw (by omega))
        have HS := Lib.hid hsh
        clear hsh hw
        go_enter Try.func16, Try.ntmps16
        go_wp2_with (first | (go_at_call 43; refine (shaped_any x _).mono ?_; rintro e w1 ⟨rfl, hB1⟩; rw [HS.out]; have kX := (Blk.new w 45 #[.int .i64 x.a, .int .i64 x.b, .string x.s]).below' hB1; have c0 := kX.cell 0 (.int .i64 x.a) rfl; have c1 := kX.cell 1 (.int .i64 x.b) rfl; have c2 := kX.cell 2 (.string x.s) rfl; have n1 := kX.lt; have hBw : Below w.heap.size w w1 := Below.trans (b := w.alloc (.cells #[.int .i64 x.a, .int .i64 x.b, .string x.s] 45)) (by (repeat' first | exact Below.refl _ _ | apply Below.drew | (refine Below.setCells ?_ _ _ ?_) | (refine Below.setCell ?_ ?_ _) | (refine Below.alloc ?_ ?_ _) | (simp; done) | (simp; omega))) (hB1.mono (by simp)); have hz1 := hBw.size) | (go_at_call 44; refine (wordRef_any x.s _ hs).mono ?_; rintro e w2 ⟨rfl, hB2⟩; rw [HW.out]; have kX2 := kX.below' hB2; have d0 := kX2.cell 0 (.int .i64 x.a) rfl; have d1 := kX2.cell 1 (.int .i64 x.b) rfl; have d2 := kX2.cell 2 (.string x.s) rfl; have n2 := kX2.lt; have hBw2 := hBw.trans (hB2.mono hz1); have hz2 := hBw2.size) | (go_at_call 45; refine (held_any h s x.b _ (by omega) (by omega) (by omega) (by omega) (by omega) (by omega)).mono ?_; rintro e w3 ⟨rfl, hB3⟩; rw [HD.out]; have kX3 := kX2.below' hB3; have e0 := kX3.cell 0 (.int .i64 x.a) rfl; have n3 := kX3.lt; have hBw3 := hBw2.trans (hB3.mono hz2)))
        go_ret
        exact Ret.int HX.out.symm hBw2
      · have HX := Lib.hid (doE_r (p := p) (s := s) (h := h) (n := n) hsh hw (by omega))
        have HS := Lib.hid hsh
        have t3 : (x.a == 1) = true := by simp [h3]
        clear hsh hw h3
        go_enter Try.func16, Try.ntmps16
        go_wp2_with (first | (go_at_call 43; refine (shaped_any x _).mono ?_; rintro e w1 ⟨rfl, hB1⟩; rw [HS.out]; have kX := (Blk.new w 45 #[.int .i64 x.a, .int .i64 x.b, .string x.s]).below' hB1; have c0 := kX.cell 0 (.int .i64 x.a) rfl; have c1 := kX.cell 1 (.int .i64 x.b) rfl; have c2 := kX.cell 2 (.string x.s) rfl; have n1 := kX.lt; have hBw : Below w.heap.size w w1 := Below.trans (b := w.alloc (.cells #[.int .i64 x.a, .int .i64 x.b, .string x.s] 45)) (by (repeat' first | exact Below.refl _ _ | apply Below.drew | (refine Below.setCells ?_ _ _ ?_) | (refine Below.setCell ?_ ?_ _) | (refine Below.alloc ?_ ?_ _) | (simp; done) | (simp; omega))) (hB1.mono (by simp)); have hz1 := hBw.size) | (go_at_call 44; refine (wordRef_any x.s _ hs).mono ?_; rintro e w2 ⟨rfl, hB2⟩; rw [HW.out]; have kX2 := kX.below' hB2; have d0 := kX2.cell 0 (.int .i64 x.a) rfl; have d1 := kX2.cell 1 (.int .i64 x.b) rfl; have d2 := kX2.cell 2 (.string x.s) rfl; have n2 := kX2.lt; have hBw2 := hBw.trans (hB2.mono hz1); have hz2 := hBw2.size) | (go_at_call 45; refine (held_any h s x.b _ (by omega) (by omega) (by omega) (by omega) (by omega) (by omega)).mono ?_; rintro e w3 ⟨rfl, hB3⟩; rw [HD.out]; have kX3 := kX2.below' hB3; have e0 := kX3.cell 0 (.int .i64 x.a) rfl; have n3 := kX3.lt; have hBw3 := hBw2.trans (hB3.mono hz2)))
        go_ret
        exact Ret.int HX.out.symm hBw2
      · have HX := Lib.hid (doE_0 (p := p) (s := s) (h := h) (n := n) hsh hw (by omega) (Or.inl h3))
        have HS := Lib.hid hsh
        have t3 : (x.a == 1) = true := by simp [h3]
        have t4 : (x.a != 1) = false := by simp [h3]
        clear hsh hw h3
        go_enter Try.func16, Try.ntmps16
        go_wp2_with (first | (go_at_call 43; refine (shaped_any x _).mono ?_; rintro e w1 ⟨rfl, hB1⟩; rw [HS.out]; have kX := (Blk.new w 45 #[.int .i64 x.a, .int .i64 x.b, .string x.s]).below' hB1; have c0 := kX.cell 0 (.int .i64 x.a) rfl; have c1 := kX.cell 1 (.int .i64 x.b) rfl; have c2 := kX.cell 2 (.string x.s) rfl; have n1 := kX.lt; have hBw : Below w.heap.size w w1 := Below.trans (b := w.alloc (.cells #[.int .i64 x.a, .int .i64 x.b, .string x.s] 45)) (by (repeat' first | exact Below.refl _ _ | apply Below.drew | (refine Below.setCells ?_ _ _ ?_) | (refine Below.setCell ?_ ?_ _) | (refine Below.alloc ?_ ?_ _) | (simp; done) | (simp; omega))) (hB1.mono (by simp)); have hz1 := hBw.size) | (go_at_call 44; refine (wordRef_any x.s _ hs).mono ?_; rintro e w2 ⟨rfl, hB2⟩; rw [HW.out]; have kX2 := kX.below' hB2; have d0 := kX2.cell 0 (.int .i64 x.a) rfl; have d1 := kX2.cell 1 (.int .i64 x.b) rfl; have d2 := kX2.cell 2 (.string x.s) rfl; have n2 := kX2.lt; have hBw2 := hBw.trans (hB2.mono hz1); have hz2 := hBw2.size) | (go_at_call 45; refine (held_any h s x.b _ (by omega) (by omega) (by omega) (by omega) (by omega) (by omega)).mono ?_; rintro e w3 ⟨rfl, hB3⟩; rw [HD.out]; have kX3 := kX2.below' hB3; have e0 := kX3.cell 0 (.int .i64 x.a) rfl; have n3 := kX3.lt; have hBw3 := hBw2.trans (hB3.mono hz2)))
        go_ret
        exact Ret.int HX.out.symm hBw2
      · have HX := Lib.hid (doE_d (p := p) (s := s) (h := h) (n := n) hsh hw (by omega) h3 h4)
        have HS := Lib.hid hsh
        have HD := Lib.hid h4
        have t3 : (x.a == 1) = false := by simp [h3]
        have t4 : (x.a != 1) = true := by simp [h3]
        clear hsh hw h3 h4
        go_enter Try.func16, Try.ntmps16
        go_wp2_with (first | (go_at_call 43; refine (shaped_any x _).mono ?_; rintro e w1 ⟨rfl, hB1⟩; rw [HS.out]; have kX := (Blk.new w 45 #[.int .i64 x.a, .int .i64 x.b, .string x.s]).below' hB1; have c0 := kX.cell 0 (.int .i64 x.a) rfl; have c1 := kX.cell 1 (.int .i64 x.b) rfl; have c2 := kX.cell 2 (.string x.s) rfl; have n1 := kX.lt; have hBw : Below w.heap.size w w1 := Below.trans (b := w.alloc (.cells #[.int .i64 x.a, .int .i64 x.b, .string x.s] 45)) (by (repeat' first | exact Below.refl _ _ | apply Below.drew | (refine Below.setCells ?_ _ _ ?_) | (refine Below.setCell ?_ ?_ _) | (refine Below.alloc ?_ ?_ _) | (simp; done) | (simp; omega))) (hB1.mono (by simp)); have hz1 := hBw.size) | (go_at_call 44; refine (wordRef_any x.s _ hs).mono ?_; rintro e w2 ⟨rfl, hB2⟩; rw [HW.out]; have kX2 := kX.below' hB2; have d0 := kX2.cell 0 (.int .i64 x.a) rfl; have d1 := kX2.cell 1 (.int .i64 x.b) rfl; have d2 := kX2.cell 2 (.string x.s) rfl; have n2 := kX2.lt; have hBw2 := hBw.trans (hB2.mono hz1); have hz2 := hBw2.size) | (go_at_call 45; refine (held_any h s x.b _ (by omega) (by omega) (by omega) (by omega) (by omega) (by omega)).mono ?_; rintro e w3 ⟨rfl, hB3⟩; rw [HD.out]; have kX3 := kX2.below' hB3; have e0 := kX3.cell 0 (.int .i64 x.a) rfl; have n3 := kX3.lt; have hBw3 := hBw2.trans (hB3.mono hz2)))
        go_ret
        exact Ret.int HX.out.symm hBw3
      · have HX := Lib.hid (doE_l (p := p) (s := s) (h := h) (n := n) hsh hw (by omega) h3 h4 h5)
        have HS := Lib.hid hsh
        have HD := Lib.hid h4
        have t3 : (x.a == 1) = false := by simp [h3]
        have t4 : (x.a != 1) = true := by simp [h3]
        clear hsh hw h3 h4
        go_enter Try.func16, Try.ntmps16
        go_wp2_with (first | (go_at_call 43; refine (shaped_any x _).mono ?_; rintro e w1 ⟨rfl, hB1⟩; rw [HS.out]; have kX := (Blk.new w 45 #[.int .i64 x.a, .int .i64 x.b, .string x.s]).below' hB1; have c0 := kX.cell 0 (.int .i64 x.a) rfl; have c1 := kX.cell 1 (.int .i64 x.b) rfl; have c2 := kX.cell 2 (.string x.s) rfl; have n1 := kX.lt; have hBw : Below w.heap.size w w1 := Below.trans (b := w.alloc (.cells #[.int .i64 x.a, .int .i64 x.b, .string x.s] 45)) (by (repeat' first | exact Below.refl _ _ | apply Below.drew | (refine Below.setCells ?_ _ _ ?_) | (refine Below.setCell ?_ ?_ _) | (refine Below.alloc ?_ ?_ _) | (simp; done) | (simp; omega))) (hB1.mono (by simp)); have hz1 := hBw.size) | (go_at_call 44; refine (wordRef_any x.s _ hs).mono ?_; rintro e w2 ⟨rfl, hB2⟩; rw [HW.out]; have kX2 := kX.below' hB2; have d0 := kX2.cell 0 (.int .i64 x.a) rfl; have d1 := kX2.cell 1 (.int .i64 x.b) rfl; have d2 := kX2.cell 2 (.string x.s) rfl; have n2 := kX2.lt; have hBw2 := hBw.trans (hB2.mono hz1); have hz2 := hBw2.size) | (go_at_call 45; refine (held_any h s x.b _ (by omega) (by omega) (by omega) (by omega) (by omega) (by omega)).mono ?_; rintro e w3 ⟨rfl, hB3⟩; rw [HD.out]; have kX3 := kX2.below' hB3; have e0 := kX3.cell 0 (.int .i64 x.a) rfl; have n3 := kX3.lt; have hBw3 := hBw2.trans (hB3.mono hz2)))
        go_ret
        exact Ret.int HX.out.symm hBw3
      · have HX := Lib.hid (doE_0 (p := p) (s := s) (h := h) (n := n) hsh hw (by omega) (Or.inr ⟨h4, h5⟩))
        have HS := Lib.hid hsh
        have HD := Lib.hid h4
        have t3 : (x.a == 1) = false := by simp [h3]
        have t4 : (x.a != 1) = true := by simp [h3]
        clear hsh hw h3 h4
        go_enter Try.func16, Try.ntmps16
        go_wp2_with (first | (go_at_call 43; refine (shaped_any x _).mono ?_; rintro e w1 ⟨rfl, hB1⟩; rw [HS.out]; have kX := (Blk.new w 45 #[.int .i64 x.a, .int .i64 x.b, .string x.s]).below' hB1; have c0 := kX.cell 0 (.int .i64 x.a) rfl; have c1 := kX.cell 1 (.int .i64 x.b) rfl; have c2 := kX.cell 2 (.string x.s) rfl; have n1 := kX.lt; have hBw : Below w.heap.size w w1 := Below.trans (b := w.alloc (.cells #[.int .i64 x.a, .int .i64 x.b, .string x.s] 45)) (by (repeat' first | exact Below.refl _ _ | apply Below.drew | (refine Below.setCells ?_ _ _ ?_) | (refine Below.setCell ?_ ?_ _) | (refine Below.alloc ?_ ?_ _) | (simp; done) | (simp; omega))) (hB1.mono (by simp)); have hz1 := hBw.size) | (go_at_call 44; refine (wordRef_any x.s _ hs).mono ?_; rintro e w2 ⟨rfl, hB2⟩; rw [HW.out]; have kX2 := kX.below' hB2; have d0 := kX2.cell 0 (.int .i64 x.a) rfl; have d1 := kX2.cell 1 (.int .i64 x.b) rfl; have d2 := kX2.cell 2 (.string x.s) rfl; have n2 := kX2.lt; have hBw2 := hBw.trans (hB2.mono hz1); have hz2 := hBw2.size) | (go_at_call 45; refine (held_any h s x.b _ (by omega) (by omega) (by omega) (by omega) (by omega) (by omega)).mono ?_; rintro e w3 ⟨rfl, hB3⟩; rw [HD.out]; have kX3 := kX2.below' hB3; have e0 := kX3.cell 0 (.int .i64 x.a) rfl; have n3 := kX3.lt; have hBw3 := hBw2.trans (hB3.mono hz2)))
        go_ret
        exact Ret.int HX.out.symm hBw3
    · have HX := Lib.hid (doE_w (p := p) (s := s) (h := h) (n := n) hsh hw)
      have HS := Lib.hid hsh
      obtain ⟨E, HW⟩ : ∃ E, Hid (wordE x.s = E) := ⟨_, Lib.hid rfl⟩
      rw [HW.out] at hw
      have tw : (E != 0) = true := by simp [hw]
      clear hsh hw
      go_enter Try.func16, Try.ntmps16
      go_wp2_with (first | (go_at_call 43; refine (shaped_any x _).mono ?_; rintro e w1 ⟨rfl, hB1⟩; rw [HS.out]; have kX := (Blk.new w 45 #[.int .i64 x.a, .int .i64 x.b, .string x.s]).below' hB1; have c0 := kX.cell 0 (.int .i64 x.a) rfl; have c1 := kX.cell 1 (.int .i64 x.b) rfl; have c2 := kX.cell 2 (.string x.s) rfl; have n1 := kX.lt; have hBw : Below w.heap.size w w1 := Below.trans (b := w.alloc (.cells #[.int .i64 x.a, .int .i64 x.b, .string x.s] 45)) (by (repeat' first | exact Below.refl _ _ | apply Below.drew | (refine Below.setCells ?_ _ _ ?_) | (refine Below.setCell ?_ ?_ _) | (refine Below.alloc ?_ ?_ _) | (simp; done) | (simp; omega))) (hB1.mono (by simp)); have hz1 := hBw.size) | (go_at_call 44; refine (wordRef_any x.s _ hs).mono ?_; rintro e w2 ⟨rfl, hB2⟩; rw [HW.out]; have kX2 := kX.below' hB2; have d0 := kX2.cell 0 (.int .i64 x.a) rfl; have d1 := kX2.cell 1 (.int .i64 x.b) rfl; have d2 := kX2.cell 2 (.string x.s) rfl; have n2 := kX2.lt; have hBw2 := hBw.trans (hB2.mono hz1); have hz2 := hBw2.size) | (go_at_call 45; refine (held_any h s x.b _ (by omega) (by omega) (by omega) (by omega) (by omega) (by omega)).mono ?_; rintro e w3 ⟨rfl, hB3⟩; rw [HD.out]; have kX3 := kX2.below' hB3; have e0 := kX3.cell 0 (.int .i64 x.a) rfl; have n3 := kX3.lt; have hBw3 := hBw2.trans (hB3.mono hz2)))
      go_ret
      exact Ret.int (by rw [HX.out, HW.out]) hBw2

end Go.Proofs.Ytfnklchhhojimaa
