/- Base: readings of slices in memory, owned rows, small laws. No program in sight. -/
import Derived.WalkKit
import Derived.Lib.Hide
import Derived.BigQuiet
import Derived.Deep.QuietTactic
import Derived.Outline
namespace Tor
open Go Go.RowKit

/-- three cells: a number, a number, a string (a work of a sheet; a step of instructions) -/
structure Tri where
  a : Int
  b : Int
  s : ByteArray
deriving DecidableEq

instance : Inhabited Tri := ⟨⟨0, 0, .empty⟩⟩

def Tri.enc (x : Tri) : List Value := [.int .i64 x.a, .int .i64 x.b, .string x.s]
def ienc (x : Int) : List Value := [.int .i64 x]
def benc (x : Bool) : List Value := [.bool x]
def senc (x : ByteArray) : List Value := [.string x]


/-- the slice's address A is that of a row below block B that reads as the list l (sz cells an element) -/
def Rd {α : Type} (sz : Nat) (enc : α → List Value) (w : World) (B : Nat) (A : Option Addr) (l : List α) : Prop :=
  l ≠ [] → ∃ b o, A = some ⟨b, o, none⟩ ∧ b < B ∧ ∀ k x, l[k]? = some x → ∀ j u, (enc x)[j]? = some u → w.cell? ⟨b, o + k * sz + j, none⟩ = some u

abbrev RdT := Rd 3 Tri.enc
abbrev RdI := Rd 1 ienc
abbrev RdB := Rd 1 benc
abbrev RdS := Rd 1 senc

section
variable {α : Type} {sz : Nat} {enc : α → List Value} {w w' : World} {B B' : Nat} {A : Option Addr} {l : List α}

theorem Rd.nil : Rd sz enc w B A [] := fun h => absurd rfl h

theorem Rd.keep (h : Rd sz enc w B A l) (hk : ∀ p : Addr, p.block < B → w'.cell? p = w.cell? p) : Rd sz enc w' B A l := fun hl => by
  obtain ⟨b, o, e, hb, hc⟩ := h hl
  exact ⟨b, o, e, hb, fun k x hx j u hu => (hk ⟨b, _, none⟩ hb).trans (hc k x hx j u hu)⟩

theorem Rd.below (h : Rd sz enc w B A l) (hb : Below B w w') : Rd sz enc w' B A l := h.keep fun _ hp => hb.cell hp

theorem Rd.below' (h : Rd sz enc w B A l) (hb : Below B' w w') (hB : B ≤ B') : Rd sz enc w' B A l := h.keep fun _ hp => hb.cell (Nat.lt_of_lt_of_le hp hB)

theorem Rd.more (h : Rd sz enc w B A l) (hB : B ≤ B') : Rd sz enc w B' A l := fun hl => by
  obtain ⟨b, o, e, hb, hc⟩ := h hl
  exact ⟨b, o, e, by omega, hc⟩
end

theorem Rd.tri {w : World} {B : Nat} {A : Option Addr} {l : List Tri} (h : RdT w B A l) {k : Nat} (hk : k < l.length) :
    ∃ b o, A = some ⟨b, o, none⟩ ∧ b < B ∧ w.cell? ⟨b, o + k * 3, none⟩ = some (.int .i64 l[k].a) ∧
      w.cell? ⟨b, o + k * 3 + 1, none⟩ = some (.int .i64 l[k].b) ∧ w.cell? ⟨b, o + k * 3 + 2, none⟩ = some (.string l[k].s) := by
  obtain ⟨b, o, e, hb, hc⟩ := h (by intro e; subst e; simp at hk)
  have hx : l[k]? = some l[k] := List.getElem?_eq_getElem hk
  exact ⟨b, o, e, hb, hc k _ hx 0 _ rfl, hc k _ hx 1 _ rfl, hc k _ hx 2 _ rfl⟩

theorem Rd.int {w : World} {B : Nat} {A : Option Addr} {l : List Int} (h : RdI w B A l) {k : Nat} (hk : k < l.length) :
    ∃ b o, A = some ⟨b, o, none⟩ ∧ b < B ∧ w.cell? ⟨b, o + k, none⟩ = some (.int .i64 l[k]) := by
  obtain ⟨b, o, e, hb, hc⟩ := h (by intro e; subst e; simp at hk)
  have hx : l[k]? = some l[k] := List.getElem?_eq_getElem hk
  have := hc k _ hx 0 _ rfl
  simp only [Nat.mul_one, Nat.add_zero] at this
  exact ⟨b, o, e, hb, this⟩

theorem Rd.bool {w : World} {B : Nat} {A : Option Addr} {l : List Bool} (h : RdB w B A l) {k : Nat} (hk : k < l.length) :
    ∃ b o, A = some ⟨b, o, none⟩ ∧ b < B ∧ w.cell? ⟨b, o + k, none⟩ = some (.bool l[k]) := by
  obtain ⟨b, o, e, hb, hc⟩ := h (by intro e; subst e; simp at hk)
  have hx : l[k]? = some l[k] := List.getElem?_eq_getElem hk
  have := hc k _ hx 0 _ rfl
  simp only [Nat.mul_one, Nat.add_zero] at this
  exact ⟨b, o, e, hb, this⟩


/-- an owned row (made by the call) that reads as the list l -/
def Own {α : Type} (sz : Nat) (enc : α → List Value) (w : World) (base : Nat) (e : TypeId) (v : Value) (l : List α) : Prop :=
  w.ownsRow base e sz v l.length (l.flatMap enc)

theorem flatMap_get {α : Type} {sz : Nat} {enc : α → List Value} (henc : ∀ x, (enc x).length = sz) :
    ∀ (l : List α) (k : Nat) (x : α), l[k]? = some x → ∀ j u, (enc x)[j]? = some u → (l.flatMap enc)[k * sz + j]? = some u
  | [], _, _, h => by simp at h
  | y :: l, 0, x, h => fun j u hu => by
    simp only [List.getElem?_cons_zero, Option.some.injEq] at h
    subst h
    have hj : j < (enc y).length := (List.getElem?_eq_some_iff.1 hu).1
    simp only [List.flatMap_cons, Nat.zero_mul, Nat.zero_add]
    rw [List.getElem?_append_left hj]
    exact hu
  | y :: l, k + 1, x, h => fun j u hu => by
    simp only [List.getElem?_cons_succ] at h
    have ih := flatMap_get henc l k x h j u hu
    simp only [List.flatMap_cons]
    rw [List.getElem?_append_right (by rw [henc]; have : (k+1) * sz = k * sz + sz := Nat.succ_mul k sz; omega), henc]
    rw [← ih]
    congr 1
    have : (k+1) * sz = k * sz + sz := Nat.succ_mul k sz
    omega

theorem Own.rd {α : Type} {sz : Nat} {enc : α → List Value} (henc : ∀ x, (enc x).length = sz) {w : World} {base : Nat} {e : TypeId} {v : Value} {l : List α} (h : Own sz enc w base e v l) :
    ∃ A c, v = .slice A l.length c ∧ l.length ≤ c ∧ Rd sz enc w w.heap.size A l := by
  obtain ⟨hlen, h2⟩ := h
  rcases h2 with ⟨rfl, hn⟩ | ⟨g, cap, cur, rfl, hg, hh, hnc, hcm, hcs, htake⟩
  · have : l = [] := List.eq_nil_of_length_eq_zero hn
    subst this
    exact ⟨none, 0, rfl, Nat.le_refl _, Rd.nil⟩
  · refine ⟨_, cap, rfl, hnc, fun hl => ⟨g, 0, rfl, ?_, fun k x hx j u hu => ?_⟩⟩
    · rcases Nat.lt_or_ge g w.heap.size with h | h
      · exact h
      · rw [Array.getElem?_eq_none h] at hh; cases hh
    · have hg' := flatMap_get henc l k x hx j u hu
      rw [← htake, List.getElem?_take] at hg'
      split at hg'
      · simp only [World.cell?, hh, Nat.zero_add]
        simpa using hg'
      · cases hg'

theorem Own.nil {α : Type} {sz : Nat} {enc : α → List Value} (w : World) (base : Nat) (e : TypeId) : Own sz enc w base e (.slice none 0 0) ([] : List α) :=
  World.ownsRow_nil w base e sz

theorem tri_len (x : Tri) : x.enc.length = 3 := rfl
theorem int_len (x : Int) : (ienc x).length = 1 := rfl
theorem bool_len (x : Bool) : (benc x).length = 1 := rfl

theorem ret_int {k : IntKind} {a b : Int} (h : a = b) : Ending.returned (.int k a) = .returned (.int k b) := by rw [h]
theorem ret_bool {a b : Bool} (h : a = b) : Ending.returned (.bool a) = .returned (.bool b) := by rw [h]

theorem _root_.Go.RowKit.Below.drewN {B : Nat} {a w : World} (h : Below B a w) (n : Nat) : Below B a (w.drewN n) := ⟨h.os, h.tape, h.output, h.size, h.block⟩


/-- the call returned v; what was there is as it was -/
def Ret (v : Value) (w : World) (e : Ending) (w' : World) : Prop := e = .returned v ∧ Below w.heap.size w w'
theorem Ret.int {k : IntKind} {a b : Int} {w w' : World} (h : a = b) (hB : Below w.heap.size w w') : Ret (.int k b) w (.returned (.int k a)) w' := ⟨by rw [h], hB⟩
theorem Ret.bool {a b : Bool} {w w' : World} (h : a = b) (hB : Below w.heap.size w w') : Ret (.bool b) w (.returned (.bool a)) w' := ⟨by rw [h], hB⟩
theorem Ret.val {u v : Value} {w w' : World} (h : u = v) (hB : Below w.heap.size w w') : Ret v w (.returned u) w' := ⟨by rw [h], hB⟩

theorem lt_of_cell {w : World} {b o : Nat} {v : Value} (h : w.cell? ⟨b, o, none⟩ = some v) : b < w.heap.size := by
  rcases Nat.lt_or_ge b w.heap.size with h1 | h1
  · exact h1
  · simp [World.cell?, Array.getElem?_eq_none h1] at h

/-! ### a region that draws its order, whose operations read and whose callees may make memory -/

/-- a world that has grown: what was there is as it was -/
structure Ex (w0 : World) where
  w : World
  h : Below w0.heap.size w0 w

instance (w0 : World) : Inhabited (Ex w0) := ⟨⟨w0, Below.refl _ _⟩⟩

@[go_sem] theorem Ex.cell {w0 : World} (g : Ex w0) (b o : Nat) (hb : b < w0.heap.size) : g.w.cell? ⟨b, o, none⟩ = w0.cell? ⟨b, o, none⟩ := g.h.cell (p := ⟨b, o, none⟩) hb

theorem wp_region_ex {P : Program} {id : Nat} {Q : Exit → Act → World → Prop} {a : Act} {w : World} {l : List Oper} (hm : P.follows .mixedOrders = true) (hB : Region.lexB .any l.toArray = true)
    (h : wpQuiet P l.toArray (fun w' => ∃ g : Ex w, w' = g.w) (fun a' => ∀ w', (∃ g : Ex w, w' = g.w) → Q .normal a' w') l a) : (Code.region id l.toArray true).wp P Q a w :=
  wp_region_quiet (C := fun w' => ∃ g : Ex w, w' = g.w) hm hB ⟨⟨{ w with drawn := w.drawn + 1 }, ⟨rfl, rfl, rfl, Nat.le_refl _, fun _ _ => rfl⟩⟩, rfl⟩ (by simpa using h)

theorem calls_ex {P : Program} {f : FuncId} {args : Array Value} {w : World} {g : Ex w} {v : Value}
    (h : Calls P f args g.w (Ret v g.w)) : Calls P f args g.w fun e w'' => e = .returned v ∧ ∃ g' : Ex w, w'' = g'.w :=
  h.mono fun _ _ ⟨he, hb⟩ => ⟨he, ⟨_, g.h.trans (hb.mono g.h.size)⟩, rfl⟩

/-! ### lists -/
theorem take_snoc {α : Type} (l : List α) (k : Nat) (h : k < l.length) : l.take (k + 1) = l.take k ++ [l[k]] := List.take_succ_eq_append_getElem h
theorem take_all {α : Type} (l : List α) (k : Nat) (h : ¬ k < l.length) : l.take k = l := List.take_of_length_le (by omega)
theorem take_ne {α : Type} {l m : List α} {k : Nat} (hl : k < l.length) (hm : k < m.length) (h : l[k] ≠ m[k]) : l ≠ m := fun e => by subst e; exact h rfl
theorem take_eq_snoc {α : Type} {l m : List α} {k : Nat} (hl : k < l.length) (hm : k < m.length) (h : l[k] = m[k]) (ht : l.take k = m.take k) : l.take (k + 1) = m.take (k + 1) := by
  rw [take_snoc l k hl, take_snoc m k hm, ht, h]
theorem take_eq_all {α : Type} {l m : List α} {k : Nat} (hl : ¬ k < l.length) (hn : l.length = m.length) (ht : l.take k = m.take k) : l = m := by
  rw [take_all l k hl, take_all m k (by omega)] at ht
  exact ht

end Tor
