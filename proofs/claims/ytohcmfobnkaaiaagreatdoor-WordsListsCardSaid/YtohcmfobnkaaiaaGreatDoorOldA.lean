/- Plain theory and walks of small functions, first part. -/
import Derived.WalkKit
import Derived.Lib.Hide
import Derived.BigQuiet
import Derived.Deep.QuietTactic
import Derived.Outline
import Derived.Test.YtohcmfobnkaaiaaGreatDoorRows
import Derived.Lib.Bytealg
import Derived.Deep.RegionHeld3
import Derived.BigRegion
import Derived.Deep.LoopGhost
import Derived.Deep.RegionLaw
import Derived.Deep.MidRow
import Derived.Deep.WholeRow
import Derived.Maps.AppendAt
import Derived.Lib.QuoteBits
import Derived.Maps.OwnSet
import Derived.DeepKeys4
import Derived.Deep.DeepCutAuto
set_option linter.unusedSimpArgs false
set_option linter.unusedVariables false
namespace Tor
open Go Go.RowKit

/-- three cells: a number, a number, a string (a work of a sheet; a step of instructions) -/
structure Tri where
  a : Int
  b : Int
  s : ByteArray
deriving DecidableEq

instance : Inhabited Tri := ⟨⟨0, 0, .empty⟩⟩

def Tri.enc (x : Tri) : List Value := [.int .i64 x.a, .int .i64 x.b, .string x.s]
def ienc (x : Int) : List Value := [.int .i64 x]
def benc (x : Bool) : List Value := [.bool x]
def senc (x : ByteArray) : List Value := [.string x]


/-- the slice's address A is that of a row below block B that reads as the list l (sz cells an element) -/
def Rd {α : Type} (sz : Nat) (enc : α → List Value) (w : World) (B : Nat) (A : Option Addr) (l : List α) : Prop :=
  l ≠ [] → ∃ b o, A = some ⟨b, o, none⟩ ∧ b < B ∧ ∀ k x, l[k]? = some x → ∀ j u, (enc x)[j]? = some u → w.cell? ⟨b, o + k * sz + j, none⟩ = some u

abbrev RdT := Rd 3 Tri.enc
abbrev RdI := Rd 1 ienc
abbrev RdB := Rd 1 benc
abbrev RdS := Rd 1 senc

section
variable {α : Type} {sz : Nat} {enc : α → List Value} {w w' : World} {B B' : Nat} {A : Option Addr} {l : List α}

theorem Rd.nil : Rd sz enc w B A [] := fun h => absurd rfl h

theorem Rd.keep (h : Rd sz enc w B A l) (hk : ∀ p : Addr, p.block < B → w'.cell? p = w.cell? p) : Rd sz enc w' B A l := fun hl => by
  obtain ⟨b, o, e, hb, hc⟩ := h hl
  exact ⟨b, o, e, hb, fun k x hx j u hu => (hk ⟨b, _, none⟩ hb).trans (hc k x hx j u hu)⟩

theorem Rd.below (h : Rd sz enc w B A l) (hb : Below B w w') : Rd sz enc w' B A l := h.keep fun _ hp => hb.cell hp

theorem Rd.below' (h : Rd sz enc w B A l) (hb : Below B' w w') (hB : B ≤ B') : Rd sz enc w' B A l := h.keep fun _ hp => hb.cell (Nat.lt_of_lt_of_le hp hB)

theorem Rd.more (h : Rd sz enc w B A l) (hB : B ≤ B') : Rd sz enc w B' A l := fun hl => by
  obtain ⟨b, o, e, hb, hc⟩ := h hl
  exact ⟨b, o, e, by omega, hc⟩
end

theorem Rd.tri {w : World} {B : Nat} {A : Option Addr} {l : List Tri} (h : RdT w B A l) {k : Nat} (hk : k < l.length) :
    ∃ b o, A = some ⟨b, o, none⟩ ∧ b < B ∧ w.cell? ⟨b, o + k * 3, none⟩ = some (.int .i64 l[k].a) ∧
      w.cell? ⟨b, o + k * 3 + 1, none⟩ = some (.int .i64 l[k].b) ∧ w.cell? ⟨b, o + k * 3 + 2, none⟩ = some (.string l[k].s) := by
  obtain ⟨b, o, e, hb, hc⟩ := h (by intro e; subst e; simp at hk)
  have hx : l[k]? = some l[k] := List.getElem?_eq_getElem hk
  exact ⟨b, o, e, hb, hc k _ hx 0 _ rfl, hc k _ hx 1 _ rfl, hc k _ hx 2 _ rfl⟩

theorem Rd.int {w : World} {B : Nat} {A : Option Addr} {l : List Int} (h : RdI w B A l) {k : Nat} (hk : k < l.length) :
    ∃ b o, A = some ⟨b, o, none⟩ ∧ b < B ∧ w.cell? ⟨b, o + k, none⟩ = some (.int .i64 l[k]) := by
  obtain ⟨b, o, e, hb, hc⟩ := h (by intro e; subst e; simp at hk)
  have hx : l[k]? = some l[k] := List.getElem?_eq_getElem hk
  have := hc k _ hx 0 _ rfl
  simp only [Nat.mul_one, Nat.add_zero] at this
  exact ⟨b, o, e, hb, this⟩

theorem Rd.bool {w : World} {B : Nat} {A : Option Addr} {l : List Bool} (h : RdB w B A l) {k : Nat} (hk : k < l.length) :
    ∃ b o, A = some ⟨b, o, none⟩ ∧ b < B ∧ w.cell? ⟨b, o + k, none⟩ = some (.bool l[k]) := by
  obtain ⟨b, o, e, hb, hc⟩ := h (by intro e; subst e; simp at hk)
  have hx : l[k]? = some l[k] := List.getElem?_eq_getElem hk
  have := hc k _ hx 0 _ rfl
  simp only [Nat.mul_one, Nat.add_zero] at this
  exact ⟨b, o, e, hb, this⟩


/-- an owned row (made by the call) that reads as the list l -/
def Own {α : Type} (sz : Nat) (enc : α → List Value) (w : World) (base : Nat) (e : TypeId) (v : Value) (l : List α) : Prop :=
  w.ownsRow base e sz v l.length (l.flatMap enc)

theorem flatMap_get {α : Type} {sz : Nat} {enc : α → List Value} (henc : ∀ x, (enc x).length = sz) :
    ∀ (l : List α) (k : Nat) (x : α), l[k]? = some x → ∀ j u, (enc x)[j]? = some u → (l.flatMap enc)[k * sz + j]? = some u
  | [], _, _, h => by simp at h
  | y :: l, 0, x, h => fun j u hu => by
    simp only [List.getElem?_cons_zero, Option.some.injEq] at h
    subst h
    have hj : j < (enc y).length := (List.getElem?_eq_some_iff.1 hu).1
    simp only [List.flatMap_cons, Nat.zero_mul, Nat.zero_add]
    rw [List.getElem?_append_left hj]
    exact hu
  | y :: l, k + 1, x, h => fun j u hu => by
    simp only [List.getElem?_cons_succ] at h
    have ih := flatMap_get henc l k x h j u hu
    simp only [List.flatMap_cons]
    rw [List.getElem?_append_right (by rw [henc]; have : (k+1) * sz = k * sz + sz := Nat.succ_mul k sz; omega), henc]
    rw [← ih]
    congr 1
    have : (k+1) * sz = k * sz + sz := Nat.succ_mul k sz
    omega

theorem Own.rd {α : Type} {sz : Nat} {enc : α → List Value} (henc : ∀ x, (enc x).length = sz) {w : World} {base : Nat} {e : TypeId} {v : Value} {l : List α} (h : Own sz enc w base e v l) :
    ∃ A c, v = .slice A l.length c ∧ l.length ≤ c ∧ Rd sz enc w w.heap.size A l := by
  obtain ⟨hlen, h2⟩ := h
  rcases h2 with ⟨rfl, hn⟩ | ⟨g, cap, cur, rfl, hg, hh, hnc, hcm, hcs, htake⟩
  · have : l = [] := List.eq_nil_of_length_eq_zero hn
    subst this
    exact ⟨none, 0, rfl, Nat.le_refl _, Rd.nil⟩
  · refine ⟨_, cap, rfl, hnc, fun hl => ⟨g, 0, rfl, ?_, fun k x hx j u hu => ?_⟩⟩
    · rcases Nat.lt_or_ge g w.heap.size with h | h
      · exact h
      · rw [Array.getElem?_eq_none h] at hh; cases hh
    · have hg' := flatMap_get henc l k x hx j u hu
      rw [← htake, List.getElem?_take] at hg'
      split at hg'
      · simp only [World.cell?, hh, Nat.zero_add]
        simpa using hg'
      · cases hg'

theorem Own.nil {α : Type} {sz : Nat} {enc : α → List Value} (w : World) (base : Nat) (e : TypeId) : Own sz enc w base e (.slice none 0 0) ([] : List α) :=
  World.ownsRow_nil w base e sz

theorem tri_len (x : Tri) : x.enc.length = 3 := rfl
theorem int_len (x : Int) : (ienc x).length = 1 := rfl
theorem bool_len (x : Bool) : (benc x).length = 1 := rfl

theorem ret_int {k : IntKind} {a b : Int} (h : a = b) : Ending.returned (.int k a) = .returned (.int k b) := by rw [h]
theorem ret_bool {a b : Bool} (h : a = b) : Ending.returned (.bool a) = .returned (.bool b) := by rw [h]

theorem _root_.Go.RowKit.Below.drewN {B : Nat} {a w : World} (h : Below B a w) (n : Nat) : Below B a (w.drewN n) := ⟨h.os, h.tape, h.output, h.size, h.block⟩


/-- the call returned v; what was there is as it was -/
def Ret (v : Value) (w : World) (e : Ending) (w' : World) : Prop := e = .returned v ∧ Below w.heap.size w w'
theorem Ret.int {k : IntKind} {a b : Int} {w w' : World} (h : a = b) (hB : Below w.heap.size w w') : Ret (.int k b) w (.returned (.int k a)) w' := ⟨by rw [h], hB⟩
theorem Ret.bool {a b : Bool} {w w' : World} (h : a = b) (hB : Below w.heap.size w w') : Ret (.bool b) w (.returned (.bool a)) w' := ⟨by rw [h], hB⟩
theorem Ret.val {u v : Value} {w w' : World} (h : u = v) (hB : Below w.heap.size w w') : Ret v w (.returned u) w' := ⟨by rw [h], hB⟩

theorem lt_of_cell {w : World} {b o : Nat} {v : Value} (h : w.cell? ⟨b, o, none⟩ = some v) : b < w.heap.size := by
  rcases Nat.lt_or_ge b w.heap.size with h1 | h1
  · exact h1
  · simp [World.cell?, Array.getElem?_eq_none h1] at h

/-! ### a region that draws its order, whose operations read and whose callees may make memory -/

/-- a world that has grown: what was there is as it was -/
structure Ex (w0 : World) where
  w : World
  h : Below w0.heap.size w0 w

instance (w0 : World) : Inhabited (Ex w0) := ⟨⟨w0, Below.refl _ _⟩⟩

@[go_sem] theorem Ex.cell {w0 : World} (g : Ex w0) (b o : Nat) (hb : b < w0.heap.size) : g.w.cell? ⟨b, o, none⟩ = w0.cell? ⟨b, o, none⟩ := g.h.cell (p := ⟨b, o, none⟩) hb

theorem wp_region_ex {P : Program} {id : Nat} {Q : Exit → Act → World → Prop} {a : Act} {w : World} {l : List Oper} (hm : P.follows .mixedOrders = true) (hB : Region.lexB .any l.toArray = true)
    (h : wpQuiet P l.toArray (fun w' => ∃ g : Ex w, w' = g.w) (fun a' => ∀ w', (∃ g : Ex w, w' = g.w) → Q .normal a' w') l a) : (Code.region id l.toArray true).wp P Q a w :=
  wp_region_quiet (C := fun w' => ∃ g : Ex w, w' = g.w) hm hB ⟨⟨{ w with drawn := w.drawn + 1 }, ⟨rfl, rfl, rfl, Nat.le_refl _, fun _ _ => rfl⟩⟩, rfl⟩ (by simpa using h)

theorem calls_ex {P : Program} {f : FuncId} {args : Array Value} {w : World} {g : Ex w} {v : Value}
    (h : Calls P f args g.w (Ret v g.w)) : Calls P f args g.w fun e w'' => e = .returned v ∧ ∃ g' : Ex w, w'' = g'.w :=
  h.mono fun _ _ ⟨he, hb⟩ => ⟨he, ⟨_, g.h.trans (hb.mono g.h.size)⟩, rfl⟩

/-! ### lists -/
theorem take_snoc {α : Type} (l : List α) (k : Nat) (h : k < l.length) : l.take (k + 1) = l.take k ++ [l[k]] := List.take_succ_eq_append_getElem h
theorem take_all {α : Type} (l : List α) (k : Nat) (h : ¬ k < l.length) : l.take k = l := List.take_of_length_le (by omega)
theorem take_ne {α : Type} {l m : List α} {k : Nat} (hl : k < l.length) (hm : k < m.length) (h : l[k] ≠ m[k]) : l ≠ m := fun e => by subst e; exact h rfl
theorem take_eq_snoc {α : Type} {l m : List α} {k : Nat} (hl : k < l.length) (hm : k < m.length) (h : l[k] = m[k]) (ht : l.take k = m.take k) : l.take (k + 1) = m.take (k + 1) := by
  rw [take_snoc l k hl, take_snoc m k hm, ht, h]
theorem take_eq_all {α : Type} {l m : List α} {k : Nat} (hl : ¬ k < l.length) (hn : l.length = m.length) (ht : l.take k = m.take k) : l = m := by
  rw [take_all l k hl, take_all m k (by omega)] at ht
  exact ht

end Tor

namespace Go.Proofs.YtohcmfobnkaaiaaGreatDoor
open Go Go.RowKit Tor

theorem beqS (a b : ByteArray) : (a.toList == b.toList) = decide (a = b) := by
  rw [ByteArray.toList_eq, ByteArray.toList_eq]
  obtain ⟨⟨x⟩⟩ := a
  obtain ⟨⟨y⟩⟩ := b
  by_cases h : x = y <;> simp [h]

theorem eqTri (t : TypeId) (f0 f1 f2 : Field) (hu : Tryz.prog.underlying t = some (.struct #[f0, f1, f2])) (hh : Tryz.prog.stoodInHeld t = false)
    (h0 : f0.name ≠ "_" ∧ f0.type = 3 ∧ f0.offset = 0) (h1 : f1.name ≠ "_" ∧ f1.type = 3 ∧ f1.offset = 1) (h2 : f2.name ≠ "_" ∧ f2.type = 9 ∧ f2.offset = 2)
    (x y : Tri) (w : World) (d : Nat) :
    (Op.equalIn (d + 2) t (.agg #[.int .i64 x.a, .int .i64 x.b, .string x.s]) (.agg #[.int .i64 y.a, .int .i64 y.b, .string y.s])).run Tryz.prog w = .ok (decide (x = y)) w := by
  have hf : Tryz.prog.fieldsOf t = #[f0, f1, f2] := by simp [Program.fieldsOf, hu]
  rw [run_equalIn_struct w (d + 1) t _ _ (by rw [hf, hu]) hh, hf]
  have u3 := Tryz.underlying3
  have u9 := Tryz.underlying9
  obtain ⟨a0, b0, c0⟩ := h0
  obtain ⟨a1, b1, c1⟩ := h1
  obtain ⟨a2, b2, c2⟩ := h2
  obtain ⟨xa, xb, xs⟩ := x
  obtain ⟨ya, yb, ys⟩ := y
  by_cases e0 : xa = ya <;> by_cases e1 : xb = yb <;> by_cases e2 : xs = ys <;>
    simp [go_sem, a0, a1, a2, b0, b1, b2, c0, c1, c2, u3, u9, e0, e1, e2, beqS, part]

theorem tri_eq (x y : Tri) : x = y ↔ x.a = y.a ∧ x.b = y.b ∧ x.s.toList = y.s.toList := by
  have h : x.s.toList = y.s.toList ↔ x.s = y.s := by
    have := beqS x.s y.s
    by_cases e : x.s = y.s
    · simp [e]
    · simp only [e, decide_false, beq_eq_false_iff_ne, iff_false] at this ⊢; exact this
  obtain ⟨xa, xb, xs⟩ := x
  obtain ⟨ya, yb, ys⟩ := y
  simp only [Tri.mk.injEq] at *
  rw [h]


/-- the walk's nested test of two triples, as one test -/
@[go_sem] theorem tri_ite_neq (x y : Tri) (w : World) :
    (if x.a = y.a then if x.b = y.b then if x.s.toList = y.s.toList then Result.ok (Next.value (Value.bool false)) w else Result.ok (Next.value (Value.bool true)) w
      else Result.ok (Next.value (Value.bool true)) w else Result.ok (Next.value (Value.bool true)) w) = Result.ok (Next.value (Value.bool (!decide (x = y)))) w := by
  by_cases h0 : x.a = y.a <;> by_cases h1 : x.b = y.b <;> by_cases h2 : x.s.toList = y.s.toList <;> simp [tri_eq, h0, h1, h2]
@[go_sem] theorem tri_ite_eql (x y : Tri) (w : World) :
    (if x.a = y.a then if x.b = y.b then if x.s.toList = y.s.toList then Result.ok (Next.value (Value.bool true)) w else Result.ok (Next.value (Value.bool false)) w
      else Result.ok (Next.value (Value.bool false)) w else Result.ok (Next.value (Value.bool false)) w) = Result.ok (Next.value (Value.bool (decide (x = y)))) w := by
  by_cases h0 : x.a = y.a <;> by_cases h1 : x.b = y.b <;> by_cases h2 : x.s.toList = y.s.toList <;> simp [tri_eq, h0, h1, h2]

end Go.Proofs.YtohcmfobnkaaiaaGreatDoor

namespace Go.Proofs.YtohcmfobnkaaiaaGreatDoor
open Go Go.RowKit Tor



/-- Reaches, program and reference -/
def reachesN (l : List Tri) : Nat := (l.filter (fun x => decide (x.a = 1))).length
theorem reachesN_step (l : List Tri) (k : Nat) (h : k < l.length) : reachesN (l.take (k + 1)) = reachesN (l.take k) + (if l[k].a = 1 then 1 else 0) := by
  rw [take_snoc l k h]
  unfold reachesN
  rw [List.filter_append, List.length_append]
  by_cases e : l[k].a = 1 <;> simp [e]
theorem reachesN_le (l : List Tri) (k : Nat) : reachesN (l.take k) ≤ k := by
  unfold reachesN
  have := List.length_filter_le (fun x : Tri => decide (x.a = 1)) (l.take k)
  have := List.length_take_le k l
  omega

end Go.Proofs.YtohcmfobnkaaiaaGreatDoor

namespace Go.Proofs.YtohcmfobnkaaiaaGreatDoor
open Go Go.RowKit Tor

def spansB (pairs span : Int) : Bool := decide (2 ≤ span) && decide (span ≤ 8) && decide (span ≤ pairs)

def heldB (h s at' : Int) : Bool := decide (0 ≤ h) && decide (h ≤ at') && decide (at' + 2 ≤ h + s)

def touchB (x y : Int) : Bool := decide (x - y ≤ 1) && decide (y - x ≤ 1)


end Go.Proofs.YtohcmfobnkaaiaaGreatDoor

namespace Tor
open Go

theorem idx_none : ∀ (l : List UInt8) (c : UInt8), (∀ j, j < l.length → l[j]? ≠ some c) → Lib.indexByte l c = -1
  | [], _, _ => rfl
  | b :: l, c, h => by
    have h0 : b ≠ c := by have := h 0 (by simp); simpa using this
    have ih := idx_none l c (fun j hj => by have := h (j + 1) (by simp; omega); simpa using this)
    unfold Lib.indexByte
    simp [h0, ih]

theorem idx_at : ∀ (l : List UInt8) (c : UInt8) (k : Nat), (∀ j, j < k → l[j]? ≠ some c) → l[k]? = some c → Lib.indexByte l c = k
  | [], _, _, _, h => by simp at h
  | b :: l, c, 0, _, h => by
    simp only [List.getElem?_cons_zero, Option.some.injEq] at h
    unfold Lib.indexByte
    simp [h]
  | b :: l, c, k + 1, hn, h => by
    have h0 : b ≠ c := by have := hn 0 (by omega); simpa using this
    have ih := idx_at l c k (fun j hj => by have := hn (j + 1) (by omega); simpa using this) (by simpa using h)
    unfold Lib.indexByte
    have : ¬ (k : Int) = -1 := by omega
    simp [h0, ih, this]

theorem idx_neg (l : List UInt8) (c : UInt8) : Lib.indexByte l c < 0 ↔ c ∉ l := by
  induction l with
  | nil => simp [Lib.indexByte]
  | cons b l ih =>
    unfold Lib.indexByte
    by_cases hb : b = c
    · subst hb; simp
    · have hge := Lib.indexByte_ge l c
      have hb' : ¬ c = b := fun e => hb e.symm
      simp only [beq_iff_eq, hb, if_false, List.mem_cons, hb', false_or]
      rw [← ih]
      by_cases h1 : Lib.indexByte l c = -1
      · simp [h1]
      · simp only [h1, if_false]
        constructor
        · intro h; omega
        · intro h; omega


/-- the letters of moves -/
def letters : ByteArray := ⟨#[67, 84, 76, 82, 80, 99, 116, 108, 114]⟩
def lettersL : List UInt8 := [67, 84, 76, 82, 80, 99, 116, 108, 114]
theorem letters_data : letters.data.toList = lettersL := rfl
def isLetter (c : UInt8) : Bool := decide (c ∈ lettersL)


/-- what is wrong with a word -/
def wordE (s : ByteArray) : Int := if 16 < s.size then 3 else if s.data.toList.all isLetter then 0 else 6

theorem bsize (s : ByteArray) : s.data.toList.length = s.size := by rw [Array.length_toList]; rfl

theorem bget (s : ByteArray) (k : Nat) (h : k < s.size) : s.data.toList[k]? = some s[k] := by
  have : k < s.data.size := h
  simp [Array.getElem?_eq_getElem this]; rfl

theorem isLetter_neg (c : UInt8) : Lib.indexByte lettersL c < 0 ↔ isLetter c = false := by rw [idx_neg]; simp [isLetter]

theorem isLetter_pos (c : UInt8) : 0 ≤ Lib.indexByte lettersL c ↔ isLetter c = true := by
  have := isLetter_neg c
  cases h : isLetter c
  · simp only [h, iff_true] at this; simp; omega
  · simp only [h] at this; simp at this ⊢; omega

theorem all_snoc (l : List UInt8) (k : Nat) (h : k < l.length) (h1 : (l.take k).all isLetter = true) (h2 : isLetter l[k] = true) : (l.take (k + 1)).all isLetter = true := by
  rw [take_snoc l k h]; simp only [List.all_append, h1, List.all_cons, h2, List.all_nil, Bool.and_self]
theorem all_not (l : List UInt8) (k : Nat) (h : k < l.length) (h2 : isLetter l[k] = false) : l.all isLetter = false := by
  rw [List.all_eq_false]; exact ⟨l[k], List.getElem_mem h, by simp [h2]⟩
theorem bgetL (s : ByteArray) (k : Nat) (h : k < s.size) : s.data.toList[k]'(by rw [bsize]; exact h) = s[k] := by
  have := bget s k h
  rw [List.getElem?_eq_getElem (by rw [bsize]; exact h)] at this
  simpa using this


/-- a work that is not as it should be (of so many pairs) -/
def badW (p : Int) (x : Tri) : Bool := decide (x.a ≠ 1 ∧ x.a ≠ 2) || decide (x.b < 0) || decide (p - 2 < x.b) || decide (x.a = 2 ∧ x.s.size ≠ 0)
def longW (x : Tri) : Bool := decide (16 < x.s.size)
def wrongW (x : Tri) : Bool := decide (wordE x.s ≠ 0)

/-- what is wrong with a sheet -/
def sheetE (p : Int) (l : List Tri) : Int :=
  if 24 < p ∨ 400 < l.length ∨ l.any longW = true then 3 else if p < 2 then 2 else if l.any (badW p) = true then 2 else if l.any wrongW = true then 6 else 0

theorem any_snoc {α : Type} (f : α → Bool) (l : List α) (k : Nat) (h : k < l.length) (h1 : (l.take k).any f = false) (h2 : f l[k] = false) : (l.take (k + 1)).any f = false := by
  rw [take_snoc l k h]; simp only [List.any_append, h1, List.any_cons, h2, List.any_nil, Bool.or_self]
theorem any_at {α : Type} (f : α → Bool) (l : List α) (k : Nat) (h : k < l.length) (h2 : f l[k] = true) : l.any f = true := by
  rw [List.any_eq_true]; exact ⟨l[k], List.getElem_mem h, h2⟩
theorem any_end {α : Type} (f : α → Bool) (l : List α) (k : Nat) (h : ¬ k < l.length) (h1 : (l.take k).any f = false) : l.any f = false := by
  rwa [take_all l k h] at h1
theorem any_not {α : Type} {f : α → Bool} {l : List α} (h : l.any f = false) (k : Nat) (hk : k < l.length) : f l[k] = false := by
  rw [List.any_eq_false] at h
  simpa using h l[k] (List.getElem_mem hk)

theorem bemp (s : ByteArray) : (!s.toList.isEmpty) = decide (s.size ≠ 0) := by
  have h : s.toList.length = s.size := by rw [ByteArray.toList_eq, bsize]
  cases e : s.toList with
  | nil => rw [e] at h; simp at h; simp [← h]
  | cons a r => rw [e] at h; simp at h; simp [← h]
theorem snil (s : ByteArray) : s.toList = [] ↔ s.size = 0 := by
  have h : s.toList.length = s.size := by rw [ByteArray.toList_eq, bsize]
  rw [← List.length_eq_zero_iff, h]
theorem maxif (a b : Int) : (if a < b then b else a) = max a b := by split <;> omega
theorem badW_true (p : Int) (x : Tri) : badW p x = true ↔ (x.a ≠ 1 ∧ x.a ≠ 2) ∨ x.b < 0 ∨ p - 2 < x.b ∨ (x.a = 2 ∧ x.s.size ≠ 0) := by
  simp only [badW, Bool.or_eq_true, decide_eq_true_eq, or_assoc]
theorem badW_false (p : Int) (x : Tri) : badW p x = false ↔ ¬ ((x.a ≠ 1 ∧ x.a ≠ 2) ∨ x.b < 0 ∨ p - 2 < x.b ∨ (x.a = 2 ∧ x.s.size ≠ 0)) := by
  rw [← badW_true]; simp

end Tor

namespace Go.Proofs.YtohcmfobnkaaiaaGreatDoor
open Go Go.RowKit Tor

theorem ibs (s : ByteArray) (c : Int) (w : World) : (callFunc 89 #[.string s, .int .u8 c]).run Tryz.prog w = .ok (.value (.int .i64 (Lib.indexByte s.data.toList c.toNat.toUInt8))) w := by
  rw [run_callFunc_extern (e := Extern.BytealgIndexByte.indexByte) Tryz.func89 (by kernel_rfl) (by kernel_rfl) (by kernel_rfl) (by kernel_rfl), Lib.run_indexByteString]
  rfl

theorem indexByte_any (s : ByteArray) (c : UInt8) (w : World) :
    Calls Tryz.prog 65 #[.string s, .int .u8 c.toNat] w (Ret (.int .i64 (Lib.indexByte s.data.toList c)) w) := by
  have h := ibs s c.toNat
  have e : ((c.toNat : Int)).toNat.toUInt8 = c := by simp
  rw [e] at h
  go_enter Tryz.func65, Tryz.ntmps65
  go_wp2_with go_in
  go_ret
  exact Ret.int rfl (Below.refl _ _)


theorem letterIdx (c : UInt8) (w : World) :
    Calls Tryz.prog 65 #[.string ⟨#[67, 84, 76, 82, 80, 99, 116, 108, 114]⟩, .int .u8 c.toNat] w (Ret (.int .i64 (Lib.indexByte lettersL c)) w) := indexByte_any letters c w

theorem wordE_all (s : ByteArray) (k : Nat) (h16 : ¬ 16 < s.size) (hlt : ¬ k < s.size) (hno : (s.data.toList.take k).all isLetter = true) : wordE s = 0 := by
  rw [take_all _ _ (by rw [bsize]; exact hlt)] at hno
  simp [wordE, h16, hno]
theorem wordE_not (s : ByteArray) (k : Nat) (h16 : ¬ 16 < s.size) (hlt : k < s.size) (h2 : isLetter s[k] = false) : wordE s = 6 := by
  have := all_not s.data.toList k (by rw [bsize]; exact hlt) (by rw [bgetL s k hlt]; exact h2)
  simp [wordE, h16, this]
theorem wordE_step (s : ByteArray) (k : Nat) (hlt : k < s.size) (hno : (s.data.toList.take k).all isLetter = true) (h2 : isLetter s[k] = true) : (s.data.toList.take (k + 1)).all isLetter = true :=
  all_snoc _ k (by rw [bsize]; exact hlt) hno (by rw [bgetL s k hlt]; exact h2)

theorem box_cell {w wr : World} {cs : Array Value} {t : TypeId} (hB : Below (w.heap.size + 1) (w.alloc (.cells cs t)) wr) (i : Nat) (v : Value) (h : cs[i]? = some v) : wr.cell? ⟨w.heap.size, i, none⟩ = some v := by
  rw [hB.cell (p := ⟨w.heap.size, i, none⟩) (by simp), World.cell?_alloc_new]; exact h
theorem box_below {w wr : World} {o : Obj} (hB : Below (w.heap.size + 1) (w.alloc o) wr) : Below w.heap.size w wr :=
  ((Below.refl _ _).alloc (Nat.le_refl _) _).trans (hB.mono (by simp))

theorem box_up {w wr : World} {o : Obj} (hB : Below (w.alloc o).heap.size (w.alloc o) wr) : Below (w.heap.size + 1) (w.alloc o) wr := by
  simpa using hB

theorem box_lt {w wr : World} {o : Obj} (hB : Below (w.heap.size + 1) (w.alloc o) wr) : w.heap.size < wr.heap.size := by
  have := hB.size
  simp at this
  omega

theorem sheetE_long {p : Int} {l : List Tri} (k : Nat) (hlt : k < l.length) (h : 16 < l[k].s.size) : sheetE p l = 3 := by
  have : l.any longW = true := any_at _ _ k hlt (by simp [longW, h])
  simp [sheetE, this]
theorem sheetE_pairs {p : Int} {l : List Tri} (h400 : ¬ 400 < l.length) (hL : l.any longW = false) (h : p < 2) : sheetE p l = 2 := by
  have e : ¬ 24 < p := by omega
  simp only [sheetE, e, h400, hL, h, if_true]; simp
theorem sheetE_bad {p : Int} {l : List Tri} (h24 : p ≤ 24) (h400 : ¬ 400 < l.length) (hL : l.any longW = false) (k : Nat) (hlt : k < l.length) (h : badW p l[k] = true) : sheetE p l = 2 := by
  have : l.any (badW p) = true := any_at _ _ k hlt h
  have e : ¬ 24 < p := by omega
  simp only [sheetE, e, h400, hL, this, if_true]; simp
theorem sheetE_wrong {p : Int} {l : List Tri} (h24 : p ≤ 24) (h400 : ¬ 400 < l.length) (hL : l.any longW = false) (h2 : 2 ≤ p) (hb : l.any (badW p) = false) (k : Nat) (hlt : k < l.length) (h : wordE l[k].s ≠ 0) : sheetE p l = 6 := by
  have : l.any wrongW = true := any_at _ _ k hlt (by simp [wrongW, h])
  have e : ¬ 24 < p := by omega
  have e2 : ¬ p < 2 := by omega
  simp only [sheetE, e, h400, hL, e2, hb, this, if_true]; simp
theorem sheetE_ok {p : Int} {l : List Tri} (h24 : p ≤ 24) (h400 : ¬ 400 < l.length) (hL : l.any longW = false) (h2 : 2 ≤ p) (hb : l.any (badW p) = false) (hw : l.any wrongW = false) : sheetE p l = 0 := by
  have e : ¬ 24 < p := by omega
  have e2 : ¬ p < 2 := by omega
  simp only [sheetE, e, h400, hL, e2, hb, hw]; simp


end Go.Proofs.YtohcmfobnkaaiaaGreatDoor

namespace Go.Proofs.YtohcmfobnkaaiaaGreatDoor
open Go Go.RowKit Tor

theorem max2 (a b : Int) (ha : a = 0 ∨ a = 6) (hb : b = 0 ∨ b = 6) : max a b = if a = 6 ∨ b = 6 then 6 else 0 := by
  rcases ha with rfl | rfl <;> rcases hb with rfl | rfl <;> decide

theorem wordE_short (s : ByteArray) (h : ¬ 16 < s.size) : wordE s = 0 ∨ wordE s = 6 := by
  unfold wordE; rw [if_neg h]; split <;> simp


/-- the form of the first k works -/
def formE (l : List Tri) (k : Nat) : Int := if (l.take k).any wrongW then 6 else 0
theorem formE_step (l : List Tri) (k : Nat) (h : k < l.length) (hs : longW l[k] = false) : max (formE l k) (wordE l[k].s) = formE l (k + 1) := by
  have hw := wordE_short l[k].s (by simpa [longW] using hs)
  unfold formE
  rw [take_snoc l k h]
  simp only [List.any_append, List.any_cons, List.any_nil, Bool.or_false]
  cases (l.take k).any wrongW <;> rcases hw with e | e <;> simp [wrongW, e] <;> decide
theorem formE_bd (l : List Tri) (k : Nat) : 0 ≤ formE l k ∧ formE l k ≤ 6 := by unfold formE; split <;> simp

theorem sheetE_form {p : Int} {l : List Tri} (h24 : p ≤ 24) (h400 : ¬ 400 < l.length) (hL : l.any longW = false) (h2 : 2 ≤ p) (hb : l.any (badW p) = false) (k : Nat) (hk : ¬ k < l.length) : sheetE p l = formE l k := by
  unfold formE
  rw [take_all _ _ hk]
  have e : ¬ 24 < p := by omega
  have e2 : ¬ p < 2 := by omega
  simp only [sheetE, e, h400, hL, e2, hb]
  simp


end Go.Proofs.YtohcmfobnkaaiaaGreatDoor

namespace Go.Proofs.YtohcmfobnkaaiaaGreatDoor
open Go Go.RowKit Tor

/-- what is wrong with a sheet and a span -/
def chkE (p : Int) (l : List Tri) (s : Int) : Int := if sheetE p l = 0 then (if spansB p s = true then 0 else 7) else sheetE p l

theorem chk_ok {p : Int} {l : List Tri} {s : Int} (h : sheetE p l = 0) (h2 : spansB p s = true) : chkE p l s = 0 := by simp [chkE, h, h2]
theorem chk_no {p : Int} {l : List Tri} {s : Int} (h : sheetE p l = 0) (h2 : spansB p s = false) : chkE p l s = 7 := by simp [chkE, h, h2]
theorem chk_e {p : Int} {l : List Tri} {s : Int} (h : ¬ sheetE p l = 0) : chkE p l s = sheetE p l := by simp [chkE, h]


/-- Hands: the error of a number of pairs and a span -/
def handsE (p s : Int) : Int := if 2 ≤ p ∧ p ≤ 24 ∧ spansB p s = true then 0 else 7

/-- the step of a work -/
def stepOf (x : Tri) : Tri := if x.a = 2 then ⟨3, x.b, .empty⟩ else ⟨2, x.b, x.s⟩
def Tri.val (x : Tri) : Value := .agg #[.int .i64 x.a, .int .i64 x.b, .string x.s]

end Go.Proofs.YtohcmfobnkaaiaaGreatDoor

namespace Tor
open Go Go.RowKit

theorem _root_.Tor.Rd.triAt {w : World} {B b o : Nat} {l : List Tri} (h : RdT w B (some ⟨b, o, none⟩) l) {k : Nat} (hk : k < l.length) :
    b < B ∧ w.cell? ⟨b, o + k * 3, none⟩ = some (.int .i64 l[k].a) ∧
      w.cell? ⟨b, o + k * 3 + 1, none⟩ = some (.int .i64 l[k].b) ∧ w.cell? ⟨b, o + k * 3 + 2, none⟩ = some (.string l[k].s) := by
  obtain ⟨b', o', e, h0, h1, h2, h3⟩ := h.tri hk
  simp only [Option.some.injEq, Addr.mk.injEq, and_true] at e
  obtain ⟨rfl, rfl⟩ := e
  exact ⟨h0, h1, h2, h3⟩

theorem Own.append1 {α : Type} {sz : Nat} {enc : α → List Value} {w : World} {base : Nat} {e : TypeId} {v : Value} {l : List α} {y : α} (henc : (enc y).length = sz)
    (h : w.ownsRow base e sz v (l.length + 1) (l.flatMap enc ++ enc y)) : Own sz enc w base e v (l ++ [y]) := by
  unfold Own
  simpa using h

theorem tri_one (x : Tri) : ∀ u ∈ x.enc, u.oneCell' = true := by
  intro u hu
  simp only [Tri.enc, List.mem_cons, List.not_mem_nil, or_false] at hu
  rcases hu with rfl | rfl | rfl <;> rfl
theorem int_one (x : Int) : ∀ u ∈ ienc x, u.oneCell' = true := by
  intro u hu
  simp only [ienc, List.mem_cons, List.not_mem_nil, or_false] at hu
  rcases hu with rfl; rfl

theorem Own.alloc {α : Type} {sz : Nat} {enc : α → List Value} {w : World} {base : Nat} {e : TypeId} {v : Value} {l : List α} (h : Own sz enc w base e v l) (o : Obj) : Own sz enc (w.alloc o) base e v l :=
  World.ownsRow.alloc h o
theorem Own.drewN {α : Type} {sz : Nat} {enc : α → List Value} {w : World} {base : Nat} {e : TypeId} {v : Value} {l : List α} (h : Own sz enc w base e v l) (n : Nat) : Own sz enc (w.drewN n) base e v l := h


/-- an owned row stays owned where what was there stays as it was -/
theorem Own.below {α : Type} {sz : Nat} {enc : α → List Value} {w w' : World} {base : Nat} {e : TypeId} {v : Value} {l : List α} (h : Own sz enc w base e v l) (hB : Below w.heap.size w w') : Own sz enc w' base e v l := by
  obtain ⟨h1, h2⟩ := h
  refine ⟨h1, ?_⟩
  rcases h2 with h2 | ⟨g, cap, cur, hv, hg, hh, r⟩
  · exact Or.inl h2
  · refine Or.inr ⟨g, cap, cur, hv, hg, ?_, r⟩
    rw [hB.block g ?_]; exact hh
    rcases Nat.lt_or_ge g w.heap.size with h | h
    · exact h
    · rw [Array.getElem?_eq_none h] at hh; cases hh

theorem Own.base {α : Type} {sz : Nat} {enc : α → List Value} {w : World} {base base' : Nat} {e : TypeId} {v : Value} {l : List α} (h : Own sz enc w base e v l) (hb : base' ≤ base) : Own sz enc w base' e v l := by
  obtain ⟨h1, h2⟩ := h
  refine ⟨h1, ?_⟩
  rcases h2 with h2 | ⟨g, cap, cur, hv, hg, r⟩
  · exact Or.inl h2
  · exact Or.inr ⟨g, cap, cur, hv, Nat.le_trans hb hg, r⟩


/-- behind append: what was below the owned rows' base is as it was -/
theorem Own.grown {α : Type} {sz : Nat} {enc : α → List Value} {W w w' : World} {base : Nat} {e : TypeId} {v : Value} {l : List α} (h : Own sz enc w base e v l) (hB : Below base W w) (hg : w.grownBy w' v.ownBlock) (hs : base ≤ w.heap.size) : Below base W w' :=
  hB.grown hg hs (fun k hk => (World.ownsRow.lt h k hk).1)


/-- a block of the call's own whose element type is another one is not the row that is written -/
theorem Own.ne_block {α : Type} {sz : Nat} {enc : α → List Value} {w : World} {base : Nat} {e : TypeId} {v : Value} {l : List α} (h : Own sz enc w base e v l) {g : Nat} {cs : Array Value} {t : TypeId} {z : Nat × Nat} (hg : w.heap[g]? = some (.cells cs t z)) (ht : t ≠ e) : some g ≠ v.ownBlock := by
  intro hk
  obtain ⟨_, h2⟩ := h
  rcases h2 with ⟨rfl, _⟩ | ⟨g', cap, cur, rfl, _, hh, _⟩
  · simp [Value.ownBlock] at hk
  · simp only [Value.ownBlock, Option.some.injEq] at hk
    subst hk
    rw [hh] at hg
    simp only [Option.some.injEq, Obj.cells.injEq] at hg
    exact ht hg.2.1.symm

theorem wpList_append_tri {P : Program} {ops : Array Oper} {rest : List Oper} {o : Oper} {a : Act} {Q : Exit → Act → World → Prop} {w : World} (hgd : o.guard = none) (s x : Operand) (t : TypeId)
    (ho : o.op = .call { callee := .builtin .append, args := #[s, x], argTypes := #[t, t] })
    (base : Nat) (e : TypeId) (i : TypeInfo) (z : Value) (ht : P.underlying t = some (.slice e)) (hi : P.info? e = some i) (hz : i.zero = some z)
    (hsize : i.size = 3) (hby : i.bytes = 32) (hzs : z.cells.size = 3)
    (v : Value) (l : List Tri) (hs : a.eval s = v) (hown : Own 3 Tri.enc w base e v l)
    (g : Nat) (y : Tri) (hx : a.eval x = .slice (some ⟨g, 0, none⟩) 1 1)
    (h0 : w.cell? ⟨g, 0, none⟩ = some (.int .i64 y.a)) (h1 : w.cell? ⟨g, 1, none⟩ = some (.int .i64 y.b)) (h2 : w.cell? ⟨g, 2, none⟩ = some (.string y.s))
    (hlen : l.length ≤ 1000000) (hbase : base ≤ w.heap.size)
    (h : ∀ v' w', Own 3 Tri.enc w' base e v' (l ++ [y]) → w.grownBy w' v.ownBlock → wpList P ops Q rest (a.put o.dst v') w') : wpList P ops Q (o :: rest) a w := by
  refine wpList_append_own w hgd s x t ho base e i z 3 32 ht hi hz hsize hby hzs (by omega) v l.length (l.flatMap Tri.enc) hs hown ⟨g, 0, none⟩ 1 1 y.enc hx rfl ?_ (tri_one y) (by unfold maxLen; omega) (by omega) hbase
    (fun v' w' a b _ => h v' w' (Own.append1 rfl a) b)
  intro j u hu
  match j, hu with
  | 0, hu => simp [Tri.enc] at hu; subst hu; exact h0
  | 1, hu => simp [Tri.enc] at hu; subst hu; simpa [Addr.add] using h1
  | 2, hu => simp [Tri.enc] at hu; subst hu; simpa [Addr.add] using h2
end Tor

namespace Go.Proofs.YtohcmfobnkaaiaaGreatDoor
open Go Go.RowKit Tor

/-- how many works from one on are in reach -/
def runN (l : List Tri) (h s : Int) : Nat := (l.takeWhile (fun x => heldB h s x.b)).length

theorem runN_step {l : List Tri} {i : Nat} {h s : Int} (hi : i < l.length) (hh : heldB h s l[i].b = true) : runN (l.drop i) h s = runN (l.drop (i + 1)) h s + 1 := by
  rw [List.drop_eq_getElem_cons hi]
  unfold runN
  rw [List.takeWhile_cons, if_pos hh]
  rfl
theorem runN_stop {l : List Tri} {i : Nat} {h s : Int} (hi : i < l.length) (hh : heldB h s l[i].b = false) : runN (l.drop i) h s = 0 := by
  rw [List.drop_eq_getElem_cons hi]
  unfold runN
  rw [List.takeWhile_cons, if_neg (by simp [hh])]
  rfl
theorem runN_end {l : List Tri} {i : Nat} {h s : Int} (hi : ¬ i < l.length) : runN (l.drop i) h s = 0 := by
  rw [List.drop_of_length_le (by omega)]; rfl

end Go.Proofs.YtohcmfobnkaaiaaGreatDoor

namespace Go.Proofs.YtohcmfobnkaaiaaGreatDoor
open Go Go.RowKit Tor

/-- the least of the places below k from which most can be made -/
def bestUpto (f : Nat → Nat) : Nat → Nat
  | 0 => 0
  | k + 1 => if f (bestUpto f k) < f k then k else bestUpto f k
theorem bestUpto_le (f : Nat → Nat) : ∀ k, bestUpto f k ≤ k
  | 0 => Nat.le_refl _
  | k + 1 => by unfold bestUpto; have := bestUpto_le f k; split <;> omega


/-- the instructions in the order of a sheet, hands at a place -/
def rst (p s : Int) : List Tri → Int → List Tri
  | [], _ => []
  | x :: r, h => if heldB h s x.b = true then stepOf x :: rst p s r h
    else ⟨1, bestUpto (fun h : Nat => runN (x :: r) h s) (p - s + 1).toNat, .empty⟩ :: stepOf x :: rst p s r (bestUpto (fun h : Nat => runN (x :: r) h s) (p - s + 1).toNat)

theorem rst_held {p s h : Int} {l : List Tri} {i : Nat} (hi : i < l.length) (hh : heldB h s l[i].b = true) : rst p s (l.drop i) h = stepOf l[i] :: rst p s (l.drop (i + 1)) h := by
  rw [List.drop_eq_getElem_cons hi, rst, if_pos hh]
theorem rst_reach {p s h : Int} {l : List Tri} {i b : Nat} (hi : i < l.length) (hh : heldB h s l[i].b = false) (hb : b = bestUpto (fun h : Nat => runN (l.drop i) h s) (p - s + 1).toNat) :
    rst p s (l.drop i) h = ⟨1, b, .empty⟩ :: stepOf l[i] :: rst p s (l.drop (i + 1)) b := by
  subst hb
  rw [List.drop_eq_getElem_cons hi, rst, if_neg (by simp [hh])]
theorem rst_end {p s h : Int} {l : List Tri} {i : Nat} (hi : ¬ i < l.length) : rst p s (l.drop i) h = [] := by
  rw [List.drop_of_length_le (by omega)]; rfl


end Go.Proofs.YtohcmfobnkaaiaaGreatDoor

namespace Go.Proofs.YtohcmfobnkaaiaaGreatDoor
open Go Go.RowKit Tor

theorem bestUpto_is (f : Nat → Nat) (b : Nat) : ∀ n, b < n → (∀ k, k < n → f k ≤ f b) → (∀ k, k < b → f k < f b) → bestUpto f n = b
  | 0, h, _, _ => absurd h (by omega)
  | n + 1, h, h1, h2 => by
    unfold bestUpto
    by_cases hb : b = n
    · subst hb
      by_cases h0 : b = 0
      · subst h0; simp [bestUpto]
      · have hlt : bestUpto f b < b := by
          have aux : ∀ n, 0 < n → bestUpto f n < n := by
            intro n hn
            induction n with
            | zero => omega
            | succ n ih =>
              unfold bestUpto
              split
              · omega
              · by_cases hz : n = 0
                · subst hz; simp [bestUpto]
                · have := ih (by omega); omega
          exact aux b (by omega)
        rw [if_pos (h2 _ hlt)]
    · rw [bestUpto_is f b n (by omega) (fun k hk => h1 k (by omega)) h2, if_neg (by have := h1 n (by omega); omega)]

theorem runN_ge {l : List Tri} {h s : Int} : ∀ {m : Nat}, m ≤ runN l h s ↔ ∀ j, j < m → ∃ x, l[j]? = some x ∧ heldB h s x.b = true := by
  induction l with
  | nil =>
    intro m
    simp only [runN, List.takeWhile_nil, List.length_nil, Nat.le_zero]
    constructor
    · rintro rfl j hj; omega
    · intro h
      rcases Nat.eq_zero_or_pos m with h0 | h0
      · exact h0
      · obtain ⟨x, hx, _⟩ := h 0 h0; simp at hx
  | cons y r ih =>
    intro m
    cases hy : heldB h s y.b
    · have e : runN (y :: r) h s = 0 := by unfold runN; rw [List.takeWhile_cons, if_neg (by simp [hy])]; rfl
      rw [e]
      constructor
      · intro hm j hj; omega
      · intro hh
        rcases Nat.eq_zero_or_pos m with h0 | h0
        · omega
        · obtain ⟨x, hx, hv⟩ := hh 0 h0; simp at hx; subst hx; rw [hy] at hv; cases hv
    · have e : runN (y :: r) h s = runN r h s + 1 := by unfold runN; rw [List.takeWhile_cons, if_pos hy]; rfl
      rw [e]
      cases m with
      | zero => simp
      | succ m =>
        rw [Nat.add_le_add_iff_right, ih]
        constructor
        · intro hh j hj
          cases j with
          | zero => exact ⟨y, rfl, hy⟩
          | succ j => simpa using hh j (by omega)
        · intro hh j hj
          simpa using hh (j + 1) (by omega)


/-- lo..hi is where the hands may lie for the works from i up to m -/
def Win (p s : Int) (l : List Tri) (i m : Nat) (lo hi : Int) : Prop :=
  i < m ∧ m ≤ l.length ∧ 0 ≤ lo ∧ hi ≤ p - s ∧ lo ≤ hi ∧ ∀ h : Int, (lo ≤ h ∧ h ≤ hi) ↔ (0 ≤ h ∧ h ≤ p - s ∧ ∀ j, i ≤ j → j < m → ∃ x, l[j]? = some x ∧ heldB h s x.b = true)

theorem held_iff (h s b : Int) : heldB h s b = true ↔ 0 ≤ h ∧ h ≤ b ∧ b + 2 ≤ h + s := by
  simp [heldB, and_assoc]

theorem Win.start {p s : Int} {l : List Tri} {i : Nat} (hi : i < l.length) (h1 : 0 ≤ l[i].b) (h2 : l[i].b ≤ p - 2) (h3 : 2 ≤ s) (h4 : s ≤ p) : Win p s l i (i + 1) (max 0 (l[i].b + 2 - s)) (min l[i].b (p - s)) := by
  refine ⟨by omega, by omega, by omega, by omega, by omega, fun h => ?_⟩
  constructor
  · rintro ⟨a, b⟩
    refine ⟨by omega, by omega, fun j hj hj' => ?_⟩
    obtain rfl : j = i := by omega
    exact ⟨l[j], List.getElem?_eq_getElem hi, (held_iff _ _ _).2 (by omega)⟩
  · rintro ⟨a, b, hh⟩
    obtain ⟨x, hx, hv⟩ := hh i (Nat.le_refl _) (by omega)
    rw [List.getElem?_eq_getElem hi] at hx
    simp only [Option.some.injEq] at hx
    subst hx
    rw [held_iff] at hv
    omega

theorem Win.next {p s : Int} {l : List Tri} {i m : Nat} {lo hi : Int} (hw : Win p s l i m lo hi) (hm : m < l.length)
    (ho : max lo (max 0 (l[m].b + 2 - s)) ≤ min hi (min l[m].b (p - s))) : Win p s l i (m + 1) (max lo (max 0 (l[m].b + 2 - s))) (min hi (min l[m].b (p - s))) := by
  obtain ⟨h1, h2, h3, h4, h5, h6⟩ := hw
  refine ⟨by omega, by omega, by omega, by omega, ho, fun h => ?_⟩
  constructor
  · rintro ⟨a, b⟩
    obtain ⟨c1, c2, c3⟩ := (h6 h).1 ⟨by omega, by omega⟩
    refine ⟨c1, c2, fun j hj hj' => ?_⟩
    rcases Nat.lt_or_ge j m with hjm | hjm
    · exact c3 j hj hjm
    · obtain rfl : j = m := by omega
      exact ⟨l[j], List.getElem?_eq_getElem hm, (held_iff _ _ _).2 (by omega)⟩
  · rintro ⟨a, b, hh⟩
    obtain ⟨d1, d2⟩ := (h6 h).2 ⟨a, b, fun j hj hj' => hh j hj (by omega)⟩
    obtain ⟨x, hx, hv⟩ := hh m (by omega) (by omega)
    rw [List.getElem?_eq_getElem hm] at hx
    simp only [Option.some.injEq] at hx
    subst hx
    rw [held_iff] at hv
    omega


/-- the window is as long as can be -/
def WinEnd (p s : Int) (l : List Tri) (i m : Nat) (lo : Int) : Prop :=
  (∃ hi, Win p s l i m lo hi) ∧ (∀ hm : m < l.length, ∀ h : Int, 0 ≤ h → h ≤ p - s → (∀ j, i ≤ j → j < m → ∃ x, l[j]? = some x ∧ heldB h s x.b = true) → heldB h s l[m].b = false)

theorem WinEnd.all {p s : Int} {l : List Tri} {i m : Nat} {lo hi : Int} (hw : Win p s l i m lo hi) (hm : ¬ m < l.length) : WinEnd p s l i m lo := ⟨⟨hi, hw⟩, fun h => absurd h hm⟩
theorem WinEnd.shut {p s : Int} {l : List Tri} {i m : Nat} {lo hi : Int} (hw : Win p s l i m lo hi) (hm : m < l.length)
    (ho : ¬ max lo (max 0 (l[m].b + 2 - s)) ≤ min hi (min l[m].b (p - s))) : WinEnd p s l i m lo := by
  refine ⟨⟨hi, hw⟩, fun _ h a b hh => ?_⟩
  obtain ⟨d1, d2⟩ := (hw.2.2.2.2.2 h).2 ⟨a, b, hh⟩
  cases hv : heldB h s l[m].b
  · rfl
  · rw [held_iff] at hv
    omega

theorem WinEnd.held {p s : Int} {l : List Tri} {i m : Nat} {lo : Int} (hw : WinEnd p s l i m lo) (j : Nat) (hj : i ≤ j) (hj' : j < m) (hl : j < l.length) : heldB lo s l[j].b = true := by
  obtain ⟨⟨hi, h1, h2, h3, h4, h5, h6⟩, _⟩ := hw
  obtain ⟨_, _, c⟩ := (h6 lo).1 ⟨by omega, h5⟩
  obtain ⟨x, hx, hv⟩ := c j hj hj'
  rw [List.getElem?_eq_getElem hl] at hx
  simp only [Option.some.injEq] at hx
  subst hx
  exact hv
theorem WinEnd.next {p s : Int} {l : List Tri} {i m : Nat} {lo : Int} (hw : WinEnd p s l i m lo) (hm : m < l.length) : heldB lo s l[m].b = false := by
  obtain ⟨⟨hi, h1, h2, h3, h4, h5, h6⟩, h7⟩ := hw
  obtain ⟨c1, c2, c⟩ := (h6 lo).1 ⟨by omega, h5⟩
  exact h7 hm lo c1 c2 c

theorem WinEnd.best {p s : Int} {l : List Tri} {i m b : Nat} (hw : WinEnd p s l i m b) : bestUpto (fun h : Nat => runN (l.drop i) h s) (p - s + 1).toNat = b := by
  obtain ⟨⟨hi, h1, h2, h3, h4, h5, h6⟩, h7⟩ := hw
  have key : ∀ h : Int, 0 ≤ h → h ≤ p - s → (m - i ≤ runN (l.drop i) h s ↔ ((b : Int) ≤ h ∧ h ≤ hi)) := by
    intro h a a'
    rw [runN_ge, h6]
    constructor
    · intro hh
      refine ⟨a, a', fun j hj hj' => ?_⟩
      obtain ⟨x, hx, hv⟩ := hh (j - i) (by omega)
      rw [List.getElem?_drop, show i + (j - i) = j from by omega] at hx
      exact ⟨x, hx, hv⟩
    · rintro ⟨_, _, hh⟩ j hj
      obtain ⟨x, hx, hv⟩ := hh (i + j) (by omega) (by omega)
      exact ⟨x, by rw [List.getElem?_drop]; exact hx, hv⟩
  have hup : ∀ h : Int, 0 ≤ h → h ≤ p - s → runN (l.drop i) h s ≤ m - i := by
    intro h a a'
    rcases Nat.lt_or_ge (m - i) (runN (l.drop i) h s) with hgt | hle
    · have hh := (runN_ge (l := l.drop i) (h := h) (s := s) (m := m - i + 1)).1 (by omega)
      have hm : m < l.length := by
        obtain ⟨x, hx, _⟩ := hh (m - i) (by omega)
        rw [List.getElem?_drop, show i + (m - i) = m from by omega] at hx
        exact (List.getElem?_eq_some_iff.1 hx).1
      have hf := h7 hm h a a' (fun j hj hj' => by
        obtain ⟨x, hx, hv⟩ := hh (j - i) (by omega)
        rw [List.getElem?_drop, show i + (j - i) = j from by omega] at hx
        exact ⟨x, hx, hv⟩)
      obtain ⟨x, hx, hv⟩ := hh (m - i) (by omega)
      rw [List.getElem?_drop, show i + (m - i) = m from by omega, List.getElem?_eq_getElem hm] at hx
      simp only [Option.some.injEq] at hx
      subst hx
      rw [hf] at hv; cases hv
    · exact hle
  have hb : m - i ≤ runN (l.drop i) b s := (key b (by omega) (by omega)).2 ⟨by omega, h5⟩
  refine bestUpto_is _ b _ (by omega) (fun k hk => ?_) (fun k hk => ?_)
  · have := hup k (by omega) (by omega)
    show runN _ _ _ ≤ runN _ _ _
    omega
  · have := (not_congr (key k (by omega) (by omega))).2 (by omega)
    show runN _ _ _ < runN _ _ _
    omega
end Go.Proofs.YtohcmfobnkaaiaaGreatDoor

namespace Go.Proofs.YtohcmfobnkaaiaaGreatDoor
open Go Go.RowKit Tor

/-- block g is just these cells, none of them frozen -/
def Blk (w : World) (g : Nat) (t : TypeId) (cs : Array Value) : Prop := w.heap[g]? = some (.cells cs t (0, 0))
theorem Blk.lt {w : World} {g : Nat} {t : TypeId} {cs : Array Value} (h : Blk w g t cs) : g < w.heap.size := by
  rcases Nat.lt_or_ge g w.heap.size with hlt | hge
  · exact hlt
  · unfold Blk at h; rw [Array.getElem?_eq_none hge] at h; cases h
theorem Blk.cell {w : World} {g : Nat} {t : TypeId} {cs : Array Value} (h : Blk w g t cs) (i : Nat) (v : Value) (hv : cs[i]? = some v) : w.cell? ⟨g, i, none⟩ = some v := by
  unfold Blk at h; simp [World.cell?, h, hv]
theorem Blk.frozen {w : World} {g : Nat} {t : TypeId} {cs : Array Value} (h : Blk w g t cs) (i : Nat) : w.frozen? ⟨g, i, none⟩ = false := by
  unfold Blk at h; simp [World.frozen?, h]
theorem Blk.new (w : World) (t : TypeId) (cs : Array Value) : Blk (w.alloc (.cells cs t)) w.heap.size t cs := heap_alloc_new w _
theorem Blk.below {w w' : World} {g : Nat} {t : TypeId} {cs : Array Value} (h : Blk w g t cs) {B : Nat} (hb : Below B w w') (hg : g < B) : Blk w' g t cs := (hb.block g hg).trans h
theorem Blk.below' {w w' : World} {g : Nat} {t : TypeId} {cs : Array Value} (h : Blk w g t cs) (hb : Below w.heap.size w w') : Blk w' g t cs := h.below hb h.lt
theorem Blk.alloc {w : World} {g : Nat} {t : TypeId} {cs : Array Value} (h : Blk w g t cs) (o : Obj) : Blk (w.alloc o) g t cs := (Below.heap_alloc w o g h.lt).trans h
theorem Blk.set_ {w : World} {g : Nat} {t : TypeId} {cs : Array Value} (h : Blk w g t cs) (i : Nat) (u : Value) : Blk (w.setCell ⟨g, i, none⟩ u) g t (cs.setIfInBounds i u) := by
  unfold Blk at h ⊢
  simp [World.setCell, Array.getElem?_modify, h]
theorem Blk.far {w : World} {g : Nat} {t : TypeId} {cs : Array Value} (h : Blk w g t cs) {p : Addr} (hp : g ≠ p.block) (u : Value) : Blk (w.setCell p u) g t cs := (Below.heap_setCell w p u g hp).trans h
theorem Blk.grown {w w' : World} {g : Nat} {t : TypeId} {cs : Array Value} (h : Blk w g t cs) {row : Option Nat} (hb : w.grownBy w' row) (hg : some g ≠ row) : Blk w' g t cs := (hb.block g h.lt hg).trans h

theorem nc {w w5 : World} {cs : Array Value} {t : TypeId} (hB : Below ((w.alloc (.cells cs t)).drew).heap.size ((w.alloc (.cells cs t)).drew) w5) : Blk w5 w.heap.size t cs :=
  Blk.below' (w := (w.alloc (.cells cs t)).drew) (Blk.new w t cs) hB
theorem nc' {w w5 : World} {cs : Array Value} {t : TypeId} (hB : Below ((w.alloc (.cells cs t))).heap.size ((w.alloc (.cells cs t))) w5) : Blk w5 w.heap.size t cs :=
  Blk.below' (w := (w.alloc (.cells cs t))) (Blk.new w t cs) hB


/-- what a region that draws keeps: old memory, and two cells in it -/
theorem keep2_call {w0 w1 w2 : World} {a0 a1 : Addr} {v0 v1 : Value} (hS : Below w0.heap.size w0 w1 ∧ w1.cell? a0 = some v0 ∧ w1.cell? a1 = some v1) (h0 : a0.block < w0.heap.size) (h1 : a1.block < w0.heap.size) (hB : Below w1.heap.size w1 w2) :
    Below w0.heap.size w0 w2 ∧ w2.cell? a0 = some v0 ∧ w2.cell? a1 = some v1 :=
  ⟨hS.1.trans (hB.mono hS.1.size), (hB.cell (Nat.lt_of_lt_of_le h0 hS.1.size)).trans hS.2.1, (hB.cell (Nat.lt_of_lt_of_le h1 hS.1.size)).trans hS.2.2⟩
theorem keep2_alloc {w0 w1 : World} {a0 a1 : Addr} {v0 v1 : Value} (hS : Below w0.heap.size w0 w1 ∧ w1.cell? a0 = some v0 ∧ w1.cell? a1 = some v1) (h0 : a0.block < w0.heap.size) (h1 : a1.block < w0.heap.size) (o : Obj) :
    Below w0.heap.size w0 (w1.alloc o) ∧ (w1.alloc o).cell? a0 = some v0 ∧ (w1.alloc o).cell? a1 = some v1 :=
  keep2_call hS h0 h1 ((Below.refl _ _).alloc (Nat.le_refl _) _)
theorem keep2_set {w0 w1 : World} {a0 a1 : Addr} {v0 v1 : Value} (hS : Below w0.heap.size w0 w1 ∧ w1.cell? a0 = some v0 ∧ w1.cell? a1 = some v1) (h0 : a0.block < w0.heap.size) (h1 : a1.block < w0.heap.size) {p q : Addr} (hp : w0.heap.size ≤ p.block) (hq : w0.heap.size ≤ q.block) (u v : Value) :
    Below w0.heap.size w0 ((w1.setCell p u).setCell q v) ∧ ((w1.setCell p u).setCell q v).cell? a0 = some v0 ∧ ((w1.setCell p u).setCell q v).cell? a1 = some v1 := by
  have hB : Below w0.heap.size w1 ((w1.setCell p u).setCell q v) := ((Below.refl _ _).setCell hp u).setCell hq v
  exact ⟨hS.1.trans hB, (hB.cell h0).trans hS.2.1, (hB.cell h1).trans hS.2.2⟩
theorem WinEnd.reach {p s hands lo : Int} {l : List Tri} {i m : Nat} (hw : WinEnd p s l i m lo) (hi : i < l.length) (hn : heldB hands s l[i].b = false) : rst p s (l.drop i) hands = ⟨1, lo, .empty⟩ :: rst p s (l.drop i) lo := by
  have h0 : 0 ≤ lo := hw.1.choose_spec.2.2.1
  have him : i < m := hw.1.choose_spec.1
  obtain ⟨b, rfl⟩ := Int.eq_ofNat_of_zero_le h0
  rw [rst_reach hi hn hw.best.symm, rst_held hi (hw.held i (Nat.le_refl _) him hi)]


end Go.Proofs.YtohcmfobnkaaiaaGreatDoor

namespace Go.Proofs.YtohcmfobnkaaiaaGreatDoor
open Go Go.RowKit Tor

def nenc (i : Nat) : List Value := [.int .i64 i]
abbrev RdN := Rd 1 nenc
theorem RdN.head {w : World} {B : Nat} {A : Option Addr} {x : Nat} {l : List Nat} (h : RdN w B A (x :: l)) : ∃ b o, A = some ⟨b, o, none⟩ ∧ b < B ∧ w.cell? ⟨b, o, none⟩ = some (.int .i64 x) := by
  obtain ⟨b, o, e, hb, hc⟩ := h (by simp)
  exact ⟨b, o, e, hb, by simpa using hc 0 x rfl 0 _ rfl⟩

def frontZ (l m : List Nat) : Int := match l, m with
  | x :: _, y :: _ => if x = y then x else -1
  | _, _ => -1

theorem RdN.head' {w : World} {B : Nat} {A : Option Addr} {x : Nat} {l l' : List Nat} (h : RdN w B A l) (e : l = x :: l') : ∃ b o, A = some ⟨b, o, none⟩ ∧ b < B ∧ w.cell? ⟨b, o, none⟩ = some (.int .i64 x) := by
  subst e; exact h.head

end Go.Proofs.YtohcmfobnkaaiaaGreatDoor

namespace Go.Proofs.YtohcmfobnkaaiaaGreatDoor
open Go Go.RowKit Tor

def front (f : Nat → List Nat) (a : Nat) : Option Nat := match f a, f (a + 1) with
  | x :: _, y :: _ => if x = y then some x else none
  | _, _ => none
def pop (f : Nat → List Nat) (a : Nat) : Nat → List Nat := fun k => if k = a ∨ k = a + 1 then (f k).tail else f k

/-- what is made with the hands at h: the works, and the rows behind it -/
def swp (h s : Nat) : Nat → Nat → (Nat → List Nat) → List Nat × (Nat → List Nat)
  | 0, _, f => ([], f)
  | n + 1, a, f => if a + 1 < h + s then
      match front f a with
      | none => swp h s n (a + 1) f
      | some i => (i :: (swp h s n (max h (a - 1)) (pop f a)).1, (swp h s n (max h (a - 1)) (pop f a)).2)
    else ([], f)

theorem frontZ_some {f : Nat → List Nat} {a x : Nat} (h : front f a = some x) : frontZ (f a) (f (a + 1)) = x ∧ ∃ l m, f a = x :: l ∧ f (a + 1) = x :: m := by
  unfold front at h
  unfold frontZ
  cases h1 : f a with
  | nil => rw [h1] at h; cases h
  | cons y l =>
    cases h2 : f (a + 1) with
    | nil => rw [h1, h2] at h; cases h
    | cons z m =>
      rw [h1, h2] at h
      by_cases e : y = z
      · simp only [e, if_true, Option.some.injEq] at h
        subst h; subst e
        exact ⟨by simp, l, m, rfl, rfl⟩
      · simp [e] at h
theorem frontZ_none {f : Nat → List Nat} {a : Nat} (h : front f a = none) : frontZ (f a) (f (a + 1)) = -1 := by
  unfold front at h
  unfold frontZ
  cases h1 : f a with
  | nil => rfl
  | cons y l =>
    cases h2 : f (a + 1) with
    | nil => rfl
    | cons z m =>
      rw [h1, h2] at h
      by_cases e : y = z
      · simp [e] at h
      · simp [e]

def sumTo (f : Nat → List Nat) : Nat → Nat
  | 0 => 0
  | n + 1 => sumTo f n + (f n).length
theorem sumTo_pop (f : Nat → List Nat) (a : Nat) (h1 : 0 < (f a).length) (h2 : 0 < (f (a + 1)).length) : ∀ n, sumTo (pop f a) n + (if a < n then 1 else 0) + (if a + 1 < n then 1 else 0) = sumTo f n
  | 0 => by simp [sumTo]
  | n + 1 => by
    have ih := sumTo_pop f a h1 h2 n
    unfold sumTo
    by_cases e1 : n = a
    · subst e1
      have : (pop f n n).length + 1 = (f n).length := by simp [pop]; omega
      simp only [Nat.lt_irrefl, if_false, Nat.lt_succ_self, if_true] at ih ⊢
      have e : ¬ n + 1 < n := by omega
      simp only [e, if_false] at ih
      omega
    · by_cases e2 : n = a + 1
      · subst e2
        have : (pop f a (a + 1)).length + 1 = (f (a + 1)).length := by simp [pop]; omega
        have c1 : a < a + 1 := by omega
        have c2 : a < a + 1 + 1 := by omega
        have c3 : a + 1 < a + 1 + 1 := by omega
        have c4 : ¬ a + 1 < a + 1 := by omega
        simp only [c1, c2, c3, c4, if_true, if_false] at ih ⊢
        omega
      · have e : pop f a n = f n := by unfold pop; rw [if_neg (by omega)]
        rw [e]
        have c1 : (a < n + 1) = (a < n) := by apply propext; omega
        have c2 : (a + 1 < n + 1) = (a + 1 < n) := by apply propext; omega
        simp only [c1, c2]
        omega


/-- row k of the block R reads as f k, in memory below B other than R -/
def RowsAt (w : World) (R B : Nat) (f : Nat → List Nat) : Prop :=
  ∀ k, k < 24 → ∃ A c, w.cell? ⟨R, k, none⟩ = some (.slice A (f k).length c) ∧ (f k).length ≤ c ∧ w.frozen? ⟨R, k, none⟩ = false ∧ RdN w B A (f k) ∧ (f k ≠ [] → ∀ g o z, A = some ⟨g, o, z⟩ → g ≠ R)


/-- what was in these blocks is as it was -/
structure Same (S : Nat → Prop) (w w' : World) : Prop where
  os : w'.os = w.os
  tape : w'.tape = w.tape
  output : w'.output = w.output
  size : w.heap.size ≤ w'.heap.size
  block : ∀ k, S k → w'.heap[k]? = w.heap[k]?
theorem Same.refl (S : Nat → Prop) (w : World) : Same S w w := ⟨rfl, rfl, rfl, Nat.le_refl _, fun _ _ => rfl⟩
theorem Same.trans {S : Nat → Prop} {a b c : World} (h : Same S a b) (k : Same S b c) : Same S a c :=
  ⟨k.os.trans h.os, k.tape.trans h.tape, k.output.trans h.output, Nat.le_trans h.size k.size, fun i hi => (k.block i hi).trans (h.block i hi)⟩
theorem Same.mono {S T : Nat → Prop} {a b : World} (h : Same S a b) (hST : ∀ k, T k → S k) : Same T a b := ⟨h.os, h.tape, h.output, h.size, fun k hk => h.block k (hST k hk)⟩
theorem Same.of_below {B : Nat} {a b : World} (h : Below B a b) : Same (· < B) a b := ⟨h.os, h.tape, h.output, h.size, h.block⟩
theorem Same.below {B : Nat} {a b : World} (h : Same (· < B) a b) : Below B a b := ⟨h.os, h.tape, h.output, h.size, h.block⟩
theorem Same.drewN {S : Nat → Prop} {a b : World} (h : Same S a b) (n : Nat) : Same S a (b.drewN n) := ⟨h.os, h.tape, h.output, h.size, h.block⟩
theorem Same.drew {S : Nat → Prop} {a b : World} (h : Same S a b) : Same S a b.drew := ⟨h.os, h.tape, h.output, h.size, h.block⟩
theorem Same.setCell {S : Nat → Prop} {a b : World} (h : Same S a b) {p : Addr} (hp : ¬ S p.block) (u : Value) : Same S a (b.setCell p u) :=
  h.trans ⟨rfl, rfl, rfl, by simp [World.setCell], fun k hk => Below.heap_setCell _ _ _ _ (fun e => hp (e ▸ hk))⟩
theorem Same.cell {S : Nat → Prop} {a b : World} (h : Same S a b) {p : Addr} (hp : S p.block) : b.cell? p = a.cell? p := World.cell?_of_block (w := a) (h.block p.block hp)
theorem Same.frozen {S : Nat → Prop} {a b : World} (h : Same S a b) {p : Addr} (hp : S p.block) : b.frozen? p = a.frozen? p := World.frozen?_of_block (w := a) (h.block p.block hp)

theorem RowsAt.same {w w' : World} {R B : Nat} {f : Nat → List Nat} (h : RowsAt w R B f) (hs : Same (fun k => k < B ∨ k = R) w w') : RowsAt w' R B f := fun k hk => by
  obtain ⟨A, c, h1, h2, h3, h4, h5⟩ := h k hk
  exact ⟨A, c, (hs.cell (p := ⟨R, k, none⟩) (Or.inr rfl)).trans h1, h2, (hs.frozen (p := ⟨R, k, none⟩) (Or.inr rfl)).trans h3, h4.keep (fun p hp => hs.cell (Or.inl hp)), h5⟩
theorem RowsAt.drewN {w : World} {R B : Nat} {f : Nat → List Nat} (h : RowsAt w R B f) (n : Nat) : RowsAt (w.drewN n) R B f := h

/-- what is stored where the first of a row is taken off -/
def TailVal (w : World) (B R : Nat) (v : Value) (l : List Nat) : Prop :=
  ∃ A c, v = .slice A l.length c ∧ l.length ≤ c ∧ RdN w B A l ∧ (l ≠ [] → ∀ g o z, A = some ⟨g, o, z⟩ → g ≠ R)
theorem tailVal1 {w : World} {B R g o c : Nat} {l : List Nat} (hne : g ≠ R) (hc : l.length ≤ c) (h1 : c = 1) : TailVal w B R (.slice (some ⟨g, o, none⟩) (l.length - 1) 0) l.tail := by
  have : l.tail = [] := by apply List.eq_nil_of_length_eq_zero; rw [List.length_tail]; omega
  refine ⟨some ⟨g, o, none⟩, 0, by rw [List.length_tail], by rw [List.length_tail]; omega, by rw [this]; exact Rd.nil, ?_⟩
  intro _ g' o' z e
  simp only [Option.some.injEq, Addr.mk.injEq] at e
  rw [← e.1]; exact hne
theorem tailVal2 {w : World} {B R g o c : Nat} {l : List Nat} (hd : RdN w B (some ⟨g, o, none⟩) l) (hne : g ≠ R) (hc : l.length ≤ c) : TailVal w B R (.slice (some ⟨g, o + 1, none⟩) (l.length - 1) (c - 1)) l.tail := by
  refine ⟨some ⟨g, o + 1, none⟩, c - 1, by rw [List.length_tail], by rw [List.length_tail]; omega, ?_, ?_⟩
  · intro hl
    have hl' : l ≠ [] := fun e => hl (by rw [e]; rfl)
    obtain ⟨b, o', e, hb, hcell⟩ := hd hl'
    simp only [Option.some.injEq, Addr.mk.injEq, and_true] at e
    obtain ⟨rfl, rfl⟩ := e
    refine ⟨g, o + 1, rfl, hb, fun k x hx j u hu => ?_⟩
    rw [List.getElem?_tail] at hx
    have := hcell (k + 1) x hx j u hu
    rw [show o + 1 + k * 1 + j = o + (k + 1) * 1 + j from by omega]
    exact this
  · intro _ g' o' z e
    simp only [Option.some.injEq, Addr.mk.injEq] at e
    rw [← e.1]; exact hne

theorem RdN.set {w : World} {B R : Nat} {A : Option Addr} {l : List Nat} (h : RdN w B A l) (hne : l ≠ [] → ∀ g o z, A = some ⟨g, o, z⟩ → g ≠ R) (k : Nat) (v : Value) : RdN (w.setCell ⟨R, k, none⟩ v) B A l := fun hl => by
  obtain ⟨b, o, e, hb, hc⟩ := h hl
  refine ⟨b, o, e, hb, fun j x hx i u hu => ?_⟩
  rw [World.cell?_setCell_other _ _ _ _ (by intro e'; simp only [Addr.mk.injEq] at e'; exact hne hl _ _ _ e e'.1.symm)]
  exact hc j x hx i u hu
theorem TailVal.set {w : World} {B R : Nat} {v : Value} {l : List Nat} (h : TailVal w B R v l) (k : Nat) (u : Value) : TailVal (w.setCell ⟨R, k, none⟩ u) B R v l := by
  obtain ⟨A, c, h1, h2, h3, h4⟩ := h
  exact ⟨A, c, h1, h2, h3.set h4 k u, h4⟩


/-- a store of row t -/
theorem RowsAt.store {w : World} {R B t : Nat} {f : Nat → List Nat} {v : Value} {l : List Nat} (hr : RowsAt w R B f) (hv : TailVal w B R v l) : RowsAt (w.setCell ⟨R, t, none⟩ v) R B (fun k => if k = t then l else f k) := fun k hk => by
  obtain ⟨A, c, h1, h2, h3, h4, h5⟩ := hr k hk
  by_cases e : k = t
  · subst e
    obtain ⟨A', c', e1, e2, e3, e4⟩ := hv
    simp only [if_true]
    exact ⟨A', c', by rw [World.cell?_setCell_same _ _ _ h1, e1], e2, by rw [World.frozen?_setCell]; exact h3, e3.set e4 k v, e4⟩
  · simp only [e, if_false]
    exact ⟨A, c, by rw [World.cell?_setCell_other _ _ _ _ (by intro e'; simp only [Addr.mk.injEq, and_true, true_and] at e'; exact e e'.symm)]; exact h1, h2, by rw [World.frozen?_setCell]; exact h3, h4.set h5 t v, h5⟩
theorem RowsAt.pop {w : World} {R B t : Nat} {f : Nat → List Nat} {v1 v2 : Value} (hr : RowsAt w R B f) (h1 : TailVal w B R v1 (f t).tail) (h2 : TailVal w B R v2 (f (t + 1)).tail) :
    RowsAt ((w.setCell ⟨R, t, none⟩ v1).setCell ⟨R, t + 1, none⟩ v2) R B (Proofs.YtohcmfobnkaaiaaGreatDoor.pop f t) := by
  have h := (hr.store (t := t) h1).store (t := t + 1) (h2.set t v1)
  intro k hk
  have e : Proofs.YtohcmfobnkaaiaaGreatDoor.pop f t k = (if k = t + 1 then (f (t + 1)).tail else if k = t then (f t).tail else f k) := by
    unfold Proofs.YtohcmfobnkaaiaaGreatDoor.pop
    by_cases e1 : k = t + 1
    · subst e1; simp
    · by_cases e2 : k = t
      · subst e2; simp
      · rw [if_neg (by omega), if_neg e1, if_neg e2]
  rw [e]
  exact h k hk

theorem pop_le {f : Nat → List Nat} {t : Nat} {b : Nat} (h : ∀ k, k < 24 → (f k).length ≤ b) : ∀ k, k < 24 → (Proofs.YtohcmfobnkaaiaaGreatDoor.pop f t k).length ≤ b := fun k hk => by
  unfold Proofs.YtohcmfobnkaaiaaGreatDoor.pop
  have := h k hk
  split
  · rw [List.length_tail]; omega
  · exact this

theorem swp_none {h s n a : Nat} {f : Nat → List Nat} (ha : a + 1 < h + s) (hf : front f a = none) (hn : 0 < n) : swp h s n a f = swp h s (n - 1) (a + 1) f := by
  obtain ⟨n, rfl⟩ : ∃ m, n = m + 1 := ⟨n - 1, by omega⟩
  rw [swp, if_pos ha, hf]; rfl
theorem swp_some {h s n a i : Nat} {f : Nat → List Nat} (ha : a + 1 < h + s) (hf : front f a = some i) (hn : 0 < n) : swp h s n a f = (i :: (swp h s (n - 1) (max h (a - 1)) (Proofs.YtohcmfobnkaaiaaGreatDoor.pop f a)).1, (swp h s (n - 1) (max h (a - 1)) (Proofs.YtohcmfobnkaaiaaGreatDoor.pop f a)).2) := by
  obtain ⟨n, rfl⟩ : ∃ m, n = m + 1 := ⟨n - 1, by omega⟩
  rw [swp, if_pos ha, hf]; rfl
theorem swp_end {h s n a : Nat} {f : Nat → List Nat} (ha : ¬ a + 1 < h + s) : swp h s n a f = ([], f) := by
  cases n with
  | zero => rfl
  | succ n => rw [swp, if_neg ha]
end Go.Proofs.YtohcmfobnkaaiaaGreatDoor

namespace Go.Proofs.YtohcmfobnkaaiaaGreatDoor
open Go Go.RowKit Tor


end Go.Proofs.YtohcmfobnkaaiaaGreatDoor

namespace Go.Proofs.YtohcmfobnkaaiaaGreatDoor
open Go Go.RowKit Tor

theorem step_append_tri {P : Program} {ops : Array Oper} {o : Oper} {a : Act} {K : Act → World → Prop} {Q : Exit → Act → World → Prop} {E : Prop} {w : World} (hgd : o.guard = none) (s x : Operand) (t : TypeId)
    (ho : o.op = .call { callee := .builtin .append, args := #[s, x], argTypes := #[t, t] })
    (base : Nat) (e : TypeId) (i : TypeInfo) (z : Value) (ht : P.underlying t = some (.slice e)) (hi : P.info? e = some i) (hz : i.zero = some z)
    (hsize : i.size = 3) (hby : i.bytes = 32) (hzs : z.cells.size = 3)
    (v : Value) (l : List Tri) (hs : a.eval s = v) (hown : Own 3 Tri.enc w base e v l)
    (g : Nat) (y : Tri) (hx : a.eval x = .slice (some ⟨g, 0, none⟩) 1 1)
    (h0 : w.cell? ⟨g, 0, none⟩ = some (.int .i64 y.a)) (h1 : w.cell? ⟨g, 1, none⟩ = some (.int .i64 y.b)) (h2 : w.cell? ⟨g, 2, none⟩ = some (.string y.s))
    (hlen : l.length ≤ 1000000) (hbase : base ≤ w.heap.size)
    (h : ∀ v' w', Own 3 Tri.enc w' base e v' (l ++ [y]) → w.grownBy w' v.ownBlock → K (a.put o.dst v') w') :
    if Region.wanted o (yielded ops a.tmps) = true then Oper.wp P o a w K Q else E := by
  have hw : Region.wanted o (yielded ops a.tmps) = true := by simp [Region.wanted, hgd]
  rw [if_pos hw]
  refine wp_append_own w s x t ho base e i z 3 32 ht hi hz hsize hby hzs (by omega) v l.length (l.flatMap Tri.enc) hs hown ⟨g, 0, none⟩ 1 1 y.enc hx rfl ?_ (tri_one y) (by unfold maxLen; omega) (by omega) hbase
    (fun v' w' a b _ => h v' w' (Own.append1 rfl a) b)
  intro j u hu
  match j, hu with
  | 0, hu => simp [Tri.enc] at hu; subst hu; exact h0
  | 1, hu => simp [Tri.enc] at hu; subst hu; simpa [Addr.add] using h1
  | 2, hu => simp [Tri.enc] at hu; subst hu; simpa [Addr.add] using h2


theorem Own.far {α : Type} {sz : Nat} {enc : α → List Value} {w : World} {base : Nat} {e : TypeId} {v : Value} {l : List α} (h : Own sz enc w base e v l) {p : Addr} (hp : p.block < base) (u : Value) : Own sz enc (w.setCell p u) base e v l := by
  obtain ⟨h1, h2⟩ := h
  refine ⟨h1, ?_⟩
  rcases h2 with h2 | ⟨g, cap, cur, hv, hg, hh, r⟩
  · exact Or.inl h2
  · refine Or.inr ⟨g, cap, cur, hv, hg, ?_, r⟩
    rw [Below.heap_setCell w p u g (by omega)]; exact hh

theorem Own.far' {α : Type} {sz : Nat} {enc : α → List Value} {w : World} {base : Nat} {e : TypeId} {v : Value} {l : List α} (h : Own sz enc w base e v l) {p : Addr} (hp : some p.block ≠ v.ownBlock) (u : Value) : Own sz enc (w.setCell p u) base e v l := by
  obtain ⟨h1, h2⟩ := h
  refine ⟨h1, ?_⟩
  rcases h2 with h2 | ⟨g, cap, cur, rfl, hg, hh, r⟩
  · exact Or.inl h2
  · refine Or.inr ⟨g, cap, cur, rfl, hg, ?_, r⟩
    rw [Below.heap_setCell w p u g (fun e => hp (by rw [← e]; rfl))]; exact hh
theorem Blk.heap {w : World} {g : Nat} {t : TypeId} {cs : Array Value} (h : Blk w g t cs) : w.heap[g]? = some (.cells cs t (0, 0)) := h

theorem Own.len1 {w : World} {base : Nat} {e : TypeId} {A : Option Addr} {c : Nat} {l : List Tri} {y : Tri} (h : Own 3 Tri.enc w base e (.slice A (l ++ [y]).length c) (l ++ [y])) : Own 3 Tri.enc w base e (.slice A (l.length + 1) c) (l ++ [y]) := by
  have e0 : (l ++ [y]).length = l.length + 1 := by simp
  rw [e0] at h; exact h

theorem Same.grown {S : Nat → Prop} {w w1 w3 : World} {row : Option Nat} {o : Obj} (hB : Below w.drew.heap.size w.drew w1) (hS : ∀ j, S j → j < w.heap.size) (hg : (w1.alloc o).grownBy w3 row) (hne : ∀ j, S j → some j ≠ row) : Same S w w3 := by
  have hb : Below w.heap.size w w1 := ⟨hB.os, hB.tape, hB.output, hB.size, hB.block⟩
  refine ⟨hg.os.trans hb.os, hg.tape.trans hb.tape, hg.output.trans hb.output, Nat.le_trans (Nat.le_trans hb.size (by simp)) hg.size, fun j hj => ?_⟩
  rw [hg.block j (by have := hb.size; have := hS j hj; simp; omega) (hne j hj), Below.heap_alloc w1 o j (by have := hb.size; have := hS j hj; omega)]
  exact hb.block j (hS j hj)

def stepAt (l : List Tri) (i : Nat) : Tri := if h : i < l.length then stepOf l[i] else ⟨0, 0, .empty⟩
theorem stepAt_of {l : List Tri} {i : Nat} (h : i < l.length) : stepAt l i = stepOf l[i] := dif_pos h

theorem pop_mem {f : Nat → List Nat} {t : Nat} {m : Nat} (h : ∀ k, k < 24 → ∀ x ∈ f k, x < m) : ∀ k, k < 24 → ∀ x ∈ Proofs.YtohcmfobnkaaiaaGreatDoor.pop f t k, x < m := fun k hk x hx => by
  unfold Proofs.YtohcmfobnkaaiaaGreatDoor.pop at hx
  split at hx
  · exact h k hk x (List.mem_of_mem_tail hx)
  · exact h k hk x hx


end Go.Proofs.YtohcmfobnkaaiaaGreatDoor

namespace Go.Proofs.YtohcmfobnkaaiaaGreatDoor
open Go Go.RowKit Tor


/-- the rows as a list of values -/
theorem RowsAt.list {w : World} {R B : Nat} {f : Nat → List Nat} (h : RowsAt w R B f) :
    ∃ cs : List Value, cs.length = 24 ∧ w.rangeAt R 0 cs ∧ (∀ v ∈ cs, v.oneCell' = true) ∧ ∀ k, k < 24 → ∃ A c, cs[k]? = some (.slice A (f k).length c) ∧ (f k).length ≤ c ∧ RdN w B A (f k) := by
  have h' : ∀ k : Fin 24, ∃ v, w.cell? ⟨R, k.1, none⟩ = some v ∧ ∃ A c, v = .slice A (f k.1).length c ∧ (f k.1).length ≤ c ∧ RdN w B A (f k.1) := fun k => by
    obtain ⟨A, c, h1, h2, _, h4, _⟩ := h k.1 k.2
    exact ⟨_, h1, A, c, rfl, h2, h4⟩
  let g : Fin 24 → Value := fun k => Classical.choose (h' k)
  have hg : ∀ k, w.cell? ⟨R, k.1, none⟩ = some (g k) ∧ ∃ A c, g k = .slice A (f k.1).length c ∧ (f k.1).length ≤ c ∧ RdN w B A (f k.1) := fun k => Classical.choose_spec (h' k)
  refine ⟨List.ofFn g, by simp, ?_, ?_, ?_⟩
  · intro j v hv
    rw [List.getElem?_ofFn] at hv
    split at hv
    · rename_i hj
      simp only [Option.some.injEq] at hv
      subst hv
      simpa using (hg ⟨j, hj⟩).1
    · cases hv
  · intro v hv
    rw [List.mem_ofFn] at hv
    obtain ⟨k, rfl⟩ := hv
    obtain ⟨_, A, c, e, _⟩ := hg k
    rw [e]; rfl
  · intro k hk
    obtain ⟨_, A, c, e, h1, h2⟩ := hg ⟨k, hk⟩
    exact ⟨A, c, by rw [List.getElem?_ofFn, dif_pos hk, e], h1, h2⟩

theorem there_new (w : World) (Z : Array Value) (t : TypeId) (hZ : Z.size = 24) : (w.alloc (.cells Z t)).there w.heap.size 0 24 := fun j hj => by
  have hb := Blk.new w t Z
  refine ⟨?_, hb.frozen _⟩
  rw [hb.cell (0 + j) Z[0 + j] (by simp)]; rfl
theorem there_set {w : World} {b o n : Nat} (h : w.there b o n) (p : Addr) (v : Value) : (w.setCell p v).there b o n := fun j hj => by
  obtain ⟨h1, h2⟩ := h j hj
  refine ⟨?_, by rw [World.frozen?_setCell]; exact h2⟩
  obtain ⟨u, hu⟩ := Option.isSome_iff_exists.1 h1
  by_cases e : p = ⟨b, o + j, none⟩
  · subst e; rw [World.cell?_setCell_same _ _ _ hu]; rfl
  · rw [World.cell?_setCell_other _ _ _ _ e, hu]; rfl

theorem Below.setCells {B : Nat} {a : World} {b : Nat} (hb : B ≤ b) : ∀ (vs : List Value) (o : Nat) {w : World}, Below B a w → Below B a (w.setCells b o vs)
  | [], _, _, h => h
  | v :: vs, o, _, h => Below.setCells hb vs (o + 1) (h.setCell (p := ⟨b, o, none⟩) hb v)

theorem heap_setCells (b : Nat) (g : Nat) (hg : g ≠ b) : ∀ (vs : List Value) (o : Nat) (w : World), (w.setCells b o vs).heap[g]? = w.heap[g]?
  | [], _, _ => rfl
  | v :: vs, o, w => (heap_setCells b g hg vs (o + 1) _).trans (Below.heap_setCell w ⟨b, o, none⟩ v g hg)
theorem Blk.setCells {w : World} {g : Nat} {t : TypeId} {cs : Array Value} (h : Blk w g t cs) {b : Nat} (hg : g ≠ b) (o : Nat) (vs : List Value) : Blk (w.setCells b o vs) g t cs := (heap_setCells b g hg vs o w).trans h

theorem Blk.drew {w : World} {g : Nat} {t : TypeId} {cs : Array Value} (h : Blk w g t cs) : Blk w.drew g t cs := h

theorem copy_rows {w w1 : World} {B R' : Nat} {f : Nat → List Nat} {cs : List Value} (hB1 : Below w.heap.size w w1) (ht : w1.there R' 0 24) (hR' : w.heap.size ≤ R') (hBw : B ≤ w.heap.size) (hcl : cs.length = 24)
    (hcg : ∀ k, k < 24 → ∃ A c, cs[k]? = some (.slice A (f k).length c) ∧ (f k).length ≤ c ∧ RdN w B A (f k)) : RowsAt (w1.setCells R' 0 cs) R' B f := fun k hk => by
  obtain ⟨A, c, h1, h2, h3⟩ := hcg k hk
  have hB2 : Below w.heap.size w (w1.setCells R' 0 cs) := Below.setCells hR' _ _ hB1
  have hr := World.rangeAt_setCells_same w1 R' 0 cs (by rw [hcl]; exact ht)
  refine ⟨A, c, by simpa using hr k _ h1, h2, ?_, h3.below' hB2 hBw, ?_⟩
  · rw [World.frozen?_setCells]; simpa using (ht k hk).2
  · intro hne g o z e
    obtain ⟨b, o', e', hb, _⟩ := h3 hne
    rw [e'] at e
    simp only [Option.some.injEq, Addr.mk.injEq] at e
    omega


theorem keepR {w w' : World} {rb R : Nat} {v : Value} {cs : List Value} (h : w.cell? ⟨rb, 0, none⟩ = some v) (hr : w.rangeAt R 0 cs) (hR : R < w.heap.size) (hB : Below w.heap.size w w') : w'.cell? ⟨rb, 0, none⟩ = some v ∧ w'.rangeAt R 0 cs :=
  ⟨(hB.cell (p := ⟨rb, 0, none⟩) (lt_of_cell h)).trans h, fun j u hu => (hB.cell (p := ⟨R, 0 + j, none⟩) hR).trans (hr j u hu)⟩


end Go.Proofs.YtohcmfobnkaaiaaGreatDoor

namespace Go.Proofs.YtohcmfobnkaaiaaGreatDoor
open Go Go.RowKit Tor

theorem RdN.at {w : World} {B : Nat} {A : Option Addr} {n : Nat} (h : RdN w B A (List.range n)) {k : Nat} (hk : k < n) : ∃ b o, A = some ⟨b, o, none⟩ ∧ b < B ∧ w.cell? ⟨b, o + k, none⟩ = some (.int .i64 k) := by
  have hne : List.range n ≠ [] := by intro e; have := congrArg List.length e; simp at this; omega
  obtain ⟨b, o, e, hb, hc⟩ := h hne
  exact ⟨b, o, e, hb, by simpa using hc k k (by simp [hk]) 0 _ rfl⟩

theorem bestUpto_succ_gt {f : Nat → Nat} {k b : Nat} (h : b = bestUpto f k) (hf : f b < f k) : k = bestUpto f (k + 1) := by subst h; rw [bestUpto, if_pos hf]
theorem bestUpto_succ_le {f : Nat → Nat} {k b : Nat} (h : b = bestUpto f k) (hf : ¬ f b < f k) : b = bestUpto f (k + 1) := by subst h; rw [bestUpto, if_neg hf]


/-- how many works fall off at a place -/
def offN (s N : Nat) (f : Nat → List Nat) (h : Nat) : Nat := (swp h s N h f).1.length


end Go.Proofs.YtohcmfobnkaaiaaGreatDoor

namespace Go.Proofs.YtohcmfobnkaaiaaGreatDoor
open Go Go.RowKit Tor

def FamV (w : World) (base : Nat) (vs : Nat → Value) (f : Nat → List Nat) : Prop :=
  (∀ k, k < 24 → Own 1 nenc w base 3 (vs k) (f k)) ∧ ∀ j k, j < 24 → k < 24 → j ≠ k → (vs j).ownBlock = none ∨ (vs j).ownBlock ≠ (vs k).ownBlock

def upd2 {α : Type} (g : Nat → α) (t : Nat) (a b : α) : Nat → α := fun k => if k = t then a else if k = t + 1 then b else g k

def Fam2 (w : World) (base : Nat) (vs : Nat → Value) (f : Nat → List Nat) (t : Nat) (x1 : Value) (l1 : List Nat) (x2 : Value) (l2 : List Nat) : Prop :=
  FamV w base (upd2 vs t x1 x2) (upd2 f t l1 l2)

theorem FamV.start {w : World} {base : Nat} {vs : Nat → Value} {f : Nat → List Nat} (h : FamV w base vs f) (t : Nat) : Fam2 w base vs f t (vs t) (f t) (vs (t + 1)) (f (t + 1)) := by
  have e1 : upd2 vs t (vs t) (vs (t + 1)) = vs := by funext k; unfold upd2; split; · rename_i e; rw [e]
                                                     · split; · rename_i e; rw [e]
                                                       · rfl
  have e2 : upd2 f t (f t) (f (t + 1)) = f := by funext k; unfold upd2; split; · rename_i e; rw [e]
                                                 · split; · rename_i e; rw [e]
                                                   · rfl
  rw [Fam2, e1, e2]; exact h

theorem FamV.alloc {w : World} {base : Nat} {vs : Nat → Value} {f : Nat → List Nat} (h : FamV w base vs f) (o : Obj) : FamV (w.alloc o) base vs f := ⟨fun k hk => (h.1 k hk).alloc o, h.2⟩
theorem FamV.drew {w : World} {base : Nat} {vs : Nat → Value} {f : Nat → List Nat} (h : FamV w base vs f) : FamV w.drew base vs f := h
theorem FamV.set_ {w : World} {base : Nat} {vs : Nat → Value} {f : Nat → List Nat} (h : FamV w base vs f) {p : Addr} (hp : p.block < base) (u : Value) : FamV (w.setCell p u) base vs f := ⟨fun k hk => Own.far (h.1 k hk) hp u, h.2⟩
theorem FamV.below {w w' : World} {base : Nat} {vs : Nat → Value} {f : Nat → List Nat} (h : FamV w base vs f) (hB : Below w.heap.size w w') : FamV w' base vs f := ⟨fun k hk => (h.1 k hk).below hB, h.2⟩

theorem FamV.lt {w : World} {base : Nat} {vs : Nat → Value} {f : Nat → List Nat} (h : FamV w base vs f) {k : Nat} (hk : k < 24) {g : Nat} (hg : (vs k).ownBlock = some g) : g < w.heap.size := (World.ownsRow.lt (h.1 k hk) g hg).2

theorem FamV.app {w w' : World} {base : Nat} {vs : Nat → Value} {f : Nat → List Nat} {t : Nat} {v' : Value} {l' : List Nat} (h : FamV w base vs f) (ht : t < 24) (hg : w.grownBy w' (vs t).ownBlock) (ho : Own 1 nenc w' base 3 v' l') (hb : v'.ownBlock = (vs t).ownBlock ∨ v'.ownBlock = some w.heap.size) :
    FamV w' base (fun k => if k = t then v' else vs k) (fun k => if k = t then l' else f k) := by
  refine ⟨fun k hk => ?_, fun j k hj hk hjk => ?_⟩
  · by_cases e : k = t
    · simp only [e, if_true]; exact ho
    · simp only [e, if_false]
      exact World.ownsRow.kept (h.1 k hk) hg (h.2 k t hk ht e)
  · by_cases e1 : j = t
    · by_cases e2 : k = t
      · exact absurd (e1.trans e2.symm) hjk
      · simp only [e1, e2, if_true, if_false]
        rcases hb with hb | hb
        · rw [hb]
          exact h.2 t k ht hk (fun e => e2 e.symm)
        · right
          rw [hb]
          intro e
          exact absurd (h.lt hk e.symm) (Nat.lt_irrefl _)
    · by_cases e2 : k = t
      · simp only [e1, e2, if_true, if_false]
        rcases hb with hb | hb
        · rw [hb]
          exact h.2 j t hj ht e1
        · cases hv : (vs j).ownBlock with
          | none => left; rfl
          | some g =>
            right
            rw [hb]
            intro e
            simp only [Option.some.injEq] at e
            have := h.lt hj hv
            omega
      · simp only [e1, e2, if_false]
        exact h.2 j k hj hk hjk

theorem FamV.congr {w : World} {base : Nat} {vs vs' : Nat → Value} {f f' : Nat → List Nat} (h : FamV w base vs f) (hv : ∀ k, k < 24 → vs' k = vs k) (hf : ∀ k, k < 24 → f' k = f k) : FamV w base vs' f' := by
  refine ⟨fun k hk => ?_, fun j k hj hk hjk => ?_⟩
  · rw [hv k hk, hf k hk]; exact h.1 k hk
  · rw [hv j hj, hv k hk]; exact h.2 j k hj hk hjk

theorem Fam2.own1 {w : World} {base : Nat} {vs : Nat → Value} {f : Nat → List Nat} {t : Nat} {x1 x2 : Value} {l1 l2 : List Nat} (h : Fam2 w base vs f t x1 l1 x2 l2) (ht : t + 1 < 24) : Own 1 nenc w base 3 x1 l1 := by
  have := h.1 t (by omega); simpa [upd2] using this
theorem Fam2.own2 {w : World} {base : Nat} {vs : Nat → Value} {f : Nat → List Nat} {t : Nat} {x1 x2 : Value} {l1 l2 : List Nat} (h : Fam2 w base vs f t x1 l1 x2 l2) (ht : t + 1 < 24) : Own 1 nenc w base 3 x2 l2 := by
  have := h.1 (t + 1) ht; simpa [upd2] using this
theorem Fam2.app1 {w w' : World} {base : Nat} {vs : Nat → Value} {f : Nat → List Nat} {t : Nat} {x1 x2 v' : Value} {l1 l2 l' : List Nat} (h : Fam2 w base vs f t x1 l1 x2 l2) (ht : t + 1 < 24) (hg : w.grownBy w' x1.ownBlock) (ho : Own 1 nenc w' base 3 v' l') (hb : v'.ownBlock = x1.ownBlock ∨ v'.ownBlock = some w.heap.size) : Fam2 w' base vs f t v' l' x2 l2 := by
  have e : upd2 vs t x1 x2 t = x1 := by simp [upd2]
  have := FamV.app (t := t) h (by omega) (by rw [e]; exact hg) ho (by rw [e]; exact hb)
  refine this.congr (fun k _ => ?_) (fun k _ => ?_) <;> (unfold upd2; split <;> simp_all)
theorem Fam2.app2 {w w' : World} {base : Nat} {vs : Nat → Value} {f : Nat → List Nat} {t : Nat} {x1 x2 v' : Value} {l1 l2 l' : List Nat} (h : Fam2 w base vs f t x1 l1 x2 l2) (ht : t + 1 < 24) (hg : w.grownBy w' x2.ownBlock) (ho : Own 1 nenc w' base 3 v' l') (hb : v'.ownBlock = x2.ownBlock ∨ v'.ownBlock = some w.heap.size) : Fam2 w' base vs f t x1 l1 v' l' := by
  have e : upd2 vs t x1 x2 (t + 1) = x2 := by simp [upd2]
  have := FamV.app (t := t + 1) h ht (by rw [e]; exact hg) ho (by rw [e]; exact hb)
  refine this.congr (fun k _ => ?_) (fun k _ => ?_) <;> (unfold upd2; by_cases e1 : k = t <;> by_cases e2 : k = t + 1 <;> simp_all)
theorem Fam2.alloc {w : World} {base : Nat} {vs : Nat → Value} {f : Nat → List Nat} {t : Nat} {x1 x2 : Value} {l1 l2 : List Nat} (h : Fam2 w base vs f t x1 l1 x2 l2) (o : Obj) : Fam2 (w.alloc o) base vs f t x1 l1 x2 l2 := FamV.alloc h o
theorem Fam2.drew {w : World} {base : Nat} {vs : Nat → Value} {f : Nat → List Nat} {t : Nat} {x1 x2 : Value} {l1 l2 : List Nat} (h : Fam2 w base vs f t x1 l1 x2 l2) : Fam2 w.drew base vs f t x1 l1 x2 l2 := h
theorem Fam2.set_ {w : World} {base : Nat} {vs : Nat → Value} {f : Nat → List Nat} {t : Nat} {x1 x2 : Value} {l1 l2 : List Nat} (h : Fam2 w base vs f t x1 l1 x2 l2) {p : Addr} (hp : p.block < base) (u : Value) : Fam2 (w.setCell p u) base vs f t x1 l1 x2 l2 := FamV.set_ h hp u


/-- what the round's operations keep: blocks below base but R, blocks that are no row -/
def Kp (base R : Nat) (w w' : World) : Prop := Same (fun j => j < base ∧ j ≠ R) w w' ∧ ∀ g cs ty, ty ≠ 3 → g ≠ R → Blk w g ty cs → Blk w' g ty cs
theorem Kp.refl (base R : Nat) (w : World) : Kp base R w w := ⟨Same.refl _ _, fun _ _ _ _ _ h => h⟩
theorem Kp.drew {base R : Nat} {w w' : World} (h : Kp base R w w') : Kp base R w w'.drew := ⟨h.1.drew, h.2⟩
theorem Kp.alloc {base R : Nat} {w w' : World} (h : Kp base R w w') (hb : base ≤ w.heap.size) (o : Obj) : Kp base R w (w'.alloc o) :=
  ⟨h.1.trans ⟨rfl, rfl, rfl, by simp, fun k hk => Below.heap_alloc w' o k (by have := h.1.size; omega)⟩, fun g cs ty h1 h2 h3 => (h.2 g cs ty h1 h2 h3).alloc o⟩
theorem Kp.setR {base R : Nat} {w w' : World} (h : Kp base R w w') (k : Nat) (u : Value) : Kp base R w (w'.setCell ⟨R, k, none⟩ u) :=
  ⟨h.1.setCell (fun e => e.2 rfl) u, fun g cs ty h1 h2 h3 => (h.2 g cs ty h1 h2 h3).far h2 u⟩
theorem Kp.app {base R : Nat} {w w1 w2 : World} (h : Kp base R w w1) (hb : base ≤ w.heap.size) {v : Value} {l : List Nat} (ho : Own 1 nenc w1 base 3 v l) (hg : w1.grownBy w2 v.ownBlock) : Kp base R w w2 := by
  refine ⟨h.1.trans ⟨hg.os, hg.tape, hg.output, hg.size, fun k hk => hg.block k (by have := h.1.size; omega) (fun e => ?_)⟩, fun g cs ty h1 h2 h3 => ?_⟩
  · have := (World.ownsRow.lt ho k e.symm).1
    omega
  · exact (h.2 g cs ty h1 h2 h3).grown hg (Own.ne_block ho (h.2 g cs ty h1 h2 h3).heap h1)


/-- an append of one number to row t or t+1, in a region that draws its order -/
theorem step_append_n {P : Program} {ops : Array Oper} {o : Oper} {a : Act} {K : Act → World → Prop} {Q : Exit → Act → World → Prop} {E : Prop} {w : World} (hgd : o.guard = none) (s x : Operand) (t : TypeId)
    (ho : o.op = .call { callee := .builtin .append, args := #[s, x], argTypes := #[t, t] })
    (base : Nat) (e : TypeId) (i : TypeInfo) (z : Value) (ht : P.underlying t = some (.slice e)) (hi : P.info? e = some i) (hz : i.zero = some z)
    (hsize : i.size = 1) (hby : i.bytes = 8) (hzs : z.cells.size = 1)
    (v : Value) (l : List Nat) (hs : a.eval s = v) (hown : Own 1 nenc w base e v l)
    (g : Nat) (y : Nat) (hx : a.eval x = .slice (some ⟨g, 0, none⟩) 1 1)
    (h0 : w.cell? ⟨g, 0, none⟩ = some (.int .i64 y))
    (hlen : l.length ≤ 1000000) (hbase : base ≤ w.heap.size)
    (h : ∀ v' w', Own 1 nenc w base e v l → Own 1 nenc w' base e v' (l ++ [y]) → w.grownBy w' v.ownBlock → (v'.ownBlock = v.ownBlock ∨ v'.ownBlock = some w.heap.size) → K (a.put o.dst v') w') :
    if Region.wanted o (yielded ops a.tmps) = true then Oper.wp P o a w K Q else E := by
  have hw : Region.wanted o (yielded ops a.tmps) = true := by simp [Region.wanted, hgd]
  rw [if_pos hw]
  obtain ⟨v', w', hr, h2, h3, h4, h5⟩ := run_append_own_at (P := P) w base t o.type e i z 1 8 ht hi hz hsize hby hzs (by omega) v l.length (l.flatMap nenc) hown ⟨g, 0, none⟩ 1 1 (nenc y) rfl
    (by intro j u hu; match j, hu with | 0, hu => simp [nenc] at hu; subst hu; simpa [Addr.add] using h0)
    (by intro u hu; simp [nenc] at hu; subst hu; rfl) (by unfold maxLen; omega) (by omega) hbase
  have hK := h v' w' hown (Own.append1 rfl h2) h3 h5
  unfold Oper.wp execOp
  simp only [ho, resolve, invoke, builtin, Sem.run_bind, Sem.run_pure, Result.andThen_ok, List.map_toArray, List.map_cons, List.map_nil, hs, hx, hr]
  exact hK
end Go.Proofs.YtohcmfobnkaaiaaGreatDoor

namespace Tor
open Go

/-- whatever order is picked; behind each operation of J the condition S is shown -/
def wpAnyJ (P : Program) (md : Region.Mode) (ops : Array Oper) (Q : Exit → Act → World → Prop) (S1 S2 : World → Prop) (J : Nat → Bool) : Nat → Array Bool → Act → World → Prop
  | 0, listed, a, w => Region.ready md ops listed = [] ∧ Q .normal a w
  | fuel + 1, listed, a, w =>
    (Region.ready md ops listed = [] → Q .normal a w) ∧
    ∀ i ∈ Region.ready md ops listed, wpOp P ops Q i (fun a' w' => S1 w' ∧ (J i = true → S2 w') ∧ wpAnyJ P md ops Q S1 S2 J fuel (listed.setIfInBounds i true) a' w') a w

section
variable {P : Program} {ops : Array Oper} {Q : Exit → Act → World → Prop} {md : Region.Mode} {S1 S2 T : World → Prop} {J : Nat → Bool}

theorem wpAny_of_J : ∀ (fuel : Nat) (listed : Array Bool) (a : Act) (w : World), wpAnyJ P md ops Q S1 S2 J fuel listed a w → wpAny P md ops Q fuel listed a w
  | 0, _, _, _, h => h
  | fuel + 1, _, _, _, h => ⟨h.1, fun i hi => wpOp_mono (fun a' w' h' => wpAny_of_J fuel _ a' w' h'.2.2) (h.2 i hi)⟩


/-- who is not in J waits for i -/
def waitsJ (md : Region.Mode) (ops : Array Oper) (listed : Array Bool) (J : Nat → Bool) (i : Nat) : Bool :=
  (List.range ops.size).all fun j => j == i || listed.getD j true || J j || (match ops[j]? with
    | some oj => oj.after.any fun e => Region.binds md e && e.on == i
    | none => true)

theorem wpAnyJ_first {i : Nat} {oi : Oper} {v : Value} (hi : ops[i]? = some oi) (hsel : ∀ (j : Nat) (o : Oper) cs b, ops[j]? = some o → o.op ≠ .select cs b)
    (hQ : ∀ c a w, Q (.panic c) (a.put oi.dst v) w → Q (.panic c) a w) :
    ∀ (fuel : Nat) (listed : Array Bool) (a : Act) (w : World),
      (∀ j oj, ops[j]? = some oj → j ≠ i → listed.getD j true = false → (∀ e ∈ oj.after, Region.binds md e = true → e.on ≠ i) → oi.apart ops oj = true) →
      (∀ j oj, ops[j]? = some oj → j ≠ i → listed.getD j true = false → (∀ e ∈ oj.after, Region.binds md e = true → e.on ≠ i) → (J i = true → J j = true) ∧ ∀ w, S1 w → (J j = true → S2 w) → T w) →
      i ∈ Region.ready md ops listed → YieldsIf P ops T oi v a → S1 w → (J i = true → S2 w) → T w →
      wpAnyJ P md ops Q S1 S2 J fuel (listed.setIfInBounds i true) (a.put oi.dst v) w → wpAnyJ P md ops Q S1 S2 J (fuel + 1) listed a w := by
  intro fuel
  induction fuel with
  | zero =>
    intro listed a w _ _ hr hy h1 h2 hS H
    refine ⟨fun h => (by rw [h] at hr; cases hr), fun j hj => ?_⟩
    by_cases hji : j = i
    · subst hji; exact hy.wpOp hi hS ⟨h1, h2, H⟩
    · have := ready_mono hj hji
      rw [H.1] at this
      cases this
  | succ fuel ih =>
    intro listed a w hfree hwt hr hy g1 g2 hS H
    refine ⟨fun h => (by rw [h] at hr; cases hr), fun j hj => ?_⟩
    by_cases hji : j = i
    · subst hji; exact hy.wpOp hi hS ⟨g1, g2, H⟩
    · have h1 := H.2 j (ready_mono hj hji)
      obtain ⟨hjun, oj, hoj, hall⟩ := mem_ready.1 hj
      have hnot : ∀ e ∈ oj.after, Region.binds md e = true → e.on ≠ i := fun e he hb heq => by
        have h1 := hall e he hb
        have h0 := (mem_ready.1 hr).1
        rw [heq] at h1
        rcases Nat.lt_or_ge i listed.size with h' | h'
        · simp [h'] at h0 h1; rw [h0] at h1; cases h1
        · simp [Array.getElem?_eq_none h'] at h1
      have h2 := wpOp_putIf (S := T) hoj (hfree j oj hoj hji hjun hnot) (fun cs b => hsel i oi cs b hi) (fun cs b => hsel j oj cs b hoj) hQ hy h1
      have hfree' : ∀ k ok, ops[k]? = some ok → k ≠ i → (listed.setIfInBounds j true).getD k true = false →
          (∀ e ∈ ok.after, Region.binds md e = true → e.on ≠ i) → oi.apart ops ok = true := fun k ok hk hki hun hno => by
        refine hfree k ok hk hki ?_ hno
        by_cases hjk : j = k
        · subst hjk; exact hjun
        · rw [getD_set_ne true hjk] at hun; exact hun
      have hwt' : ∀ k ok, ops[k]? = some ok → k ≠ i → (listed.setIfInBounds j true).getD k true = false →
          (∀ e ∈ ok.after, Region.binds md e = true → e.on ≠ i) → (J i = true → J k = true) ∧ ∀ w, S1 w → (J k = true → S2 w) → T w := fun k ok hk hki hun hno => by
        refine hwt k ok hk hki ?_ hno
        by_cases hjk : j = k
        · subst hjk; exact hjun
        · rw [getD_set_ne true hjk] at hun; exact hun
      obtain ⟨j1, j2⟩ := hwt j oj hoj hji hjun hnot
      refine wpOp_mono (fun a' w' h3 => ⟨h3.2.1, h3.2.2.1, ih (listed.setIfInBounds j true) a' w' hfree' hwt' (ready_mono hr (Ne.symm hji)) h3.1 h3.2.1 (fun hi => h3.2.2.1 (j1 hi)) (j2 w' h3.2.1 h3.2.2.1) ?_⟩) h2
      rw [Array.setIfInBounds_comm _ _ hji]
      exact h3.2.2.2


/-- an operation that yields wherever S1 holds -/
theorem wpAnyJ_take1 (i : Nat) {oi : Oper} {v : Value} {fuel : Nat} {listed : Array Bool} {a : Act} {w : World} (hi : ops[i]? = some oi)
    (hs : Region.noSelect ops = true) (hf : Region.free md ops listed i = true) (hJ : J i = false) (hr : (Region.ready md ops listed).contains i = true)
    (hQ : ∀ c a w, Q (.panic c) (a.put oi.dst v) w → Q (.panic c) a w) (hwant : Region.wanted oi (yielded ops a.tmps) = true) (hS : S1 w) (hy : ∀ w, S1 w → (execOp a.eval oi).run P w = .ok (.value v) w)
    (h : wpAnyJ P md ops Q S1 S2 J fuel (listed.setIfInBounds i true) (a.put oi.dst v) w) : wpAnyJ P md ops Q S1 S2 J (fuel + 1) listed a w :=
  wpAnyJ_first (T := S1) hi (Region.noSelect_spec hs) hQ fuel listed a w (Region.free_spec hi hf) (fun _ _ _ _ _ _ => ⟨fun h => (by rw [hJ] at h; cases h), fun _ h _ => h⟩) (by simpa using hr) (Or.inl ⟨hwant, hy⟩) hS (fun h => (by rw [hJ] at h; cases h)) hS h

theorem waitsJ_spec {listed : Array Bool} {i : Nat} (hwt : waitsJ md ops listed J i = true) : ∀ j oj, ops[j]? = some oj → j ≠ i → listed.getD j true = false → (∀ e ∈ oj.after, Region.binds md e = true → e.on ≠ i) → J j = true := fun j oj hoj hji hjun hnot => by
  have hjs : j < ops.size := (Array.getElem?_eq_some_iff.1 hoj).1
  unfold waitsJ at hwt
  rw [List.all_eq_true] at hwt
  have := hwt j (by simpa using hjs)
  simp only [hoj, Bool.or_eq_true, beq_iff_eq, hji, hjun, Array.any_eq_true'] at this
  rcases this with ((h1 | h1) | h1) | ⟨e, he, h1⟩
  · exact h1.elim
  · cases h1
  · exact h1
  · simp only [Bool.and_eq_true, beq_iff_eq] at h1
    exact absurd h1.2 (hnot e he h1.1)


/-- an operation that yields wherever S1 and S2 hold, for which whoever is not in J waits -/
theorem wpAnyJ_take2 (i : Nat) {oi : Oper} {v : Value} {fuel : Nat} {listed : Array Bool} {a : Act} {w : World} (hi : ops[i]? = some oi)
    (hs : Region.noSelect ops = true) (hf : Region.free md ops listed i = true) (hJ : waitsJ md ops listed J i = true) (hr : (Region.ready md ops listed).contains i = true)
    (hQ : ∀ c a w, Q (.panic c) (a.put oi.dst v) w → Q (.panic c) a w) (hwant : Region.wanted oi (yielded ops a.tmps) = true) (hS : S1 w) (hS2 : S2 w) (hy : ∀ w, S1 w ∧ S2 w → (execOp a.eval oi).run P w = .ok (.value v) w)
    (h : wpAnyJ P md ops Q S1 S2 J fuel (listed.setIfInBounds i true) (a.put oi.dst v) w) : wpAnyJ P md ops Q S1 S2 J (fuel + 1) listed a w :=
  wpAnyJ_first (T := fun w => S1 w ∧ S2 w) hi (Region.noSelect_spec hs) hQ fuel listed a w (Region.free_spec hi hf)
    (fun j oj h1 h2 h3 h4 => have hj := waitsJ_spec hJ j oj h1 h2 h3 h4; ⟨fun _ => hj, fun _ g1 g2 => ⟨g1, g2 hj⟩⟩) (by simpa using hr) (Or.inl ⟨hwant, hy⟩) hS (fun _ => hS2) ⟨hS, hS2⟩ h


/-- the operations of a list come up next, each followed by the rest -/
def NextJ (P : Program) (md : Region.Mode) (ops : Array Oper) (Q : Exit → Act → World → Prop) (S1 S2 : World → Prop) (J : Nat → Bool) (fuel : Nat) (listed : Array Bool) (a : Act) (w : World) (rs : List Nat) : Prop :=
  ∀ i ∈ rs, wpOp P ops Q i (fun a' w' => S1 w' ∧ (J i = true → S2 w') ∧ wpAnyJ P md ops Q S1 S2 J fuel (listed.setIfInBounds i true) a' w') a w
theorem NextJ.nil {fuel : Nat} {listed : Array Bool} {a : Act} {w : World} : NextJ P md ops Q S1 S2 J fuel listed a w [] := fun _ h => by cases h
theorem NextJ.cons {fuel : Nat} {listed : Array Bool} {a : Act} {w : World} {i : Nat} {o : Oper} {rs : List Nat} (ho : ops[i]? = some o)
    (h : ∀ K' : Act → World → Prop, Shut (∀ a w, S1 w → (J i = true → S2 w) → wpAnyJ P md ops Q S1 S2 J fuel (listed.setIfInBounds i true) a w → K' a w) → if Region.wanted o (yielded ops a.tmps) = true then Oper.wp P o a w K' Q else K' (a.put o.dst undef) w)
    (hs : NextJ P md ops Q S1 S2 J fuel listed a w rs) : NextJ P md ops Q S1 S2 J fuel listed a w (i :: rs) := fun j hj => by
  rcases List.mem_cons.1 hj with rfl | hj
  · exact wpOp_step ho (fun K' hK => h K' (fun a w hS h2 hW => hK a w ⟨hS, h2, hW⟩))
  · exact hs j hj
theorem wpAnyJ_ready (rs : List Nat) {fuel : Nat} {listed : Array Bool} {a : Act} {w : World} (hr : Region.ready md ops listed = rs) (hne : rs ≠ [])
    (h : NextJ P md ops Q S1 S2 J fuel listed a w rs) : wpAnyJ P md ops Q S1 S2 J (fuel + 1) listed a w :=
  ⟨fun h0 => absurd (hr ▸ h0) hne, hr ▸ h⟩
theorem wpAnyJ_done {listed : Array Bool} {a : Act} {w : World} (hr : Region.ready md ops listed = []) (h : Q .normal a w) : ∀ fuel, wpAnyJ P md ops Q S1 S2 J fuel listed a w
  | 0 => ⟨hr, h⟩
  | _ + 1 => ⟨fun _ => h, by rw [hr]; simp⟩
theorem wp_region_J (S1 S2 : World → Prop) (J : Nat → Bool) {id : Nat} {a : Act} {w : World} (hm : P.follows .mixedOrders = true)
    (h : wpAnyJ P .any ops Q S1 S2 J ops.size (Array.replicate ops.size false) a w.drew) : (Code.region id ops true).wp P Q a w :=
  wp_region_any hm (wpAny_of_J _ _ _ _ h)
end
end Tor

namespace Go.Proofs.YtohcmfobnkaaiaaGreatDoor
open Go Go.RowKit Tor

/-- row k behind the first m works -/
def fill (l : List Tri) (m : Nat) (k : Nat) : List Nat := (List.range m).filter fun i => (l[i]?.map (·.b)) == some (k : Int) || (l[i]?.map (·.b)) == some ((k : Int) - 1)

theorem fill_zero (l : List Tri) (k : Nat) : fill l 0 k = [] := rfl
theorem fill_succ {l : List Tri} {m t : Nat} (hm : m < l.length) (ht : l[m].b = t) (k : Nat) : fill l (m + 1) k = upd2 (fill l m) t (fill l m t ++ [m]) (fill l m (t + 1) ++ [m]) k := by
  unfold fill
  rw [List.range_succ, List.filter_append]
  have e : (l[m]?.map (·.b)) = some (t : Int) := by rw [List.getElem?_eq_getElem hm]; simp [ht]
  have e2 : List.filter (fun i => (l[i]?.map (·.b)) == some (k : Int) || (l[i]?.map (·.b)) == some ((k : Int) - 1)) [m] = if k = t ∨ k = t + 1 then [m] else [] := by
    rw [List.filter_cons, List.filter_nil, e]
    by_cases h : k = t ∨ k = t + 1
    · rw [if_pos h]
      have : (some (t : Int) == some (k : Int) || some (t : Int) == some ((k : Int) - 1)) = true := by simp; omega
      rw [this]; rfl
    · rw [if_neg h]
      have : (some (t : Int) == some (k : Int) || some (t : Int) == some ((k : Int) - 1)) = false := by simp; omega
      rw [this]; rfl
  rw [e2]
  unfold upd2
  by_cases h1 : k = t
  · subst h1; simp
  · by_cases h2 : k = t + 1
    · subst h2; simp
    · rw [if_neg h1, if_neg h2, if_neg (by omega), List.append_nil]
theorem fill_len (l : List Tri) (m k : Nat) : (fill l m k).length ≤ m := by
  unfold fill
  exact Nat.le_trans (List.length_filter_le _ _) (by simp)

theorem nenc_len (x : Nat) : (nenc x).length = 1 := rfl
theorem Own.rdn {w : World} {base : Nat} {e : TypeId} {v : Value} {l : List Nat} {y : Nat} (h : Own 1 nenc w base e v (l ++ [y])) : ∃ A c, v = .slice A (l.length + 1) c := by
  obtain ⟨A, c, h1, _, _⟩ := Own.rd nenc_len h
  exact ⟨A, c, by rw [h1]; simp⟩
theorem infoInt : (Tryz.prog.info? 3).map (fun i => (i.zero, i.size, i.bytes)) = some (some (.int .i64 0), 1, 8) := by kernel_rfl



/-- does work i take place k? -/
def tk (l : List Tri) (k i : Nat) : Bool := (l[i]?.map (·.b)) == some (k : Int) || (l[i]?.map (·.b)) == some ((k : Int) - 1)

/-- the works that take a place and are not in M -/
def rowsOf (l : List Tri) (M : List Nat) (k : Nat) : List Nat := (List.range l.length).filter fun i => tk l k i && !M.contains i

theorem tk_iff {l : List Tri} {k i : Nat} (hi : i < l.length) : tk l k i = true ↔ l[i].b = k ∨ l[i].b = (k : Int) - 1 := by
  unfold tk
  rw [List.getElem?_eq_getElem hi]
  simp

theorem rowsOf_len (l : List Tri) (M : List Nat) (k : Nat) : (rowsOf l M k).length ≤ l.length := by
  unfold rowsOf
  exact Nat.le_trans (List.length_filter_le _ _) (by simp)
theorem rowsOf_mem {l : List Tri} {M : List Nat} {k x : Nat} (h : x ∈ rowsOf l M k) : x < l.length := by
  unfold rowsOf at h
  simpa using (List.mem_filter.1 h).1

theorem filter_head {p : Nat → Bool} {n i : Nat} {r : List Nat} (h : (List.range n).filter p = i :: r) : p i = true ∧ i < n ∧ (∀ j, j < i → p j = false) ∧ r = (List.range n).filter (fun x => p x && decide (x ≠ i)) := by
  have h1 : ((List.range n).filter p).head? = some i := by rw [h]; rfl
  rw [List.head?_filter, List.find?_range_eq_some] at h1
  refine ⟨h1.1, by simpa using h1.2.1, fun j hj => by simpa using h1.2.2 j hj, ?_⟩
  have hnd : ((List.range n).filter p).Nodup := List.Pairwise.filter _ List.nodup_range
  rw [h] at hnd
  have hni : i ∉ r := (List.nodup_cons.1 hnd).1
  have e : (List.range n).filter (fun x => p x && decide (x ≠ i)) = ((List.range n).filter p).filter (fun x => decide (x ≠ i)) := by
    rw [List.filter_filter]
    congr 1
    funext x
    rw [Bool.and_comm]
  rw [e, h, List.filter_cons, if_neg (by simp)]
  symm
  rw [List.filter_eq_self]
  intro x hx
  simp only [ne_eq, decide_eq_true_eq]
  intro e'; subst e'; exact hni hx
theorem filter_head_of {p : Nat → Bool} {n i : Nat} (h1 : p i = true) (h2 : i < n) (h3 : ∀ j, j < i → p j = false) : ∃ r, (List.range n).filter p = i :: r := by
  have h : ((List.range n).filter p).head? = some i := by
    rw [List.head?_filter, List.find?_range_eq_some]
    exact ⟨h1, by simpa using h2, fun j hj => by simp [h3 j hj]⟩
  cases e : (List.range n).filter p with
  | nil => rw [e] at h; cases h
  | cons x r => rw [e] at h; simp at h; exact ⟨r, by rw [h]⟩


/-- work i is ready: not made, and no earlier one that is not made touches it -/
def rdy (l : List Tri) (M : List Nat) (i : Nat) : Prop := ∃ hi : i < l.length, i ∉ M ∧ ∀ j (hj : j < i), j ∉ M → ¬ (l[j].b - l[i].b ≤ 1 ∧ l[i].b - l[j].b ≤ 1)

theorem front_rdy {l : List Tri} {M : List Nat} {a i : Nat} (h : front (rowsOf l M) a = some i) : rdy l M i ∧ ∃ hi : i < l.length, l[i].b = a := by
  obtain ⟨_, r1, r2, h1, h2⟩ := frontZ_some h
  obtain ⟨p1, hi, n1, _⟩ := filter_head h1
  obtain ⟨p2, _, n2, _⟩ := filter_head h2
  simp only [Bool.and_eq_true, Bool.not_eq_true', List.contains_eq_mem, decide_eq_false_iff_not] at p1 p2
  have e1 := (tk_iff hi).1 p1.1
  have e2 := (tk_iff hi).1 p2.1
  have hb : l[i].b = a := by omega
  refine ⟨⟨hi, p1.2, fun j hj hjM ht => ?_⟩, hi, hb⟩
  have hjl : j < l.length := by omega
  have m1 := n1 j hj
  have m2 := n2 j hj
  have nc : M.contains j = false := by simpa using hjM
  rw [nc] at m1 m2
  simp only [Bool.not_false, Bool.and_true] at m1 m2
  have m1' : ¬ (tk l a j = true) := by rw [m1]; simp
  have m2' : ¬ (tk l (a + 1) j = true) := by rw [m2]; simp
  rw [tk_iff hjl] at m1' m2'
  omega

theorem front_of_rdy {l : List Tri} {M : List Nat} {a i : Nat} (h : rdy l M i) (hb : ∀ hi : i < l.length, l[i].b = a) : front (rowsOf l M) a = some i := by
  obtain ⟨hi, hM, hn⟩ := h
  have hb := hb hi
  have nc : M.contains i = false := by simpa using hM
  have aux : ∀ k, (k = a ∨ k = a + 1) → ∃ r, rowsOf l M k = i :: r := fun k hk => by
    refine filter_head_of ?_ hi (fun j hj => ?_)
    · rw [nc, (tk_iff hi).2 (by omega)]; rfl
    · by_cases hjM : j ∈ M
      · have : M.contains j = true := by simpa using hjM
        rw [this]; simp
      · have h1 := hn j hj hjM
        have : ¬ (tk l k j = true) := by rw [tk_iff (by omega)]; omega
        simp [this]
  obtain ⟨r1, h1⟩ := aux a (Or.inl rfl)
  obtain ⟨r2, h2⟩ := aux (a + 1) (Or.inr rfl)
  unfold front
  rw [h1, h2]
  simp

theorem pop_rows {l : List Tri} {M : List Nat} {a i : Nat} (h : front (rowsOf l M) a = some i) : pop (rowsOf l M) a = rowsOf l (M ++ [i]) := by
  obtain ⟨_, hi, hb⟩ := front_rdy h
  obtain ⟨_, r1, r2, h1, h2⟩ := frontZ_some h
  have aux : ∀ (k : Nat) r, rowsOf l M k = i :: r → r = rowsOf l (M ++ [i]) k := fun k r hr => by
    obtain ⟨_, _, _, e⟩ := filter_head hr
    rw [e]
    unfold rowsOf
    congr 1
    funext x
    by_cases hx : x = i <;> simp [hx, Bool.and_assoc]
  funext k
  unfold pop
  split
  · rename_i hk
    rcases hk with rfl | rfl
    · rw [h1]; exact aux _ _ h1
    · rw [h2]; exact aux _ _ h2
  · rename_i hk
    unfold rowsOf
    refine List.filter_congr (fun x hx => ?_)
    have hx' : x < l.length := by simpa using hx
    by_cases e : x = i
    · subst e
      have : ¬ (tk l k x = true) := by rw [tk_iff hx']; omega
      simp [this]
    · simp [e]


/-- what the sweep makes, in which order -/
theorem swp_rows {l : List Tri} {h s : Nat} : ∀ (n a : Nat) (M : List Nat), (swp h s n a (rowsOf l M)).2 = rowsOf l (M ++ (swp h s n a (rowsOf l M)).1)
  | 0, a, M => by simp [swp]
  | n + 1, a, M => by
    unfold swp
    split
    · cases hf : front (rowsOf l M) a with
      | none => simp only [swp_rows n (a + 1) M]
      | some i =>
        simp only [pop_rows hf, swp_rows n (max h (a - 1)) (M ++ [i])]
        simp
    · simp


/-- all that the sweep makes is new, and each once -/
theorem swp_new {l : List Tri} {h s : Nat} : ∀ (n a : Nat) (M : List Nat), M.Nodup → (∀ x ∈ M, x < l.length) → (M ++ (swp h s n a (rowsOf l M)).1).Nodup ∧ ∀ x ∈ M ++ (swp h s n a (rowsOf l M)).1, x < l.length
  | 0, a, M, hM, hl => by simpa [swp] using ⟨hM, hl⟩
  | n + 1, a, M, hM, hl => by
    unfold swp
    split
    · cases hf : front (rowsOf l M) a with
      | none => exact swp_new n (a + 1) M hM hl
      | some i =>
        obtain ⟨⟨hi, hiM, _⟩, _⟩ := front_rdy hf
        have h1 : (M ++ [i]).Nodup := by
          rw [List.nodup_append]
          exact ⟨hM, by simp, fun x hx y hy e => by simp at hy; subst hy; subst e; exact hiM hx⟩
        have h2 : ∀ x ∈ M ++ [i], x < l.length := fun x hx => by
          rcases List.mem_append.1 hx with hx | hx
          · exact hl x hx
          · simp at hx; subst hx; exact hi
        have := swp_new (h := h) (s := s) n (max h (a - 1)) (M ++ [i]) h1 h2
        simp only [pop_rows hf]
        simpa using this
    · simpa using ⟨hM, hl⟩

theorem swp_some_ne {h s : Nat} {f : Nat → List Nat} {b i : Nat} (hf : front f b = some i) (hb : b + 1 < h + s) : ∀ (n a : Nat), a ≤ b → b - a < n → (swp h s n a f).1 ≠ []
  | 0, _, _, h => absurd h (by omega)
  | n + 1, a, h1, h2 => by
    unfold swp
    rw [if_pos (by omega)]
    cases hfa : front f a with
    | none =>
      have : a ≠ b := fun e => by subst e; rw [hf] at hfa; cases hfa
      exact swp_some_ne hf hb n (a + 1) (by omega) (by omega)
    | some j => simp

theorem bestUpto_max (f : Nat → Nat) : ∀ n k, k < n → f k ≤ f (bestUpto f n)
  | 0, _, h => absurd h (by omega)
  | n + 1, k, h => by
    unfold bestUpto
    by_cases e : k = n
    · subst e
      split
      · exact Nat.le_refl _
      · omega
    · have := bestUpto_max f n k (by omega)
      split <;> omega
theorem bestUpto_lt (f : Nat → Nat) : ∀ n, 0 < n → bestUpto f n < n
  | 0, h => absurd h (by omega)
  | n + 1, _ => by
    unfold bestUpto
    split
    · omega
    · by_cases h : n = 0
      · subst h; simp [bestUpto]
      · have := bestUpto_lt f n (by omega); omega

theorem len_of_all : ∀ (n : Nat) (M : List Nat), (∀ i, i < n → i ∈ M) → n ≤ M.length
  | 0, _, _ => Nat.zero_le _
  | n + 1, M, h => by
    have hm := h n (by omega)
    have := len_of_all n (M.erase n) (fun i hi => (List.mem_erase_of_ne (by omega)).2 (h i (by omega)))
    rw [List.length_erase_of_mem hm] at this
    have := List.length_pos_of_mem hm
    omega
theorem len_of_nodup : ∀ (n : Nat) (M : List Nat), M.Nodup → (∀ x ∈ M, x < n) → M.length ≤ n
  | 0, M, _, h => by
    cases M with
    | nil => simp
    | cons x r => exact absurd (h x (by simp)) (by omega)
  | n + 1, M, hn, h => by
    have := len_of_nodup n (M.erase n) (hn.erase n) (fun x hx => by
      have h1 := h x (List.mem_of_mem_erase hx)
      have h2 : x ≠ n := fun e => by subst e; exact (List.Nodup.not_mem_erase hn) hx
      omega)
    rw [List.length_erase] at this
    split at this <;> omega
theorem exists_not_mem {n : Nat} {M : List Nat} (h : M.length < n) : ∃ i, i < n ∧ i ∉ M ∧ ∀ j, j < i → j ∈ M := by
  have h1 : ∃ i, i < n ∧ i ∉ M := by
    refine Classical.byContradiction fun hc => ?_
    have hs : ∀ i, i < n → i ∈ M := fun i hi => Classical.byContradiction fun hm => hc ⟨i, hi, hm⟩
    have := len_of_all n M hs
    omega
  obtain ⟨i, hi, hm⟩ := h1
  induction i using Nat.strongRecOn with
  | _ i ih =>
    by_cases hall : ∀ j, j < i → j ∈ M
    · exact ⟨i, hi, hm, hall⟩
    · simp only [Classical.not_forall] at hall
      obtain ⟨j, hj, hjm⟩ := hall
      exact ih j hj (by omega) hjm


/-- a place from which something can be made -/
theorem much_pos {l : List Tri} {M : List Nat} {p s N : Nat} (hM : M.length < l.length) (hb : ∀ (k : Nat) (hk : k < l.length), 0 ≤ l[k].b ∧ l[k].b ≤ (p : Int) - 2) (h2 : 2 ≤ s) (hsp : s ≤ p) (hN : s ≤ N) :
    0 < offN s N (rowsOf l M) (bestUpto (offN s N (rowsOf l M)) (p - s + 1)) := by
  obtain ⟨i, hi, hiM, hall⟩ := exists_not_mem hM
  obtain ⟨b, hb'⟩ : ∃ b : Nat, l[i].b = b := ⟨l[i].b.toNat, by have := hb i hi; omega⟩
  have hbd := hb i hi
  have hr : rdy l M i := ⟨hi, hiM, fun j hj hjM => absurd (hall j hj) hjM⟩
  have hf := front_of_rdy (a := b) hr (fun _ => hb')
  have h1 := bestUpto_max (offN s N (rowsOf l M)) (p - s + 1) (min b (p - s)) (by omega)
  have h3 : 0 < offN s N (rowsOf l M) (min b (p - s)) := by
    unfold offN
    exact List.length_pos_iff.2 (swp_some_ne hf (by omega) N _ (by omega) (by omega))
  omega

theorem sum_filter_le {p : Nat → Nat → Bool} (hp : ∀ i m, sumTo (fun k => if p k i then [0] else []) m ≤ 2) (R : List Nat) (m : Nat) : sumTo (fun k => R.filter (p k)) m ≤ 2 * R.length := by
  induction R with
  | nil => simp only [List.filter_nil, List.length_nil]; clear hp; induction m with
    | zero => simp [sumTo]
    | succ m ih => simp only [sumTo]; simpa using ih
  | cons x R ih =>
    have e : sumTo (fun k => (x :: R).filter (p k)) m = sumTo (fun k => R.filter (p k)) m + sumTo (fun k => if p k x then [0] else []) m := by
      clear ih hp
      induction m with
      | zero => simp [sumTo]
      | succ m ih =>
        show sumTo (fun k => (x :: R).filter (p k)) m + ((x :: R).filter (p m)).length = sumTo (fun k => R.filter (p k)) m + (R.filter (p m)).length + (sumTo (fun k => if p k x then [0] else []) m + (if p m x then [0] else []).length)
        rw [ih, List.filter_cons]
        split <;> simp <;> omega
    have := hp x m
    rw [e, List.length_cons]
    omega

theorem sumTo_rowsOf (l : List Tri) (M : List Nat) (m : Nat) : sumTo (rowsOf l M) m ≤ 2 * l.length := by
  have h := sum_filter_le (p := fun k i => tk l k i && !M.contains i) (fun i m => ?_) (List.range l.length) m
  · rw [List.length_range] at h; exact h
  · have aux : ∀ m, sumTo (fun k => if (tk l k i && !M.contains i) = true then [0] else []) m ≤ (if ∃ x, l[i]?.map (·.b) = some x ∧ x < m then 1 else 0) + (if ∃ x, l[i]?.map (·.b) = some x ∧ x + 1 < m then 1 else 0) := fun m => by
      induction m with
      | zero => simp [sumTo]
      | succ m ih =>
        simp only [sumTo]
        cases hl : l[i]?.map (·.b) with
        | none =>
          have : tk l m i = false := by unfold tk; rw [hl]; rfl
          simp only [hl, this] at ih ⊢
          simpa using ih
        | some x =>
          simp only [hl, Option.some.injEq, exists_eq_left'] at ih ⊢
          have ht : tk l m i = true → x = m ∨ x = (m : Int) - 1 := fun h => by unfold tk at h; rw [hl] at h; simpa using h
          by_cases h0 : (tk l m i && !M.contains i) = true
          · rw [if_pos h0]
            have := ht (by simp only [Bool.and_eq_true] at h0; exact h0.1)
            simp only [List.length_singleton]
            rcases this with rfl | rfl
            · rw [if_neg (by omega), if_neg (by omega)] at ih
              rw [if_pos (by omega)]
              split <;> omega
            · rw [if_pos (by omega), if_neg (by omega)] at ih
              rw [if_pos (by omega), if_pos (by omega)]
              omega
          · rw [if_neg h0]
            simp only [List.length_nil, Nat.add_zero]
            refine Nat.le_trans ih ?_
            split <;> split <;> split <;> split <;> omega
    refine Nat.le_trans (aux m) ?_
    split <;> split <;> omega

theorem off_le {l : List Tri} {M : List Nat} {s N h : Nat} (hn : M.Nodup) (hl : ∀ x ∈ M, x < l.length) : M.length + offN s N (rowsOf l M) h ≤ l.length := by
  obtain ⟨h1, h2⟩ := swp_new (h := h) (s := s) N h M hn hl
  have := len_of_nodup _ _ h1 h2
  rw [List.length_append] at this
  exact this
theorem fill_all (l : List Tri) : fill l l.length = rowsOf l [] := by
  funext k
  unfold fill rowsOf tk
  simp

theorem fam_end {w : World} {base : Nat} {cs : Array Value} {l : List Tri} {m t : Nat} {v1 v2 : Value} (hcs : cs.size = 24) (ht : t + 1 < 24) (hm : m < l.length) (hb : l[m].b = t)
    (h : Fam2 w base (fun k => cs.getD k undef) (fill l m) t v1 (fill l m t ++ [m]) v2 (fill l m (t + 1) ++ [m])) :
    FamV w base (fun k => ((cs.setIfInBounds t v1).setIfInBounds (t + 1) v2).getD k undef) (fill l (m + 1)) := by
  refine FamV.congr h (fun k hk => ?_) (fun k hk => fill_succ hm hb k)
  unfold upd2
  by_cases e1 : k = t
  · subst e1
    simp [Array.getD, hcs, show k < 24 by omega]
  · by_cases e2 : k = t + 1
    · subst e2
      simp [Array.getD, hcs, ht]
    · rw [if_neg e1, if_neg e2]
      have h1 : ¬ t = k := fun e => e1 e.symm
      have h2 : ¬ t + 1 = k := fun e => e2 e.symm
      simp [Array.getD, hcs, hk, Array.getElem_setIfInBounds, h1, h2]

theorem fam_rows {w : World} {base R : Nat} {cs : Array Value} {ty : TypeId} {f : Nat → List Nat} (hcs : cs.size = 24) (hR : R < base) (hb : Blk w R ty cs) (h : FamV w base (fun k => cs.getD k undef) f) : RowsAt w R w.heap.size f := fun k hk => by
  have ho := h.1 k hk
  obtain ⟨A, c, hv, hc, hd⟩ := Own.rd nenc_len ho
  have e : cs[k]? = some (.slice A (f k).length c) := by
    rw [← hv]
    simp [Array.getD, hcs, hk]
  refine ⟨A, c, hb.cell k _ e, hc, hb.frozen k, hd, fun hne g o z hA => ?_⟩
  obtain ⟨b, o', e', _, _⟩ := hd hne
  rw [e'] at hA
  simp only [Option.some.injEq, Addr.mk.injEq] at hA
  have h1 := (World.ownsRow.lt ho b (by rw [hv, e']; rfl)).1
  omega


/-- the quick instructions -/
def qloop (l : List Tri) (p s N : Nat) : Nat → List Nat → List Tri
  | 0, _ => []
  | n + 1, M => if M.length < l.length then
      ⟨1, bestUpto (offN s N (rowsOf l M)) (p - s + 1), .empty⟩ :: ((swp (bestUpto (offN s N (rowsOf l M)) (p - s + 1)) s N (bestUpto (offN s N (rowsOf l M)) (p - s + 1)) (rowsOf l M)).1.map (stepAt l) ++ qloop l p s N n (M ++ (swp (bestUpto (offN s N (rowsOf l M)) (p - s + 1)) s N (bestUpto (offN s N (rowsOf l M)) (p - s + 1)) (rowsOf l M)).1))
    else []

theorem qloop_step {l : List Tri} {P S N gk h : Nat} {M : List Nat} (hlt : M.length < l.length) (hh : bestUpto (offN S N (rowsOf l M)) (P - S + 1) = h) (hg : 0 < gk) :
    qloop l P S N gk M = ⟨1, h, .empty⟩ :: ((swp h S N h (rowsOf l M)).1.map (stepAt l) ++ qloop l P S N (gk - 1) (M ++ (swp h S N h (rowsOf l M)).1)) := by
  obtain ⟨g, rfl⟩ : ∃ g, gk = g + 1 := ⟨gk - 1, by omega⟩
  subst hh
  rw [qloop, if_pos hlt]
  rfl
theorem qloop_end {l : List Tri} {P S N gk : Nat} {M : List Nat} (hlt : ¬ M.length < l.length) : qloop l P S N gk M = [] := by
  cases gk with
  | zero => rfl
  | succ g => rw [qloop, if_neg hlt]

theorem Own.rdn_far {w : World} {base : Nat} {e : TypeId} {v : Value} {l : List Nat} (h : Own 1 nenc w base e v l) :
    ∃ A c, v = .slice A l.length c ∧ ∀ w', (∀ k, base ≤ k → k < w.heap.size → w'.heap[k]? = w.heap[k]?) → RdN w' w.heap.size A l := by
  obtain ⟨A, c, hv, _, hd⟩ := Own.rd nenc_len h
  refine ⟨A, c, hv, fun w' hw => fun hl => ?_⟩
  obtain ⟨b, o, e', hb, hc⟩ := hd hl
  have h1 := (World.ownsRow.lt h b (by rw [hv, e']; rfl)).1
  exact ⟨b, o, e', hb, fun k x hx j u hu => (World.cell?_of_block (w := w) (hw b h1 hb)).trans (hc k x hx j u hu)⟩
theorem Blk.same {w w' : World} {g : Nat} {t : TypeId} {cs : Array Value} {S : Nat → Prop} (h : Blk w g t cs) (hs : Same S w w') (hg : S g) : Blk w' g t cs := (hs.block g hg).trans h
theorem Same.below_mono {B : Nat} {S : Nat → Prop} {w w' : World} (h : Below B w w') (hS : ∀ k, S k → k < B) : Same S w w' := (Same.of_below h).mono hS
end Go.Proofs.YtohcmfobnkaaiaaGreatDoor

namespace Go.Proofs.YtohcmfobnkaaiaaGreatDoor
open Go Go.RowKit Tor

theorem wpList_append_n {P : Program} {ops : Array Oper} {rest : List Oper} {o : Oper} {a : Act} {Q : Exit → Act → World → Prop} {w : World} (hgd : o.guard = none) (s x : Operand) (t : TypeId)
    (ho : o.op = .call { callee := .builtin .append, args := #[s, x], argTypes := #[t, t] })
    (base : Nat) (e : TypeId) (i : TypeInfo) (z : Value) (ht : P.underlying t = some (.slice e)) (hi : P.info? e = some i) (hz : i.zero = some z)
    (hsize : i.size = 1) (hby : i.bytes = 8) (hzs : z.cells.size = 1)
    (v : Value) (l : List Nat) (hs : a.eval s = v) (hown : Own 1 nenc w base e v l)
    (g : Nat) (y : Nat) (hx : a.eval x = .slice (some ⟨g, 0, none⟩) 1 1)
    (h0 : w.cell? ⟨g, 0, none⟩ = some (.int .i64 y))
    (hlen : l.length ≤ 1000000) (hbase : base ≤ w.heap.size)
    (h : ∀ v' w', Own 1 nenc w' base e v' (l ++ [y]) → w.grownBy w' v.ownBlock → wpList P ops Q rest (a.put o.dst v') w') : wpList P ops Q (o :: rest) a w := by
  refine wpList_append_own w hgd s x t ho base e i z 1 8 ht hi hz hsize hby hzs (by omega) v l.length (l.flatMap nenc) hs hown ⟨g, 0, none⟩ 1 1 (nenc y) hx rfl ?_ ?_ (by unfold maxLen; omega) (by omega) hbase
    (fun v' w' a b _ => h v' w' (Own.append1 rfl a) b)
  · intro j u hu
    match j, hu with
    | 0, hu => simp [nenc] at hu; subst hu; simpa [Addr.add] using h0
  · intro u hu
    simp [nenc] at hu; subst hu; rfl

theorem keepS {base R rb wb : Nat} {w0 w' : World} {tr tw : TypeId} {v u0 u1 u2 : Value} (hr : Blk w0 rb tr #[v]) (hw : Blk w0 wb tw #[u0, u1, u2]) (h1 : tr ≠ 3) (h2 : tw ≠ 3) (h3 : rb ≠ R) (h4 : wb ≠ R) (hk : Kp base R w0 w') :
    w'.cell? ⟨rb, 0, none⟩ = some v ∧ w'.cell? ⟨wb, 1, none⟩ = some u1 := ⟨(hk.2 _ _ _ h1 h3 hr).cell 0 v rfl, (hk.2 _ _ _ h2 h4 hw).cell 1 u1 rfl⟩

theorem cell_new {w : World} {v : Value} {t : TypeId} {n : Nat} (h : n = w.heap.size) : (w.alloc (.cells #[v] t)).cell? ⟨n, 0, none⟩ = some v := by subst h; exact (Blk.new w t #[v]).cell 0 v rfl
theorem cell_old {w : World} {o : Obj} {p : Addr} {v : Value} (h : w.cell? p = some v) : (w.alloc o).cell? p = some v := by
  rw [World.cell?_alloc_lt _ _ _ (World.block_lt_of_cell? w _ h)]; exact h
theorem cell_drew {w : World} {p : Addr} {v : Value} (h : w.cell? p = some v) : w.drew.cell? p = some v := h



end Go.Proofs.YtohcmfobnkaaiaaGreatDoor

namespace Tor
open Go

theorem u64 (a : Nat) (h : a < 18446744073709551616) : (BitVec.ofInt 64 (a : Int)).toNat = a := by
  rw [BitVec.ofInt_natCast, BitVec.toNat_ofNat]; exact Nat.mod_eq_of_lt (by omega)

theorem bor_i64 (a b : Nat) (ha : a < 1048576) (hb : b < 1048576) : bits .or .i64 (a : Int) (b : Int) = ((a ||| b : Nat) : Int) := by
  show IntKind.i64.wrap ((BitVec.ofInt 64 (a : Int) ||| BitVec.ofInt 64 (b : Int)).toNat : Int) = _
  have : a ||| b < 2 ^ 20 := Nat.or_lt_two_pow (by omega) (by omega)
  rw [BitVec.toNat_or, u64 a (by omega), u64 b (by omega)]
  exact Lib.wrap_i64_small _ (by omega)
theorem band_i64 (a b : Nat) (ha : a < 1048576) (hb : b < 1048576) : bits .and .i64 (a : Int) (b : Int) = ((a &&& b : Nat) : Int) := by
  show IntKind.i64.wrap ((BitVec.ofInt 64 (a : Int) &&& BitVec.ofInt 64 (b : Int)).toNat : Int) = _
  have : a &&& b < 2 ^ 20 := Nat.and_lt_two_pow _ (by omega)
  rw [BitVec.toNat_and, u64 a (by omega), u64 b (by omega)]
  exact Lib.wrap_i64_small _ (by omega)

/-- the bits of a that b does not have -/
def dif (a b : Nat) : Nat := a &&& (18446744073709551615 - b)
theorem bnot_i64 (a b : Nat) (ha : a < 1048576) (hb : b < 1048576) : bits .andNot .i64 (a : Int) (b : Int) = ((dif a b : Nat) : Int) := by
  show IntKind.i64.wrap ((BitVec.ofInt 64 (a : Int) &&& ~~~BitVec.ofInt 64 (b : Int)).toNat : Int) = _
  have h : dif a b ≤ a := Nat.and_le_left
  rw [BitVec.toNat_and, BitVec.toNat_not, u64 a (by omega), u64 b (by omega)]
  exact Lib.wrap_i64_small (dif a b) (by omega)
theorem dif_bit (a b : Nat) (ha : a < 1048576) (hb : b < 1048576) (k : Nat) : (dif a b).testBit k = (a.testBit k && !b.testBit k) := by
  unfold dif
  rw [Nat.testBit_and]
  by_cases hk : k < 64
  · congr 1
    have e : 18446744073709551615 - b = 2 ^ 64 - (b + 1) := by omega
    rw [e, Nat.testBit_two_pow_sub_succ (by omega)]
    simp [hk]
  · have : a.testBit k = false := Nat.testBit_lt_two_pow (Nat.lt_of_lt_of_le ha (Nat.le_trans (show 1048576 ≤ 2 ^ 20 by decide) (Nat.pow_le_pow_right (by omega) (show 20 ≤ k by omega))))
    simp [this]
theorem dif_zero {a b : Nat} (ha : a < 1048576) (hb : b < 1048576) : dif a b = 0 ↔ ∀ k, a.testBit k = true → b.testBit k = true := by
  constructor
  · intro h k hk
    have := dif_bit a b ha hb k
    rw [h, hk] at this
    simpa using this
  · intro h
    refine Nat.eq_of_testBit_eq fun k => ?_
    rw [dif_bit a b ha hb k, Nat.zero_testBit]
    cases hk : a.testBit k
    · rfl
    · rw [h k hk]; rfl
theorem shr_and (d i : Nat) : (d / 2 ^ i) &&& 1 = if d.testBit i then 1 else 0 := by
  rw [Nat.and_one_is_mod]
  have : d.testBit i = decide ((d / 2 ^ i) % 2 = 1) := by rw [Nat.testBit_eq_decide_div_mod_eq]
  rw [this]
  by_cases h : (d / 2 ^ i) % 2 = 1
  · simp [h]
  · have : (d / 2 ^ i) % 2 = 0 := by omega
    simp [this]
end Tor
namespace Tor
open Go
theorem shr_test (d i : Nat) (hd : d < 1048576) : (bits .and .i64 ((d : Int) / 2 ^ i) 1 == 0) = !d.testBit i := by
  have e : (d : Int) / 2 ^ i = ((d / 2 ^ i : Nat) : Int) := by
    rw [show ((2 : Int) ^ i) = ((2 ^ i : Nat) : Int) from by simp]
    exact (Int.natCast_ediv d (2 ^ i)).symm
  have h := band_i64 (d / 2 ^ i) 1 (Nat.lt_of_le_of_lt (Nat.div_le_self _ _) hd) (by omega)
  rw [e]
  have h' : bits .and .i64 ((d / 2 ^ i : Nat) : Int) 1 = (((d / 2 ^ i) &&& 1 : Nat) : Int) := h
  rw [h', shr_and]
  cases d.testBit i <;> simp
theorem bnot_test (a b : Nat) (ha : a < 1048576) (hb : b < 1048576) : (bits .andNot .i64 (a : Int) (b : Int) == 0) = decide (dif a b = 0) := by
  rw [bnot_i64 a b ha hb]
  by_cases h : dif a b = 0 <;> simp [h]
end Tor
namespace Tor
open Go Go.RowKit
theorem bor_shl (d i : Nat) (hd : d < 1048576) (hi : i < 20) : bits .or .i64 (d : Int) (wrap64 (2 ^ i)) = ((d ||| 2 ^ i : Nat) : Int) := by
  have h2 : 2 ^ i < 1048576 := Nat.lt_of_lt_of_le (Nat.pow_lt_pow_right (by omega) hi) (by decide)
  have e : (2 : Int) ^ i = ((2 ^ i : Nat) : Int) := by simp
  have ew : wrap64 (2 ^ i) = ((2 ^ i : Nat) : Int) := by
    rw [e]
    have aux : ∀ m : Nat, m < 1048576 → wrap64 (m : Int) = (m : Int) := fun m h => IntWalk.wrap64_in _ ⟨by omega, by omega⟩
    exact aux _ h2
  rw [ew]
  exact bor_i64 d (2 ^ i) hd h2
end Tor

namespace Go.Proofs.YtohcmfobnkaaiaaGreatDoor
open Go Go.RowKit Tor

/-- may work i be done next? (d: what is done; f: what must be done before) -/
def freeB (bf : List Nat) (d i : Nat) : Bool := !d.testBit i && decide (dif (bf.getD i 0) d = 0)

end Go.Proofs.YtohcmfobnkaaiaaGreatDoor

namespace Go.Proofs.YtohcmfobnkaaiaaGreatDoor
open Go Go.RowKit Tor

/-- the places from which a work is in reach -/
def wlo (s : Int) (x : Tri) : Int := max 0 (x.b + 2 - s)
def whi (p s : Int) (x : Tri) : Int := min x.b (p - s)

/-- does work x need no reach, if the hands may lie in lo..hi? -/
def joinB (p s : Int) (x : Tri) (lo hi : Int) : Bool := decide (lo ≤ hi) && decide (max (wlo s x) lo ≤ min (whi p s x) hi)

def nlo (s : Int) (x : Tri) (lo : Int) (j : Bool) : Int := if j then max (wlo s x) lo else wlo s x
def nhi (p s : Int) (x : Tri) (hi : Int) (j : Bool) : Int := if j then min (whi p s x) hi else whi p s x
def nn (j : Bool) : Int := if j then 0 else 1

theorem keepB {w w' : World} {a0 a1 : Addr} {v0 v1 : Value} (h0 : w.cell? a0 = some v0) (h1 : w.cell? a1 = some v1) (hB : Below w.heap.size w w') :
    Below w.heap.size w w' ∧ w'.cell? a0 = some v0 ∧ w'.cell? a1 = some v1 :=
  ⟨hB, (hB.cell (World.block_lt_of_cell? w a0 h0)).trans h0, (hB.cell (World.block_lt_of_cell? w a1 h1)).trans h1⟩


end Go.Proofs.YtohcmfobnkaaiaaGreatDoor

namespace Go.Proofs.YtohcmfobnkaaiaaGreatDoor
open Go Go.RowKit Tor Go.Maps

theorem laidOut : laidOutB Tryz.prog = true := by kernel_rfl

theorem zeroInt (w : World) : (zeroValue 3).run Tryz.prog w = .ok (.int .i64 0) w := by kernel_rfl

def keyL (d lo hi : Int) : Lit := .string (keyBytes [.int .i64 d, .int .i64 lo, .int .i64 hi])
theorem wf_small (n : Int) (h0 : 0 ≤ n) (h1 : n ≤ 100000) : (Lit.int .i64 n).wf = true := WalkArith.wf_i64 (by omega)
theorem cellsInt : Tryz.prog.cellsOf 3 = 1 := by kernel_rfl
theorem key_int (m : Nat) (n : Int) (h0 : 0 ≤ n) (h1 : n ≤ 100000) : Tryz.prog.keyLits (m + 1) 3 [.int .i64 n] = some [.int .i64 n] := by
  unfold Program.keyLits
  simp [Tryz.underlying3, wf_small n h0 h1]
theorem key_is (d a b : Int) : WideAt.IsKeyLit (keyL d a b) := trivial

end Go.Proofs.YtohcmfobnkaaiaaGreatDoor

namespace Go.Proofs.YtohcmfobnkaaiaaGreatDoor
open Go Go.RowKit Tor Go.Maps

def minUpto (g : Nat → Option Int) (n0 : Int) : Nat → Int
  | 0 => n0
  | j + 1 => match g j with
    | some x => min (minUpto g n0 j) x
    | none => minUpto g n0 j
theorem minUpto_congr {g g' : Nat → Option Int} {n0 : Int} : ∀ (j : Nat), (∀ i, i < j → g i = g' i) → minUpto g n0 j = minUpto g' n0 j
  | 0, _ => rfl
  | j + 1, h => by
    unfold minUpto
    rw [h j (by omega), minUpto_congr j (fun i hi => h i (by omega))]
theorem minUpto_bd {g : Nat → Option Int} {n0 : Int} (h0 : 0 ≤ n0) (hg : ∀ i x, g i = some x → 0 ≤ x) : ∀ j, 0 ≤ minUpto g n0 j ∧ minUpto g n0 j ≤ n0
  | 0 => ⟨h0, Int.le_refl _⟩
  | j + 1 => by
    have ih := minUpto_bd h0 hg j
    unfold minUpto
    cases h : g j with
    | none => exact ih
    | some x => have := hg j x h; simp only; omega

def xAt (l : List Tri) (i : Nat) : Tri := l.getD i ⟨0, 0, .empty⟩
theorem xAt_of {l : List Tri} {i : Nat} (h : i < l.length) : xAt l i = l[i] := by unfold xAt; rw [List.getD_eq_getElem?_getD, List.getElem?_eq_getElem h]; rfl


/-- how many of n bits are not set -/
def zeros (n d : Nat) : Nat := ((List.range n).filter fun i => !d.testBit i).length
theorem zeros_or {n d i : Nat} (hi : i < n) (hb : d.testBit i = false) : zeros n (d ||| 2 ^ i) + 1 = zeros n d := by
  unfold zeros
  have h1 : ∀ n, ((List.range n).filter fun j => !(d ||| 2 ^ i).testBit j).length + (if i < n then 1 else 0) = ((List.range n).filter fun j => !d.testBit j).length := fun n => by
    induction n with
    | zero => simp
    | succ n ih =>
      rw [List.range_succ, List.filter_append, List.filter_append, List.length_append, List.length_append, ← ih]
      have e : (d ||| 2 ^ i).testBit n = (d.testBit n || decide (i = n)) := by rw [Nat.testBit_or, Nat.testBit_two_pow]
      simp only [List.filter_cons, List.filter_nil, e]
      by_cases hn : i = n
      · subst hn; simp [hb]
      · by_cases hlt : i < n
        · have : i < n + 1 := by omega
          simp [hn, hlt, this]; omega
        · have : ¬ i < n + 1 := by omega
          simp [hn, hlt, this]
  have := h1 n
  rw [if_pos hi] at this
  exact this
theorem zeros_le (n d : Nat) : zeros n d ≤ n := by unfold zeros; exact Nat.le_trans (List.length_filter_le _ _) (by simp)
theorem zeros_full {n d : Nat} (hd : d < 2 ^ n) (h : zeros n d = 0) : d = 2 ^ n - 1 := by
  have hall : ∀ i, i < n → d.testBit i = true := fun i hi => by
    unfold zeros at h
    have h2 := List.length_eq_zero_iff.1 h
    rw [List.filter_eq_nil_iff] at h2
    simpa using h2 i (by simpa using hi)
  refine Nat.eq_of_testBit_eq fun i => ?_
  rw [Nat.testBit_two_pow_sub_one]
  by_cases hi : i < n
  · simp [hall i hi, hi]
  · simp only [hi, decide_false]
    exact Nat.testBit_lt_two_pow (Nat.lt_of_lt_of_le hd (Nat.pow_le_pow_right (by omega) (by omega)))
theorem zeros_pos {n d : Nat} (hd : d < 2 ^ n) (h : d ≠ 2 ^ n - 1) : 0 < zeros n d := by
  rcases Nat.eq_zero_or_pos (zeros n d) with h0 | h0
  · exact absurd (zeros_full hd h0) h
  · exact h0

section
variable (p s : Int) (l : List Tri) (bf : List Nat)
/-- the fewest reaches from a state on, with fuel -/
def fewF : Nat → Nat → Int → Int → Int
  | 0, _, _, _ => 0
  | k + 1, d, lo, hi => if d = 2 ^ l.length - 1 then 0 else
      minUpto (fun i => if freeB bf d i then some (nn (joinB p s (xAt l i) lo hi) + fewF k (d ||| 2 ^ i) (nlo s (xAt l i) lo (joinB p s (xAt l i) lo hi)) (nhi p s (xAt l i) hi (joinB p s (xAt l i) lo hi))) else none) l.length l.length
def few (d : Nat) (lo hi : Int) : Int := fewF p s l bf (zeros l.length d) d lo hi

/-- what a work costs -/
def cost (d : Nat) (lo hi : Int) (i : Nat) : Option Int :=
  if freeB bf d i then some (nn (joinB p s (xAt l i) lo hi) + few p s l bf (d ||| 2 ^ i) (nlo s (xAt l i) lo (joinB p s (xAt l i) lo hi)) (nhi p s (xAt l i) hi (joinB p s (xAt l i) lo hi))) else none
end
variable {p s : Int} {l : List Tri} {bf : List Nat}

theorem freeB_bit {d i : Nat} (h : freeB bf d i = true) : d.testBit i = false := by
  unfold freeB at h
  simp only [Bool.and_eq_true, Bool.not_eq_true'] at h
  exact h.1
theorem few_full {d : Nat} {lo hi : Int} (h : d = 2 ^ l.length - 1) : few p s l bf d lo hi = 0 := by
  unfold few
  cases zeros l.length d with
  | zero => rfl
  | succ k => rw [fewF, if_pos h]
theorem few_eq {d : Nat} {lo hi : Int} (hd : d < 2 ^ l.length) (h : d ≠ 2 ^ l.length - 1) : few p s l bf d lo hi = minUpto (cost p s l bf d lo hi) l.length l.length := by
  have hp := zeros_pos hd h
  obtain ⟨k, hk⟩ : ∃ k, zeros l.length d = k + 1 := ⟨_, (Nat.sub_add_cancel hp).symm⟩
  rw [few, hk, fewF, if_neg h]
  refine minUpto_congr _ fun i hi => ?_
  unfold cost
  by_cases hf : freeB bf d i = true
  · have hz := zeros_or hi (freeB_bit hf)
    rw [if_pos hf, if_pos hf, few, show zeros l.length (d ||| 2 ^ i) = k by omega]
  · rw [if_neg hf, if_neg hf]
theorem nn_bd (j : Bool) : 0 ≤ nn j ∧ nn j ≤ 1 := by unfold nn; split <;> omega
theorem fewF_bd : ∀ (k d : Nat) (lo hi : Int), 0 ≤ fewF p s l bf k d lo hi ∧ fewF p s l bf k d lo hi ≤ l.length
  | 0, d, lo, hi => by simp [fewF]
  | k + 1, d, lo, hi => by
    unfold fewF
    split
    · simp
    · refine minUpto_bd (by omega) (fun i x hx => ?_) _
      split at hx
      · simp only [Option.some.injEq] at hx
        have := (fewF_bd k (d ||| 2 ^ i) (nlo s (xAt l i) lo (joinB p s (xAt l i) lo hi)) (nhi p s (xAt l i) hi (joinB p s (xAt l i) lo hi))).1
        have := (nn_bd (joinB p s (xAt l i) lo hi)).1
        omega
      · cases hx
theorem few_bd (d : Nat) (lo hi : Int) : 0 ≤ few p s l bf d lo hi ∧ few p s l bf d lo hi ≤ l.length := fewF_bd _ _ _ _
theorem cost_bd {d : Nat} {lo hi : Int} {i : Nat} {x : Int} (h : cost p s l bf d lo hi i = some x) : 0 ≤ x := by
  unfold cost at h
  split at h
  · simp only [Option.some.injEq] at h
    have := (few_bd (p := p) (s := s) (l := l) (bf := bf) (d ||| 2 ^ i) (nlo s (xAt l i) lo (joinB p s (xAt l i) lo hi)) (nhi p s (xAt l i) hi (joinB p s (xAt l i) lo hi))).1
    have := (nn_bd (joinB p s (xAt l i) lo hi)).1
    omega
  · cases h


/-- what the map knows is true -/
def Known (p s : Int) (l : List Tri) (bf : List Nat) (D : DataW Unit) : Prop :=
  ∀ (d : Nat) (lo hi : Int), d < 1024 → 0 ≤ lo → lo ≤ 24 → 0 ≤ hi → hi ≤ 24 → Maps.has D (keyL d lo hi) = true → D.atKey (keyL d lo hi) (.lit (.int .i64 0)) = .lit (.int .i64 (few p s l bf d lo hi))
theorem Known.empty : Known p s l bf (.map []) := fun d lo hi _ _ _ _ _ h => by simp [Maps.has] at h


/-- a slice of numbers, wherever it lies -/
def RdF (w : World) (A : Option Addr) (bf : List Nat) : Prop := bf ≠ [] → ∃ b o, A = some ⟨b, o, none⟩ ∧ ∀ (k : Nat) (x : Nat), bf[k]? = some x → w.cell? ⟨b, o + k, none⟩ = some (.int .i64 (x : Int))
theorem RdF.rd {w : World} {A : Option Addr} {bf : List Nat} (h : RdF w A bf) : RdN w w.heap.size A bf := fun hl => by
  obtain ⟨b, o, e, hc⟩ := h hl
  obtain ⟨x, r, hx⟩ := List.exists_cons_of_ne_nil hl
  refine ⟨b, o, e, lt_of_cell (hc 0 x (by rw [hx]; rfl)), fun k x hx j u hu => ?_⟩
  match j, hu with
  | 0, hu => simp [nenc] at hu; subst hu; simpa using hc k x hx


/-- the planner as it lies in memory -/
structure PlanAt (w : World) (pb sb mb : Nat) (p s : Int) (A : Option Addr) (c : Nat) (l : List Tri) (Ab : Option Addr) (cb : Nat) (bf : List Nat) (H : Nat) : Prop where
  c0 : w.cell? ⟨pb, 0, none⟩ = some (.pointer (some ⟨sb, 0, none⟩))
  c1 : w.cell? ⟨pb, 1, none⟩ = some (.int .i64 s)
  c2 : w.cell? ⟨pb, 2, none⟩ = some (.slice Ab bf.length cb)
  c3 : w.cell? ⟨pb, 3, none⟩ = some (.map (some mb))
  s0 : w.cell? ⟨sb, 0, none⟩ = some (.int .i64 p)
  s1 : w.cell? ⟨sb, 1, none⟩ = some (.slice A l.length c)
  hr : RdT w H A l
  hH : H ≤ w.heap.size
  hHm : H ≤ mb
  hbf : RdF w Ab bf
theorem Same.of_below' {w w' : World} {mb : Nat} (h : Below w.heap.size w w') : Same (fun j => j < w.heap.size ∧ j ≠ mb) w w' := (Same.of_below h).mono (fun k hk => hk.1)

/-- one step behind another -/
theorem Same.step {w w1 w2 : World} {mb : Nat} (h : Same (fun j => j < w.heap.size ∧ j ≠ mb) w w1) (g : Same (fun j => j < w1.heap.size ∧ j ≠ mb) w1 w2) : Same (fun j => j < w.heap.size ∧ j ≠ mb) w w2 :=
  h.trans (g.mono fun k hk => ⟨Nat.lt_of_lt_of_le hk.1 h.size, hk.2⟩)
end Go.Proofs.YtohcmfobnkaaiaaGreatDoor

namespace Go.Proofs.YtohcmfobnkaaiaaGreatDoor
open Go Go.RowKit Tor Go.Maps

theorem map_heap {w w' : World} {k : TypeId} {R : Value → Option (DataW Unit × List MemPlace)} {b n : Nat} {D : DataW Unit} (h : w.ownsMap Tryz.prog k R b n D) (e : w'.heap = w.heap) : w'.ownsMap Tryz.prog k R b n D := by
  obtain ⟨es, clock, hb, r⟩ := h
  exact ⟨es, clock, by rw [e]; exact hb, r⟩


/-- what is known of the numbers -/
structure PlanOk (p s : Int) (l : List Tri) (bf : List Nat) : Prop where
  n : bf.length = l.length
  n10 : l.length ≤ 10
  b1 : 2 ≤ s
  b2 : s ≤ p
  b3 : p ≤ 24
  hb : ∀ (k : Nat) (hk : k < l.length), 0 ≤ l[k].b ∧ l[k].b ≤ p - 2
  bits : ∀ k, k < bf.length → bf.getD k 0 < 1024

theorem two_pow_le {n : Nat} (h : n ≤ 10) : 1 ≤ 2 ^ n ∧ 2 ^ n ≤ 1024 := ⟨Nat.one_le_two_pow, Nat.le_trans (Nat.pow_le_pow_right (by omega) h) (by decide)⟩

theorem next_bd {p s : Int} {x : Tri} {lo hi : Int} {j : Bool} (b1 : 2 ≤ s) (b2 : s ≤ p) (b3 : p ≤ 24) (b4 : 0 ≤ x.b) (b5 : x.b ≤ p - 2) (g1 : 0 ≤ lo) (g2 : lo ≤ 24) (g3 : 0 ≤ hi) (g4 : hi ≤ 24) :
    0 ≤ nlo s x lo j ∧ nlo s x lo j ≤ 24 ∧ 0 ≤ nhi p s x hi j ∧ nhi p s x hi j ≤ 24 := by
  unfold nlo nhi wlo whi
  cases j <;> simp <;> omega
theorem cost_free {p s : Int} {l : List Tri} {bf : List Nat} {d : Nat} {lo hi : Int} {j : Nat} (hj : j < l.length) {d2 : Nat} {lo2 hi2 c1 F2 : Int} (hf : freeB bf d j = true) (h1 : d ||| 2 ^ j = d2) (h2 : nlo s l[j] lo (joinB p s l[j] lo hi) = lo2) (h3 : nhi p s l[j] hi (joinB p s l[j] lo hi) = hi2)
    (h4 : nn (joinB p s l[j] lo hi) = c1) (h5 : few p s l bf d2 lo2 hi2 = F2) : cost p s l bf d lo hi j = some (c1 + F2) := by
  unfold cost
  rw [if_pos hf, xAt_of hj, h1, h2, h3, h4, h5]
theorem cost_not {p s : Int} {l : List Tri} {bf : List Nat} {d : Nat} {lo hi : Int} {j : Nat} (hf : freeB bf d j = false) : cost p s l bf d lo hi j = none := by
  unfold cost
  rw [if_neg (by simp [hf])]
theorem minUpto_some {g : Nat → Option Int} {n0 : Int} {j : Nat} {x m : Int} (hm : m = minUpto g n0 j) (hg : g j = some x) : min m x = minUpto g n0 (j + 1) := by rw [minUpto, hg, hm]
theorem minUpto_none {g : Nat → Option Int} {n0 : Int} {j : Nat} {m : Int} (hm : m = minUpto g n0 j) (hg : g j = none) : m = minUpto g n0 (j + 1) := by rw [minUpto, hg, hm]
theorem pow_step {n j k len : Nat} (hj : j < len) (hl : len ≤ 10) (h : n + 11 ^ (k + 1) ≤ 1000000000000000) : n + j * 11 ^ k + 11 ^ k ≤ 1000000000000000 := by
  rw [Nat.pow_succ] at h
  have : j * 11 ^ k + 11 ^ k ≤ 11 ^ k * 11 := by
    have : (j + 1) * 11 ^ k ≤ 11 * 11 ^ k := Nat.mul_le_mul_right _ (by omega)
    rw [Nat.add_mul, Nat.one_mul] at this
    rw [Nat.mul_comm (11 ^ k) 11]; exact this
  omega
theorem pow_next (n j k : Nat) : n + j * 11 ^ k + 11 ^ k = n + (j + 1) * 11 ^ k := by rw [Nat.add_mul, Nat.one_mul]; omega
theorem pow_big {n k len : Nat} (hl : len ≤ 10) (h : n + 11 ^ (k + 1) ≤ 1000000000000000) : n + len * 11 ^ k < 1000000000000000000 := by
  have h1 : len * 11 ^ k ≤ 11 * 11 ^ k := Nat.mul_le_mul_right _ (by omega)
  rw [Nat.pow_succ, Nat.mul_comm (11 ^ k) 11] at h
  generalize 11 * 11 ^ k = x at *
  generalize len * 11 ^ k = y at *
  omega
theorem pow_end {n k len : Nat} (hl : len ≤ 10) : n + len * 11 ^ k + 1 ≤ n + 11 ^ (k + 1) := by
  have h1 : len * 11 ^ k ≤ 10 * 11 ^ k := Nat.mul_le_mul_right _ hl
  have h2 : 1 ≤ 11 ^ k := Nat.one_le_pow _ _ (by omega)
  rw [Nat.pow_succ]
  omega



end Go.Proofs.YtohcmfobnkaaiaaGreatDoor

namespace Go.Proofs.YtohcmfobnkaaiaaGreatDoor
open Go Go.RowKit Tor

/-- levels of the first works, and what comes next at each place -/
structure LvInv (l : List Tri) (L : List Nat) (N : Nat → Nat) : Prop where
  le : ∀ q, N q ≤ L.length
  len : L.length ≤ l.length
  nx : ∀ (k : Nat) (hk : k < L.length) (hk' : k < l.length) (q : Nat), (l[k].b = q ∨ l[k].b + 1 = q) → L[k] < N q
  ord : ∀ (k i : Nat) (hki : k < i) (hi : i < L.length) (hi' : i < l.length), touchB l[k].b l[i].b = true → L[k] < L[i]

theorem LvInv.start (l : List Tri) : LvInv l [] (fun _ => 0) := ⟨fun _ => Nat.le_refl _, Nat.zero_le _, fun k hk => by simp at hk, fun k i _ hi => by simp at hi⟩

theorem LvInv.step {l : List Tri} {L : List Nat} {N : Nat → Nat} {t n : Nat} (h : LvInv l L N) (hlt : L.length < l.length) (ht : l[L.length].b = t) (hn1 : N t ≤ n) (hn2 : N (t + 1) ≤ n) (hn3 : n ≤ L.length) :
    LvInv l (L ++ [n]) (fun q => if q = t ∨ q = t + 1 then n + 1 else N q) := by
  refine ⟨fun q => ?_, by simp; omega, fun k hk hk' q hq => ?_, fun k i hki hi hi' hto => ?_⟩
  · have := h.le q
    split <;> simp <;> omega
  · simp only [List.length_append, List.length_cons, List.length_nil] at hk
    by_cases e : k < L.length
    · rw [List.getElem_append_left e]
      have := h.nx k e hk' q hq
      split
      · rename_i hqt
        rcases hqt with rfl | rfl <;> omega
      · exact this
    · obtain rfl : k = L.length := by omega
      rw [List.getElem_append_right (by omega)]
      simp only [Nat.sub_self, List.getElem_cons_zero]
      rw [if_pos (by omega)]
      omega
  · simp only [List.length_append, List.length_cons, List.length_nil] at hi
    have hkl : k < L.length := by omega
    rw [List.getElem_append_left hkl]
    by_cases e : i < L.length
    · rw [List.getElem_append_left e]
      exact h.ord k i hki e hi' hto
    · obtain rfl : i = L.length := by omega
      rw [List.getElem_append_right (by omega)]
      simp only [Nat.sub_self, List.getElem_cons_zero]
      unfold touchB at hto
      simp only [Bool.and_eq_true, decide_eq_true_eq] at hto
      rw [ht] at hto
      rcases (show l[k].b = t ∨ l[k].b + 1 = t ∨ l[k].b = t + 1 by omega) with e1 | e1 | e1
      · have := h.nx k hkl (by omega) t (Or.inl e1); omega
      · have := h.nx k hkl (by omega) t (Or.inr e1); omega
      · have := h.nx k hkl (by omega) (t + 1) (Or.inl (by omega)); omega

def LevPost (l : List Tri) (w : World) (e : Ending) (w' : World) : Prop :=
  ∃ (v : Value) (L : List Nat), e = .returned (.tuple #[v, .int .i64 0]) ∧ Own 1 nenc w' w.heap.size 3 v L ∧ L.length = l.length ∧ Hid (∀ x ∈ L, x ≤ 1000) ∧ Hid (∀ (k i : Nat) (hki : k < i) (hi : i < L.length) (hi' : i < l.length), touchB l[k].b l[i].b = true → L[k] < L[i]) ∧ Below w.heap.size w w'


end Go.Proofs.YtohcmfobnkaaiaaGreatDoor

namespace Go.Proofs.YtohcmfobnkaaiaaGreatDoor
open Go Go.RowKit Tor

def bitsUpto (f : Nat → Bool) : Nat → Nat
  | 0 => 0
  | k + 1 => if f k then bitsUpto f k ||| 2 ^ k else bitsUpto f k
theorem bitsUpto_lt (f : Nat → Bool) : ∀ k, bitsUpto f k < 2 ^ k
  | 0 => by simp [bitsUpto]
  | k + 1 => by
    have ih := bitsUpto_lt f k
    unfold bitsUpto
    have h : 2 ^ k < 2 ^ (k + 1) := Nat.pow_lt_pow_right (by omega) (by omega)
    split
    · exact Nat.or_lt_two_pow (by omega) h
    · omega
theorem bitsUpto_bit (f : Nat → Bool) : ∀ k i, (bitsUpto f k).testBit i = (decide (i < k) && f i)
  | 0, i => by simp [bitsUpto]
  | k + 1, i => by
    have ih := bitsUpto_bit f k i
    unfold bitsUpto
    by_cases hf : f k = true
    · rw [if_pos hf, Nat.testBit_or, ih, Nat.testBit_two_pow]
      by_cases e : k = i
      · subst e; simp [hf]
      · have : (i < k + 1) ↔ (i < k) := by omega
        simp [e, this]
    · rw [if_neg hf, ih]
      by_cases e : k = i
      · subst e; simp [hf]
      · have : (i < k + 1) ↔ (i < k) := by omega
        simp [this]
theorem bitsUpto_congr {f g : Nat → Bool} : ∀ k, (∀ i, i < k → f i = g i) → bitsUpto f k = bitsUpto g k
  | 0, _ => rfl
  | k + 1, h => by unfold bitsUpto; rw [h k (by omega), bitsUpto_congr k (fun i hi => h i (by omega))]

def touchAt (l : List Tri) (i k : Nat) : Bool := touchB (xAt l k).b (xAt l i).b

/-- what must be done before work i -/
def bfAt (l : List Tri) (i : Nat) : Nat := bitsUpto (touchAt l i) i
def bfL (l : List Tri) : List Nat := (List.range l.length).map (bfAt l)
theorem bfL_len (l : List Tri) : (bfL l).length = l.length := by simp [bfL]
theorem bfL_get {l : List Tri} {i : Nat} (hi : i < l.length) : (bfL l).getD i 0 = bfAt l i := by
  unfold bfL
  rw [List.getD_eq_getElem?_getD, List.getElem?_map, List.getElem?_range hi]; rfl
theorem bfAt_lt {l : List Tri} {i : Nat} (hi : i < 10) : bfAt l i < 1024 := Nat.lt_of_lt_of_le (bitsUpto_lt _ i) (Nat.le_trans (Nat.pow_le_pow_right (by omega) (show i ≤ 10 by omega)) (by decide))

section
variable (p s : Int) (l : List Tri) (bf : List Nat)
/-- the first work with which the fewest reaches are left -/
def pick (d : Nat) (lo hi : Int) : Option Nat := (List.range l.length).find? fun i => decide (cost p s l bf d lo hi i = some (few p s l bf d lo hi))

/-- the order that is taken -/
def bsel : Nat → Nat → Int → Int → List Nat
  | 0, _, _, _ => []
  | k + 1, d, lo, hi => match pick p s l bf d lo hi with
    | some i => i :: bsel k (d ||| 2 ^ i) (nlo s (xAt l i) lo (joinB p s (xAt l i) lo hi)) (nhi p s (xAt l i) hi (joinB p s (xAt l i) lo hi))
    | none => []
end
variable {p s : Int} {l : List Tri} {bf : List Nat}

theorem minUpto_le {g : Nat → Option Int} {n0 : Int} : ∀ {j i : Nat} {x : Int}, i < j → g i = some x → minUpto g n0 j ≤ x
  | 0, _, _, h, _ => absurd h (by omega)
  | j + 1, i, x, h, hg => by
    unfold minUpto
    by_cases e : i = j
    · subst e; rw [hg]; simp only; omega
    · have := minUpto_le (g := g) (n0 := n0) (j := j) (i := i) (by omega) hg
      cases hj : g j with
      | none => exact this
      | some y => simp only; omega
theorem minUpto_at {g : Nat → Option Int} {n0 : Int} : ∀ {j : Nat}, minUpto g n0 j = n0 ∨ ∃ i, i < j ∧ g i = some (minUpto g n0 j)
  | 0 => Or.inl rfl
  | j + 1 => by
    unfold minUpto
    have ih := minUpto_at (g := g) (n0 := n0) (j := j)
    cases hj : g j with
    | none =>
      rcases ih with h | ⟨i, hi, h⟩
      · exact Or.inl h
      · exact Or.inr ⟨i, by omega, h⟩
    | some y =>
      simp only
      by_cases hy : y ≤ minUpto g n0 j
      · exact Or.inr ⟨j, by omega, by rw [hj]; congr 1; omega⟩
      · have e : min (minUpto g n0 j) y = minUpto g n0 j := by omega
        rw [e]
        rcases ih with h | ⟨i, hi, h⟩
        · exact Or.inl h
        · exact Or.inr ⟨i, by omega, h⟩


/-- only what comes earlier must be done before -/
def BfOk (l : List Tri) (bf : List Nat) : Prop := ∀ i k, i < l.length → (bf.getD i 0).testBit k = true → k < i
theorem bfL_ok (l : List Tri) : BfOk l (bfL l) := fun i k hi h => by
  rw [bfL_get hi, bfAt, bitsUpto_bit] at h
  simp only [Bool.and_eq_true, decide_eq_true_eq] at h
  exact h.1

theorem exists_free (hb : BfOk l bf) (hbits : ∀ k, k < l.length → bf.getD k 0 < 1024) (h10 : l.length ≤ 10) {d : Nat} (hd : d < 2 ^ l.length) (h : d ≠ 2 ^ l.length - 1) : ∃ i, i < l.length ∧ freeB bf d i = true := by
  have hp := zeros_pos hd h
  unfold zeros at hp
  cases hf : (List.range l.length).filter (fun i => !d.testBit i) with
  | nil => rw [hf] at hp; simp at hp
  | cons i r =>
    obtain ⟨h1, h2, h3, _⟩ := filter_head hf
    refine ⟨i, h2, ?_⟩
    unfold freeB
    simp only [Bool.not_eq_true'] at h1
    have hd2 := two_pow_le h10
    have hbi := hbits i h2
    have hz : dif (bf.getD i 0) d = 0 := (dif_zero (by omega) (by omega)).2 fun k hk => by
      have := h3 k (hb i k h2 hk)
      simpa using this
    rw [h1, hz]
    rfl

theorem cost_def {d : Nat} {lo hi : Int} {i : Nat} (hf : freeB bf d i = true) : cost p s l bf d lo hi i = some (nn (joinB p s (xAt l i) lo hi) + few p s l bf (d ||| 2 ^ i) (nlo s (xAt l i) lo (joinB p s (xAt l i) lo hi)) (nhi p s (xAt l i) hi (joinB p s (xAt l i) lo hi))) := by
  unfold cost
  rw [if_pos hf]
theorem few_zeros (hb : BfOk l bf) (hbits : ∀ k, k < l.length → bf.getD k 0 < 1024) (h10 : l.length ≤ 10) : ∀ (k d : Nat) (lo hi : Int), zeros l.length d = k → d < 2 ^ l.length → few p s l bf d lo hi ≤ k := by
  intro k
  induction k with
  | zero =>
    intro d lo hi hz hd
    rw [few_full (zeros_full hd hz)]
    exact Int.le_refl _
  | succ k ih =>
    intro d lo hi hz hd
    by_cases h : d = 2 ^ l.length - 1
    · rw [few_full h]; omega
    · obtain ⟨i, hi', hf⟩ := exists_free hb hbits h10 hd h
      rw [few_eq hd h]
      have hz2 := zeros_or hi' (freeB_bit hf)
      have hc := cost_def (p := p) (s := s) (l := l) (lo := lo) (hi := hi) hf
      have h1 := minUpto_le (n0 := (l.length : Int)) hi' hc
      have h2 := ih (d ||| 2 ^ i) (nlo s (xAt l i) lo (joinB p s (xAt l i) lo hi)) (nhi p s (xAt l i) hi (joinB p s (xAt l i) lo hi)) (by omega) (Nat.or_lt_two_pow hd (Nat.pow_lt_pow_right (by omega) hi'))
      have h3 := nn_bd (joinB p s (xAt l i) lo hi)
      omega

theorem pick_some (hb : BfOk l bf) (hbits : ∀ k, k < l.length → bf.getD k 0 < 1024) (h10 : l.length ≤ 10) {d : Nat} {lo hi : Int} (hd : d < 2 ^ l.length) (h : d ≠ 2 ^ l.length - 1) : ∃ i, pick p s l bf d lo hi = some i := by
  have hz := few_zeros (p := p) (s := s) hb hbits h10 (zeros l.length d) d lo hi rfl hd
  obtain ⟨i, hi', hf⟩ := exists_free hb hbits h10 hd h
  have hz2 := zeros_or hi' (freeB_bit hf)
  have hex : ∃ i, i < l.length ∧ cost p s l bf d lo hi i = some (few p s l bf d lo hi) := by
    rw [few_eq hd h]
    rcases minUpto_at (g := cost p s l bf d lo hi) (n0 := (l.length : Int)) (j := l.length) with e | ⟨i, h1, h2⟩
    · refine ⟨i, hi', ?_⟩
      have hc := cost_def (p := p) (s := s) (l := l) (lo := lo) (hi := hi) hf
      have h1 := minUpto_le (n0 := (l.length : Int)) hi' hc
      have h2 := few_zeros (p := p) (s := s) hb hbits h10 _ (d ||| 2 ^ i) (nlo s (xAt l i) lo (joinB p s (xAt l i) lo hi)) (nhi p s (xAt l i) hi (joinB p s (xAt l i) lo hi)) rfl (Nat.or_lt_two_pow hd (Nat.pow_lt_pow_right (by omega) hi'))
      have h3 := nn_bd (joinB p s (xAt l i) lo hi)
      have h4 := zeros_le l.length d
      rw [hc, e]
      congr 1
      omega
    · exact ⟨i, h1, h2⟩
  obtain ⟨i, h1, h2⟩ := hex
  cases hp : pick p s l bf d lo hi with
  | some j => exact ⟨j, rfl⟩
  | none =>
    unfold pick at hp
    rw [List.find?_eq_none] at hp
    exact absurd h2 (by simpa using hp i (by simpa using h1))
theorem pick_spec {d : Nat} {lo hi : Int} {i : Nat} (h : pick p s l bf d lo hi = some i) : i < l.length ∧ cost p s l bf d lo hi i = some (few p s l bf d lo hi) ∧ ∀ j, j < i → cost p s l bf d lo hi j ≠ some (few p s l bf d lo hi) := by
  unfold pick at h
  rw [List.find?_range_eq_some] at h
  exact ⟨by simpa using h.2.1, by simpa using h.1, fun j hj => by simpa using h.2.2 j hj⟩
theorem cost_isfree {d : Nat} {lo hi : Int} {i : Nat} {x : Int} (h : cost p s l bf d lo hi i = some x) : freeB bf d i = true := by
  unfold cost at h
  by_cases hf : freeB bf d i = true
  · exact hf
  · rw [if_neg hf] at h; cases h
end Go.Proofs.YtohcmfobnkaaiaaGreatDoor

namespace Go.Proofs.YtohcmfobnkaaiaaGreatDoor
open Go Go.RowKit Tor Go.Maps

theorem RdN.rdf {w : World} {B : Nat} {A : Option Addr} {bf : List Nat} (h : RdN w B A bf) : RdF w A bf := fun hl => by
  obtain ⟨b, o, e, _, hc⟩ := h hl
  exact ⟨b, o, e, fun k x hx => by simpa using hc k x hx 0 _ rfl⟩
theorem RdF.same {w w' : World} {A : Option Addr} {bf : List Nat} {T : Nat → Prop} (h : RdF w A bf) (hs : Same T w w') (hT : ∀ b o v, A = some ⟨b, o, none⟩ → w.cell? ⟨b, o, none⟩ = some v → T b) : RdF w' A bf := fun hl => by
  obtain ⟨b, o, e, hc⟩ := h hl
  obtain ⟨x, r, hx⟩ := List.exists_cons_of_ne_nil hl
  have h0 := hc 0 x (by rw [hx]; rfl)
  exact ⟨b, o, e, fun k x hx => (hs.cell (p := ⟨b, o + k, none⟩) (hT b o _ e h0)).trans (hc k x hx)⟩
theorem Own.rdfb {w : World} {base : Nat} {e : TypeId} {v : Value} {l : List Nat} (h : Own 1 nenc w base e v l) :
    ∃ A c, v = .slice A l.length c ∧ RdF w A l ∧ ∀ b o, A = some ⟨b, o, none⟩ → base ≤ b ∧ b < w.heap.size := by
  obtain ⟨A, c, hv, _, hd⟩ := Own.rd nenc_len h
  exact ⟨A, c, hv, RdN.rdf hd, fun b o e' => World.ownsRow.lt h b (by rw [hv, e']; rfl)⟩
theorem RdF.at {w : World} {A : Option Addr} {bf : List Nat} (h : RdF w A bf) {k : Nat} (hk : k < bf.length) : ∃ b o, A = some ⟨b, o, none⟩ ∧ ∀ (j : Nat) (hj : j < bf.length), w.cell? ⟨b, o + j, none⟩ = some (.int .i64 (bf[j] : Int)) := by
  obtain ⟨b, o, e, hc⟩ := h (by intro e; subst e; simp at hk)
  exact ⟨b, o, e, fun j hj => hc j _ (List.getElem?_eq_getElem hj)⟩

theorem Same.of_below_T {w w' : World} {T : Nat → Prop} (h : Below w.heap.size w w') (hT : ∀ k, T k → k < w.heap.size) : Same T w w' := (Same.of_below h).mono hT
theorem Own.same {α : Type} {sz : Nat} {enc : α → List Value} {w w' : World} {base : Nat} {e : TypeId} {v : Value} {l : List α} {T : Nat → Prop} (h : Own sz enc w base e v l) (hs : Same T w w') (hT : ∀ g, v.ownBlock = some g → T g) : Own sz enc w' base e v l := by
  obtain ⟨h1, h2⟩ := h
  refine ⟨h1, ?_⟩
  rcases h2 with h2 | ⟨g, cap, cur, rfl, hg, hh, r⟩
  · exact Or.inl h2
  · exact Or.inr ⟨g, cap, cur, rfl, hg, (hs.block g (hT g rfl)).trans hh, r⟩
theorem pow10 : (11 : Nat) ^ 10 ≤ 30000000000 := by decide
theorem planOk_bfL {P S : Nat} {l : List Tri} (hl : l.length ≤ 10) (b1 : 2 ≤ S) (b2 : S ≤ P) (b3 : P ≤ 24) (hb : ∀ (k : Nat) (hk : k < l.length), 0 ≤ l[k].b ∧ l[k].b ≤ (P : Int) - 2) : PlanOk P S l (bfL l) :=
  ⟨bfL_len l, hl, by omega, by omega, by omega, hb, fun k hk => by rw [bfL_len] at hk; rw [bfL_get hk]; exact bfAt_lt (by omega)⟩
theorem bsel_step {p s : Int} {l : List Tri} {bf : List Nat} {k d : Nat} {lo hi : Int} {i d2 : Nat} {lo2 hi2 : Int} (hk : 0 < k) (h : pick p s l bf d lo hi = some i) (hi' : i < l.length) (h1 : d ||| 2 ^ i = d2) (h2 : nlo s l[i] lo (joinB p s l[i] lo hi) = lo2) (h3 : nhi p s l[i] hi (joinB p s l[i] lo hi) = hi2) :
    bsel p s l bf k d lo hi = i :: bsel p s l bf (k - 1) d2 lo2 hi2 := by
  obtain ⟨g, rfl⟩ : ∃ g, k = g + 1 := ⟨k - 1, by omega⟩
  rw [bsel, h]
  simp only [xAt_of hi', h1, h2, h3]
  rfl
theorem pick_of {p s : Int} {l : List Tri} {bf : List Nat} {d : Nat} {lo hi : Int} {i : Nat} (hi' : i < l.length) (hc : cost p s l bf d lo hi i = some (few p s l bf d lo hi)) (hn : ∀ j, j < i → cost p s l bf d lo hi j ≠ some (few p s l bf d lo hi)) : pick p s l bf d lo hi = some i := by
  unfold pick
  rw [List.find?_range_eq_some]
  exact ⟨by simpa using hc, by simpa using hi', fun j hj => by simpa using hn j hj⟩
theorem zeros_zero (n : Nat) : zeros n 0 = n := by
  unfold zeros
  rw [List.filter_eq_self.2 (by simp)]
  simp
theorem zeros_none {n d : Nat} (h : zeros n d = 0 → False) : 0 < zeros n d := Nat.pos_of_ne_zero h
theorem not_full {n d : Nat} (h : 0 < zeros n d) : d ≠ 2 ^ n - 1 := fun e => by
  have : zeros n d = 0 := by
    unfold zeros
    rw [List.length_eq_zero_iff, List.filter_eq_nil_iff]
    intro i hi
    have hi' : i < n := by simpa using hi
    rw [e, Nat.testBit_two_pow_sub_one]
    simp [hi']
  omega


end Go.Proofs.YtohcmfobnkaaiaaGreatDoor

namespace Go.Proofs.YtohcmfobnkaaiaaGreatDoor
open Go Go.RowKit Tor

theorem wpList_append_i {P : Program} {ops : Array Oper} {rest : List Oper} {o : Oper} {a : Act} {Q : Exit → Act → World → Prop} {w : World} (hgd : o.guard = none) (s x : Operand) (t : TypeId)
    (ho : o.op = .call { callee := .builtin .append, args := #[s, x], argTypes := #[t, t] })
    (base : Nat) (e : TypeId) (i : TypeInfo) (z : Value) (ht : P.underlying t = some (.slice e)) (hi : P.info? e = some i) (hz : i.zero = some z)
    (hsize : i.size = 1) (hby : i.bytes = 8) (hzs : z.cells.size = 1)
    (v : Value) (l : List Int) (hs : a.eval s = v) (hown : Own 1 ienc w base e v l)
    (g : Nat) (y : Int) (hx : a.eval x = .slice (some ⟨g, 0, none⟩) 1 1)
    (h0 : w.cell? ⟨g, 0, none⟩ = some (.int .i64 y))
    (hlen : l.length ≤ 1000000) (hbase : base ≤ w.heap.size)
    (h : ∀ v' w', Own 1 ienc w' base e v' (l ++ [y]) → w.grownBy w' v.ownBlock → wpList P ops Q rest (a.put o.dst v') w') : wpList P ops Q (o :: rest) a w := by
  refine wpList_append_own w hgd s x t ho base e i z 1 8 ht hi hz hsize hby hzs (by omega) v l.length (l.flatMap ienc) hs hown ⟨g, 0, none⟩ 1 1 (ienc y) hx rfl ?_ (int_one y) (by unfold maxLen; omega) (by omega) hbase
    (fun v' w' a b _ => h v' w' (Own.append1 rfl a) b)
  intro j u hu
  match j, hu with
  | 0, hu => simp [ienc] at hu; subst hu; simpa [Addr.add] using h0


/-- the places of the reaches -/
def placesOf (l : List Tri) : List Int := (l.filter fun x => decide (x.a = 1)).map (·.b)
theorem placesOf_snoc (l : List Tri) (k : Nat) (h : k < l.length) : placesOf (l.take (k + 1)) = placesOf (l.take k) ++ (if l[k].a = 1 then [l[k].b] else []) := by
  rw [take_snoc l k h]
  unfold placesOf
  rw [List.filter_append, List.map_append]
  by_cases e : l[k].a = 1 <;> simp [e]
theorem placesOf_len (l : List Tri) (k : Nat) : (placesOf (l.take k)).length ≤ k := by
  unfold placesOf
  rw [List.length_map]
  exact Nat.le_trans (List.length_filter_le _ _) (List.length_take_le _ _)

def exW : ByteArray := ⟨#[67, 84]⟩

/-- the sheet of the examples -/
def exL : List Tri := [⟨1, 0, exW⟩, ⟨1, 3, exW⟩, ⟨1, 0, exW⟩, ⟨1, 3, exW⟩]

theorem ex_steps : placesOf (rst 5 2 exL (-1)) = [0, 3, 0, 3] := by decide
theorem ex_best : placesOf (rst ((5 : Nat) : Int) ((2 : Nat) : Int) ((bsel ((5 : Nat) : Int) ((2 : Nat) : Int) exL (bfL exL) 4 0 1 0).map (xAt exL)) (-1)) = [0, 3] := by decide
theorem ex_best6 : (rst ((5 : Nat) : Int) ((2 : Nat) : Int) ((bsel ((5 : Nat) : Int) ((2 : Nat) : Int) exL (bfL exL) 4 0 1 0).map (xAt exL)) (-1)).length = 6 := by decide
theorem ex_quick : placesOf (qloop exL 5 5 2000 4 []) = [0] := by decide
theorem ex_chk2 : chkE 5 exL 2 = 0 := by decide
theorem ex_chk5 : chkE 5 exL 5 = 0 := by decide
theorem ex_sheet : sheetE 5 exL = 0 := by decide
end Go.Proofs.YtohcmfobnkaaiaaGreatDoor

namespace Go.Proofs.YtohcmfobnkaaiaaGreatDoor
open Go Go.RowKit Tor

/-- the sheet of the examples in memory -/
def ExPost (w : World) (e : Ending) (w' : World) : Prop := ∃ g, e = .returned (.agg #[.int .i64 5, .slice (some ⟨g, 0, none⟩) exL.length 4]) ∧ RdT w' w'.heap.size (some ⟨g, 0, none⟩) exL ∧ Below w.heap.size w w'

theorem rdT_of_blk {w : World} {g : Nat} {t : TypeId} (h : Blk w g t #[.int .i64 1, .int .i64 0, .string exW, .int .i64 1, .int .i64 3, .string exW, .int .i64 1, .int .i64 0, .string exW, .int .i64 1, .int .i64 3, .string exW]) : RdT w w.heap.size (some ⟨g, 0, none⟩) exL := fun _ =>
  ⟨g, 0, rfl, h.lt, fun k x hx j u hu => by
    unfold exL at hx
    match k, hx with
    | 0, hx => simp at hx; subst hx; match j, hu with
      | 0, hu => simp [Tri.enc] at hu; subst hu; exact h.cell 0 _ rfl
      | 1, hu => simp [Tri.enc] at hu; subst hu; exact h.cell 1 _ rfl
      | 2, hu => simp [Tri.enc] at hu; subst hu; exact h.cell 2 _ rfl
    | 1, hx => simp at hx; subst hx; match j, hu with
      | 0, hu => simp [Tri.enc] at hu; subst hu; exact h.cell 3 _ rfl
      | 1, hu => simp [Tri.enc] at hu; subst hu; exact h.cell 4 _ rfl
      | 2, hu => simp [Tri.enc] at hu; subst hu; exact h.cell 5 _ rfl
    | 2, hx => simp at hx; subst hx; match j, hu with
      | 0, hu => simp [Tri.enc] at hu; subst hu; exact h.cell 6 _ rfl
      | 1, hu => simp [Tri.enc] at hu; subst hu; exact h.cell 7 _ rfl
      | 2, hu => simp [Tri.enc] at hu; subst hu; exact h.cell 8 _ rfl
    | 3, hx => simp at hx; subst hx; match j, hu with
      | 0, hu => simp [Tri.enc] at hu; subst hu; exact h.cell 9 _ rfl
      | 1, hu => simp [Tri.enc] at hu; subst hu; exact h.cell 10 _ rfl
      | 2, hu => simp [Tri.enc] at hu; subst hu; exact h.cell 11 _ rfl⟩

theorem ex_words : ∀ (k : Nat) (hk : k < exL.length), exL[k].s.size ≤ 9223372036854775807 := by decide
theorem ex_bounds : ∀ (k : Nat) (hk : k < exL.length), 0 ≤ exL[k].b ∧ exL[k].b ≤ 5 - 2 := by decide

theorem ints_new {w : World} {g : Nat} {t : TypeId} : ∀ {l : List Int}, Blk w g t (l.map (Value.int .i64)).toArray → RdI w w.heap.size (some ⟨g, 0, none⟩) l := fun {l} h _ =>
  ⟨g, 0, rfl, h.lt, fun k x hx j u hu => by
    match j, hu with
    | 0, hu =>
      simp [ienc] at hu
      subst hu
      exact (by simpa using h.cell (0 + k * 1 + 0) (.int .i64 x) (by simp [hx]))⟩

theorem rdI_alloc {w : World} {A : Option Addr} {l : List Int} (h : RdI w w.heap.size A l) (o : Obj) : RdI (w.alloc o) (w.alloc o).heap.size A l := (h.below ((Below.refl _ _).alloc (Nat.le_refl _) _)).more (by simp)


end Go.Proofs.YtohcmfobnkaaiaaGreatDoor

namespace Go.Proofs.YtohcmfobnkaaiaaGreatDoor
open Go Go.RowKit Tor

/-- is it more than is looked at? -/
def farB (n : Nat) (m : Int) : Bool := (decide (m < (n : Int)) && decide (n ≤ 400)) || decide (450 < n)


/-- a sheet that is checked -/
structure Good (p : Int) (l : List Tri) (s : Int) : Prop where
  b1 : 2 ≤ s
  b2 : s ≤ p
  b3 : p ≤ 24
  n : l.length ≤ 400
  b : ∀ (k : Nat) (hk : k < l.length), 0 ≤ l[k].b ∧ l[k].b ≤ p - 2
  sh : sheetE p l = 0
theorem good_of {p s : Int} {l : List Tri} (h : chkE p l s = 0) : Good p l s := by
  unfold chkE at h
  by_cases hs : sheetE p l = 0
  · rw [if_pos hs] at h
    have hsp : spansB p s = true := by
      cases hsp : spansB p s
      · rw [hsp] at h; simp at h
      · rfl
    unfold spansB at hsp
    simp only [Bool.and_eq_true, decide_eq_true_eq] at hsp
    have hs2 := hs
    unfold sheetE at hs2
    split at hs2
    · cases hs2
    · rename_i h3
      split at hs2
      · cases hs2
      · split at hs2
        · cases hs2
        · rename_i hbad
          have hbad' : l.any (badW p) = false := by simpa using hbad
          have h24 : ¬ 24 < p := fun h => h3 (Or.inl h)
          have h400 : ¬ 400 < l.length := fun h => h3 (Or.inr (Or.inl h))
          refine ⟨by omega, by omega, by omega, by omega, fun k hk => ?_, hs⟩
          have := any_not hbad' k hk
          rw [badW_false] at this
          omega
  · rw [if_neg hs] at h; exact absurd h hs
end Go.Proofs.YtohcmfobnkaaiaaGreatDoor

namespace Tor
open Go Go.RowKit

def Ex.here (w : World) : Ex w := ⟨w, Below.refl _ _⟩
theorem Ex.lt {w0 : World} (g : Ex w0) {b : Nat} (h : b < w0.heap.size) : b < g.w.heap.size := Nat.lt_of_lt_of_le h g.h.size
attribute [go_sem] Ex.lt
theorem Ex.le {w0 : World} (g : Ex w0) {b : Nat} (h : b ≤ w0.heap.size) : b ≤ g.w.heap.size := Nat.le_trans h g.h.size
theorem le_alloc {w : World} {o : Obj} {b : Nat} (h : b ≤ w.heap.size) : b ≤ (w.alloc o).heap.size := by simp; omega
theorem lt_alloc {w : World} {o : Obj} {b : Nat} (h : b ≤ w.heap.size) : b < (w.alloc o).heap.size := by simp; omega
theorem Ex.on {B : Nat} {w w0 : World} (h : Below B w w0) (hB : B ≤ w0.heap.size) (g : Ex w0) : Below B w g.w := h.trans (g.h.mono hB)
@[go_sem] theorem Ex.frozen {w0 : World} (g : Ex w0) (b o : Nat) (hb : b < w0.heap.size) : g.w.frozen? ⟨b, o, none⟩ = w0.frozen? ⟨b, o, none⟩ := g.h.frozen (p := ⟨b, o, none⟩) hb
theorem _root_.Go.RowKit.Below.ex {w w' : World} (h : Below w.heap.size w w') : ∃ g : Ex w, w' = g.w := ⟨⟨w', h⟩, rfl⟩

/-- the call's world as a term -/
theorem cx {P : Program} {f : FuncId} {args : Array Value} {w : World} {v : Value} (h : Calls P f args w (Ret v w)) :
    Calls P f args w fun e w' => e = .returned v ∧ ∃ g : Ex w, w' = g.w := h.mono fun _ _ ⟨he, hb⟩ => ⟨he, hb.ex⟩
theorem Rd.ex {α : Type} {sz : Nat} {enc : α → List Value} {w0 : World} {B : Nat} {A : Option Addr} {l : List α} (h : Rd sz enc w0 B A l) (hB : B ≤ w0.heap.size) (g : Ex w0) : Rd sz enc g.w B A l := h.below' g.h hB
theorem Rd.al {α : Type} {sz : Nat} {enc : α → List Value} {w0 : World} {B : Nat} {A : Option Addr} {l : List α} (h : Rd sz enc w0 B A l) (hB : B ≤ w0.heap.size) (o : Obj) : Rd sz enc (w0.alloc o) B A l :=
  h.below' ((Below.refl w0.heap.size w0).alloc (Nat.le_refl _) o) hB
theorem Rd.dr {α : Type} {sz : Nat} {enc : α → List Value} {w0 : World} {B : Nat} {A : Option Addr} {l : List α} (h : Rd sz enc w0 B A l) : Rd sz enc w0.drew B A l := h
end Tor
