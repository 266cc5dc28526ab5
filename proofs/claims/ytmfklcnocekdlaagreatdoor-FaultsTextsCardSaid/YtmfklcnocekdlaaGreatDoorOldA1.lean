/- Plain theory and walks of small functions (OldA1). -/
import Derived.WalkKit
import Derived.Lib.Hide
import Derived.BigQuiet
import Derived.Deep.QuietTactic
import Derived.Outline
import Derived.Test.YtmfklcnocekdlaaGreatDoorRows
import Derived.Lib.Bytealg
import Derived.Deep.RegionHeld3
set_option linter.unusedSimpArgs false
set_option linter.unusedVariables false
namespace Tor
open Go Go.RowKit

/-- three cells: a number, a number, a string (a work of a sheet; a step of instructions) -/
structure Tri where
  a : Int
  b : Int
  s : ByteArray
deriving DecidableEq

instance : Inhabited Tri := ⟨⟨0, 0, .empty⟩⟩

def Tri.enc (x : Tri) : List Value := [.int .i64 x.a, .int .i64 x.b, .string x.s]
def ienc (x : Int) : List Value := [.int .i64 x]
def benc (x : Bool) : List Value := [.bool x]
def senc (x : ByteArray) : List Value := [.string x]


/-- the slice's address A is that of a row below block B that reads as the list l (sz cells an element) -/
def Rd {α : Type} (sz : Nat) (enc : α → List Value) (w : World) (B : Nat) (A : Option Addr) (l : List α) : Prop :=
  l ≠ [] → ∃ b o, A = some ⟨b, o, none⟩ ∧ b < B ∧ ∀ k x, l[k]? = some x → ∀ j u, (enc x)[j]? = some u → w.cell? ⟨b, o + k * sz + j, none⟩ = some u

abbrev RdT := Rd 3 Tri.enc
abbrev RdI := Rd 1 ienc
abbrev RdB := Rd 1 benc
section
variable {α : Type} {sz : Nat} {enc : α → List Value} {w w' : World} {B B' : Nat} {A : Option Addr} {l : List α}

theorem Rd.nil : Rd sz enc w B A [] := fun h => absurd rfl h

theorem Rd.keep (h : Rd sz enc w B A l) (hk : ∀ p : Addr, p.block < B → w'.cell? p = w.cell? p) : Rd sz enc w' B A l := fun hl => by
  obtain ⟨b, o, e, hb, hc⟩ := h hl
  exact ⟨b, o, e, hb, fun k x hx j u hu => (hk ⟨b, _, none⟩ hb).trans (hc k x hx j u hu)⟩

theorem Rd.below (h : Rd sz enc w B A l) (hb : Below B w w') : Rd sz enc w' B A l := h.keep fun _ hp => hb.cell hp

theorem Rd.below' (h : Rd sz enc w B A l) (hb : Below B' w w') (hB : B ≤ B') : Rd sz enc w' B A l := h.keep fun _ hp => hb.cell (Nat.lt_of_lt_of_le hp hB)

theorem Rd.more (h : Rd sz enc w B A l) (hB : B ≤ B') : Rd sz enc w B' A l := fun hl => by
  obtain ⟨b, o, e, hb, hc⟩ := h hl
  exact ⟨b, o, e, by omega, hc⟩
end

theorem Rd.tri {w : World} {B : Nat} {A : Option Addr} {l : List Tri} (h : RdT w B A l) {k : Nat} (hk : k < l.length) :
    ∃ b o, A = some ⟨b, o, none⟩ ∧ b < B ∧ w.cell? ⟨b, o + k * 3, none⟩ = some (.int .i64 l[k].a) ∧
      w.cell? ⟨b, o + k * 3 + 1, none⟩ = some (.int .i64 l[k].b) ∧ w.cell? ⟨b, o + k * 3 + 2, none⟩ = some (.string l[k].s) := by
  obtain ⟨b, o, e, hb, hc⟩ := h (by intro e; subst e; simp at hk)
  have hx : l[k]? = some l[k] := List.getElem?_eq_getElem hk
  exact ⟨b, o, e, hb, hc k _ hx 0 _ rfl, hc k _ hx 1 _ rfl, hc k _ hx 2 _ rfl⟩

theorem Rd.int {w : World} {B : Nat} {A : Option Addr} {l : List Int} (h : RdI w B A l) {k : Nat} (hk : k < l.length) :
    ∃ b o, A = some ⟨b, o, none⟩ ∧ b < B ∧ w.cell? ⟨b, o + k, none⟩ = some (.int .i64 l[k]) := by
  obtain ⟨b, o, e, hb, hc⟩ := h (by intro e; subst e; simp at hk)
  have hx : l[k]? = some l[k] := List.getElem?_eq_getElem hk
  have := hc k _ hx 0 _ rfl
  simp only [Nat.mul_one, Nat.add_zero] at this
  exact ⟨b, o, e, hb, this⟩

theorem Rd.bool {w : World} {B : Nat} {A : Option Addr} {l : List Bool} (h : RdB w B A l) {k : Nat} (hk : k < l.length) :
    ∃ b o, A = some ⟨b, o, none⟩ ∧ b < B ∧ w.cell? ⟨b, o + k, none⟩ = some (.bool l[k]) := by
  obtain ⟨b, o, e, hb, hc⟩ := h (by intro e; subst e; simp at hk)
  have hx : l[k]? = some l[k] := List.getElem?_eq_getElem hk
  have := hc k _ hx 0 _ rfl
  simp only [Nat.mul_one, Nat.add_zero] at this
  exact ⟨b, o, e, hb, this⟩


/-- an owned row (made by the call) that reads as the list l -/
def Own {α : Type} (sz : Nat) (enc : α → List Value) (w : World) (base : Nat) (e : TypeId) (v : Value) (l : List α) : Prop :=
  w.ownsRow base e sz v l.length (l.flatMap enc)

theorem flatMap_get {α : Type} {sz : Nat} {enc : α → List Value} (henc : ∀ x, (enc x).length = sz) :
    ∀ (l : List α) (k : Nat) (x : α), l[k]? = some x → ∀ j u, (enc x)[j]? = some u → (l.flatMap enc)[k * sz + j]? = some u
  | [], _, _, h => by simp at h
  | y :: l, 0, x, h => fun j u hu => by
    simp only [List.getElem?_cons_zero, Option.some.injEq] at h
    subst h
    have hj : j < (enc y).length := (List.getElem?_eq_some_iff.1 hu).1
    simp only [List.flatMap_cons, Nat.zero_mul, Nat.zero_add]
    rw [List.getElem?_append_left hj]
    exact hu
  | y :: l, k + 1, x, h => fun j u hu => by
    simp only [List.getElem?_cons_succ] at h
    have ih := flatMap_get henc l k x h j u hu
    simp only [List.flatMap_cons]
    rw [List.getElem?_append_right (by rw [henc]; have : (k+1) * sz = k * sz + sz := Nat.succ_mul k sz; omega), henc]
    rw [← ih]
    congr 1
    have : (k+1) * sz = k * sz + sz := Nat.succ_mul k sz
    omega

theorem Own.rd {α : Type} {sz : Nat} {enc : α → List Value} (henc : ∀ x, (enc x).length = sz) {w : World} {base : Nat} {e : TypeId} {v : Value} {l : List α} (h : Own sz enc w base e v l) :
    ∃ A c, v = .slice A l.length c ∧ l.length ≤ c ∧ Rd sz enc w w.heap.size A l := by
  obtain ⟨hlen, h2⟩ := h
  rcases h2 with ⟨rfl, hn⟩ | ⟨g, cap, cur, rfl, hg, hh, hnc, hcm, hcs, htake⟩
  · have : l = [] := List.eq_nil_of_length_eq_zero hn
    subst this
    exact ⟨none, 0, rfl, Nat.le_refl _, Rd.nil⟩
  · refine ⟨_, cap, rfl, hnc, fun hl => ⟨g, 0, rfl, ?_, fun k x hx j u hu => ?_⟩⟩
    · rcases Nat.lt_or_ge g w.heap.size with h | h
      · exact h
      · rw [Array.getElem?_eq_none h] at hh; cases hh
    · have hg' := flatMap_get henc l k x hx j u hu
      rw [← htake, List.getElem?_take] at hg'
      split at hg'
      · simp only [World.cell?, hh, Nat.zero_add]
        simpa using hg'
      · cases hg'

theorem Own.nil {α : Type} {sz : Nat} {enc : α → List Value} (w : World) (base : Nat) (e : TypeId) : Own sz enc w base e (.slice none 0 0) ([] : List α) :=
  World.ownsRow_nil w base e sz

theorem tri_len (x : Tri) : x.enc.length = 3 := rfl
theorem int_len (x : Int) : (ienc x).length = 1 := rfl
theorem bool_len (x : Bool) : (benc x).length = 1 := rfl

theorem _root_.Go.RowKit.Below.drewN {B : Nat} {a w : World} (h : Below B a w) (n : Nat) : Below B a (w.drewN n) := ⟨h.os, h.tape, h.output, h.size, h.block⟩


/-- the call returned v; what was there is as it was -/
def Ret (v : Value) (w : World) (e : Ending) (w' : World) : Prop := e = .returned v ∧ Below w.heap.size w w'
theorem Ret.int {k : IntKind} {a b : Int} {w w' : World} (h : a = b) (hB : Below w.heap.size w w') : Ret (.int k b) w (.returned (.int k a)) w' := ⟨by rw [h], hB⟩
theorem Ret.bool {a b : Bool} {w w' : World} (h : a = b) (hB : Below w.heap.size w w') : Ret (.bool b) w (.returned (.bool a)) w' := ⟨by rw [h], hB⟩
theorem Ret.val {u v : Value} {w w' : World} (h : u = v) (hB : Below w.heap.size w w') : Ret v w (.returned u) w' := ⟨by rw [h], hB⟩

theorem lt_of_cell {w : World} {b o : Nat} {v : Value} (h : w.cell? ⟨b, o, none⟩ = some v) : b < w.heap.size := by
  rcases Nat.lt_or_ge b w.heap.size with h1 | h1
  · exact h1
  · simp [World.cell?, Array.getElem?_eq_none h1] at h

/-! ### a region that draws its order, whose operations read and whose callees may make memory -/

/-- a world that has grown: what was there is as it was -/
structure Ex (w0 : World) where
  w : World
  h : Below w0.heap.size w0 w

instance (w0 : World) : Inhabited (Ex w0) := ⟨⟨w0, Below.refl _ _⟩⟩

@[go_sem] theorem Ex.cell {w0 : World} (g : Ex w0) (b o : Nat) (hb : b < w0.heap.size) : g.w.cell? ⟨b, o, none⟩ = w0.cell? ⟨b, o, none⟩ := g.h.cell (p := ⟨b, o, none⟩) hb

theorem wp_region_ex {P : Program} {id : Nat} {Q : Exit → Act → World → Prop} {a : Act} {w : World} {l : List Oper} (hm : P.follows .mixedOrders = true) (hB : Region.lexB .any l.toArray = true)
    (h : wpQuiet P l.toArray (fun w' => ∃ g : Ex w, w' = g.w) (fun a' => ∀ w', (∃ g : Ex w, w' = g.w) → Q .normal a' w') l a) : (Code.region id l.toArray true).wp P Q a w :=
  wp_region_quiet (C := fun w' => ∃ g : Ex w, w' = g.w) hm hB ⟨⟨{ w with drawn := w.drawn + 1 }, ⟨rfl, rfl, rfl, Nat.le_refl _, fun _ _ => rfl⟩⟩, rfl⟩ (by simpa using h)

theorem calls_ex {P : Program} {f : FuncId} {args : Array Value} {w : World} {g : Ex w} {v : Value}
    (h : Calls P f args g.w (Ret v g.w)) : Calls P f args g.w fun e w'' => e = .returned v ∧ ∃ g' : Ex w, w'' = g'.w :=
  h.mono fun _ _ ⟨he, hb⟩ => ⟨he, ⟨_, g.h.trans (hb.mono g.h.size)⟩, rfl⟩

/-! ### lists -/
theorem take_snoc {α : Type} (l : List α) (k : Nat) (h : k < l.length) : l.take (k + 1) = l.take k ++ [l[k]] := List.take_succ_eq_append_getElem h
theorem take_all {α : Type} (l : List α) (k : Nat) (h : ¬ k < l.length) : l.take k = l := List.take_of_length_le (by omega)
end Tor

namespace Go.Proofs.YtmfklcnocekdlaaGreatDoor
open Go Go.RowKit Tor

theorem beqS (a b : ByteArray) : (a.toList == b.toList) = decide (a = b) := by
  rw [ByteArray.toList_eq, ByteArray.toList_eq]
  obtain ⟨⟨x⟩⟩ := a
  obtain ⟨⟨y⟩⟩ := b
  by_cases h : x = y <;> simp [h]

theorem guardStep : Tryz.prog.eqGuardType Tryz.prog.depth 52 = false := by kernel_rfl
theorem guardWork : Tryz.prog.eqGuardType Tryz.prog.depth 79 = false := by kernel_rfl
theorem heldStep : Tryz.prog.stoodInHeld 52 = false := by kernel_rfl
theorem heldWork : Tryz.prog.stoodInHeld 79 = false := by kernel_rfl

attribute [go_sem] guardStep guardWork heldStep heldWork

theorem tri_eq (x y : Tri) : x = y ↔ x.a = y.a ∧ x.b = y.b ∧ x.s.toList = y.s.toList := by
  have h : x.s.toList = y.s.toList ↔ x.s = y.s := by
    have := beqS x.s y.s
    by_cases e : x.s = y.s
    · simp [e]
    · simp only [e, decide_false, beq_eq_false_iff_ne, iff_false] at this ⊢; exact this
  obtain ⟨xa, xb, xs⟩ := x
  obtain ⟨ya, yb, ys⟩ := y
  simp only [Tri.mk.injEq] at *
  rw [h]


/-- the walk's nested test of two triples, as one test -/
@[go_sem] theorem tri_ite_neq (x y : Tri) (w : World) :
    (if x.a = y.a then if x.b = y.b then if x.s.toList = y.s.toList then Result.ok (Next.value (Value.bool false)) w else Result.ok (Next.value (Value.bool true)) w
      else Result.ok (Next.value (Value.bool true)) w else Result.ok (Next.value (Value.bool true)) w) = Result.ok (Next.value (Value.bool (!decide (x = y)))) w := by
  by_cases h0 : x.a = y.a <;> by_cases h1 : x.b = y.b <;> by_cases h2 : x.s.toList = y.s.toList <;> simp [tri_eq, h0, h1, h2]
@[go_sem] theorem tri_ite_eql (x y : Tri) (w : World) :
    (if x.a = y.a then if x.b = y.b then if x.s.toList = y.s.toList then Result.ok (Next.value (Value.bool true)) w else Result.ok (Next.value (Value.bool false)) w
      else Result.ok (Next.value (Value.bool false)) w else Result.ok (Next.value (Value.bool false)) w) = Result.ok (Next.value (Value.bool (decide (x = y)))) w := by
  by_cases h0 : x.a = y.a <;> by_cases h1 : x.b = y.b <;> by_cases h2 : x.s.toList = y.s.toList <;> simp [tri_eq, h0, h1, h2]

end Go.Proofs.YtmfklcnocekdlaaGreatDoor

namespace Go.Proofs.YtmfklcnocekdlaaGreatDoor
open Go Go.RowKit Tor

/-- Reaches, program and reference -/
def reachesN (l : List Tri) : Nat := (l.filter (fun x => decide (x.a = 1))).length
end Go.Proofs.YtmfklcnocekdlaaGreatDoor

namespace Go.Proofs.YtmfklcnocekdlaaGreatDoor
open Go Go.RowKit Tor

def spansB (pairs span : Int) : Bool := decide (2 ≤ span) && decide (span ≤ 8) && decide (span ≤ pairs)

theorem cspans_any (p s : Int) (w : World) :
    Calls Tryz.prog 83 #[.int .i64 p, .int .i64 s] w (Ret (.bool (spansB p s)) w) := by
  by_cases h1 : 2 ≤ s <;> by_cases h2 : s ≤ 8 <;> by_cases h3 : s ≤ p
  all_goals
    go_enter Tryz.func83, Tryz.ntmps83
    go_wp2
    all_goals go_ret
    all_goals exact Ret.bool (by rw [Bool.eq_iff_iff]; simp [spansB] <;> omega) (Below.refl _ _)

def heldB (h s at' : Int) : Bool := decide (0 ≤ h) && decide (h ≤ at') && decide (at' + 2 ≤ h + s)

def touchB (x y : Int) : Bool := decide (x - y ≤ 1) && decide (y - x ≤ 1)

end Go.Proofs.YtmfklcnocekdlaaGreatDoor

namespace Tor
open Go

theorem idx_neg (l : List UInt8) (c : UInt8) : Lib.indexByte l c < 0 ↔ c ∉ l := by
  induction l with
  | nil => simp [Lib.indexByte]
  | cons b l ih =>
    unfold Lib.indexByte
    by_cases hb : b = c
    · subst hb; simp
    · have hge := Lib.indexByte_ge l c
      have hb' : ¬ c = b := fun e => hb e.symm
      simp only [beq_iff_eq, hb, if_false, List.mem_cons, hb', false_or]
      rw [← ih]
      by_cases h1 : Lib.indexByte l c = -1
      · simp [h1]
      · simp only [h1, if_false]
        constructor
        · intro h; omega
        · intro h; omega


/-- the letters of moves -/
def letters : ByteArray := ⟨#[67, 84, 76, 82, 80, 99, 116, 108, 114]⟩
def lettersL : List UInt8 := [67, 84, 76, 82, 80, 99, 116, 108, 114]
def isLetter (c : UInt8) : Bool := decide (c ∈ lettersL)


/-- what is wrong with a word -/
def wordE (s : ByteArray) : Int := if 16 < s.size then 3 else if s.data.toList.all isLetter then 0 else 6

theorem bsize (s : ByteArray) : s.data.toList.length = s.size := by rw [Array.length_toList]; rfl

theorem bget (s : ByteArray) (k : Nat) (h : k < s.size) : s.data.toList[k]? = some s[k] := by
  have : k < s.data.size := h
  simp [Array.getElem?_eq_getElem this]; rfl

theorem isLetter_neg (c : UInt8) : Lib.indexByte lettersL c < 0 ↔ isLetter c = false := by rw [idx_neg]; simp [isLetter]

theorem isLetter_pos (c : UInt8) : 0 ≤ Lib.indexByte lettersL c ↔ isLetter c = true := by
  have := isLetter_neg c
  cases h : isLetter c
  · simp only [h, iff_true] at this; simp; omega
  · simp only [h] at this; simp at this ⊢; omega

theorem all_snoc (l : List UInt8) (k : Nat) (h : k < l.length) (h1 : (l.take k).all isLetter = true) (h2 : isLetter l[k] = true) : (l.take (k + 1)).all isLetter = true := by
  rw [take_snoc l k h]; simp only [List.all_append, h1, List.all_cons, h2, List.all_nil, Bool.and_self]
theorem all_not (l : List UInt8) (k : Nat) (h : k < l.length) (h2 : isLetter l[k] = false) : l.all isLetter = false := by
  rw [List.all_eq_false]; exact ⟨l[k], List.getElem_mem h, by simp [h2]⟩
theorem bgetL (s : ByteArray) (k : Nat) (h : k < s.size) : s.data.toList[k]'(by rw [bsize]; exact h) = s[k] := by
  have := bget s k h
  rw [List.getElem?_eq_getElem (by rw [bsize]; exact h)] at this
  simpa using this


/-- a work that is not as it should be (of so many pairs) -/
def badW (p : Int) (x : Tri) : Bool := decide (x.a ≠ 1 ∧ x.a ≠ 2) || decide (x.b < 0) || decide (p - 2 < x.b) || decide (x.a = 2 ∧ x.s.size ≠ 0)
def longW (x : Tri) : Bool := decide (16 < x.s.size)
def wrongW (x : Tri) : Bool := decide (wordE x.s ≠ 0)

/-- what is wrong with a sheet -/
def sheetE (p : Int) (l : List Tri) : Int :=
  if 24 < p ∨ 400 < l.length ∨ l.any longW = true then 3 else if p < 2 then 2 else if l.any (badW p) = true then 2 else if l.any wrongW = true then 6 else 0

theorem any_snoc {α : Type} (f : α → Bool) (l : List α) (k : Nat) (h : k < l.length) (h1 : (l.take k).any f = false) (h2 : f l[k] = false) : (l.take (k + 1)).any f = false := by
  rw [take_snoc l k h]; simp only [List.any_append, h1, List.any_cons, h2, List.any_nil, Bool.or_self]
theorem any_at {α : Type} (f : α → Bool) (l : List α) (k : Nat) (h : k < l.length) (h2 : f l[k] = true) : l.any f = true := by
  rw [List.any_eq_true]; exact ⟨l[k], List.getElem_mem h, h2⟩
theorem any_end {α : Type} (f : α → Bool) (l : List α) (k : Nat) (h : ¬ k < l.length) (h1 : (l.take k).any f = false) : l.any f = false := by
  rwa [take_all l k h] at h1
theorem any_not {α : Type} {f : α → Bool} {l : List α} (h : l.any f = false) (k : Nat) (hk : k < l.length) : f l[k] = false := by
  rw [List.any_eq_false] at h
  simpa using h l[k] (List.getElem_mem hk)

theorem bemp (s : ByteArray) : (!s.toList.isEmpty) = decide (s.size ≠ 0) := by
  have h : s.toList.length = s.size := by rw [ByteArray.toList_eq, bsize]
  cases e : s.toList with
  | nil => rw [e] at h; simp at h; simp [← h]
  | cons a r => rw [e] at h; simp at h; simp [← h]
theorem snil (s : ByteArray) : s.toList = [] ↔ s.size = 0 := by
  have h : s.toList.length = s.size := by rw [ByteArray.toList_eq, bsize]
  rw [← List.length_eq_zero_iff, h]
theorem maxif (a b : Int) : (if a < b then b else a) = max a b := by split <;> omega
theorem badW_true (p : Int) (x : Tri) : badW p x = true ↔ (x.a ≠ 1 ∧ x.a ≠ 2) ∨ x.b < 0 ∨ p - 2 < x.b ∨ (x.a = 2 ∧ x.s.size ≠ 0) := by
  simp only [badW, Bool.or_eq_true, decide_eq_true_eq, or_assoc]
theorem badW_false (p : Int) (x : Tri) : badW p x = false ↔ ¬ ((x.a ≠ 1 ∧ x.a ≠ 2) ∨ x.b < 0 ∨ p - 2 < x.b ∨ (x.a = 2 ∧ x.s.size ≠ 0)) := by
  rw [← badW_true]; simp

end Tor

namespace Go.Proofs.YtmfklcnocekdlaaGreatDoor
open Go Go.RowKit Tor

theorem ibs (s : ByteArray) (c : Int) (w : World) : (callFunc 135 #[.string s, .int .u8 c]).run Tryz.prog w = .ok (.value (.int .i64 (Lib.indexByte s.data.toList c.toNat.toUInt8))) w := by
  rw [run_callFunc_extern (e := Extern.BytealgIndexByte.indexByte) Tryz.func135 (by kernel_rfl) (by kernel_rfl) (by kernel_rfl) (by kernel_rfl), Lib.run_indexByteString]
  rfl

theorem indexByte_any (s : ByteArray) (c : UInt8) (w : World) :
    Calls Tryz.prog 76 #[.string s, .int .u8 c.toNat] w (Ret (.int .i64 (Lib.indexByte s.data.toList c)) w) := by
  have h := ibs s c.toNat
  have e : ((c.toNat : Int)).toNat.toUInt8 = c := by simp
  rw [e] at h
  go_enter Tryz.func76, Tryz.ntmps76
  go_wp2_with go_in
  go_ret
  exact Ret.int rfl (Below.refl _ _)


theorem letterIdx (c : UInt8) (w : World) :
    Calls Tryz.prog 76 #[.string ⟨#[67, 84, 76, 82, 80, 99, 116, 108, 114]⟩, .int .u8 c.toNat] w (Ret (.int .i64 (Lib.indexByte lettersL c)) w) := indexByte_any letters c w

theorem wordE_all (s : ByteArray) (k : Nat) (h16 : ¬ 16 < s.size) (hlt : ¬ k < s.size) (hno : (s.data.toList.take k).all isLetter = true) : wordE s = 0 := by
  rw [take_all _ _ (by rw [bsize]; exact hlt)] at hno
  simp [wordE, h16, hno]
theorem wordE_not (s : ByteArray) (k : Nat) (h16 : ¬ 16 < s.size) (hlt : k < s.size) (h2 : isLetter s[k] = false) : wordE s = 6 := by
  have := all_not s.data.toList k (by rw [bsize]; exact hlt) (by rw [bgetL s k hlt]; exact h2)
  simp [wordE, h16, this]
theorem wordE_step (s : ByteArray) (k : Nat) (hlt : k < s.size) (hno : (s.data.toList.take k).all isLetter = true) (h2 : isLetter s[k] = true) : (s.data.toList.take (k + 1)).all isLetter = true :=
  all_snoc _ k (by rw [bsize]; exact hlt) hno (by rw [bgetL s k hlt]; exact h2)

theorem word_any (s : ByteArray) (w : World) (hs : s.size ≤ 9223372036854775807) :
    Calls Tryz.prog 30 #[.string s] w (Ret (.int .i64 (wordE s)) w) := by
  by_cases h16 : 16 < s.size
  · go_enter Tryz.func30, Tryz.ntmps30
    go_wp2
    go_ret
    exact Ret.int (by simp [wordE, h16]) (Below.refl _ _)
  · go_enter Tryz.func30, Tryz.ntmps30
    go_wp2
    go_loopw [9] (fun i wr => ∃ k : Nat, k ≤ s.size ∧ i = .int .i64 k ∧ Hid ((s.data.toList.take k).all isLetter = true) ∧ Below w.heap.size w wr) (fun i _ => s.size - (intOf i).toNat)
    case atStart => exact ⟨0, Nat.zero_le _, rfl, by simp [Hid], Below.refl _ _⟩
    case round =>
      obtain ⟨k, hk, rfl, hno, hB⟩ := hrel
      by_cases hlt : k < s.size
      · by_cases hl : Lib.indexByte lettersL s[k] < 0
        · go_wp2_with (go_at_call 76; refine (letterIdx _ _).mono ?_; rintro e w1 ⟨rfl, hB1⟩)
          go_ret
          exact Ret.int (wordE_not s k h16 hlt ((isLetter_neg _).1 hl)).symm (hB.trans (hB1.mono hB.size))
        · go_wp2_with (go_at_call 76; refine (letterIdx _ _).mono ?_; rintro e w1 ⟨rfl, hB1⟩)
          go_roundw
          case rel => exact ⟨k + 1, by omega, by go_num, wordE_step s k hlt hno.out ((isLetter_pos _).1 (by omega)), hB.trans (hB1.mono hB.size)⟩
          case measure => simp [intOf]; omega
      · go_wp2
        go_ret
        exact Ret.int (wordE_all s k h16 hlt hno.out).symm hB

theorem box_cell {w wr : World} {cs : Array Value} {t : TypeId} (hB : Below (w.heap.size + 1) (w.alloc (.cells cs t)) wr) (i : Nat) (v : Value) (h : cs[i]? = some v) : wr.cell? ⟨w.heap.size, i, none⟩ = some v := by
  rw [hB.cell (p := ⟨w.heap.size, i, none⟩) (by simp), World.cell?_alloc_new]; exact h
theorem box_below {w wr : World} {o : Obj} (hB : Below (w.heap.size + 1) (w.alloc o) wr) : Below w.heap.size w wr :=
  ((Below.refl _ _).alloc (Nat.le_refl _) _).trans (hB.mono (by simp))

theorem box_up {w wr : World} {o : Obj} (hB : Below (w.alloc o).heap.size (w.alloc o) wr) : Below (w.heap.size + 1) (w.alloc o) wr := by
  simpa using hB

theorem box_lt {w wr : World} {o : Obj} (hB : Below (w.heap.size + 1) (w.alloc o) wr) : w.heap.size < wr.heap.size := by
  have := hB.size
  simp at this
  omega

theorem sheetE_pairs {p : Int} {l : List Tri} (h400 : ¬ 400 < l.length) (hL : l.any longW = false) (h : p < 2) : sheetE p l = 2 := by
  have e : ¬ 24 < p := by omega
  simp only [sheetE, e, h400, hL, h, if_true]; simp
theorem sheetE_bad {p : Int} {l : List Tri} (h24 : p ≤ 24) (h400 : ¬ 400 < l.length) (hL : l.any longW = false) (k : Nat) (hlt : k < l.length) (h : badW p l[k] = true) : sheetE p l = 2 := by
  have : l.any (badW p) = true := any_at _ _ k hlt h
  have e : ¬ 24 < p := by omega
  simp only [sheetE, e, h400, hL, this, if_true]; simp
end Go.Proofs.YtmfklcnocekdlaaGreatDoor

namespace Go.Proofs.YtmfklcnocekdlaaGreatDoor
open Go Go.RowKit Tor

theorem long1_any (x : Tri) (w : World) (hs : x.s.size ≤ 9223372036854775807) :
    Calls Tryz.prog 118 #[.agg #[.int .i64 x.a, .int .i64 x.b, .string x.s]] w (Ret (.bool (longW x)) w) := by
  go_enter Tryz.func118, Tryz.ntmps118
  go_wp2
  go_ret
  exact Ret.bool (by simp [longW]; omega) ((Below.refl _ _).alloc (Nat.le_refl _) _)

theorem indexFunc_any (A : Option Addr) (l : List Tri) (c : Nat) (w : World) (H : Nat) (hr : RdT w H A l) (hH : H ≤ w.heap.size) (hw : ∀ (k : Nat) (hk : k < l.length), l[k].s.size ≤ 9223372036854775807) (hl : l.length ≤ 9223372036854775807) :
    Calls Tryz.prog 143 #[.slice A l.length c, .func (.func 118) #[] #[]] w
      fun e w' => ∃ i : Int, e = .returned (.int .i64 i) ∧ Hid (decide (0 ≤ i) = l.any longW) ∧ Below w.heap.size w w' := by
  go_enter Tryz.func143, Tryz.ntmps143
  go_wp2
  go_loopw [8] (fun i wr => ∃ k : Nat, k ≤ l.length ∧ i = .int .i64 k ∧ Hid ((l.take k).any longW = false) ∧ Below w.heap.size w wr) (fun i _ => l.length - (intOf i).toNat)
  case atStart => exact ⟨0, Nat.zero_le _, rfl, by simp [Hid], Below.refl _ _⟩
  case round =>
    obtain ⟨k, hk, rfl, hno, hB⟩ := hrel
    by_cases hlt : k < l.length
    · obtain ⟨b, o, rfl, hb0, h0, h1, h2⟩ := (hr.below' hB hH).tri hlt
      have hW := Lib.hid (hw k hlt)
      cases hlong : longW l[k]
      · have HL := Lib.hid hlong
        go_wp2_with (go_at_call 118; refine (long1_any _ _ hW.out).mono ?_; rintro e w1 ⟨rfl, hB1⟩)
        go_roundw
        case rel => exact ⟨k + 1, by omega, by go_num, any_snoc _ _ _ hlt hno.out HL.out, hB.trans (hB1.mono (by have := hB.size; omega))⟩
        case measure => simp [intOf]; omega
      · have HL := Lib.hid hlong
        go_wp2_with (go_at_call 118; refine (long1_any _ _ hW.out).mono ?_; rintro e w1 ⟨rfl, hB1⟩)
        go_ret
        exact ⟨k, rfl, by have := any_at _ _ k hlt HL.out; simp [Hid, this], hB.trans (hB1.mono (by have := hB.size; omega))⟩
    · go_wp2
      go_ret
      exact ⟨-1, rfl, by have := any_end _ _ k hlt hno.out; simp [Hid, this], hB⟩

theorem contains_any (A : Option Addr) (l : List Tri) (c : Nat) (w : World) (H : Nat) (hr : RdT w H A l) (hH : H ≤ w.heap.size) (hw : ∀ (k : Nat) (hk : k < l.length), l[k].s.size ≤ 9223372036854775807) (hl : l.length ≤ 9223372036854775807) :
    Calls Tryz.prog 117 #[.slice A l.length c, .func (.func 118) #[] #[]] w (Ret (.bool (l.any longW)) w) := by
  have HW := Lib.hid hw
  clear hw
  go_enter Tryz.func117, Tryz.ntmps117
  go_wp2_with (go_at_call 143; refine (indexFunc_any _ l _ _ H hr hH HW.out hl).mono ?_; rintro e w1 ⟨i, rfl, hi, hB1⟩)
  go_ret
  exact Ret.bool hi.out hB1

theorem wordE_short (s : ByteArray) (h : ¬ 16 < s.size) : wordE s = 0 ∨ wordE s = 6 := by
  unfold wordE; rw [if_neg h]; split <;> simp


/-- the form of the first k works -/
def formE (l : List Tri) (k : Nat) : Int := if (l.take k).any wrongW then 6 else 0
theorem formE_step (l : List Tri) (k : Nat) (h : k < l.length) (hs : longW l[k] = false) : max (formE l k) (wordE l[k].s) = formE l (k + 1) := by
  have hw := wordE_short l[k].s (by simpa [longW] using hs)
  unfold formE
  rw [take_snoc l k h]
  simp only [List.any_append, List.any_cons, List.any_nil, Bool.or_false]
  cases (l.take k).any wrongW <;> rcases hw with e | e <;> simp [wrongW, e] <;> decide
theorem formE_bd (l : List Tri) (k : Nat) : 0 ≤ formE l k ∧ formE l k ≤ 6 := by unfold formE; split <;> simp

theorem sheetE_form {p : Int} {l : List Tri} (h24 : p ≤ 24) (h400 : ¬ 400 < l.length) (hL : l.any longW = false) (h2 : 2 ≤ p) (hb : l.any (badW p) = false) (k : Nat) (hk : ¬ k < l.length) : sheetE p l = formE l k := by
  unfold formE
  rw [take_all _ _ hk]
  have e : ¬ 24 < p := by omega
  have e2 : ¬ p < 2 := by omega
  simp only [sheetE, e, h400, hL, e2, hb]
  simp


set_option maxHeartbeats 1000000 in
theorem sheet_any (p : Int) (A : Option Addr) (l : List Tri) (c : Nat) (w : World) (H : Nat) (hr : RdT w H A l) (hH : H ≤ w.heap.size) (hw : ∀ (k : Nat) (hk : k < l.length), l[k].s.size ≤ 9223372036854775807) (hl : l.length ≤ 9223372036854775807) :
    Calls Tryz.prog 82 #[.agg #[.int .i64 p, .slice A l.length c]] w (Ret (.int .i64 (sheetE p l)) w) := by
  by_cases h24 : 24 < p
  · go_enter Tryz.func82, Tryz.ntmps82
    go_wp2
    go_ret
    exact Ret.int (by simp [sheetE, h24]) ((Below.refl _ _).alloc (Nat.le_refl _) _)
  by_cases h400 : 400 < l.length
  · go_enter Tryz.func82, Tryz.ntmps82
    go_wp2
    go_ret
    exact Ret.int (by simp [sheetE, h400]) ((Below.refl _ _).alloc (Nat.le_refl _) _)
  have H24 := Lib.hid h24
  have H400 := Lib.hid h400
  have HW := Lib.hid hw
  have hA : RdT (w.alloc (.cells #[.int .i64 p, .slice A l.length c] 33)) H A l := hr.below' ((Below.refl _ _).alloc (Nat.le_refl _) _) hH
  clear hw
  cases hlong : l.any longW
  · have HL := Lib.hid hlong
    by_cases h2 : p < 2
    · have HE := Lib.hid (sheetE_pairs H400.out HL.out h2)
      go_enter Tryz.func82, Tryz.ntmps82
      go_wp2_with (go_at_call 117; refine (contains_any _ l _ _ H hA (by simp; omega) HW.out hl).mono ?_; rintro e w1 ⟨rfl, hB⟩; replace hB := box_up hB; have hN0 := box_cell hB 0 (.int .i64 p) rfl)
      go_ret
      exact Ret.int HE.out.symm (box_below hB)
    · have H2 := Lib.hid h2
      go_enter Tryz.func82, Tryz.ntmps82
      go_wp2_with (go_at_call 117; refine (contains_any _ l _ _ H hA (by simp; omega) HW.out hl).mono ?_; rintro e w1 ⟨rfl, hB⟩; replace hB := box_up hB; have hN0 := box_cell hB 0 (.int .i64 p) rfl; have hN1 := box_cell hB 1 (.slice A l.length c) rfl)
      have hE := formE_bd l 0
      go_loopw [3, 26] (fun f i wr => ∃ k : Nat, k ≤ l.length ∧ i = .int .i64 k ∧ f = .int .i64 (formE l k) ∧ Hid ((l.take k).any (badW p) = false) ∧ Below (w.heap.size + 1) (w.alloc (.cells #[.int .i64 p, .slice A l.length c] 33)) wr) (fun _ i _ => l.length - (intOf i).toNat)
      case atStart => exact ⟨0, Nat.zero_le _, rfl, by simp [formE], by simp [Hid], hB⟩
      case round =>
        obtain ⟨k', hk', rfl, rfl, hno, hC⟩ := hrel
        clear hN0 hN1 hE
        have hN0 := box_cell hC 0 (.int .i64 p) rfl
        have hN1 := box_cell hC 1 (.slice A l.length c) rfl
        have hNs := box_lt hC
        by_cases hlt' : k' < l.length
        · obtain ⟨b, o, rfl, hb0, h0, h1, h2⟩ := (hr.below' (box_below hC) hH).tri hlt'
          have hbb := lt_of_cell h0
          have hW := Lib.hid (HW.out k' hlt')
          have HK := Lib.hid (any_not HL.out k' hlt')
          go_wp2_with (go_at_call 30; refine (word_any _ _ hW.out).mono ?_; rintro e w1 ⟨rfl, hB1⟩)
          all_goals first
            | (go_roundw
               case rel => exact ⟨k' + 1, by omega, by go_num, (by rw [← formE_step l k' hlt' HK.out, maxif]), any_snoc _ _ _ hlt' hno.out (by rw [badW_false]; (try simp only [bemp, snil, decide_eq_true_eq, decide_eq_false_iff_not] at *); omega), (hC.alloc (by omega) _).trans (hB1.mono (by simp; omega))⟩
               case measure => simp [intOf]; omega)
            | (go_ret; exact Ret.int (sheetE_bad H24.out H400.out HL.out k' hlt' (by rw [badW_true]; (try simp only [bemp, snil, decide_eq_true_eq, decide_eq_false_iff_not] at *); omega)).symm ((box_below hC).alloc (by omega) _))
        · go_wp2
          go_ret
          exact Ret.int (sheetE_form H24.out H400.out HL.out H2.out (any_end _ _ _ hlt' hno.out) k' hlt').symm (box_below hC)
  · go_enter Tryz.func82, Tryz.ntmps82
    go_wp2_with (go_at_call 117; refine (contains_any _ l _ _ H hA (by simp; omega) HW.out hl).mono ?_; rintro e w1 ⟨rfl, hB⟩; replace hB := box_up hB)
    go_ret
    exact Ret.int (by simp [sheetE, hlong]) (box_below hB)
end Go.Proofs.YtmfklcnocekdlaaGreatDoor

namespace Go.Proofs.YtmfklcnocekdlaaGreatDoor
open Go Go.RowKit Tor

/-- Hands: the error of a number of pairs and a span -/
def handsE (p s : Int) : Int := if 2 ≤ p ∧ p ≤ 24 ∧ spansB p s = true then 0 else 7
/-- the step of a work -/
def stepOf (x : Tri) : Tri := if x.a = 2 then ⟨3, x.b, .empty⟩ else ⟨2, x.b, x.s⟩
def Tri.val (x : Tri) : Value := .agg #[.int .i64 x.a, .int .i64 x.b, .string x.s]

end Go.Proofs.YtmfklcnocekdlaaGreatDoor

namespace Tor
open Go Go.RowKit

theorem Own.append1 {α : Type} {sz : Nat} {enc : α → List Value} {w : World} {base : Nat} {e : TypeId} {v : Value} {l : List α} {y : α} (henc : (enc y).length = sz)
    (h : w.ownsRow base e sz v (l.length + 1) (l.flatMap enc ++ enc y)) : Own sz enc w base e v (l ++ [y]) := by
  unfold Own
  simpa using h

theorem tri_one (x : Tri) : ∀ u ∈ x.enc, u.oneCell' = true := by
  intro u hu
  simp only [Tri.enc, List.mem_cons, List.not_mem_nil, or_false] at hu
  rcases hu with rfl | rfl | rfl <;> rfl
theorem int_one (x : Int) : ∀ u ∈ ienc x, u.oneCell' = true := by
  intro u hu
  simp only [ienc, List.mem_cons, List.not_mem_nil, or_false] at hu
  rcases hu with rfl; rfl

theorem Own.alloc {α : Type} {sz : Nat} {enc : α → List Value} {w : World} {base : Nat} {e : TypeId} {v : Value} {l : List α} (h : Own sz enc w base e v l) (o : Obj) : Own sz enc (w.alloc o) base e v l :=
  World.ownsRow.alloc h o
theorem Own.drewN {α : Type} {sz : Nat} {enc : α → List Value} {w : World} {base : Nat} {e : TypeId} {v : Value} {l : List α} (h : Own sz enc w base e v l) (n : Nat) : Own sz enc (w.drewN n) base e v l := h


/-- an owned row stays owned where what was there stays as it was -/
theorem Own.below {α : Type} {sz : Nat} {enc : α → List Value} {w w' : World} {base : Nat} {e : TypeId} {v : Value} {l : List α} (h : Own sz enc w base e v l) (hB : Below w.heap.size w w') : Own sz enc w' base e v l := by
  obtain ⟨h1, h2⟩ := h
  refine ⟨h1, ?_⟩
  rcases h2 with h2 | ⟨g, cap, cur, hv, hg, hh, r⟩
  · exact Or.inl h2
  · refine Or.inr ⟨g, cap, cur, hv, hg, ?_, r⟩
    rw [hB.block g ?_]; exact hh
    rcases Nat.lt_or_ge g w.heap.size with h | h
    · exact h
    · rw [Array.getElem?_eq_none h] at hh; cases hh

theorem Own.base {α : Type} {sz : Nat} {enc : α → List Value} {w : World} {base base' : Nat} {e : TypeId} {v : Value} {l : List α} (h : Own sz enc w base e v l) (hb : base' ≤ base) : Own sz enc w base' e v l := by
  obtain ⟨h1, h2⟩ := h
  refine ⟨h1, ?_⟩
  rcases h2 with h2 | ⟨g, cap, cur, hv, hg, r⟩
  · exact Or.inl h2
  · exact Or.inr ⟨g, cap, cur, hv, Nat.le_trans hb hg, r⟩


/-- behind append: what was below the owned rows' base is as it was -/
theorem Own.grown {α : Type} {sz : Nat} {enc : α → List Value} {W w w' : World} {base : Nat} {e : TypeId} {v : Value} {l : List α} (h : Own sz enc w base e v l) (hB : Below base W w) (hg : w.grownBy w' v.ownBlock) (hs : base ≤ w.heap.size) : Below base W w' :=
  hB.grown hg hs (fun k hk => (World.ownsRow.lt h k hk).1)


/-- a block of the call's own whose element type is another one is not the row that is written -/
theorem Own.ne_block {α : Type} {sz : Nat} {enc : α → List Value} {w : World} {base : Nat} {e : TypeId} {v : Value} {l : List α} (h : Own sz enc w base e v l) {g : Nat} {cs : Array Value} {t : TypeId} {z : Nat × Nat} (hg : w.heap[g]? = some (.cells cs t z)) (ht : t ≠ e) : some g ≠ v.ownBlock := by
  intro hk
  obtain ⟨_, h2⟩ := h
  rcases h2 with ⟨rfl, _⟩ | ⟨g', cap, cur, rfl, _, hh, _⟩
  · simp [Value.ownBlock] at hk
  · simp only [Value.ownBlock, Option.some.injEq] at hk
    subst hk
    rw [hh] at hg
    simp only [Option.some.injEq, Obj.cells.injEq] at hg
    exact ht hg.2.1.symm

theorem wpList_append_tri {P : Program} {ops : Array Oper} {rest : List Oper} {o : Oper} {a : Act} {Q : Exit → Act → World → Prop} {w : World} (hgd : o.guard = none) (s x : Operand) (t : TypeId)
    (ho : o.op = .call { callee := .builtin .append, args := #[s, x], argTypes := #[t, t] })
    (base : Nat) (e : TypeId) (i : TypeInfo) (z : Value) (ht : P.underlying t = some (.slice e)) (hi : P.info? e = some i) (hz : i.zero = some z)
    (hsize : i.size = 3) (hby : i.bytes = 32) (hzs : z.cells.size = 3)
    (v : Value) (l : List Tri) (hs : a.eval s = v) (hown : Own 3 Tri.enc w base e v l)
    (g : Nat) (y : Tri) (hx : a.eval x = .slice (some ⟨g, 0, none⟩) 1 1)
    (h0 : w.cell? ⟨g, 0, none⟩ = some (.int .i64 y.a)) (h1 : w.cell? ⟨g, 1, none⟩ = some (.int .i64 y.b)) (h2 : w.cell? ⟨g, 2, none⟩ = some (.string y.s))
    (hlen : l.length ≤ 1000000) (hbase : base ≤ w.heap.size)
    (h : ∀ v' w', Own 3 Tri.enc w' base e v' (l ++ [y]) → w.grownBy w' v.ownBlock → wpList P ops Q rest (a.put o.dst v') w') : wpList P ops Q (o :: rest) a w := by
  refine wpList_append_own w hgd s x t ho base e i z 3 32 ht hi hz hsize hby hzs (by omega) v l.length (l.flatMap Tri.enc) hs hown ⟨g, 0, none⟩ 1 1 y.enc hx rfl ?_ (tri_one y) (by unfold maxLen; omega) (by omega) hbase
    (fun v' w' a b _ => h v' w' (Own.append1 rfl a) b)
  intro j u hu
  match j, hu with
  | 0, hu => simp [Tri.enc] at hu; subst hu; exact h0
  | 1, hu => simp [Tri.enc] at hu; subst hu; simpa [Addr.add] using h1
  | 2, hu => simp [Tri.enc] at hu; subst hu; simpa [Addr.add] using h2
end Tor

namespace Go.Proofs.YtmfklcnocekdlaaGreatDoor
open Go Go.RowKit Tor
theorem infoWork : (Tryz.prog.info? 79).map (fun i => (i.zero, i.size, i.bytes)) = some (some (.agg #[.int .i64 0, .int .i64 0, .string ⟨#[]⟩]), 3, 32) := by kernel_rfl


/-- how many works from one on are in reach -/
def runN (l : List Tri) (h s : Int) : Nat := (l.takeWhile (fun x => heldB h s x.b)).length

end Go.Proofs.YtmfklcnocekdlaaGreatDoor

namespace Go.Proofs.YtmfklcnocekdlaaGreatDoor
open Go Go.RowKit Tor

/-- the least of the places below k from which most can be made -/
def bestUpto (f : Nat → Nat) : Nat → Nat
  | 0 => 0
  | k + 1 => if f (bestUpto f k) < f k then k else bestUpto f k
/-- the instructions in the order of a sheet, hands at a place -/
def rst (p s : Int) : List Tri → Int → List Tri
  | [], _ => []
  | x :: r, h => if heldB h s x.b = true then stepOf x :: rst p s r h
    else ⟨1, bestUpto (fun h : Nat => runN (x :: r) h s) (p - s + 1).toNat, .empty⟩ :: stepOf x :: rst p s r (bestUpto (fun h : Nat => runN (x :: r) h s) (p - s + 1).toNat)

theorem rst_held {p s h : Int} {l : List Tri} {i : Nat} (hi : i < l.length) (hh : heldB h s l[i].b = true) : rst p s (l.drop i) h = stepOf l[i] :: rst p s (l.drop (i + 1)) h := by
  rw [List.drop_eq_getElem_cons hi, rst, if_pos hh]
theorem rst_reach {p s h : Int} {l : List Tri} {i b : Nat} (hi : i < l.length) (hh : heldB h s l[i].b = false) (hb : b = bestUpto (fun h : Nat => runN (l.drop i) h s) (p - s + 1).toNat) :
    rst p s (l.drop i) h = ⟨1, b, .empty⟩ :: stepOf l[i] :: rst p s (l.drop (i + 1)) b := by
  subst hb
  rw [List.drop_eq_getElem_cons hi, rst, if_neg (by simp [hh])]
end Go.Proofs.YtmfklcnocekdlaaGreatDoor

namespace Go.Proofs.YtmfklcnocekdlaaGreatDoor
open Go Go.RowKit Tor

theorem bestUpto_is (f : Nat → Nat) (b : Nat) : ∀ n, b < n → (∀ k, k < n → f k ≤ f b) → (∀ k, k < b → f k < f b) → bestUpto f n = b
  | 0, h, _, _ => absurd h (by omega)
  | n + 1, h, h1, h2 => by
    unfold bestUpto
    by_cases hb : b = n
    · subst hb
      by_cases h0 : b = 0
      · subst h0; simp [bestUpto]
      · have hlt : bestUpto f b < b := by
          have aux : ∀ n, 0 < n → bestUpto f n < n := by
            intro n hn
            induction n with
            | zero => omega
            | succ n ih =>
              unfold bestUpto
              split
              · omega
              · by_cases hz : n = 0
                · subst hz; simp [bestUpto]
                · have := ih (by omega); omega
          exact aux b (by omega)
        rw [if_pos (h2 _ hlt)]
    · rw [bestUpto_is f b n (by omega) (fun k hk => h1 k (by omega)) h2, if_neg (by have := h1 n (by omega); omega)]

theorem runN_ge {l : List Tri} {h s : Int} : ∀ {m : Nat}, m ≤ runN l h s ↔ ∀ j, j < m → ∃ x, l[j]? = some x ∧ heldB h s x.b = true := by
  induction l with
  | nil =>
    intro m
    simp only [runN, List.takeWhile_nil, List.length_nil, Nat.le_zero]
    constructor
    · rintro rfl j hj; omega
    · intro h
      rcases Nat.eq_zero_or_pos m with h0 | h0
      · exact h0
      · obtain ⟨x, hx, _⟩ := h 0 h0; simp at hx
  | cons y r ih =>
    intro m
    cases hy : heldB h s y.b
    · have e : runN (y :: r) h s = 0 := by unfold runN; rw [List.takeWhile_cons, if_neg (by simp [hy])]; rfl
      rw [e]
      constructor
      · intro hm j hj; omega
      · intro hh
        rcases Nat.eq_zero_or_pos m with h0 | h0
        · omega
        · obtain ⟨x, hx, hv⟩ := hh 0 h0; simp at hx; subst hx; rw [hy] at hv; cases hv
    · have e : runN (y :: r) h s = runN r h s + 1 := by unfold runN; rw [List.takeWhile_cons, if_pos hy]; rfl
      rw [e]
      cases m with
      | zero => simp
      | succ m =>
        rw [Nat.add_le_add_iff_right, ih]
        constructor
        · intro hh j hj
          cases j with
          | zero => exact ⟨y, rfl, hy⟩
          | succ j => simpa using hh j (by omega)
        · intro hh j hj
          simpa using hh (j + 1) (by omega)


/-- lo..hi is where the hands may lie for the works from i up to m -/
def Win (p s : Int) (l : List Tri) (i m : Nat) (lo hi : Int) : Prop :=
  i < m ∧ m ≤ l.length ∧ 0 ≤ lo ∧ hi ≤ p - s ∧ lo ≤ hi ∧ ∀ h : Int, (lo ≤ h ∧ h ≤ hi) ↔ (0 ≤ h ∧ h ≤ p - s ∧ ∀ j, i ≤ j → j < m → ∃ x, l[j]? = some x ∧ heldB h s x.b = true)

theorem held_iff (h s b : Int) : heldB h s b = true ↔ 0 ≤ h ∧ h ≤ b ∧ b + 2 ≤ h + s := by
  simp [heldB, and_assoc]

theorem Win.start {p s : Int} {l : List Tri} {i : Nat} (hi : i < l.length) (h1 : 0 ≤ l[i].b) (h2 : l[i].b ≤ p - 2) (h3 : 2 ≤ s) (h4 : s ≤ p) : Win p s l i (i + 1) (max 0 (l[i].b + 2 - s)) (min l[i].b (p - s)) := by
  refine ⟨by omega, by omega, by omega, by omega, by omega, fun h => ?_⟩
  constructor
  · rintro ⟨a, b⟩
    refine ⟨by omega, by omega, fun j hj hj' => ?_⟩
    obtain rfl : j = i := by omega
    exact ⟨l[j], List.getElem?_eq_getElem hi, (held_iff _ _ _).2 (by omega)⟩
  · rintro ⟨a, b, hh⟩
    obtain ⟨x, hx, hv⟩ := hh i (Nat.le_refl _) (by omega)
    rw [List.getElem?_eq_getElem hi] at hx
    simp only [Option.some.injEq] at hx
    subst hx
    rw [held_iff] at hv
    omega

theorem Win.next {p s : Int} {l : List Tri} {i m : Nat} {lo hi : Int} (hw : Win p s l i m lo hi) (hm : m < l.length)
    (ho : max lo (max 0 (l[m].b + 2 - s)) ≤ min hi (min l[m].b (p - s))) : Win p s l i (m + 1) (max lo (max 0 (l[m].b + 2 - s))) (min hi (min l[m].b (p - s))) := by
  obtain ⟨h1, h2, h3, h4, h5, h6⟩ := hw
  refine ⟨by omega, by omega, by omega, by omega, ho, fun h => ?_⟩
  constructor
  · rintro ⟨a, b⟩
    obtain ⟨c1, c2, c3⟩ := (h6 h).1 ⟨by omega, by omega⟩
    refine ⟨c1, c2, fun j hj hj' => ?_⟩
    rcases Nat.lt_or_ge j m with hjm | hjm
    · exact c3 j hj hjm
    · obtain rfl : j = m := by omega
      exact ⟨l[j], List.getElem?_eq_getElem hm, (held_iff _ _ _).2 (by omega)⟩
  · rintro ⟨a, b, hh⟩
    obtain ⟨d1, d2⟩ := (h6 h).2 ⟨a, b, fun j hj hj' => hh j hj (by omega)⟩
    obtain ⟨x, hx, hv⟩ := hh m (by omega) (by omega)
    rw [List.getElem?_eq_getElem hm] at hx
    simp only [Option.some.injEq] at hx
    subst hx
    rw [held_iff] at hv
    omega


/-- the window is as long as can be -/
def WinEnd (p s : Int) (l : List Tri) (i m : Nat) (lo : Int) : Prop :=
  (∃ hi, Win p s l i m lo hi) ∧ (∀ hm : m < l.length, ∀ h : Int, 0 ≤ h → h ≤ p - s → (∀ j, i ≤ j → j < m → ∃ x, l[j]? = some x ∧ heldB h s x.b = true) → heldB h s l[m].b = false)

theorem WinEnd.all {p s : Int} {l : List Tri} {i m : Nat} {lo hi : Int} (hw : Win p s l i m lo hi) (hm : ¬ m < l.length) : WinEnd p s l i m lo := ⟨⟨hi, hw⟩, fun h => absurd h hm⟩
theorem WinEnd.held {p s : Int} {l : List Tri} {i m : Nat} {lo : Int} (hw : WinEnd p s l i m lo) (j : Nat) (hj : i ≤ j) (hj' : j < m) (hl : j < l.length) : heldB lo s l[j].b = true := by
  obtain ⟨⟨hi, h1, h2, h3, h4, h5, h6⟩, _⟩ := hw
  obtain ⟨_, _, c⟩ := (h6 lo).1 ⟨by omega, h5⟩
  obtain ⟨x, hx, hv⟩ := c j hj hj'
  rw [List.getElem?_eq_getElem hl] at hx
  simp only [Option.some.injEq] at hx
  subst hx
  exact hv
theorem WinEnd.next {p s : Int} {l : List Tri} {i m : Nat} {lo : Int} (hw : WinEnd p s l i m lo) (hm : m < l.length) : heldB lo s l[m].b = false := by
  obtain ⟨⟨hi, h1, h2, h3, h4, h5, h6⟩, h7⟩ := hw
  obtain ⟨c1, c2, c⟩ := (h6 lo).1 ⟨by omega, h5⟩
  exact h7 hm lo c1 c2 c

theorem WinEnd.best {p s : Int} {l : List Tri} {i m b : Nat} (hw : WinEnd p s l i m b) : bestUpto (fun h : Nat => runN (l.drop i) h s) (p - s + 1).toNat = b := by
  obtain ⟨⟨hi, h1, h2, h3, h4, h5, h6⟩, h7⟩ := hw
  have key : ∀ h : Int, 0 ≤ h → h ≤ p - s → (m - i ≤ runN (l.drop i) h s ↔ ((b : Int) ≤ h ∧ h ≤ hi)) := by
    intro h a a'
    rw [runN_ge, h6]
    constructor
    · intro hh
      refine ⟨a, a', fun j hj hj' => ?_⟩
      obtain ⟨x, hx, hv⟩ := hh (j - i) (by omega)
      rw [List.getElem?_drop, show i + (j - i) = j from by omega] at hx
      exact ⟨x, hx, hv⟩
    · rintro ⟨_, _, hh⟩ j hj
      obtain ⟨x, hx, hv⟩ := hh (i + j) (by omega) (by omega)
      exact ⟨x, by rw [List.getElem?_drop]; exact hx, hv⟩
  have hup : ∀ h : Int, 0 ≤ h → h ≤ p - s → runN (l.drop i) h s ≤ m - i := by
    intro h a a'
    rcases Nat.lt_or_ge (m - i) (runN (l.drop i) h s) with hgt | hle
    · have hh := (runN_ge (l := l.drop i) (h := h) (s := s) (m := m - i + 1)).1 (by omega)
      have hm : m < l.length := by
        obtain ⟨x, hx, _⟩ := hh (m - i) (by omega)
        rw [List.getElem?_drop, show i + (m - i) = m from by omega] at hx
        exact (List.getElem?_eq_some_iff.1 hx).1
      have hf := h7 hm h a a' (fun j hj hj' => by
        obtain ⟨x, hx, hv⟩ := hh (j - i) (by omega)
        rw [List.getElem?_drop, show i + (j - i) = j from by omega] at hx
        exact ⟨x, hx, hv⟩)
      obtain ⟨x, hx, hv⟩ := hh (m - i) (by omega)
      rw [List.getElem?_drop, show i + (m - i) = m from by omega, List.getElem?_eq_getElem hm] at hx
      simp only [Option.some.injEq] at hx
      subst hx
      rw [hf] at hv; cases hv
    · exact hle
  have hb : m - i ≤ runN (l.drop i) b s := (key b (by omega) (by omega)).2 ⟨by omega, h5⟩
  refine bestUpto_is _ b _ (by omega) (fun k hk => ?_) (fun k hk => ?_)
  · have := hup k (by omega) (by omega)
    show runN _ _ _ ≤ runN _ _ _
    omega
  · have := (not_congr (key k (by omega) (by omega))).2 (by omega)
    show runN _ _ _ < runN _ _ _
    omega
end Go.Proofs.YtmfklcnocekdlaaGreatDoor

namespace Go.Proofs.YtmfklcnocekdlaaGreatDoor
open Go Go.RowKit Tor

/-- block g is just these cells, none of them frozen -/
def Blk (w : World) (g : Nat) (t : TypeId) (cs : Array Value) : Prop := w.heap[g]? = some (.cells cs t (0, 0))
theorem Blk.lt {w : World} {g : Nat} {t : TypeId} {cs : Array Value} (h : Blk w g t cs) : g < w.heap.size := by
  rcases Nat.lt_or_ge g w.heap.size with hlt | hge
  · exact hlt
  · unfold Blk at h; rw [Array.getElem?_eq_none hge] at h; cases h
theorem Blk.cell {w : World} {g : Nat} {t : TypeId} {cs : Array Value} (h : Blk w g t cs) (i : Nat) (v : Value) (hv : cs[i]? = some v) : w.cell? ⟨g, i, none⟩ = some v := by
  unfold Blk at h; simp [World.cell?, h, hv]
theorem Blk.frozen {w : World} {g : Nat} {t : TypeId} {cs : Array Value} (h : Blk w g t cs) (i : Nat) : w.frozen? ⟨g, i, none⟩ = false := by
  unfold Blk at h; simp [World.frozen?, h]
theorem Blk.new (w : World) (t : TypeId) (cs : Array Value) : Blk (w.alloc (.cells cs t)) w.heap.size t cs := heap_alloc_new w _
theorem Blk.below {w w' : World} {g : Nat} {t : TypeId} {cs : Array Value} (h : Blk w g t cs) {B : Nat} (hb : Below B w w') (hg : g < B) : Blk w' g t cs := (hb.block g hg).trans h
theorem Blk.below' {w w' : World} {g : Nat} {t : TypeId} {cs : Array Value} (h : Blk w g t cs) (hb : Below w.heap.size w w') : Blk w' g t cs := h.below hb h.lt
theorem Blk.alloc {w : World} {g : Nat} {t : TypeId} {cs : Array Value} (h : Blk w g t cs) (o : Obj) : Blk (w.alloc o) g t cs := (Below.heap_alloc w o g h.lt).trans h
theorem Blk.set_ {w : World} {g : Nat} {t : TypeId} {cs : Array Value} (h : Blk w g t cs) (i : Nat) (u : Value) : Blk (w.setCell ⟨g, i, none⟩ u) g t (cs.setIfInBounds i u) := by
  unfold Blk at h ⊢
  simp [World.setCell, Array.getElem?_modify, h]
theorem Blk.far {w : World} {g : Nat} {t : TypeId} {cs : Array Value} (h : Blk w g t cs) {p : Addr} (hp : g ≠ p.block) (u : Value) : Blk (w.setCell p u) g t cs := (Below.heap_setCell w p u g hp).trans h
theorem Blk.grown {w w' : World} {g : Nat} {t : TypeId} {cs : Array Value} (h : Blk w g t cs) {row : Option Nat} (hb : w.grownBy w' row) (hg : some g ≠ row) : Blk w' g t cs := (hb.block g h.lt hg).trans h

theorem nc {w w5 : World} {cs : Array Value} {t : TypeId} (hB : Below ((w.alloc (.cells cs t)).drew).heap.size ((w.alloc (.cells cs t)).drew) w5) : Blk w5 w.heap.size t cs :=
  Blk.below' (w := (w.alloc (.cells cs t)).drew) (Blk.new w t cs) hB
theorem WinEnd.reach {p s hands lo : Int} {l : List Tri} {i m : Nat} (hw : WinEnd p s l i m lo) (hi : i < l.length) (hn : heldB hands s l[i].b = false) : rst p s (l.drop i) hands = ⟨1, lo, .empty⟩ :: rst p s (l.drop i) lo := by
  have h0 : 0 ≤ lo := hw.1.choose_spec.2.2.1
  have him : i < m := hw.1.choose_spec.1
  obtain ⟨b, rfl⟩ := Int.eq_ofNat_of_zero_le h0
  rw [rst_reach hi hn hw.best.symm, rst_held hi (hw.held i (Nat.le_refl _) him hi)]


end Go.Proofs.YtmfklcnocekdlaaGreatDoor

namespace Go.Proofs.YtmfklcnocekdlaaGreatDoor
open Go Go.RowKit Tor

def nenc (i : Nat) : List Value := [.int .i64 i]
abbrev RdN := Rd 1 nenc
theorem RdN.head {w : World} {B : Nat} {A : Option Addr} {x : Nat} {l : List Nat} (h : RdN w B A (x :: l)) : ∃ b o, A = some ⟨b, o, none⟩ ∧ b < B ∧ w.cell? ⟨b, o, none⟩ = some (.int .i64 x) := by
  obtain ⟨b, o, e, hb, hc⟩ := h (by simp)
  exact ⟨b, o, e, hb, by simpa using hc 0 x rfl 0 _ rfl⟩

def frontZ (l m : List Nat) : Int := match l, m with
  | x :: _, y :: _ => if x = y then x else -1
  | _, _ => -1

theorem RdN.head' {w : World} {B : Nat} {A : Option Addr} {x : Nat} {l l' : List Nat} (h : RdN w B A l) (e : l = x :: l') : ∃ b o, A = some ⟨b, o, none⟩ ∧ b < B ∧ w.cell? ⟨b, o, none⟩ = some (.int .i64 x) := by
  subst e; exact h.head

end Go.Proofs.YtmfklcnocekdlaaGreatDoor

namespace Go.Proofs.YtmfklcnocekdlaaGreatDoor
open Go Go.RowKit Tor

/-- an Op, and a Word only if it may -/
def shapedB (x : Tri) : Bool := decide (x.a = 2) || (decide (x.a = 1) || decide (x.a = 3)) && decide (x.s.size = 0)
theorem bempt (s : ByteArray) : s.toList.isEmpty = decide (s.size = 0) := by
  have h := bemp s
  by_cases e : s.size = 0
  · simp only [e, ne_eq, not_true_eq_false, decide_false, Bool.not_eq_false'] at h
    rw [h]; simp [e]
  · simp only [e, ne_eq, not_false_eq_true, decide_true, Bool.not_eq_true'] at h
    rw [h]; simp [e]

theorem cshaped_any (x : Tri) (w : World) :
    Calls Tryz.prog 28 #[.agg #[.int .i64 x.a, .int .i64 x.b, .string x.s]] w (Ret (.bool (shapedB x)) w) := by
  rcases (show x.a = 2 ∨ x.a = 1 ∨ x.a = 3 ∨ (x.a ≠ 2 ∧ x.a ≠ 1 ∧ x.a ≠ 3) from by omega) with h | h | h | ⟨h, h', h''⟩
  all_goals
    have g2 : (x.a == 2) = decide (x.a = 2) := rfl
    have g1 : (x.a == 1) = decide (x.a = 1) := rfl
    have g3 : (x.a == 3) = decide (x.a = 3) := rfl
    simp only [h, decide_true, decide_false, *] at g1 g2 g3
    have HH : Hid (shapedB x = (decide (x.a = 2) || (decide (x.a = 1) || decide (x.a = 3)) && x.s.toList.isEmpty)) := by rw [Hid, bempt]; rfl
    go_enter Tryz.func28, Tryz.ntmps28
    go_wp2_with fail
    go_ret
    exact Ret.bool (by rw [HH.out]; simp [*]) ((Below.refl _ _).alloc (Nat.le_refl _) _)


/-- the work of a step -/
def workOf (x : Tri) : Tri := if x.a = 3 then ⟨2, x.b, .empty⟩ else ⟨1, x.b, x.s⟩

/-- the error of a step -/
def doE (p s h n : Int) (x : Tri) : Int :=
  if shapedB x = false then 2 else if wordE x.s ≠ 0 then wordE x.s
  else if x.b < 0 ∨ p - 2 < x.b ∨ (x.a = 1 ∧ p - s < x.b) then 7
  else if x.a ≠ 1 ∧ heldB h s x.b = false then 9
  else if x.a ≠ 1 ∧ 400 ≤ n then 3 else 0

theorem doE_sh {p s h n : Int} {x : Tri} (h1 : shapedB x = false) : doE p s h n x = 2 := by unfold doE; rw [if_pos h1]
theorem doE_w {p s h n : Int} {x : Tri} (h1 : shapedB x = true) (h2 : wordE x.s ≠ 0) : doE p s h n x = wordE x.s := by
  unfold doE; rw [if_neg (by simp [h1]), if_pos h2]
theorem doE_r {p s h n : Int} {x : Tri} (h1 : shapedB x = true) (h2 : wordE x.s = 0) (h3 : x.b < 0 ∨ p - 2 < x.b ∨ (x.a = 1 ∧ p - s < x.b)) : doE p s h n x = 7 := by
  unfold doE; rw [if_neg (by simp [h1]), if_neg (by simp [h2]), if_pos h3]
theorem doE_d {p s h n : Int} {x : Tri} (h1 : shapedB x = true) (h2 : wordE x.s = 0) (h3 : ¬ (x.b < 0 ∨ p - 2 < x.b ∨ (x.a = 1 ∧ p - s < x.b))) (h4 : x.a ≠ 1) (h5 : heldB h s x.b = false) : doE p s h n x = 9 := by
  unfold doE; rw [if_neg (by simp [h1]), if_neg (by simp [h2]), if_neg h3, if_pos ⟨h4, h5⟩]
theorem doE_l {p s h n : Int} {x : Tri} (h1 : shapedB x = true) (h2 : wordE x.s = 0) (h3 : ¬ (x.b < 0 ∨ p - 2 < x.b ∨ (x.a = 1 ∧ p - s < x.b))) (h4 : x.a ≠ 1) (h5 : heldB h s x.b = true) (h6 : 400 ≤ n) : doE p s h n x = 3 := by
  unfold doE; rw [if_neg (by simp [h1]), if_neg (by simp [h2]), if_neg h3, if_neg (by simp [h5]), if_pos ⟨h4, h6⟩]
theorem doE_0 {p s h n : Int} {x : Tri} (h1 : shapedB x = true) (h2 : wordE x.s = 0) (h3 : ¬ (x.b < 0 ∨ p - 2 < x.b ∨ (x.a = 1 ∧ p - s < x.b))) (h4 : x.a = 1 ∨ (heldB h s x.b = true ∧ ¬ 400 ≤ n)) : doE p s h n x = 0 := by
  unfold doE
  rw [if_neg (by simp [h1]), if_neg (by simp [h2]), if_neg h3, if_neg ?_, if_neg ?_]
  · rintro ⟨a, b⟩
    rcases h4 with h4 | h4
    · exact a h4
    · exact h4.2 b
  · rintro ⟨a, b⟩
    rcases h4 with h4 | h4
    · exact a h4
    · rw [h4.1] at b; cases b


end Go.Proofs.YtmfklcnocekdlaaGreatDoor

