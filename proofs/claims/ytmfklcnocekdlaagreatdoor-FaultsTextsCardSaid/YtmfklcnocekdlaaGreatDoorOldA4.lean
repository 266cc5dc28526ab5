/- Plain theory and walks of small functions (OldA4). -/
import Derived.Lib.QuoteBits
import Derived.WalkKit
import Derived.Test.YtmfklcnocekdlaaGreatDoorOldA3
import Derived.BigRegion
import Derived.Maps.OwnSet
import Derived.DeepKeys4
import Derived.Deep.LoopGhost
import Derived.Deep.DeepCutAuto
set_option linter.unusedSimpArgs false
set_option linter.unusedVariables false
namespace Tor
open Go

theorem u64 (a : Nat) (h : a < 18446744073709551616) : (BitVec.ofInt 64 (a : Int)).toNat = a := by
  rw [BitVec.ofInt_natCast, BitVec.toNat_ofNat]; exact Nat.mod_eq_of_lt (by omega)

/-- the bits of a that b does not have -/
def dif (a b : Nat) : Nat := a &&& (18446744073709551615 - b)
end Tor
namespace Tor
open Go
end Tor
namespace Tor
open Go Go.RowKit
end Tor

namespace Go.Proofs.YtmfklcnocekdlaaGreatDoor
open Go Go.RowKit Tor

/-- may work i be done next? (d: what is done; f: what must be done before) -/
def freeB (bf : List Nat) (d i : Nat) : Bool := !d.testBit i && decide (dif (bf.getD i 0) d = 0)

end Go.Proofs.YtmfklcnocekdlaaGreatDoor

namespace Go.Proofs.YtmfklcnocekdlaaGreatDoor
open Go Go.RowKit Tor

/-- the places from which a work is in reach -/
def wlo (s : Int) (x : Tri) : Int := max 0 (x.b + 2 - s)
def whi (p s : Int) (x : Tri) : Int := min x.b (p - s)

/-- does work x need no reach, if the hands may lie in lo..hi? -/
def joinB (p s : Int) (x : Tri) (lo hi : Int) : Bool := decide (lo ≤ hi) && decide (max (wlo s x) lo ≤ min (whi p s x) hi)

def nlo (s : Int) (x : Tri) (lo : Int) (j : Bool) : Int := if j then max (wlo s x) lo else wlo s x
def nhi (p s : Int) (x : Tri) (hi : Int) (j : Bool) : Int := if j then min (whi p s x) hi else whi p s x
def nn (j : Bool) : Int := if j then 0 else 1

end Go.Proofs.YtmfklcnocekdlaaGreatDoor

namespace Go.Proofs.YtmfklcnocekdlaaGreatDoor
open Go Go.RowKit Tor Go.Maps

theorem laidOut : laidOutB Tryz.prog = true := by kernel_rfl
theorem rowState : (94 : TypeId) < Tryz.prog.types.size := of_decide_eq_true (by kernel_rfl)
theorem wideState : (match Tryz.prog.underlying 94 with | some (.array _ _) | some (.struct _) => true | _ => false) = true := by kernel_rfl

set_option maxRecDepth 100000 in
theorem lawState : Keyed Tryz.prog 94 := Keyed.of_law (deep_law_laid laidOut (m := 4) (by omega) rowState (by kernel_rfl) wideState)
def keyL (d lo hi : Int) : Lit := .string (keyBytes [.int .i64 d, .int .i64 lo, .int .i64 hi])
theorem wf_small (n : Int) (h0 : 0 ≤ n) (h1 : n ≤ 100000) : (Lit.int .i64 n).wf = true := WalkArith.wf_i64 (by omega)
theorem cellsState : Tryz.prog.cellsOf 94 = 3 := by kernel_rfl
theorem cellsWindow : Tryz.prog.cellsOf 91 = 2 := by kernel_rfl
theorem cellsInt : Tryz.prog.cellsOf 3 = 1 := by kernel_rfl
theorem keyTState : Tryz.prog.keyType 94 = true := by kernel_rfl

theorem key_int (m : Nat) (n : Int) (h0 : 0 ≤ n) (h1 : n ≤ 100000) : Tryz.prog.keyLits (m + 1) 3 [.int .i64 n] = some [.int .i64 n] := by
  unfold Program.keyLits
  simp [Tryz.underlying3, wf_small n h0 h1]
theorem key_window (m : Nat) (a b : Int) (h0 : 0 ≤ a) (h1 : a ≤ 100000) (h2 : 0 ≤ b) (h3 : b ≤ 100000) : Tryz.prog.keyLits (m + 2) 91 [.int .i64 a, .int .i64 b] = some [.int .i64 a, .int .i64 b] := by
  unfold Program.keyLits
  simp [Tryz.underlying91, cellsWindow, cellsInt, key_int m a h0 h1, key_int m b h2 h3]
theorem key_state3 (m : Nat) (d a b : Int) (g0 : 0 ≤ d) (g1 : d ≤ 100000) (h0 : 0 ≤ a) (h1 : a ≤ 100000) (h2 : 0 ≤ b) (h3 : b ≤ 100000) : Tryz.prog.keyLits (m + 3) 94 [.int .i64 d, .int .i64 a, .int .i64 b] = some [.int .i64 d, .int .i64 a, .int .i64 b] := by
  unfold Program.keyLits
  simp [Tryz.underlying94, cellsState, cellsWindow, cellsInt, key_int (m + 1) d g0 g1, key_window m a b h0 h1 h2 h3]

theorem key_state (d a b : Int) (g0 : 0 ≤ d) (g1 : d ≤ 100000) (h0 : 0 ≤ a) (h1 : a ≤ 100000) (h2 : 0 ≤ b) (h3 : b ≤ 100000) : keyOf Tryz.prog 94 (.agg #[.int .i64 d, .int .i64 a, .int .i64 b]) = some (keyL d a b) := by
  have hs : 3 ≤ Tryz.prog.types.size + 1 := of_decide_eq_true (by kernel_rfl)
  obtain ⟨m, hm⟩ : ∃ m, Tryz.prog.types.size + 1 = m + 3 := ⟨_, (Nat.sub_add_cancel hs).symm⟩
  unfold keyOf
  rw [hm]
  simp [Tryz.underlying94, keyTState, Value.formed, cellsState, Value.cells, key_state3 m d a b g0 g1 h0 h1 h2 h3, keyL]

theorem key_inj {d a b d' a' b' : Int} (g0 : 0 ≤ d) (g1 : d ≤ 100000) (h0 : 0 ≤ a) (h1 : a ≤ 100000) (h2 : 0 ≤ b) (h3 : b ≤ 100000) (g0' : 0 ≤ d') (g1' : d' ≤ 100000) (h0' : 0 ≤ a') (h1' : a' ≤ 100000) (h2' : 0 ≤ b') (h3' : b' ≤ 100000)
    (h : keyL d a b = keyL d' a' b') : d = d' ∧ a = a' ∧ b = b' := by
  have e1 := key_state d a b g0 g1 h0 h1 h2 h3
  have e2 := key_state d' a' b' g0' g1' h0' h1' h2' h3'
  rw [← h] at e2
  have := lawState.inj e1 e2
  simpa using this
theorem key_is (d a b : Int) : WideAt.IsKeyLit (keyL d a b) := trivial

end Go.Proofs.YtmfklcnocekdlaaGreatDoor

namespace Go.Proofs.YtmfklcnocekdlaaGreatDoor
open Go Go.RowKit Tor Go.Maps

def minUpto (g : Nat → Option Int) (n0 : Int) : Nat → Int
  | 0 => n0
  | j + 1 => match g j with
    | some x => min (minUpto g n0 j) x
    | none => minUpto g n0 j
def xAt (l : List Tri) (i : Nat) : Tri := l.getD i ⟨0, 0, .empty⟩
theorem xAt_of {l : List Tri} {i : Nat} (h : i < l.length) : xAt l i = l[i] := by unfold xAt; rw [List.getD_eq_getElem?_getD, List.getElem?_eq_getElem h]; rfl


/-- how many of n bits are not set -/
def zeros (n d : Nat) : Nat := ((List.range n).filter fun i => !d.testBit i).length
section
variable (p s : Int) (l : List Tri) (bf : List Nat)
/-- the fewest reaches from a state on, with fuel -/
def fewF : Nat → Nat → Int → Int → Int
  | 0, _, _, _ => 0
  | k + 1, d, lo, hi => if d = 2 ^ l.length - 1 then 0 else
      minUpto (fun i => if freeB bf d i then some (nn (joinB p s (xAt l i) lo hi) + fewF k (d ||| 2 ^ i) (nlo s (xAt l i) lo (joinB p s (xAt l i) lo hi)) (nhi p s (xAt l i) hi (joinB p s (xAt l i) lo hi))) else none) l.length l.length
def few (d : Nat) (lo hi : Int) : Int := fewF p s l bf (zeros l.length d) d lo hi

end
variable {p s : Int} {l : List Tri} {bf : List Nat}

/-- what the map knows is true -/
def Known (p s : Int) (l : List Tri) (bf : List Nat) (D : DataW Unit) : Prop :=
  ∀ (d : Nat) (lo hi : Int), d < 1024 → 0 ≤ lo → lo ≤ 24 → 0 ≤ hi → hi ≤ 24 → Maps.has D (keyL d lo hi) = true → D.atKey (keyL d lo hi) (.lit (.int .i64 0)) = .lit (.int .i64 (few p s l bf d lo hi))
theorem Known.empty : Known p s l bf (.map []) := fun d lo hi _ _ _ _ _ h => by simp [Maps.has] at h
theorem Known.put {D : DataW Unit} (h : Known p s l bf D) (hD : Maps.IsMap D) {d : Nat} {lo hi : Int} (g0 : d < 1024) (g1 : 0 ≤ lo) (g2 : lo ≤ 24) (g3 : 0 ≤ hi) (g4 : hi ≤ 24) :
    Known p s l bf (D.put (keyL d lo hi) (.lit (.int .i64 (few p s l bf d lo hi)))) := fun d' lo' hi' f0 f1 f2 f3 f4 hh => by
  by_cases e : keyL d' lo' hi' = keyL d lo hi
  · obtain ⟨e1, e2, e3⟩ := key_inj (by omega) (by omega) (by omega) (by omega) (by omega) (by omega) (by omega) (by omega) (by omega) (by omega) (by omega) (by omega) e
    have e1' : d' = d := by omega
    subst e1' e2 e3
    exact Maps.atKey_put_same hD (key_is _ _ _) _ _
  · rw [Maps.has_put_other e] at hh
    rw [Maps.atKey_put_other e]
    exact h d' lo' hi' f0 f1 f2 f3 f4 hh


/-- block mb is a map of at most n entries that knows only what is true -/
def MapK (p s : Int) (l : List Tri) (bf : List Nat) (w : World) (mb n : Nat) : Prop := ∃ D : DataW Unit, w.ownsMap Tryz.prog 94 (plainElem Tryz.prog 3) mb n D ∧ Known p s l bf D
theorem MapK.mono {w : World} {mb n n' : Nat} (h : MapK p s l bf w mb n) (hn : n ≤ n') : MapK p s l bf w mb n' := by obtain ⟨D, h1, h2⟩ := h; exact ⟨D, h1.mono hn, h2⟩
theorem MapK.below {w w' : World} {mb n : Nat} (h : MapK p s l bf w mb n) (hB : Below w.heap.size w w') : MapK p s l bf w' mb n := by
  obtain ⟨D, h1, h2⟩ := h
  obtain ⟨es, clock, hb, r⟩ := h1
  have hlt : mb < w.heap.size := (Array.getElem?_eq_some_iff.1 hb).1
  exact ⟨D, ⟨es, clock, (hB.block mb hlt).trans hb, r⟩, h2⟩
theorem MapK.isMap {w : World} {mb n : Nat} (h : MapK p s l bf w mb n) : ∃ es clock, w.heap[mb]? = some (.map es clock) := by
  obtain ⟨D, ⟨es, clock, hb, r⟩, h2⟩ := h
  exact ⟨es, clock, hb⟩
theorem MapK.lt {w : World} {mb n : Nat} (h : MapK p s l bf w mb n) : mb < w.heap.size := by
  obtain ⟨es, clock, hb⟩ := h.isMap
  exact (Array.getElem?_eq_some_iff.1 hb).1
theorem MapK.ne {w : World} {mb n b o : Nat} {v : Value} (h : MapK p s l bf w mb n) (hc : w.cell? ⟨b, o, none⟩ = some v) : b ≠ mb := fun e => by
  obtain ⟨es, clock, hb⟩ := h.isMap
  subst e
  simp [World.cell?, hb] at hc


/-- a slice of numbers, wherever it lies -/
def RdF (w : World) (A : Option Addr) (bf : List Nat) : Prop := bf ≠ [] → ∃ b o, A = some ⟨b, o, none⟩ ∧ ∀ (k : Nat) (x : Nat), bf[k]? = some x → w.cell? ⟨b, o + k, none⟩ = some (.int .i64 (x : Int))
theorem RdF.rd {w : World} {A : Option Addr} {bf : List Nat} (h : RdF w A bf) : RdN w w.heap.size A bf := fun hl => by
  obtain ⟨b, o, e, hc⟩ := h hl
  obtain ⟨x, r, hx⟩ := List.exists_cons_of_ne_nil hl
  refine ⟨b, o, e, lt_of_cell (hc 0 x (by rw [hx]; rfl)), fun k x hx j u hu => ?_⟩
  match j, hu with
  | 0, hu => simp [nenc] at hu; subst hu; simpa using hc k x hx


/-- the planner as it lies in memory -/
structure PlanAt (w : World) (pb sb mb : Nat) (p s : Int) (A : Option Addr) (c : Nat) (l : List Tri) (Ab : Option Addr) (cb : Nat) (bf : List Nat) (H : Nat) : Prop where
  c0 : w.cell? ⟨pb, 0, none⟩ = some (.pointer (some ⟨sb, 0, none⟩))
  c1 : w.cell? ⟨pb, 1, none⟩ = some (.int .i64 s)
  c2 : w.cell? ⟨pb, 2, none⟩ = some (.slice Ab bf.length cb)
  c3 : w.cell? ⟨pb, 3, none⟩ = some (.map (some mb))
  s0 : w.cell? ⟨sb, 0, none⟩ = some (.int .i64 p)
  s1 : w.cell? ⟨sb, 1, none⟩ = some (.slice A l.length c)
  hr : RdT w H A l
  hH : H ≤ w.heap.size
  hHm : H ≤ mb
  hbf : RdF w Ab bf
theorem PlanAt.same {w w' : World} {pb sb mb n : Nat} {A : Option Addr} {c : Nat} {Ab : Option Addr} {cb : Nat} {H : Nat} (h : PlanAt w pb sb mb p s A c l Ab cb bf H) (hm : MapK p s l bf w mb n) (hS : Same (fun j => j < w.heap.size ∧ j ≠ mb) w w') :
    PlanAt w' pb sb mb p s A c l Ab cb bf H := by
  have k : ∀ {b o v}, w.cell? ⟨b, o, none⟩ = some v → w'.cell? ⟨b, o, none⟩ = some v := fun {b o v} hc => (hS.cell (p := ⟨b, o, none⟩) ⟨lt_of_cell hc, hm.ne hc⟩).trans hc
  have hH := h.hH
  have hHm := h.hHm
  exact ⟨k h.c0, k h.c1, k h.c2, k h.c3, k h.s0, k h.s1, h.hr.keep (fun q hq => hS.cell (p := q) ⟨by omega, by omega⟩), Nat.le_trans h.hH hS.size, h.hHm, fun hl => by
    obtain ⟨b, o, e, hc⟩ := h.hbf hl
    exact ⟨b, o, e, fun i x hx => k (hc i x hx)⟩⟩
/-- one step behind another -/
theorem Same.step {w w1 w2 : World} {mb : Nat} (h : Same (fun j => j < w.heap.size ∧ j ≠ mb) w w1) (g : Same (fun j => j < w1.heap.size ∧ j ≠ mb) w1 w2) : Same (fun j => j < w.heap.size ∧ j ≠ mb) w w2 :=
  h.trans (g.mono fun k hk => ⟨Nat.lt_of_lt_of_le hk.1 h.size, hk.2⟩)
end Go.Proofs.YtmfklcnocekdlaaGreatDoor

namespace Go.Proofs.YtmfklcnocekdlaaGreatDoor
open Go Go.RowKit Tor Go.Maps

end Go.Proofs.YtmfklcnocekdlaaGreatDoor

namespace Go.Proofs.YtmfklcnocekdlaaGreatDoor
open Go Go.RowKit Tor

/-- levels of the first works, and what comes next at each place -/
structure LvInv (l : List Tri) (L : List Nat) (N : Nat → Nat) : Prop where
  le : ∀ q, N q ≤ L.length
  len : L.length ≤ l.length
  nx : ∀ (k : Nat) (hk : k < L.length) (hk' : k < l.length) (q : Nat), (l[k].b = q ∨ l[k].b + 1 = q) → L[k] < N q
  ord : ∀ (k i : Nat) (hki : k < i) (hi : i < L.length) (hi' : i < l.length), touchB l[k].b l[i].b = true → L[k] < L[i]

theorem LvInv.start (l : List Tri) : LvInv l [] (fun _ => 0) := ⟨fun _ => Nat.le_refl _, Nat.zero_le _, fun k hk => by simp at hk, fun k i _ hi => by simp at hi⟩

theorem LvInv.step {l : List Tri} {L : List Nat} {N : Nat → Nat} {t n : Nat} (h : LvInv l L N) (hlt : L.length < l.length) (ht : l[L.length].b = t) (hn1 : N t ≤ n) (hn2 : N (t + 1) ≤ n) (hn3 : n ≤ L.length) :
    LvInv l (L ++ [n]) (fun q => if q = t ∨ q = t + 1 then n + 1 else N q) := by
  refine ⟨fun q => ?_, by simp; omega, fun k hk hk' q hq => ?_, fun k i hki hi hi' hto => ?_⟩
  · have := h.le q
    split <;> simp <;> omega
  · simp only [List.length_append, List.length_cons, List.length_nil] at hk
    by_cases e : k < L.length
    · rw [List.getElem_append_left e]
      have := h.nx k e hk' q hq
      split
      · rename_i hqt
        rcases hqt with rfl | rfl <;> omega
      · exact this
    · obtain rfl : k = L.length := by omega
      rw [List.getElem_append_right (by omega)]
      simp only [Nat.sub_self, List.getElem_cons_zero]
      rw [if_pos (by omega)]
      omega
  · simp only [List.length_append, List.length_cons, List.length_nil] at hi
    have hkl : k < L.length := by omega
    rw [List.getElem_append_left hkl]
    by_cases e : i < L.length
    · rw [List.getElem_append_left e]
      exact h.ord k i hki e hi' hto
    · obtain rfl : i = L.length := by omega
      rw [List.getElem_append_right (by omega)]
      simp only [Nat.sub_self, List.getElem_cons_zero]
      unfold touchB at hto
      simp only [Bool.and_eq_true, decide_eq_true_eq] at hto
      rw [ht] at hto
      rcases (show l[k].b = t ∨ l[k].b + 1 = t ∨ l[k].b = t + 1 by omega) with e1 | e1 | e1
      · have := h.nx k hkl (by omega) t (Or.inl e1); omega
      · have := h.nx k hkl (by omega) t (Or.inr e1); omega
      · have := h.nx k hkl (by omega) (t + 1) (Or.inl (by omega)); omega

end Go.Proofs.YtmfklcnocekdlaaGreatDoor

namespace Go.Proofs.YtmfklcnocekdlaaGreatDoor
open Go Go.RowKit Tor

def touchAt (l : List Tri) (i k : Nat) : Bool := touchB (xAt l k).b (xAt l i).b

section
variable (p s : Int) (l : List Tri) (bf : List Nat)
end
variable {p s : Int} {l : List Tri} {bf : List Nat}

end Go.Proofs.YtmfklcnocekdlaaGreatDoor

namespace Go.Proofs.YtmfklcnocekdlaaGreatDoor
open Go Go.RowKit Tor Go.Maps

theorem RdF.same {w w' : World} {A : Option Addr} {bf : List Nat} {T : Nat → Prop} (h : RdF w A bf) (hs : Same T w w') (hT : ∀ b o v, A = some ⟨b, o, none⟩ → w.cell? ⟨b, o, none⟩ = some v → T b) : RdF w' A bf := fun hl => by
  obtain ⟨b, o, e, hc⟩ := h hl
  obtain ⟨x, r, hx⟩ := List.exists_cons_of_ne_nil hl
  have h0 := hc 0 x (by rw [hx]; rfl)
  exact ⟨b, o, e, fun k x hx => (hs.cell (p := ⟨b, o + k, none⟩) (hT b o _ e h0)).trans (hc k x hx)⟩
theorem RdF.at {w : World} {A : Option Addr} {bf : List Nat} (h : RdF w A bf) {k : Nat} (hk : k < bf.length) : ∃ b o, A = some ⟨b, o, none⟩ ∧ ∀ (j : Nat) (hj : j < bf.length), w.cell? ⟨b, o + j, none⟩ = some (.int .i64 (bf[j] : Int)) := by
  obtain ⟨b, o, e, hc⟩ := h (by intro e; subst e; simp at hk)
  exact ⟨b, o, e, fun j hj => hc j _ (List.getElem?_eq_getElem hj)⟩

theorem MapK.same {p s : Int} {l : List Tri} {bf : List Nat} {w w' : World} {mb n : Nat} {T : Nat → Prop} (h : MapK p s l bf w mb n) (hs : Same T w w') (hT : T mb) : MapK p s l bf w' mb n := by
  obtain ⟨D, ⟨es, clock, hb, r⟩, h2⟩ := h
  exact ⟨D, ⟨es, clock, (hs.block mb hT).trans hb, r⟩, h2⟩
theorem Own.same {α : Type} {sz : Nat} {enc : α → List Value} {w w' : World} {base : Nat} {e : TypeId} {v : Value} {l : List α} {T : Nat → Prop} (h : Own sz enc w base e v l) (hs : Same T w w') (hT : ∀ g, v.ownBlock = some g → T g) : Own sz enc w' base e v l := by
  obtain ⟨h1, h2⟩ := h
  refine ⟨h1, ?_⟩
  rcases h2 with h2 | ⟨g, cap, cur, rfl, hg, hh, r⟩
  · exact Or.inl h2
  · exact Or.inr ⟨g, cap, cur, rfl, hg, (hs.block g (hT g rfl)).trans hh, r⟩
end Go.Proofs.YtmfklcnocekdlaaGreatDoor

