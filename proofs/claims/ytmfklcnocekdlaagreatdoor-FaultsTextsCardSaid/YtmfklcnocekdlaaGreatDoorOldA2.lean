/- Plain theory and walks of small functions (OldA2). -/
import Derived.Test.YtmfklcnocekdlaaGreatDoorOldA1
import Derived.BigRegion
import Derived.Deep.LoopGhost
import Derived.Deep.RegionLaw
set_option linter.unusedSimpArgs false
set_option linter.unusedVariables false
namespace Go.Proofs.YtmfklcnocekdlaaGreatDoor
open Go Go.RowKit Tor

def front (f : Nat → List Nat) (a : Nat) : Option Nat := match f a, f (a + 1) with
  | x :: _, y :: _ => if x = y then some x else none
  | _, _ => none
def pop (f : Nat → List Nat) (a : Nat) : Nat → List Nat := fun k => if k = a ∨ k = a + 1 then (f k).tail else f k

theorem frontZ_some {f : Nat → List Nat} {a x : Nat} (h : front f a = some x) : frontZ (f a) (f (a + 1)) = x ∧ ∃ l m, f a = x :: l ∧ f (a + 1) = x :: m := by
  unfold front at h
  unfold frontZ
  cases h1 : f a with
  | nil => rw [h1] at h; cases h
  | cons y l =>
    cases h2 : f (a + 1) with
    | nil => rw [h1, h2] at h; cases h
    | cons z m =>
      rw [h1, h2] at h
      by_cases e : y = z
      · simp only [e, if_true, Option.some.injEq] at h
        subst h; subst e
        exact ⟨by simp, l, m, rfl, rfl⟩
      · simp [e] at h
/-- row k of the block R reads as f k, in memory below B other than R -/
def RowsAt (w : World) (R B : Nat) (f : Nat → List Nat) : Prop :=
  ∀ k, k < 24 → ∃ A c, w.cell? ⟨R, k, none⟩ = some (.slice A (f k).length c) ∧ (f k).length ≤ c ∧ w.frozen? ⟨R, k, none⟩ = false ∧ RdN w B A (f k) ∧ (f k ≠ [] → ∀ g o z, A = some ⟨g, o, z⟩ → g ≠ R)


/-- what was in these blocks is as it was -/
structure Same (S : Nat → Prop) (w w' : World) : Prop where
  os : w'.os = w.os
  tape : w'.tape = w.tape
  output : w'.output = w.output
  size : w.heap.size ≤ w'.heap.size
  block : ∀ k, S k → w'.heap[k]? = w.heap[k]?
theorem Same.refl (S : Nat → Prop) (w : World) : Same S w w := ⟨rfl, rfl, rfl, Nat.le_refl _, fun _ _ => rfl⟩
theorem Same.trans {S : Nat → Prop} {a b c : World} (h : Same S a b) (k : Same S b c) : Same S a c :=
  ⟨k.os.trans h.os, k.tape.trans h.tape, k.output.trans h.output, Nat.le_trans h.size k.size, fun i hi => (k.block i hi).trans (h.block i hi)⟩
theorem Same.mono {S T : Nat → Prop} {a b : World} (h : Same S a b) (hST : ∀ k, T k → S k) : Same T a b := ⟨h.os, h.tape, h.output, h.size, fun k hk => h.block k (hST k hk)⟩
theorem Same.of_below {B : Nat} {a b : World} (h : Below B a b) : Same (· < B) a b := ⟨h.os, h.tape, h.output, h.size, h.block⟩
theorem Same.below {B : Nat} {a b : World} (h : Same (· < B) a b) : Below B a b := ⟨h.os, h.tape, h.output, h.size, h.block⟩
theorem Same.drewN {S : Nat → Prop} {a b : World} (h : Same S a b) (n : Nat) : Same S a (b.drewN n) := ⟨h.os, h.tape, h.output, h.size, h.block⟩
theorem Same.drew {S : Nat → Prop} {a b : World} (h : Same S a b) : Same S a b.drew := ⟨h.os, h.tape, h.output, h.size, h.block⟩
theorem Same.setCell {S : Nat → Prop} {a b : World} (h : Same S a b) {p : Addr} (hp : ¬ S p.block) (u : Value) : Same S a (b.setCell p u) :=
  h.trans ⟨rfl, rfl, rfl, by simp [World.setCell], fun k hk => Below.heap_setCell _ _ _ _ (fun e => hp (e ▸ hk))⟩
theorem Same.cell {S : Nat → Prop} {a b : World} (h : Same S a b) {p : Addr} (hp : S p.block) : b.cell? p = a.cell? p := World.cell?_of_block (w := a) (h.block p.block hp)
theorem Same.frozen {S : Nat → Prop} {a b : World} (h : Same S a b) {p : Addr} (hp : S p.block) : b.frozen? p = a.frozen? p := World.frozen?_of_block (w := a) (h.block p.block hp)

theorem RowsAt.same {w w' : World} {R B : Nat} {f : Nat → List Nat} (h : RowsAt w R B f) (hs : Same (fun k => k < B ∨ k = R) w w') : RowsAt w' R B f := fun k hk => by
  obtain ⟨A, c, h1, h2, h3, h4, h5⟩ := h k hk
  exact ⟨A, c, (hs.cell (p := ⟨R, k, none⟩) (Or.inr rfl)).trans h1, h2, (hs.frozen (p := ⟨R, k, none⟩) (Or.inr rfl)).trans h3, h4.keep (fun p hp => hs.cell (Or.inl hp)), h5⟩
theorem RowsAt.drewN {w : World} {R B : Nat} {f : Nat → List Nat} (h : RowsAt w R B f) (n : Nat) : RowsAt (w.drewN n) R B f := h

/-- what is stored where the first of a row is taken off -/
def TailVal (w : World) (B R : Nat) (v : Value) (l : List Nat) : Prop :=
  ∃ A c, v = .slice A l.length c ∧ l.length ≤ c ∧ RdN w B A l ∧ (l ≠ [] → ∀ g o z, A = some ⟨g, o, z⟩ → g ≠ R)
theorem tailVal1 {w : World} {B R g o c : Nat} {l : List Nat} (hne : g ≠ R) (hc : l.length ≤ c) (h1 : c = 1) : TailVal w B R (.slice (some ⟨g, o, none⟩) (l.length - 1) 0) l.tail := by
  have : l.tail = [] := by apply List.eq_nil_of_length_eq_zero; rw [List.length_tail]; omega
  refine ⟨some ⟨g, o, none⟩, 0, by rw [List.length_tail], by rw [List.length_tail]; omega, by rw [this]; exact Rd.nil, ?_⟩
  intro _ g' o' z e
  simp only [Option.some.injEq, Addr.mk.injEq] at e
  rw [← e.1]; exact hne
theorem tailVal2 {w : World} {B R g o c : Nat} {l : List Nat} (hd : RdN w B (some ⟨g, o, none⟩) l) (hne : g ≠ R) (hc : l.length ≤ c) : TailVal w B R (.slice (some ⟨g, o + 1, none⟩) (l.length - 1) (c - 1)) l.tail := by
  refine ⟨some ⟨g, o + 1, none⟩, c - 1, by rw [List.length_tail], by rw [List.length_tail]; omega, ?_, ?_⟩
  · intro hl
    have hl' : l ≠ [] := fun e => hl (by rw [e]; rfl)
    obtain ⟨b, o', e, hb, hcell⟩ := hd hl'
    simp only [Option.some.injEq, Addr.mk.injEq, and_true] at e
    obtain ⟨rfl, rfl⟩ := e
    refine ⟨g, o + 1, rfl, hb, fun k x hx j u hu => ?_⟩
    rw [List.getElem?_tail] at hx
    have := hcell (k + 1) x hx j u hu
    rw [show o + 1 + k * 1 + j = o + (k + 1) * 1 + j from by omega]
    exact this
  · intro _ g' o' z e
    simp only [Option.some.injEq, Addr.mk.injEq] at e
    rw [← e.1]; exact hne

theorem RdN.set {w : World} {B R : Nat} {A : Option Addr} {l : List Nat} (h : RdN w B A l) (hne : l ≠ [] → ∀ g o z, A = some ⟨g, o, z⟩ → g ≠ R) (k : Nat) (v : Value) : RdN (w.setCell ⟨R, k, none⟩ v) B A l := fun hl => by
  obtain ⟨b, o, e, hb, hc⟩ := h hl
  refine ⟨b, o, e, hb, fun j x hx i u hu => ?_⟩
  rw [World.cell?_setCell_other _ _ _ _ (by intro e'; simp only [Addr.mk.injEq] at e'; exact hne hl _ _ _ e e'.1.symm)]
  exact hc j x hx i u hu
theorem TailVal.set {w : World} {B R : Nat} {v : Value} {l : List Nat} (h : TailVal w B R v l) (k : Nat) (u : Value) : TailVal (w.setCell ⟨R, k, none⟩ u) B R v l := by
  obtain ⟨A, c, h1, h2, h3, h4⟩ := h
  exact ⟨A, c, h1, h2, h3.set h4 k u, h4⟩


/-- a store of row t -/
theorem RowsAt.store {w : World} {R B t : Nat} {f : Nat → List Nat} {v : Value} {l : List Nat} (hr : RowsAt w R B f) (hv : TailVal w B R v l) : RowsAt (w.setCell ⟨R, t, none⟩ v) R B (fun k => if k = t then l else f k) := fun k hk => by
  obtain ⟨A, c, h1, h2, h3, h4, h5⟩ := hr k hk
  by_cases e : k = t
  · subst e
    obtain ⟨A', c', e1, e2, e3, e4⟩ := hv
    simp only [if_true]
    exact ⟨A', c', by rw [World.cell?_setCell_same _ _ _ h1, e1], e2, by rw [World.frozen?_setCell]; exact h3, e3.set e4 k v, e4⟩
  · simp only [e, if_false]
    exact ⟨A, c, by rw [World.cell?_setCell_other _ _ _ _ (by intro e'; simp only [Addr.mk.injEq, and_true, true_and] at e'; exact e e'.symm)]; exact h1, h2, by rw [World.frozen?_setCell]; exact h3, h4.set h5 t v, h5⟩
theorem RowsAt.pop {w : World} {R B t : Nat} {f : Nat → List Nat} {v1 v2 : Value} (hr : RowsAt w R B f) (h1 : TailVal w B R v1 (f t).tail) (h2 : TailVal w B R v2 (f (t + 1)).tail) :
    RowsAt ((w.setCell ⟨R, t, none⟩ v1).setCell ⟨R, t + 1, none⟩ v2) R B (Proofs.YtmfklcnocekdlaaGreatDoor.pop f t) := by
  have h := (hr.store (t := t) h1).store (t := t + 1) (h2.set t v1)
  intro k hk
  have e : Proofs.YtmfklcnocekdlaaGreatDoor.pop f t k = (if k = t + 1 then (f (t + 1)).tail else if k = t then (f t).tail else f k) := by
    unfold Proofs.YtmfklcnocekdlaaGreatDoor.pop
    by_cases e1 : k = t + 1
    · subst e1; simp
    · by_cases e2 : k = t
      · subst e2; simp
      · rw [if_neg (by omega), if_neg e1, if_neg e2]
  rw [e]
  exact h k hk

end Go.Proofs.YtmfklcnocekdlaaGreatDoor

namespace Go.Proofs.YtmfklcnocekdlaaGreatDoor
open Go Go.RowKit Tor

end Go.Proofs.YtmfklcnocekdlaaGreatDoor

namespace Go.Proofs.YtmfklcnocekdlaaGreatDoor
open Go Go.RowKit Tor

/-- the closure's state: the steps so far, how many were made -/
def OutInv (base ob mb : Nat) (done : List Tri) (k : Nat) (w : World) : Prop :=
  ∃ v, Blk w ob 22 #[v] ∧ Own 3 Tri.enc w base 52 v done ∧ Blk w mb 3 #[.int .i64 k]

theorem Own.far {α : Type} {sz : Nat} {enc : α → List Value} {w : World} {base : Nat} {e : TypeId} {v : Value} {l : List α} (h : Own sz enc w base e v l) {p : Addr} (hp : p.block < base) (u : Value) : Own sz enc (w.setCell p u) base e v l := by
  obtain ⟨h1, h2⟩ := h
  refine ⟨h1, ?_⟩
  rcases h2 with h2 | ⟨g, cap, cur, hv, hg, hh, r⟩
  · exact Or.inl h2
  · refine Or.inr ⟨g, cap, cur, hv, hg, ?_, r⟩
    rw [Below.heap_setCell w p u g (by omega)]; exact hh

theorem Own.far' {α : Type} {sz : Nat} {enc : α → List Value} {w : World} {base : Nat} {e : TypeId} {v : Value} {l : List α} (h : Own sz enc w base e v l) {p : Addr} (hp : some p.block ≠ v.ownBlock) (u : Value) : Own sz enc (w.setCell p u) base e v l := by
  obtain ⟨h1, h2⟩ := h
  refine ⟨h1, ?_⟩
  rcases h2 with h2 | ⟨g, cap, cur, rfl, hg, hh, r⟩
  · exact Or.inl h2
  · refine Or.inr ⟨g, cap, cur, rfl, hg, ?_, r⟩
    rw [Below.heap_setCell w p u g (fun e => hp (by rw [← e]; rfl))]; exact hh
theorem Blk.heap {w : World} {g : Nat} {t : TypeId} {cs : Array Value} (h : Blk w g t cs) : w.heap[g]? = some (.cells cs t (0, 0)) := h

theorem Same.grown {S : Nat → Prop} {w w1 w3 : World} {row : Option Nat} {o : Obj} (hB : Below w.drew.heap.size w.drew w1) (hS : ∀ j, S j → j < w.heap.size) (hg : (w1.alloc o).grownBy w3 row) (hne : ∀ j, S j → some j ≠ row) : Same S w w3 := by
  have hb : Below w.heap.size w w1 := ⟨hB.os, hB.tape, hB.output, hB.size, hB.block⟩
  refine ⟨hg.os.trans hb.os, hg.tape.trans hb.tape, hg.output.trans hb.output, Nat.le_trans (Nat.le_trans hb.size (by simp)) hg.size, fun j hj => ?_⟩
  rw [hg.block j (by have := hb.size; have := hS j hj; simp; omega) (hne j hj), Below.heap_alloc w1 o j (by have := hb.size; have := hS j hj; omega)]
  exact hb.block j (hS j hj)

theorem OutInv.below {base ob mb k : Nat} {done : List Tri} {w w' : World} (h : OutInv base ob mb done k w) (hB : Below w.heap.size w w') : OutInv base ob mb done k w' := by
  obtain ⟨v, a, b, c⟩ := h
  exact ⟨v, a.below' hB, b.below hB, c.below' hB⟩
theorem OutInv.set_ {base ob mb k : Nat} {done : List Tri} {w : World} (h : OutInv base ob mb done k w) {p : Addr} (h1 : ob ≠ p.block) (h2 : mb ≠ p.block) (h3 : p.block < base) (u : Value) : OutInv base ob mb done k (w.setCell p u) := by
  obtain ⟨v, a, b, c⟩ := h
  exact ⟨v, a.far h1 u, Own.far b h3 u, c.far h2 u⟩
theorem OutInv.drew {base ob mb k : Nat} {done : List Tri} {w : World} (h : OutInv base ob mb done k w) : OutInv base ob mb done k w.drew := h


end Go.Proofs.YtmfklcnocekdlaaGreatDoor

