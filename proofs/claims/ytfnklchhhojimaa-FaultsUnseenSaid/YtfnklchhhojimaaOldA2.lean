/- Plain theory and walks of small functions (OldA2). -/
import Derived.Test.YtfnklchhhojimaaOldA1
import Derived.BigRegion
import Derived.Deep.LoopGhost
import Derived.Deep.RegionLaw
set_option linter.unusedSimpArgs false
set_option linter.unusedVariables false
namespace Go.Proofs.Ytfnklchhhojimaa
open Go Go.RowKit Tor

def front (f : Nat → List Nat) (a : Nat) : Option Nat := match f a, f (a + 1) with
  | x :: _, y :: _ => if x = y then some x else none
  | _, _ => none
def pop (f : Nat → List Nat) (a : Nat) : Nat → List Nat := fun k => if k = a ∨ k = a + 1 then (f k).tail else f k

/-- what is made with the hands at h: the works, and the rows behind it -/
def swp (h s : Nat) : Nat → Nat → (Nat → List Nat) → List Nat × (Nat → List Nat)
  | 0, _, f => ([], f)
  | n + 1, a, f => if a + 1 < h + s then
      match front f a with
      | none => swp h s n (a + 1) f
      | some i => (i :: (swp h s n (max h (a - 1)) (pop f a)).1, (swp h s n (max h (a - 1)) (pop f a)).2)
    else ([], f)

theorem frontZ_some {f : Nat → List Nat} {a x : Nat} (h : front f a = some x) : frontZ (f a) (f (a + 1)) = x ∧ ∃ l m, f a = x :: l ∧ f (a + 1) = x :: m := by
  unfold front at h
  unfold frontZ
  cases h1 : f a with
  | nil => rw [h1] at h; cases h
  | cons y l =>
    cases h2 : f (a + 1) with
    | nil => rw [h1, h2] at h; cases h
    | cons z m =>
      rw [h1, h2] at h
      by_cases e : y = z
      · simp only [e, if_true, Option.some.injEq] at h
        subst h; subst e
        exact ⟨by simp, l, m, rfl, rfl⟩
      · simp [e] at h
theorem frontZ_none {f : Nat → List Nat} {a : Nat} (h : front f a = none) : frontZ (f a) (f (a + 1)) = -1 := by
  unfold front at h
  unfold frontZ
  cases h1 : f a with
  | nil => rfl
  | cons y l =>
    cases h2 : f (a + 1) with
    | nil => rfl
    | cons z m =>
      rw [h1, h2] at h
      by_cases e : y = z
      · simp [e] at h
      · simp [e]

def sumTo (f : Nat → List Nat) : Nat → Nat
  | 0 => 0
  | n + 1 => sumTo f n + (f n).length
theorem sumTo_pop (f : Nat → List Nat) (a : Nat) (h1 : 0 < (f a).length) (h2 : 0 < (f (a + 1)).length) : ∀ n, sumTo (pop f a) n + (if a < n then 1 else 0) + (if a + 1 < n then 1 else 0) = sumTo f n
  | 0 => by simp [sumTo]
  | n + 1 => by
    have ih := sumTo_pop f a h1 h2 n
    unfold sumTo
    by_cases e1 : n = a
    · subst e1
      have : (pop f n n).length + 1 = (f n).length := by simp [pop]; omega
      simp only [Nat.lt_irrefl, if_false, Nat.lt_succ_self, if_true] at ih ⊢
      have e : ¬ n + 1 < n := by omega
      simp only [e, if_false] at ih
      omega
    · by_cases e2 : n = a + 1
      · subst e2
        have : (pop f a (a + 1)).length + 1 = (f (a + 1)).length := by simp [pop]; omega
        have c1 : a < a + 1 := by omega
        have c2 : a < a + 1 + 1 := by omega
        have c3 : a + 1 < a + 1 + 1 := by omega
        have c4 : ¬ a + 1 < a + 1 := by omega
        simp only [c1, c2, c3, c4, if_true, if_false] at ih ⊢
        omega
      · have e : pop f a n = f n := by unfold pop; rw [if_neg (by omega)]
        rw [e]
        have c1 : (a < n + 1) = (a < n) := by apply propext; omega
        have c2 : (a + 1 < n + 1) = (a + 1 < n) := by apply propext; omega
        simp only [c1, c2]
        omega


/-- row k of the block R reads as f k, in memory below B other than R -/
def RowsAt (w : World) (R B : Nat) (f : Nat → List Nat) : Prop :=
  ∀ k, k < 24 → ∃ A c, w.cell? ⟨R, k, none⟩ = some (.slice A (f k).length c) ∧ (f k).length ≤ c ∧ w.frozen? ⟨R, k, none⟩ = false ∧ RdN w B A (f k) ∧ (f k ≠ [] → ∀ g o z, A = some ⟨g, o, z⟩ → g ≠ R)


/-- what was in these blocks is as it was -/
structure Same (S : Nat → Prop) (w w' : World) : Prop where
  os : w'.os = w.os
  tape : w'.tape = w.tape
  output : w'.output = w.output
  size : w.heap.size ≤ w'.heap.size
  block : ∀ k, S k → w'.heap[k]? = w.heap[k]?
theorem Same.refl (S : Nat → Prop) (w : World) : Same S w w := ⟨rfl, rfl, rfl, Nat.le_refl _, fun _ _ => rfl⟩
theorem Same.trans {S : Nat → Prop} {a b c : World} (h : Same S a b) (k : Same S b c) : Same S a c :=
  ⟨k.os.trans h.os, k.tape.trans h.tape, k.output.trans h.output, Nat.le_trans h.size k.size, fun i hi => (k.block i hi).trans (h.block i hi)⟩
theorem Same.mono {S T : Nat → Prop} {a b : World} (h : Same S a b) (hST : ∀ k, T k → S k) : Same T a b := ⟨h.os, h.tape, h.output, h.size, fun k hk => h.block k (hST k hk)⟩
theorem Same.of_below {B : Nat} {a b : World} (h : Below B a b) : Same (· < B) a b := ⟨h.os, h.tape, h.output, h.size, h.block⟩
theorem Same.below {B : Nat} {a b : World} (h : Same (· < B) a b) : Below B a b := ⟨h.os, h.tape, h.output, h.size, h.block⟩
theorem Same.drewN {S : Nat → Prop} {a b : World} (h : Same S a b) (n : Nat) : Same S a (b.drewN n) := ⟨h.os, h.tape, h.output, h.size, h.block⟩
theorem Same.drew {S : Nat → Prop} {a b : World} (h : Same S a b) : Same S a b.drew := ⟨h.os, h.tape, h.output, h.size, h.block⟩
theorem Same.setCell {S : Nat → Prop} {a b : World} (h : Same S a b) {p : Addr} (hp : ¬ S p.block) (u : Value) : Same S a (b.setCell p u) :=
  h.trans ⟨rfl, rfl, rfl, by simp [World.setCell], fun k hk => Below.heap_setCell _ _ _ _ (fun e => hp (e ▸ hk))⟩
theorem Same.cell {S : Nat → Prop} {a b : World} (h : Same S a b) {p : Addr} (hp : S p.block) : b.cell? p = a.cell? p := World.cell?_of_block (w := a) (h.block p.block hp)
theorem Same.frozen {S : Nat → Prop} {a b : World} (h : Same S a b) {p : Addr} (hp : S p.block) : b.frozen? p = a.frozen? p := World.frozen?_of_block (w := a) (h.block p.block hp)

theorem RowsAt.same {w w' : World} {R B : Nat} {f : Nat → List Nat} (h : RowsAt w R B f) (hs : Same (fun k => k < B ∨ k = R) w w') : RowsAt w' R B f := fun k hk => by
  obtain ⟨A, c, h1, h2, h3, h4, h5⟩ := h k hk
  exact ⟨A, c, (hs.cell (p := ⟨R, k, none⟩) (Or.inr rfl)).trans h1, h2, (hs.frozen (p := ⟨R, k, none⟩) (Or.inr rfl)).trans h3, h4.keep (fun p hp => hs.cell (Or.inl hp)), h5⟩
theorem RowsAt.drewN {w : World} {R B : Nat} {f : Nat → List Nat} (h : RowsAt w R B f) (n : Nat) : RowsAt (w.drewN n) R B f := h

/-- what is stored where the first of a row is taken off -/
def TailVal (w : World) (B R : Nat) (v : Value) (l : List Nat) : Prop :=
  ∃ A c, v = .slice A l.length c ∧ l.length ≤ c ∧ RdN w B A l ∧ (l ≠ [] → ∀ g o z, A = some ⟨g, o, z⟩ → g ≠ R)
theorem tailVal1 {w : World} {B R g o c : Nat} {l : List Nat} (hne : g ≠ R) (hc : l.length ≤ c) (h1 : c = 1) : TailVal w B R (.slice (some ⟨g, o, none⟩) (l.length - 1) 0) l.tail := by
  have : l.tail = [] := by apply List.eq_nil_of_length_eq_zero; rw [List.length_tail]; omega
  refine ⟨some ⟨g, o, none⟩, 0, by rw [List.length_tail], by rw [List.length_tail]; omega, by rw [this]; exact Rd.nil, ?_⟩
  intro _ g' o' z e
  simp only [Option.some.injEq, Addr.mk.injEq] at e
  rw [← e.1]; exact hne
theorem tailVal2 {w : World} {B R g o c : Nat} {l : List Nat} (hd : RdN w B (some ⟨g, o, none⟩) l) (hne : g ≠ R) (hc : l.length ≤ c) : TailVal w B R (.slice (some ⟨g, o + 1, none⟩) (l.length - 1) (c - 1)) l.tail := by
  refine ⟨some ⟨g, o + 1, none⟩, c - 1, by rw [List.length_tail], by rw [List.length_tail]; omega, ?_, ?_⟩
  · intro hl
    have hl' : l ≠ [] := fun e => hl (by rw [e]; rfl)
    obtain ⟨b, o', e, hb, hcell⟩ := hd hl'
    simp only [Option.some.injEq, Addr.mk.injEq, and_true] at e
    obtain ⟨rfl, rfl⟩ := e
    refine ⟨g, o + 1, rfl, hb, fun k x hx j u hu => ?_⟩
    rw [List.getElem?_tail] at hx
    have := hcell (k + 1) x hx j u hu
    rw [show o + 1 + k * 1 + j = o + (k + 1) * 1 + j from by omega]
    exact this
  · intro _ g' o' z e
    simp only [Option.some.injEq, Addr.mk.injEq] at e
    rw [← e.1]; exact hne

theorem RdN.set {w : World} {B R : Nat} {A : Option Addr} {l : List Nat} (h : RdN w B A l) (hne : l ≠ [] → ∀ g o z, A = some ⟨g, o, z⟩ → g ≠ R) (k : Nat) (v : Value) : RdN (w.setCell ⟨R, k, none⟩ v) B A l := fun hl => by
  obtain ⟨b, o, e, hb, hc⟩ := h hl
  refine ⟨b, o, e, hb, fun j x hx i u hu => ?_⟩
  rw [World.cell?_setCell_other _ _ _ _ (by intro e'; simp only [Addr.mk.injEq] at e'; exact hne hl _ _ _ e e'.1.symm)]
  exact hc j x hx i u hu
theorem TailVal.set {w : World} {B R : Nat} {v : Value} {l : List Nat} (h : TailVal w B R v l) (k : Nat) (u : Value) : TailVal (w.setCell ⟨R, k, none⟩ u) B R v l := by
  obtain ⟨A, c, h1, h2, h3, h4⟩ := h
  exact ⟨A, c, h1, h2, h3.set h4 k u, h4⟩


/-- a store of row t -/
theorem RowsAt.store {w : World} {R B t : Nat} {f : Nat → List Nat} {v : Value} {l : List Nat} (hr : RowsAt w R B f) (hv : TailVal w B R v l) : RowsAt (w.setCell ⟨R, t, none⟩ v) R B (fun k => if k = t then l else f k) := fun k hk => by
  obtain ⟨A, c, h1, h2, h3, h4, h5⟩ := hr k hk
  by_cases e : k = t
  · subst e
    obtain ⟨A', c', e1, e2, e3, e4⟩ := hv
    simp only [if_true]
    exact ⟨A', c', by rw [World.cell?_setCell_same _ _ _ h1, e1], e2, by rw [World.frozen?_setCell]; exact h3, e3.set e4 k v, e4⟩
  · simp only [e, if_false]
    exact ⟨A, c, by rw [World.cell?_setCell_other _ _ _ _ (by intro e'; simp only [Addr.mk.injEq, and_true, true_and] at e'; exact e e'.symm)]; exact h1, h2, by rw [World.frozen?_setCell]; exact h3, h4.set h5 t v, h5⟩
theorem RowsAt.pop {w : World} {R B t : Nat} {f : Nat → List Nat} {v1 v2 : Value} (hr : RowsAt w R B f) (h1 : TailVal w B R v1 (f t).tail) (h2 : TailVal w B R v2 (f (t + 1)).tail) :
    RowsAt ((w.setCell ⟨R, t, none⟩ v1).setCell ⟨R, t + 1, none⟩ v2) R B (Proofs.Ytfnklchhhojimaa.pop f t) := by
  have h := (hr.store (t := t) h1).store (t := t + 1) (h2.set t v1)
  intro k hk
  have e : Proofs.Ytfnklchhhojimaa.pop f t k = (if k = t + 1 then (f (t + 1)).tail else if k = t then (f t).tail else f k) := by
    unfold Proofs.Ytfnklchhhojimaa.pop
    by_cases e1 : k = t + 1
    · subst e1; simp
    · by_cases e2 : k = t
      · subst e2; simp
      · rw [if_neg (by omega), if_neg e1, if_neg e2]
  rw [e]
  exact h k hk

theorem pop_le {f : Nat → List Nat} {t : Nat} {b : Nat} (h : ∀ k, k < 24 → (f k).length ≤ b) : ∀ k, k < 24 → (Proofs.Ytfnklchhhojimaa.pop f t k).length ≤ b := fun k hk => by
  unfold Proofs.Ytfnklchhhojimaa.pop
  have := h k hk
  split
  · rw [List.length_tail]; omega
  · exact this

theorem swp_none {h s n a : Nat} {f : Nat → List Nat} (ha : a + 1 < h + s) (hf : front f a = none) (hn : 0 < n) : swp h s n a f = swp h s (n - 1) (a + 1) f := by
  obtain ⟨n, rfl⟩ : ∃ m, n = m + 1 := ⟨n - 1, by omega⟩
  rw [swp, if_pos ha, hf]; rfl
theorem swp_some {h s n a i : Nat} {f : Nat → List Nat} (ha : a + 1 < h + s) (hf : front f a = some i) (hn : 0 < n) : swp h s n a f = (i :: (swp h s (n - 1) (max h (a - 1)) (Proofs.Ytfnklchhhojimaa.pop f a)).1, (swp h s (n - 1) (max h (a - 1)) (Proofs.Ytfnklchhhojimaa.pop f a)).2) := by
  obtain ⟨n, rfl⟩ : ∃ m, n = m + 1 := ⟨n - 1, by omega⟩
  rw [swp, if_pos ha, hf]; rfl
theorem swp_end {h s n a : Nat} {f : Nat → List Nat} (ha : ¬ a + 1 < h + s) : swp h s n a f = ([], f) := by
  cases n with
  | zero => rfl
  | succ n => rw [swp, if_neg ha]
end Go.Proofs.Ytfnklchhhojimaa

namespace Go.Proofs.Ytfnklchhhojimaa
open Go Go.RowKit Tor


end Go.Proofs.Ytfnklchhhojimaa

namespace Go.Proofs.Ytfnklchhhojimaa
open Go Go.RowKit Tor

theorem step_append_tri {P : Program} {ops : Array Oper} {o : Oper} {a : Act} {K : Act → World → Prop} {Q : Exit → Act → World → Prop} {E : Prop} {w : World} (hgd : o.guard = none) (s x : Operand) (t : TypeId)
    (ho : o.op = .call { callee := .builtin .append, args := #[s, x], argTypes := #[t, t] })
    (base : Nat) (e : TypeId) (i : TypeInfo) (z : Value) (ht : P.underlying t = some (.slice e)) (hi : P.info? e = some i) (hz : i.zero = some z)
    (hsize : i.size = 3) (hby : i.bytes = 32) (hzs : z.cells.size = 3)
    (v : Value) (l : List Tri) (hs : a.eval s = v) (hown : Own 3 Tri.enc w base e v l)
    (g : Nat) (y : Tri) (hx : a.eval x = .slice (some ⟨g, 0, none⟩) 1 1)
    (h0 : w.cell? ⟨g, 0, none⟩ = some (.int .i64 y.a)) (h1 : w.cell? ⟨g, 1, none⟩ = some (.int .i64 y.b)) (h2 : w.cell? ⟨g, 2, none⟩ = some (.string y.s))
    (hlen : l.length ≤ 1000000) (hbase : base ≤ w.heap.size)
    (h : ∀ v' w', Own 3 Tri.enc w' base e v' (l ++ [y]) → w.grownBy w' v.ownBlock → K (a.put o.dst v') w') :
    if Region.wanted o (yielded ops a.tmps) = true then Oper.wp P o a w K Q else E := by
  have hw : Region.wanted o (yielded ops a.tmps) = true := by simp [Region.wanted, hgd]
  rw [if_pos hw]
  refine wp_append_own w s x t ho base e i z 3 32 ht hi hz hsize hby hzs (by omega) v l.length (l.flatMap Tri.enc) hs hown ⟨g, 0, none⟩ 1 1 y.enc hx rfl ?_ (tri_one y) (by unfold maxLen; omega) (by omega) hbase
    (fun v' w' a b _ => h v' w' (Own.append1 rfl a) b)
  intro j u hu
  match j, hu with
  | 0, hu => simp [Tri.enc] at hu; subst hu; exact h0
  | 1, hu => simp [Tri.enc] at hu; subst hu; simpa [Addr.add] using h1
  | 2, hu => simp [Tri.enc] at hu; subst hu; simpa [Addr.add] using h2


/-- the closure's state: the steps so far, how many were made -/
def OutInv (base ob mb : Nat) (done : List Tri) (k : Nat) (w : World) : Prop :=
  ∃ v, Blk w ob 22 #[v] ∧ Own 3 Tri.enc w base 45 v done ∧ Blk w mb 3 #[.int .i64 k]

theorem Own.far {α : Type} {sz : Nat} {enc : α → List Value} {w : World} {base : Nat} {e : TypeId} {v : Value} {l : List α} (h : Own sz enc w base e v l) {p : Addr} (hp : p.block < base) (u : Value) : Own sz enc (w.setCell p u) base e v l := by
  obtain ⟨h1, h2⟩ := h
  refine ⟨h1, ?_⟩
  rcases h2 with h2 | ⟨g, cap, cur, hv, hg, hh, r⟩
  · exact Or.inl h2
  · refine Or.inr ⟨g, cap, cur, hv, hg, ?_, r⟩
    rw [Below.heap_setCell w p u g (by omega)]; exact hh

theorem Own.far' {α : Type} {sz : Nat} {enc : α → List Value} {w : World} {base : Nat} {e : TypeId} {v : Value} {l : List α} (h : Own sz enc w base e v l) {p : Addr} (hp : some p.block ≠ v.ownBlock) (u : Value) : Own sz enc (w.setCell p u) base e v l := by
  obtain ⟨h1, h2⟩ := h
  refine ⟨h1, ?_⟩
  rcases h2 with h2 | ⟨g, cap, cur, rfl, hg, hh, r⟩
  · exact Or.inl h2
  · refine Or.inr ⟨g, cap, cur, rfl, hg, ?_, r⟩
    rw [Below.heap_setCell w p u g (fun e => hp (by rw [← e]; rfl))]; exact hh
theorem Blk.heap {w : World} {g : Nat} {t : TypeId} {cs : Array Value} (h : Blk w g t cs) : w.heap[g]? = some (.cells cs t (0, 0)) := h

theorem Own.len1 {w : World} {base : Nat} {e : TypeId} {A : Option Addr} {c : Nat} {l : List Tri} {y : Tri} (h : Own 3 Tri.enc w base e (.slice A (l ++ [y]).length c) (l ++ [y])) : Own 3 Tri.enc w base e (.slice A (l.length + 1) c) (l ++ [y]) := by
  have e0 : (l ++ [y]).length = l.length + 1 := by simp
  rw [e0] at h; exact h

theorem Same.grown {S : Nat → Prop} {w w1 w3 : World} {row : Option Nat} {o : Obj} (hB : Below w.drew.heap.size w.drew w1) (hS : ∀ j, S j → j < w.heap.size) (hg : (w1.alloc o).grownBy w3 row) (hne : ∀ j, S j → some j ≠ row) : Same S w w3 := by
  have hb : Below w.heap.size w w1 := ⟨hB.os, hB.tape, hB.output, hB.size, hB.block⟩
  refine ⟨hg.os.trans hb.os, hg.tape.trans hb.tape, hg.output.trans hb.output, Nat.le_trans (Nat.le_trans hb.size (by simp)) hg.size, fun j hj => ?_⟩
  rw [hg.block j (by have := hb.size; have := hS j hj; simp; omega) (hne j hj), Below.heap_alloc w1 o j (by have := hb.size; have := hS j hj; omega)]
  exact hb.block j (hS j hj)

theorem outInv_end {w w3 : World} {S : Nat → Prop} {base ob mb k : Nat} {done : List Tri} {A2 : Option Addr} {c2 : Nat} {y : Tri} {v0 : Value} (hS : Same S w w3) (hSo : ¬ S ob) (hSm : ¬ S mb)
    (ho : Blk w3 ob 22 #[v0]) (hm : Blk w3 mb 3 #[.int .i64 k]) (hob : ob ≠ mb) (hbo : ob < base)
    (hown : Own 3 Tri.enc w3 base 45 (.slice A2 (done.length + 1) c2) (done ++ [y])) :
    OutInv base ob mb (done ++ [y]) (k + 1) ((w3.setCell ⟨ob, 0, none⟩ (.slice A2 (done.length + 1) c2)).setCell ⟨mb, 0, none⟩ (.int .i64 ((k : Int) + 1))) ∧
    Same S w ((w3.setCell ⟨ob, 0, none⟩ (.slice A2 (done.length + 1) c2)).setCell ⟨mb, 0, none⟩ (.int .i64 ((k : Int) + 1))) :=
  by
  have h1 : Own 3 Tri.enc (w3.setCell ⟨ob, 0, none⟩ (.slice A2 (done.length + 1) c2)) base 45 (.slice A2 (done.length + 1) c2) (done ++ [y]) := Own.far hown hbo _
  have hm1 := hm.far (p := ⟨ob, 0, none⟩) (Ne.symm hob) (.slice A2 (done.length + 1) c2)
  exact ⟨⟨_, (ho.set_ 0 _).far hob _, Own.far' h1 (Own.ne_block h1 hm1.heap (by decide)) _, hm1.set_ 0 _⟩, (hS.setCell hSo _).setCell hSm _⟩


def stepAt (l : List Tri) (i : Nat) : Tri := if h : i < l.length then stepOf l[i] else ⟨0, 0, .empty⟩
theorem stepAt_of {l : List Tri} {i : Nat} (h : i < l.length) : stepAt l i = stepOf l[i] := dif_pos h

theorem pop_mem {f : Nat → List Nat} {t : Nat} {m : Nat} (h : ∀ k, k < 24 → ∀ x ∈ f k, x < m) : ∀ k, k < 24 → ∀ x ∈ Proofs.Ytfnklchhhojimaa.pop f t k, x < m := fun k hk x hx => by
  unfold Proofs.Ytfnklchhhojimaa.pop at hx
  split at hx
  · exact h k hk x (List.mem_of_mem_tail hx)
  · exact h k hk x hx

theorem OutInv.below {base ob mb k : Nat} {done : List Tri} {w w' : World} (h : OutInv base ob mb done k w) (hB : Below w.heap.size w w') : OutInv base ob mb done k w' := by
  obtain ⟨v, a, b, c⟩ := h
  exact ⟨v, a.below' hB, b.below hB, c.below' hB⟩
theorem OutInv.set_ {base ob mb k : Nat} {done : List Tri} {w : World} (h : OutInv base ob mb done k w) {p : Addr} (h1 : ob ≠ p.block) (h2 : mb ≠ p.block) (h3 : p.block < base) (u : Value) : OutInv base ob mb done k (w.setCell p u) := by
  obtain ⟨v, a, b, c⟩ := h
  exact ⟨v, a.far h1 u, Own.far b h3 u, c.far h2 u⟩
theorem OutInv.drew {base ob mb k : Nat} {done : List Tri} {w : World} (h : OutInv base ob mb done k w) : OutInv base ob mb done k w.drew := h


end Go.Proofs.Ytfnklchhhojimaa
