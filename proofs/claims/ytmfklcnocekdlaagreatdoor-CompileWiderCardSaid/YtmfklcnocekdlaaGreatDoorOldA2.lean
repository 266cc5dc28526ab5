/- Plain theory and walks of small functions (OldA2). -/
import Derived.Test.YtmfklcnocekdlaaGreatDoorOldA1
import Derived.BigRegion
import Derived.Deep.LoopGhost
import Derived.Deep.RegionLaw
set_option linter.unusedSimpArgs false
set_option linter.unusedVariables false
namespace Go.Proofs.YtmfklcnocekdlaaGreatDoor
open Go Go.RowKit Tor

def front (f : Nat → List Nat) (a : Nat) : Option Nat := match f a, f (a + 1) with
  | x :: _, y :: _ => if x = y then some x else none
  | _, _ => none
def pop (f : Nat → List Nat) (a : Nat) : Nat → List Nat := fun k => if k = a ∨ k = a + 1 then (f k).tail else f k

/-- what is made with the hands at h: the works, and the rows behind it -/
def swp (h s : Nat) : Nat → Nat → (Nat → List Nat) → List Nat × (Nat → List Nat)
  | 0, _, f => ([], f)
  | n + 1, a, f => if a + 1 < h + s then
      match front f a with
      | none => swp h s n (a + 1) f
      | some i => (i :: (swp h s n (max h (a - 1)) (pop f a)).1, (swp h s n (max h (a - 1)) (pop f a)).2)
    else ([], f)

theorem frontZ_some {f : Nat → List Nat} {a x : Nat} (h : front f a = some x) : frontZ (f a) (f (a + 1)) = x ∧ ∃ l m, f a = x :: l ∧ f (a + 1) = x :: m := by
  unfold front at h
  unfold frontZ
  cases h1 : f a with
  | nil => rw [h1] at h; cases h
  | cons y l =>
    cases h2 : f (a + 1) with
    | nil => rw [h1, h2] at h; cases h
    | cons z m =>
      rw [h1, h2] at h
      by_cases e : y = z
      · simp only [e, if_true, Option.some.injEq] at h
        subst h; subst e
        exact ⟨by simp, l, m, rfl, rfl⟩
      · simp [e] at h
theorem frontZ_none {f : Nat → List Nat} {a : Nat} (h : front f a = none) : frontZ (f a) (f (a + 1)) = -1 := by
  unfold front at h
  unfold frontZ
  cases h1 : f a with
  | nil => rfl
  | cons y l =>
    cases h2 : f (a + 1) with
    | nil => rfl
    | cons z m =>
      rw [h1, h2] at h
      by_cases e : y = z
      · simp [e] at h
      · simp [e]

def sumTo (f : Nat → List Nat) : Nat → Nat
  | 0 => 0
  | n + 1 => sumTo f n + (f n).length
theorem sumTo_pop (f : Nat → List Nat) (a : Nat) (h1 : 0 < (f a).length) (h2 : 0 < (f (a + 1)).length) : ∀ n, sumTo (pop f a) n + (if a < n then 1 else 0) + (if a + 1 < n then 1 else 0) = sumTo f n
  | 0 => by simp [sumTo]
  | n + 1 => by
    have ih := sumTo_pop f a h1 h2 n
    unfold sumTo
    by_cases e1 : n = a
    · subst e1
      have : (pop f n n).length + 1 = (f n).length := by simp [pop]; omega
      simp only [Nat.lt_irrefl, if_false, Nat.lt_succ_self, if_true] at ih ⊢
      have e : ¬ n + 1 < n := by omega
      simp only [e, if_false] at ih
      omega
    · by_cases e2 : n = a + 1
      · subst e2
        have : (pop f a (a + 1)).length + 1 = (f (a + 1)).length := by simp [pop]; omega
        have c1 : a < a + 1 := by omega
        have c2 : a < a + 1 + 1 := by omega
        have c3 : a + 1 < a + 1 + 1 := by omega
        have c4 : ¬ a + 1 < a + 1 := by omega
        simp only [c1, c2, c3, c4, if_true, if_false] at ih ⊢
        omega
      · have e : pop f a n = f n := by unfold pop; rw [if_neg (by omega)]
        rw [e]
        have c1 : (a < n + 1) = (a < n) := by apply propext; omega
        have c2 : (a + 1 < n + 1) = (a + 1 < n) := by apply propext; omega
        simp only [c1, c2]
        omega


/-- row k of the block R reads as f k, in memory below B other than R -/
def RowsAt (w : World) (R B : Nat) (f : Nat → List Nat) : Prop :=
  ∀ k, k < 24 → ∃ A c, w.cell? ⟨R, k, none⟩ = some (.slice A (f k).length c) ∧ (f k).length ≤ c ∧ w.frozen? ⟨R, k, none⟩ = false ∧ RdN w B A (f k) ∧ (f k ≠ [] → ∀ g o z, A = some ⟨g, o, z⟩ → g ≠ R)


/-- what was in these blocks is as it was -/
structure Same (S : Nat → Prop) (w w' : World) : Prop where
  os : w'.os = w.os
  tape : w'.tape = w.tape
  output : w'.output = w.output
  size : w.heap.size ≤ w'.heap.size
  block : ∀ k, S k → w'.heap[k]? = w.heap[k]?
theorem Same.refl (S : Nat → Prop) (w : World) : Same S w w := ⟨rfl, rfl, rfl, Nat.le_refl _, fun _ _ => rfl⟩
theorem Same.trans {S : Nat → Prop} {a b c : World} (h : Same S a b) (k : Same S b c) : Same S a c :=
  ⟨k.os.trans h.os, k.tape.trans h.tape, k.output.trans h.output, Nat.le_trans h.size k.size, fun i hi => (k.block i hi).trans (h.block i hi)⟩
theorem Same.mono {S T : Nat → Prop} {a b : World} (h : Same S a b) (hST : ∀ k, T k → S k) : Same T a b := ⟨h.os, h.tape, h.output, h.size, fun k hk => h.block k (hST k hk)⟩
theorem Same.of_below {B : Nat} {a b : World} (h : Below B a b) : Same (· < B) a b := ⟨h.os, h.tape, h.output, h.size, h.block⟩
theorem Same.below {B : Nat} {a b : World} (h : Same (· < B) a b) : Below B a b := ⟨h.os, h.tape, h.output, h.size, h.block⟩
theorem Same.drewN {S : Nat → Prop} {a b : World} (h : Same S a b) (n : Nat) : Same S a (b.drewN n) := ⟨h.os, h.tape, h.output, h.size, h.block⟩
theorem Same.drew {S : Nat → Prop} {a b : World} (h : Same S a b) : Same S a b.drew := ⟨h.os, h.tape, h.output, h.size, h.block⟩
theorem Same.setCell {S : Nat → Prop} {a b : World} (h : Same S a b) {p : Addr} (hp : ¬ S p.block) (u : Value) : Same S a (b.setCell p u) :=
  h.trans ⟨rfl, rfl, rfl, by simp [World.setCell], fun k hk => Below.heap_setCell _ _ _ _ (fun e => hp (e ▸ hk))⟩
theorem Same.cell {S : Nat → Prop} {a b : World} (h : Same S a b) {p : Addr} (hp : S p.block) : b.cell? p = a.cell? p := World.cell?_of_block (w := a) (h.block p.block hp)
theorem Same.frozen {S : Nat → Prop} {a b : World} (h : Same S a b) {p : Addr} (hp : S p.block) : b.frozen? p = a.frozen? p := World.frozen?_of_block (w := a) (h.block p.block hp)

theorem RowsAt.same {w w' : World} {R B : Nat} {f : Nat → List Nat} (h : RowsAt w R B f) (hs : Same (fun k => k < B ∨ k = R) w w') : RowsAt w' R B f := fun k hk => by
  obtain ⟨A, c, h1, h2, h3, h4, h5⟩ := h k hk
  exact ⟨A, c, (hs.cell (p := ⟨R, k, none⟩) (Or.inr rfl)).trans h1, h2, (hs.frozen (p := ⟨R, k, none⟩) (Or.inr rfl)).trans h3, h4.keep (fun p hp => hs.cell (Or.inl hp)), h5⟩
theorem RowsAt.drewN {w : World} {R B : Nat} {f : Nat → List Nat} (h : RowsAt w R B f) (n : Nat) : RowsAt (w.drewN n) R B f := h

/-- what is stored where the first of a row is taken off -/
def TailVal (w : World) (B R : Nat) (v : Value) (l : List Nat) : Prop :=
  ∃ A c, v = .slice A l.length c ∧ l.length ≤ c ∧ RdN w B A l ∧ (l ≠ [] → ∀ g o z, A = some ⟨g, o, z⟩ → g ≠ R)
theorem tailVal1 {w : World} {B R g o c : Nat} {l : List Nat} (hne : g ≠ R) (hc : l.length ≤ c) (h1 : c = 1) : TailVal w B R (.slice (some ⟨g, o, none⟩) (l.length - 1) 0) l.tail := by
  have : l.tail = [] := by apply List.eq_nil_of_length_eq_zero; rw [List.length_tail]; omega
  refine ⟨some ⟨g, o, none⟩, 0, by rw [List.length_tail], by rw [List.length_tail]; omega, by rw [this]; exact Rd.nil, ?_⟩
  intro _ g' o' z e
  simp only [Option.some.injEq, Addr.mk.injEq] at e
  rw [← e.1]; exact hne
theorem tailVal2 {w : World} {B R g o c : Nat} {l : List Nat} (hd : RdN w B (some ⟨g, o, none⟩) l) (hne : g ≠ R) (hc : l.length ≤ c) : TailVal w B R (.slice (some ⟨g, o + 1, none⟩) (l.length - 1) (c - 1)) l.tail := by
  refine ⟨some ⟨g, o + 1, none⟩, c - 1, by rw [List.length_tail], by rw [List.length_tail]; omega, ?_, ?_⟩
  · intro hl
    have hl' : l ≠ [] := fun e => hl (by rw [e]; rfl)
    obtain ⟨b, o', e, hb, hcell⟩ := hd hl'
    simp only [Option.some.injEq, Addr.mk.injEq, and_true] at e
    obtain ⟨rfl, rfl⟩ := e
    refine ⟨g, o + 1, rfl, hb, fun k x hx j u hu => ?_⟩
    rw [List.getElem?_tail] at hx
    have := hcell (k + 1) x hx j u hu
    rw [show o + 1 + k * 1 + j = o + (k + 1) * 1 + j from by omega]
    exact this
  · intro _ g' o' z e
    simp only [Option.some.injEq, Addr.mk.injEq] at e
    rw [← e.1]; exact hne

theorem RdN.set {w : World} {B R : Nat} {A : Option Addr} {l : List Nat} (h : RdN w B A l) (hne : l ≠ [] → ∀ g o z, A = some ⟨g, o, z⟩ → g ≠ R) (k : Nat) (v : Value) : RdN (w.setCell ⟨R, k, none⟩ v) B A l := fun hl => by
  obtain ⟨b, o, e, hb, hc⟩ := h hl
  refine ⟨b, o, e, hb, fun j x hx i u hu => ?_⟩
  rw [World.cell?_setCell_other _ _ _ _ (by intro e'; simp only [Addr.mk.injEq] at e'; exact hne hl _ _ _ e e'.1.symm)]
  exact hc j x hx i u hu
theorem TailVal.set {w : World} {B R : Nat} {v : Value} {l : List Nat} (h : TailVal w B R v l) (k : Nat) (u : Value) : TailVal (w.setCell ⟨R, k, none⟩ u) B R v l := by
  obtain ⟨A, c, h1, h2, h3, h4⟩ := h
  exact ⟨A, c, h1, h2, h3.set h4 k u, h4⟩


/-- a store of row t -/
theorem RowsAt.store {w : World} {R B t : Nat} {f : Nat → List Nat} {v : Value} {l : List Nat} (hr : RowsAt w R B f) (hv : TailVal w B R v l) : RowsAt (w.setCell ⟨R, t, none⟩ v) R B (fun k => if k = t then l else f k) := fun k hk => by
  obtain ⟨A, c, h1, h2, h3, h4, h5⟩ := hr k hk
  by_cases e : k = t
  · subst e
    obtain ⟨A', c', e1, e2, e3, e4⟩ := hv
    simp only [if_true]
    exact ⟨A', c', by rw [World.cell?_setCell_same _ _ _ h1, e1], e2, by rw [World.frozen?_setCell]; exact h3, e3.set e4 k v, e4⟩
  · simp only [e, if_false]
    exact ⟨A, c, by rw [World.cell?_setCell_other _ _ _ _ (by intro e'; simp only [Addr.mk.injEq, and_true, true_and] at e'; exact e e'.symm)]; exact h1, h2, by rw [World.frozen?_setCell]; exact h3, h4.set h5 t v, h5⟩
theorem RowsAt.pop {w : World} {R B t : Nat} {f : Nat → List Nat} {v1 v2 : Value} (hr : RowsAt w R B f) (h1 : TailVal w B R v1 (f t).tail) (h2 : TailVal w B R v2 (f (t + 1)).tail) :
    RowsAt ((w.setCell ⟨R, t, none⟩ v1).setCell ⟨R, t + 1, none⟩ v2) R B (Proofs.YtmfklcnocekdlaaGreatDoor.pop f t) := by
  have h := (hr.store (t := t) h1).store (t := t + 1) (h2.set t v1)
  intro k hk
  have e : Proofs.YtmfklcnocekdlaaGreatDoor.pop f t k = (if k = t + 1 then (f (t + 1)).tail else if k = t then (f t).tail else f k) := by
    unfold Proofs.YtmfklcnocekdlaaGreatDoor.pop
    by_cases e1 : k = t + 1
    · subst e1; simp
    · by_cases e2 : k = t
      · subst e2; simp
      · rw [if_neg (by omega), if_neg e1, if_neg e2]
  rw [e]
  exact h k hk

theorem pop_le {f : Nat → List Nat} {t : Nat} {b : Nat} (h : ∀ k, k < 24 → (f k).length ≤ b) : ∀ k, k < 24 → (Proofs.YtmfklcnocekdlaaGreatDoor.pop f t k).length ≤ b := fun k hk => by
  unfold Proofs.YtmfklcnocekdlaaGreatDoor.pop
  have := h k hk
  split
  · rw [List.length_tail]; omega
  · exact this

theorem swp_none {h s n a : Nat} {f : Nat → List Nat} (ha : a + 1 < h + s) (hf : front f a = none) (hn : 0 < n) : swp h s n a f = swp h s (n - 1) (a + 1) f := by
  obtain ⟨n, rfl⟩ : ∃ m, n = m + 1 := ⟨n - 1, by omega⟩
  rw [swp, if_pos ha, hf]; rfl
theorem swp_some {h s n a i : Nat} {f : Nat → List Nat} (ha : a + 1 < h + s) (hf : front f a = some i) (hn : 0 < n) : swp h s n a f = (i :: (swp h s (n - 1) (max h (a - 1)) (Proofs.YtmfklcnocekdlaaGreatDoor.pop f a)).1, (swp h s (n - 1) (max h (a - 1)) (Proofs.YtmfklcnocekdlaaGreatDoor.pop f a)).2) := by
  obtain ⟨n, rfl⟩ : ∃ m, n = m + 1 := ⟨n - 1, by omega⟩
  rw [swp, if_pos ha, hf]; rfl
theorem swp_end {h s n a : Nat} {f : Nat → List Nat} (ha : ¬ a + 1 < h + s) : swp h s n a f = ([], f) := by
  cases n with
  | zero => rfl
  | succ n => rw [swp, if_neg ha]
end Go.Proofs.YtmfklcnocekdlaaGreatDoor

namespace Go.Proofs.YtmfklcnocekdlaaGreatDoor
open Go Go.RowKit Tor

theorem count_any (i : Nat) (cb : Nat) (n : Nat) (w : World) (hc : Blk w cb 3 #[.int .i64 n]) (hn : n ≤ 100000) :
    Calls Tryz.prog 67 #[.int .i64 i, .pointer (some ⟨cb, 0, none⟩)] w fun e w' => e = .returned (.tuple #[]) ∧ Blk w' cb 3 #[.int .i64 ((n + 1 : Nat) : Int)] ∧ Same (· ≠ cb) w w' := by
  have h0 := hc.cell 0 (.int .i64 n) rfl
  have f0 := hc.frozen 0
  go_enter Tryz.func67, Tryz.ntmps67
  go_wp2
  go_end0
  exact ⟨rfl, by simpa using hc.set_ 0 (.int .i64 ((n : Int) + 1)), (Same.refl _ _).setCell (by simp) _⟩


set_option maxRecDepth 100000 in
set_option maxHeartbeats 2000000 in
theorem sweep1_any (R B cb hd s : Nat) (f : Nat → List Nat) (n0 : Nat) (w : World) (hr : RowsAt w R B f) (hcb : Blk w cb 3 #[.int .i64 n0]) (hcB : B ≤ cb) (hcR : cb ≠ R) (hh : hd + s ≤ 24) (h2 : 2 ≤ s) (hs : sumTo f 24 ≤ 2000) (hn0 : n0 ≤ 10) (N : Nat) (hN : 2 * sumTo f 24 + s ≤ N)
    (hf : ∀ k, k < 24 → (f k).length ≤ 1000) (hBw : B ≤ w.heap.size) :
    Calls Tryz.prog 66 #[.pointer (some ⟨R, 0, none⟩), .int .i64 hd, .int .i64 s, .func (.func 67) #[] #[.pointer (some ⟨cb, 0, none⟩)]] w
      fun e w' => e = .returned (.tuple #[]) ∧ Blk w' cb 3 #[.int .i64 ((n0 + (swp hd s N hd f).1.length : Nat) : Int)] ∧ Same (fun k => k < w.heap.size ∧ k ≠ cb ∧ k ≠ R) w w' := by
  have HF := Lib.hid hf
  clear hf
  go_enter Tryz.func66, Tryz.ntmps66
  go_wp2
  go_loopg [8] N (fun gk a wr => ∃ (t n : Nat) (f' : Nat → List Nat), a = .int .i64 t ∧ hd ≤ t ∧ t + 1 ≤ hd + s ∧ Hid (n0 + (swp hd s N hd f).1.length = n + (swp hd s gk t f').1.length) ∧ 2 * sumTo f' 24 + (hd + s - t) ≤ gk ∧ n + sumTo f' 24 ≤ 2010 ∧
      Hid (∀ k, k < 24 → (f' k).length ≤ 1000) ∧ RowsAt wr R B f' ∧ Blk wr cb 3 #[.int .i64 n] ∧ Same (fun k => k < w.heap.size ∧ k ≠ cb ∧ k ≠ R) w wr)
  case atStart => exact ⟨hd, n0, f, rfl, Nat.le_refl _, by omega, rfl, by omega, by omega, HF, hr, hcb, Same.refl _ _⟩
  case round =>
    obtain ⟨t, n, f', rfl, ht1, ht2, hinv, hgk, hns, hfl, hrows, hblk, hS⟩ := hrel
    have hBr : B ≤ wr.heap.size := Nat.le_trans hBw hS.size
    have hRw : R < wr.heap.size := by obtain ⟨_, _, r0, _⟩ := hrows 0 (by omega); exact lt_of_cell r0
    by_cases hlt : t + 1 < hd + s
    · obtain ⟨A1, c1, r1, l1, z1, d1, ne1⟩ := hrows t (by omega)
      obtain ⟨A2, c2, r2, l2, z2, d2, ne2⟩ := hrows (t + 1) (by omega)
      have b1 := hfl.out t (by omega)
      have b2 := hfl.out (t + 1) (by omega)
      cases hfr : front f' t with
      | none =>
        have hz := frontZ_none hfr
        have HFR := Lib.hid hfr
        have HZ := Lib.hid hz
        clear hfr hz
        go_wp2_with (go_at_call 111; refine (front_any R t (f' t) (f' (t + 1)) A1 A2 c1 c2 _ B r1 r2 d1 d2 (by omega) b1 b2).mono ?_; rintro e w1 ⟨rfl, hB1⟩; rw [HZ.out])
        go_roundg (gk - 1)
        case measure => omega
        case rel =>
          exact ⟨t + 1, n, f', by go_num, by omega, by omega, by rw [Hid, hinv.out, swp_none hlt HFR.out (by omega)], by omega, hns, hfl, hrows.same ⟨hB1.os, hB1.tape, hB1.output, hB1.size, fun k hk => hB1.block k (by rcases hk with hk | rfl <;> omega)⟩, hblk.below' hB1, hS.trans ((Same.of_below hB1).mono (fun k hk => (by have := hS.size; omega : k < wr.heap.size)))⟩
      | some i =>
        have hz := (frontZ_some hfr).1
        have HFR := Lib.hid hfr
        have HZ := Lib.hid hz
        clear hfr hz
        go_wp2_with (go_at_call 111; refine (front_any R t (f' t) (f' (t + 1)) A1 A2 c1 c2 _ B r1 r2 d1 d2 (by omega) b1 b2).mono ?_; rintro e w1 ⟨rfl, hB1⟩; rw [HZ.out])
        refine (count_any i cb n w1 (hblk.below' hB1) (by omega)).mono ?_
        rintro e w2 ⟨rfl, hblk2, hS2⟩
        obtain ⟨hz, ll1, ll2, hx1, hx2⟩ := frontZ_some HFR.out
        obtain ⟨g1, o1, rfl, hg1, hh1⟩ := d1.head' hx1
        obtain ⟨g2, o2, rfl, hg2, hh2⟩ := d2.head' hx2
        have hRl := lt_of_cell r1
        have k1 := (hS2.cell (p := ⟨R, t, none⟩) (Ne.symm hcR)).trans ((hB1.cell (p := ⟨R, t, none⟩) hRl).trans r1)
        have k2 := (hS2.cell (p := ⟨R, t + 1, none⟩) (Ne.symm hcR)).trans ((hB1.cell (p := ⟨R, t + 1, none⟩) hRl).trans r2)
        have y1 := (hS2.frozen (p := ⟨R, t, none⟩) (Ne.symm hcR)).trans ((hB1.frozen (p := ⟨R, t, none⟩) hRl).trans z1)
        have y2 := (hS2.frozen (p := ⟨R, t + 1, none⟩) (Ne.symm hcR)).trans ((hB1.frozen (p := ⟨R, t + 1, none⟩) hRl).trans z2)
        have p1 : 0 < (f' t).length := by rw [hx1]; simp
        have p2 : 0 < (f' (t + 1)).length := by rw [hx2]; simp
        have HX1 := Lib.hid hx1
        have HX2 := Lib.hid hx2
        clear hz hx1 hx2 r1 r2 z1 z2
        have e1 : IntKind.i64.wrap ((t : Int) + 1) = (t : Int) + 1 := IntWalk.i64_in _ (by omega)
        have e2 : ((t : Int) + 1).toNat = t + 1 := by omega
        go_wp2
        have HS := Lib.hid (swp_some hlt HFR.out (by omega : 0 < gk))
        have HT := sumTo_pop f' t p1 p2 24
        rw [if_pos (by omega), if_pos (by omega)] at HT
        replace HT := Lib.hid HT
        have hrows2 : RowsAt w2 R B f' := (hrows.same ⟨hB1.os, hB1.tape, hB1.output, hB1.size, fun k hk => hB1.block k (by rcases hk with hk | rfl <;> omega)⟩).same (hS2.mono (fun k hk => by rcases hk with hk | rfl <;> omega))
        have HD1 : RdN w2 B (some ⟨g1, o1, none⟩) (f' t) := d1.keep (fun p hp => (hS2.cell (by show p.block ≠ cb; omega)).trans (hB1.cell (by omega)))
        have HD2 : RdN w2 B (some ⟨g2, o2, none⟩) (f' (t + 1)) := d2.keep (fun p hp => (hS2.cell (by show p.block ≠ cb; omega)).trans (hB1.cell (by omega)))
        have HN1 := ne1 (by rw [HX1.out]; simp) g1 o1 none rfl
        have HN2 := ne2 (by rw [HX2.out]; simp) g2 o2 none rfl
        have l1' := l1
        have l2' := l2
        go_region
        all_goals go_wp2_with fail
        all_goals go_roundg (gk - 1)
        all_goals first
          | (case measure => omega)
          | (case rel =>
               refine ⟨max hd (t - 1), n + 1, pop f' t, by go_num, by omega, by omega, by rw [Hid, hinv.out, HS.out]; simp; omega, by have := HT.out; omega, by have := HT.out; omega, pop_le hfl.out, ?_, ?_, ?_⟩
               · refine hrows2.pop ?_ ?_
                 · first | exact tailVal1 HN1 l1' (by assumption) | exact tailVal2 HD1 HN1 l1'
                 · first | exact tailVal1 HN2 l2' (by assumption) | exact tailVal2 HD2 HN2 l2'
               · exact (hblk2.far (p := ⟨R, t, none⟩) hcR _).far (p := ⟨R, t + 1, none⟩) hcR _
               · exact ((hS.trans ((Same.of_below hB1).mono (fun k hk => (by have := hS.size; omega : k < wr.heap.size)))).trans (hS2.mono (fun k hk => hk.2.1)) |>.setCell (p := ⟨R, t, none⟩) (by simp) _ |>.setCell (p := ⟨R, t + 1, none⟩) (by simp) _).drew)
    · go_wp2
      go_end0
      exact ⟨rfl, by rw [hinv.out, swp_end hlt]; exact hblk, hS⟩
end Go.Proofs.YtmfklcnocekdlaaGreatDoor

namespace Go.Proofs.YtmfklcnocekdlaaGreatDoor
open Go Go.RowKit Tor

theorem step_append_tri {P : Program} {ops : Array Oper} {o : Oper} {a : Act} {K : Act → World → Prop} {Q : Exit → Act → World → Prop} {E : Prop} {w : World} (hgd : o.guard = none) (s x : Operand) (t : TypeId)
    (ho : o.op = .call { callee := .builtin .append, args := #[s, x], argTypes := #[t, t] })
    (base : Nat) (e : TypeId) (i : TypeInfo) (z : Value) (ht : P.underlying t = some (.slice e)) (hi : P.info? e = some i) (hz : i.zero = some z)
    (hsize : i.size = 3) (hby : i.bytes = 32) (hzs : z.cells.size = 3)
    (v : Value) (l : List Tri) (hs : a.eval s = v) (hown : Own 3 Tri.enc w base e v l)
    (g : Nat) (y : Tri) (hx : a.eval x = .slice (some ⟨g, 0, none⟩) 1 1)
    (h0 : w.cell? ⟨g, 0, none⟩ = some (.int .i64 y.a)) (h1 : w.cell? ⟨g, 1, none⟩ = some (.int .i64 y.b)) (h2 : w.cell? ⟨g, 2, none⟩ = some (.string y.s))
    (hlen : l.length ≤ 1000000) (hbase : base ≤ w.heap.size)
    (h : ∀ v' w', Own 3 Tri.enc w' base e v' (l ++ [y]) → w.grownBy w' v.ownBlock → K (a.put o.dst v') w') :
    if Region.wanted o (yielded ops a.tmps) = true then Oper.wp P o a w K Q else E := by
  have hw : Region.wanted o (yielded ops a.tmps) = true := by simp [Region.wanted, hgd]
  rw [if_pos hw]
  refine wp_append_own w s x t ho base e i z 3 32 ht hi hz hsize hby hzs (by omega) v l.length (l.flatMap Tri.enc) hs hown ⟨g, 0, none⟩ 1 1 y.enc hx rfl ?_ (tri_one y) (by unfold maxLen; omega) (by omega) hbase
    (fun v' w' a b _ => h v' w' (Own.append1 rfl a) b)
  intro j u hu
  match j, hu with
  | 0, hu => simp [Tri.enc] at hu; subst hu; exact h0
  | 1, hu => simp [Tri.enc] at hu; subst hu; simpa [Addr.add] using h1
  | 2, hu => simp [Tri.enc] at hu; subst hu; simpa [Addr.add] using h2


/-- the closure's state: the steps so far, how many were made -/
def OutInv (base ob mb : Nat) (done : List Tri) (k : Nat) (w : World) : Prop :=
  ∃ v, Blk w ob 22 #[v] ∧ Own 3 Tri.enc w base 52 v done ∧ Blk w mb 3 #[.int .i64 k]

theorem Own.far {α : Type} {sz : Nat} {enc : α → List Value} {w : World} {base : Nat} {e : TypeId} {v : Value} {l : List α} (h : Own sz enc w base e v l) {p : Addr} (hp : p.block < base) (u : Value) : Own sz enc (w.setCell p u) base e v l := by
  obtain ⟨h1, h2⟩ := h
  refine ⟨h1, ?_⟩
  rcases h2 with h2 | ⟨g, cap, cur, hv, hg, hh, r⟩
  · exact Or.inl h2
  · refine Or.inr ⟨g, cap, cur, hv, hg, ?_, r⟩
    rw [Below.heap_setCell w p u g (by omega)]; exact hh

theorem Own.far' {α : Type} {sz : Nat} {enc : α → List Value} {w : World} {base : Nat} {e : TypeId} {v : Value} {l : List α} (h : Own sz enc w base e v l) {p : Addr} (hp : some p.block ≠ v.ownBlock) (u : Value) : Own sz enc (w.setCell p u) base e v l := by
  obtain ⟨h1, h2⟩ := h
  refine ⟨h1, ?_⟩
  rcases h2 with h2 | ⟨g, cap, cur, rfl, hg, hh, r⟩
  · exact Or.inl h2
  · refine Or.inr ⟨g, cap, cur, rfl, hg, ?_, r⟩
    rw [Below.heap_setCell w p u g (fun e => hp (by rw [← e]; rfl))]; exact hh
theorem Blk.heap {w : World} {g : Nat} {t : TypeId} {cs : Array Value} (h : Blk w g t cs) : w.heap[g]? = some (.cells cs t (0, 0)) := h

theorem Own.len1 {w : World} {base : Nat} {e : TypeId} {A : Option Addr} {c : Nat} {l : List Tri} {y : Tri} (h : Own 3 Tri.enc w base e (.slice A (l ++ [y]).length c) (l ++ [y])) : Own 3 Tri.enc w base e (.slice A (l.length + 1) c) (l ++ [y]) := by
  have e0 : (l ++ [y]).length = l.length + 1 := by simp
  rw [e0] at h; exact h

theorem Same.grown {S : Nat → Prop} {w w1 w3 : World} {row : Option Nat} {o : Obj} (hB : Below w.drew.heap.size w.drew w1) (hS : ∀ j, S j → j < w.heap.size) (hg : (w1.alloc o).grownBy w3 row) (hne : ∀ j, S j → some j ≠ row) : Same S w w3 := by
  have hb : Below w.heap.size w w1 := ⟨hB.os, hB.tape, hB.output, hB.size, hB.block⟩
  refine ⟨hg.os.trans hb.os, hg.tape.trans hb.tape, hg.output.trans hb.output, Nat.le_trans (Nat.le_trans hb.size (by simp)) hg.size, fun j hj => ?_⟩
  rw [hg.block j (by have := hb.size; have := hS j hj; simp; omega) (hne j hj), Below.heap_alloc w1 o j (by have := hb.size; have := hS j hj; omega)]
  exact hb.block j (hS j hj)

theorem outInv_end {w w3 : World} {S : Nat → Prop} {base ob mb k : Nat} {done : List Tri} {A2 : Option Addr} {c2 : Nat} {y : Tri} {v0 : Value} (hS : Same S w w3) (hSo : ¬ S ob) (hSm : ¬ S mb)
    (ho : Blk w3 ob 22 #[v0]) (hm : Blk w3 mb 3 #[.int .i64 k]) (hob : ob ≠ mb) (hbo : ob < base)
    (hown : Own 3 Tri.enc w3 base 52 (.slice A2 (done.length + 1) c2) (done ++ [y])) :
    OutInv base ob mb (done ++ [y]) (k + 1) ((w3.setCell ⟨ob, 0, none⟩ (.slice A2 (done.length + 1) c2)).setCell ⟨mb, 0, none⟩ (.int .i64 ((k : Int) + 1))) ∧
    Same S w ((w3.setCell ⟨ob, 0, none⟩ (.slice A2 (done.length + 1) c2)).setCell ⟨mb, 0, none⟩ (.int .i64 ((k : Int) + 1))) :=
  by
  have h1 : Own 3 Tri.enc (w3.setCell ⟨ob, 0, none⟩ (.slice A2 (done.length + 1) c2)) base 52 (.slice A2 (done.length + 1) c2) (done ++ [y]) := Own.far hown hbo _
  have hm1 := hm.far (p := ⟨ob, 0, none⟩) (Ne.symm hob) (.slice A2 (done.length + 1) c2)
  exact ⟨⟨_, (ho.set_ 0 _).far hob _, Own.far' h1 (Own.ne_block h1 hm1.heap (by decide)) _, hm1.set_ 0 _⟩, (hS.setCell hSo _).setCell hSm _⟩


set_option maxRecDepth 100000 in
theorem write_any (A : Option Addr) (l : List Tri) (c : Nat) (i k : Nat) (base ob mb sb so : Nat) (done : List Tri) (w : World) (hinv : OutInv base ob mb done k w) (H : Nat) (hr : RdT w H A l) (hq : w.cell? ⟨sb, so + 1, none⟩ = some (.slice A l.length c))
    (hi : i < l.length) (hl : l.length ≤ 1000) (hd : done.length ≤ 10000) (hk : k ≤ 10000) (hbase : base ≤ w.heap.size) (hbo : ob < base) (hbH : H ≤ base) (hob : ob ≠ mb) (hsb : sb < ob) (hsb' : sb ≠ mb) :
    Calls Tryz.prog 68 #[.int .i64 i, .pointer (some ⟨ob, 0, none⟩), .pointer (some ⟨sb, so, none⟩), .pointer (some ⟨mb, 0, none⟩)] w
      fun e w' => e = .returned (.tuple #[]) ∧ OutInv base ob mb (done ++ [stepOf l[i]]) (k + 1) w' ∧ Same (fun j => j < base ∧ j ≠ ob ∧ j ≠ mb) w w' := by
  obtain ⟨v, ho, hown, hm⟩ := hinv
  obtain ⟨i0, hi0, hz0', hz1', hz2'⟩ := info_parts infoStep
  obtain ⟨b, o, rfl, hb0, h0, h1, h2⟩ := hr.tri hi
  have o0 := ho.cell 0 v rfl
  have of := ho.frozen 0
  have m0 := hm.cell 0 (.int .i64 k) rfl
  have mf := hm.frozen 0
  have i1 : (0 : Int) ≤ (i : Int) := by omega
  have i2 : (i : Int) < (l.length : Int) := by omega
  go_enter Tryz.func68, Tryz.ntmps68
  go_wp2
  go_region_law (first
    | (refine step_append_tri rfl _ _ _ rfl base _ i0 _ Tryz.underlying22 hi0 hz0' hz1' hz2' rfl v done rfl ((Own.below (w := w.drew) hown hB1).alloc _) w1.heap.size (stepOf l[i]) rfl (World.cell?_alloc_new _ _ _ 0) (World.cell?_alloc_new _ _ _ 1) (World.cell?_alloc_new _ _ _ 2) (by omega) (by have := hB1.size; simp at this ⊢; omega) ?_; intro v' w3 hown' hg
       obtain ⟨A2, c2, hv2, hc2, hrd2⟩ := Own.rd tri_len hown'
       subst hv2
       have hne : ∀ x, x < base → some x ≠ v.ownBlock := fun x hx e => by have := (World.ownsRow.lt hown x e.symm).1; omega
       have ho3 := ((Blk.below' (w := w.drew) ho hB1).alloc (.cells #[.int .i64 (stepOf l[i]).a, .int .i64 (stepOf l[i]).b, .string (stepOf l[i]).s] 52)).grown hg (hne ob hbo)
       have hm3 := ((Blk.below' (w := w.drew) hm hB1).alloc (.cells #[.int .i64 (stepOf l[i]).a, .int .i64 (stepOf l[i]).b, .string (stepOf l[i]).s] 52)).grown hg (Own.ne_block hown hm.heap (by decide))
       have p0 := ho3.cell 0 v rfl
       have pf := ho3.frozen 0
       have r0 := hm3.cell 0 (.int .i64 k) rfl
       have rf := hm3.frozen 0)
    | (go_simp; go_at_call 69; refine (step_any _ _).mono ?_; rintro e w1 ⟨rfl, hB1⟩
       have ho1 := Blk.below' (w := w.drew) ho hB1
       have q0 := ho1.cell 0 v rfl
       have q1 := ho1.lt))
  all_goals go_wp2_with fail
  all_goals go_end0
  all_goals (refine ⟨rfl, ?_⟩; have hS : Same (fun j => j < base ∧ j ≠ ob ∧ j ≠ mb) w w3 := Same.grown (row := v.ownBlock) hB1 (fun j hj => by omega) hg (fun j hj => hne j hj.1); have hown2 := Own.len1 hown'; have he := outInv_end (y := stepOf l[i]) hS (fun h => h.2.1 rfl) (fun h => h.2.2 rfl) ho3 hm3 hob hbo hown2; exact he)

def stepAt (l : List Tri) (i : Nat) : Tri := if h : i < l.length then stepOf l[i] else ⟨0, 0, .empty⟩
theorem stepAt_of {l : List Tri} {i : Nat} (h : i < l.length) : stepAt l i = stepOf l[i] := dif_pos h

theorem pop_mem {f : Nat → List Nat} {t : Nat} {m : Nat} (h : ∀ k, k < 24 → ∀ x ∈ f k, x < m) : ∀ k, k < 24 → ∀ x ∈ Proofs.YtmfklcnocekdlaaGreatDoor.pop f t k, x < m := fun k hk x hx => by
  unfold Proofs.YtmfklcnocekdlaaGreatDoor.pop at hx
  split at hx
  · exact h k hk x (List.mem_of_mem_tail hx)
  · exact h k hk x hx

theorem OutInv.below {base ob mb k : Nat} {done : List Tri} {w w' : World} (h : OutInv base ob mb done k w) (hB : Below w.heap.size w w') : OutInv base ob mb done k w' := by
  obtain ⟨v, a, b, c⟩ := h
  exact ⟨v, a.below' hB, b.below hB, c.below' hB⟩
theorem OutInv.set_ {base ob mb k : Nat} {done : List Tri} {w : World} (h : OutInv base ob mb done k w) {p : Addr} (h1 : ob ≠ p.block) (h2 : mb ≠ p.block) (h3 : p.block < base) (u : Value) : OutInv base ob mb done k (w.setCell p u) := by
  obtain ⟨v, a, b, c⟩ := h
  exact ⟨v, a.far h1 u, Own.far b h3 u, c.far h2 u⟩
theorem OutInv.drew {base ob mb k : Nat} {done : List Tri} {w : World} (h : OutInv base ob mb done k w) : OutInv base ob mb done k w.drew := h


set_option maxRecDepth 100000 in
set_option maxHeartbeats 4000000 in
theorem sweep2_any (A : Option Addr) (l : List Tri) (c : Nat) (H base ob mb sb so : Nat) (done : List Tri) (k0 : Nat) (R B hd s : Nat) (f : Nat → List Nat) (w : World) (hinv0 : OutInv base ob mb done k0 w) (hrd : RdT w H A l) (hq : w.cell? ⟨sb, so + 1, none⟩ = some (.slice A l.length c))
    (hl : l.length ≤ 1000) (hd0 : done.length ≤ 2000) (hk0 : k0 ≤ 2000) (hbase : base ≤ w.heap.size) (hbo : ob < base) (hbH : H ≤ B) (hob : ob ≠ mb) (hsb : sb < ob) (hsb' : sb ≠ mb) (hsR : sb ≠ R) (hRb : R < base)
    (hoR : ob ≠ R) (hmR : mb ≠ R) (hoB : B ≤ ob) (hmB : B ≤ mb) (hRH : H ≤ R)
    (hr : RowsAt w R B f) (hh : hd + s ≤ 24) (h2 : 2 ≤ s) (hs : sumTo f 24 ≤ 2000) (N : Nat) (hN : 2 * sumTo f 24 + s ≤ N)
    (hf : ∀ k, k < 24 → (f k).length ≤ 1000) (hfm : ∀ k, k < 24 → ∀ x ∈ f k, x < l.length) :
    Calls Tryz.prog 66 #[.pointer (some ⟨R, 0, none⟩), .int .i64 hd, .int .i64 s, .func (.func 68) #[] #[.pointer (some ⟨ob, 0, none⟩), .pointer (some ⟨sb, so, none⟩), .pointer (some ⟨mb, 0, none⟩)]] w
      fun e w' => e = .returned (.tuple #[]) ∧ OutInv base ob mb (done ++ (swp hd s N hd f).1.map (stepAt l)) (k0 + (swp hd s N hd f).1.length) w' ∧ RowsAt w' R B (swp hd s N hd f).2 ∧ Same (fun j => j < base ∧ j ≠ ob ∧ j ≠ mb ∧ j ≠ R) w w' := by
  have HF := Lib.hid hf
  have HM := Lib.hid hfm
  have HRD := Lib.hid hrd
  have HQ := Lib.hid hq
  clear hf hfm hrd hq
  go_enter Tryz.func66, Tryz.ntmps66
  go_wp2
  go_loopg [8] N (fun gk a wr => ∃ (t : Nat) (out : List Nat) (f' : Nat → List Nat), a = .int .i64 t ∧ hd ≤ t ∧ t + 1 ≤ hd + s ∧ Hid ((swp hd s N hd f).1 = out ++ (swp hd s gk t f').1) ∧ Hid ((swp hd s N hd f).2 = (swp hd s gk t f').2) ∧ 2 * sumTo f' 24 + (hd + s - t) ≤ gk ∧ out.length + sumTo f' 24 ≤ 2000 ∧
      Hid (∀ k, k < 24 → (f' k).length ≤ 1000) ∧ Hid (∀ k, k < 24 → ∀ x ∈ f' k, x < l.length) ∧ RowsAt wr R B f' ∧ Hid (OutInv base ob mb (done ++ out.map (stepAt l)) (k0 + out.length) wr) ∧ Same (fun j => j < base ∧ j ≠ ob ∧ j ≠ mb ∧ j ≠ R) w wr)
  case atStart => exact ⟨hd, [], f, rfl, Nat.le_refl _, by omega, rfl, rfl, by omega, by simpa using hs, HF, HM, hr, by simpa [Hid] using hinv0, Same.refl _ _⟩
  case round =>
    obtain ⟨t, out, f', rfl, ht1, ht2, hinv, hinv2, hgk, hns, hfl, hfm, hrows, hout, hS⟩ := hrel
    have hBr : base ≤ wr.heap.size := Nat.le_trans hbase hS.size
    have hRw : R < wr.heap.size := by omega
    by_cases hlt : t + 1 < hd + s
    · obtain ⟨A1, c1, r1, l1, z1, d1, ne1⟩ := hrows t (by omega)
      obtain ⟨A2, c2, r2, l2, z2, d2, ne2⟩ := hrows (t + 1) (by omega)
      have b1 := hfl.out t (by omega)
      have b2 := hfl.out (t + 1) (by omega)
      cases hfr : front f' t with
      | none =>
        have hz := frontZ_none hfr
        have HFR := Lib.hid hfr
        have HZ := Lib.hid hz
        clear hfr hz
        go_wp2_with (go_at_call 111; refine (front_any R t (f' t) (f' (t + 1)) A1 A2 c1 c2 _ B r1 r2 d1 d2 (by omega) b1 b2).mono ?_; rintro e w1 ⟨rfl, hB1⟩; rw [HZ.out])
        go_roundg (gk - 1)
        case measure => omega
        case rel =>
          exact ⟨t + 1, out, f', by go_num, by omega, by omega, by rw [Hid, hinv.out, swp_none hlt HFR.out (by omega)], by rw [Hid, hinv2.out, swp_none hlt HFR.out (by omega)], by omega, hns, hfl, hfm, hrows.same ⟨hB1.os, hB1.tape, hB1.output, hB1.size, fun k hk => hB1.block k (by rcases hk with hk | rfl <;> omega)⟩, OutInv.below hout.out hB1, hS.trans ((Same.of_below hB1).mono (fun k hk => (by omega : k < wr.heap.size)))⟩
      | some i =>
        have hz := (frontZ_some hfr).1
        have HFR := Lib.hid hfr
        have HZ := Lib.hid hz
        have hil : i < l.length := by
          obtain ⟨_, ll1, ll2, hx1, hx2⟩ := frontZ_some hfr
          exact hfm.out t (by omega) i (by rw [hx1]; simp)
        clear hfr hz
        go_wp2_with (go_at_call 111; refine (front_any R t (f' t) (f' (t + 1)) A1 A2 c1 c2 _ B r1 r2 d1 d2 (by omega) b1 b2).mono ?_; rintro e w1 ⟨rfl, hB1⟩; rw [HZ.out])
        have hsbase : sb < base := by omega
        have hRD1 : RdT w1 H A l := (HRD.out.keep (fun p hp => hS.cell (p := p) ⟨by omega, by omega, by omega, by omega⟩)).below' hB1 (by omega)
        have hq1 : w1.cell? ⟨sb, so + 1, none⟩ = some (.slice A l.length c) := (hB1.cell (p := ⟨sb, so + 1, none⟩) (by show sb < _; omega)).trans ((hS.cell (p := ⟨sb, so + 1, none⟩) ⟨hsbase, by show sb ≠ _; omega, hsb', hsR⟩).trans HQ.out)
        refine (write_any A l c i (k0 + out.length) base ob mb sb so (done ++ out.map (stepAt l)) w1 (OutInv.below hout.out hB1) H hRD1 hq1 hil hl (by simp; omega) (by omega) (Nat.le_trans hBr hB1.size) hbo (by omega) hob hsb hsb').mono ?_
        rintro e w2 ⟨rfl, hout2, hS2⟩
        have hrows2 : RowsAt w2 R B f' := (hrows.same ⟨hB1.os, hB1.tape, hB1.output, hB1.size, fun k hk => hB1.block k (by rcases hk with hk | rfl <;> omega)⟩).same (hS2.mono (fun k hk => by rcases hk with hk | rfl <;> exact ⟨by omega, by omega, by omega⟩))
        have HOUT := Lib.hid hout2
        clear hout2 hRD1 hq1
        obtain ⟨hz, ll1, ll2, hx1, hx2⟩ := frontZ_some HFR.out
        obtain ⟨g1, o1, rfl, hg1, hh1⟩ := d1.head' hx1
        obtain ⟨g2, o2, rfl, hg2, hh2⟩ := d2.head' hx2
        have hRl := lt_of_cell r1
        have hRS : R < base ∧ R ≠ ob ∧ R ≠ mb := ⟨hRb, Ne.symm hoR, Ne.symm hmR⟩
        have k1 := (hS2.cell (p := ⟨R, t, none⟩) hRS).trans ((hB1.cell (p := ⟨R, t, none⟩) hRl).trans r1)
        have k2 := (hS2.cell (p := ⟨R, t + 1, none⟩) hRS).trans ((hB1.cell (p := ⟨R, t + 1, none⟩) hRl).trans r2)
        have y1 := (hS2.frozen (p := ⟨R, t, none⟩) hRS).trans ((hB1.frozen (p := ⟨R, t, none⟩) hRl).trans z1)
        have y2 := (hS2.frozen (p := ⟨R, t + 1, none⟩) hRS).trans ((hB1.frozen (p := ⟨R, t + 1, none⟩) hRl).trans z2)
        have p1 : 0 < (f' t).length := by rw [hx1]; simp
        have p2 : 0 < (f' (t + 1)).length := by rw [hx2]; simp
        have HX1 := Lib.hid hx1
        have HX2 := Lib.hid hx2
        clear hz hx1 hx2 r1 r2 z1 z2
        have e1 : IntKind.i64.wrap ((t : Int) + 1) = (t : Int) + 1 := IntWalk.i64_in _ (by omega)
        have e2 : ((t : Int) + 1).toNat = t + 1 := by omega
        go_wp2
        have HS := Lib.hid (swp_some hlt HFR.out (by omega : 0 < gk))
        have HT := sumTo_pop f' t p1 p2 24
        rw [if_pos (by omega), if_pos (by omega)] at HT
        replace HT := Lib.hid HT
        have HD1 : RdN w2 B (some ⟨g1, o1, none⟩) (f' t) := d1.keep (fun p hp => (hS2.cell (p := p) ⟨by omega, by omega, by omega⟩).trans (hB1.cell (by omega)))
        have HD2 : RdN w2 B (some ⟨g2, o2, none⟩) (f' (t + 1)) := d2.keep (fun p hp => (hS2.cell (p := p) ⟨by omega, by omega, by omega⟩).trans (hB1.cell (by omega)))
        have HN1 := ne1 (by rw [HX1.out]; simp) g1 o1 none rfl
        have HN2 := ne2 (by rw [HX2.out]; simp) g2 o2 none rfl
        have l1' := l1
        have l2' := l2
        have HST : stepAt l i = stepOf l[i] := stepAt_of hil
        replace HST := Lib.hid HST
        have hSS : Same (fun j => j < base ∧ j ≠ ob ∧ j ≠ mb ∧ j ≠ R) w w2 := (hS.trans ((Same.of_below hB1).mono (fun k hk => (by omega : k < wr.heap.size)))).trans (hS2.mono (fun k hk => ⟨hk.1, hk.2.1, hk.2.2.1⟩))
        go_region
        all_goals go_wp2_with fail
        all_goals go_roundg (gk - 1)
        all_goals first
          | (case measure => omega)
          | (case rel =>
               refine ⟨max hd (t - 1), out ++ [i], pop f' t, by go_num, by omega, by omega, by rw [Hid, hinv.out, HS.out]; simp, by rw [Hid, hinv2.out, HS.out], by have := HT.out; omega, by have := HT.out; simp; omega, pop_le hfl.out, pop_mem hfm.out, ?_, ?_, ?_⟩
               · refine hrows2.pop ?_ ?_
                 · first | exact tailVal1 HN1 l1' (by assumption) | exact tailVal2 HD1 HN1 l1'
                 · first | exact tailVal1 HN2 l2' (by assumption) | exact tailVal2 HD2 HN2 l2'
               · have e3 : done ++ (out ++ [i]).map (stepAt l) = (done ++ out.map (stepAt l)) ++ [stepOf l[i]] := by simp [HST.out]
                 have e4 : k0 + (out ++ [i]).length = k0 + out.length + 1 := by simp; omega
                 rw [Hid, e3, e4]
                 exact ((HOUT.out.set_ (p := ⟨R, t, none⟩) hoR hmR hRb _).set_ (p := ⟨R, t + 1, none⟩) hoR hmR hRb _).drew
               · exact (hSS |>.setCell (p := ⟨R, t, none⟩) (by simp) _ |>.setCell (p := ⟨R, t + 1, none⟩) (by simp) _).drew)
    · go_wp2
      go_end0
      refine ⟨rfl, ?_, ?_, hS⟩
      · rw [hinv.out, swp_end hlt]; simpa using hout.out
      · rw [hinv2.out, swp_end hlt]; exact hrows
end Go.Proofs.YtmfklcnocekdlaaGreatDoor
