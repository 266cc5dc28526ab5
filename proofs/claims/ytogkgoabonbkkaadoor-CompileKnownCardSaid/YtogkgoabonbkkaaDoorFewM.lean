/- The fewest reaches from a state on: the model, and what the planner's map knows. -/
import Derived.Test.YtogkgoabonbkkaaDoorMap
set_option linter.unusedSimpArgs false
set_option linter.unusedVariables false
namespace Go.Proofs.YtogkgoabonbkkaaDoor
open Go Go.RowKit Tor Go.Maps

def minUpto (g : Nat → Option Int) (n0 : Int) : Nat → Int
  | 0 => n0
  | j + 1 => match g j with
    | some x => min (minUpto g n0 j) x
    | none => minUpto g n0 j
theorem minUpto_congr {g g' : Nat → Option Int} {n0 : Int} : ∀ (j : Nat), (∀ i, i < j → g i = g' i) → minUpto g n0 j = minUpto g' n0 j
  | 0, _ => rfl
  | j + 1, h => by
    unfold minUpto
    rw [h j (by omega), minUpto_congr j (fun i hi => h i (by omega))]
theorem minUpto_bd {g : Nat → Option Int} {n0 : Int} (h0 : 0 ≤ n0) (hg : ∀ i x, g i = some x → 0 ≤ x) : ∀ j, 0 ≤ minUpto g n0 j ∧ minUpto g n0 j ≤ n0
  | 0 => ⟨h0, Int.le_refl _⟩
  | j + 1 => by
    have ih := minUpto_bd h0 hg j
    unfold minUpto
    cases h : g j with
    | none => exact ih
    | some x => have := hg j x h; simp only; omega

def xAt (l : List Tri) (i : Nat) : Tri := l.getD i ⟨0, 0, .empty⟩
theorem xAt_of {l : List Tri} {i : Nat} (h : i < l.length) : xAt l i = l[i] := by unfold xAt; rw [List.getD_eq_getElem?_getD, List.getElem?_eq_getElem h]; rfl


/-- how many of n bits are not set -/
def zeros (n d : Nat) : Nat := ((List.range n).filter fun i => !d.testBit i).length
theorem zeros_or {n d i : Nat} (hi : i < n) (hb : d.testBit i = false) : zeros n (d ||| 2 ^ i) + 1 = zeros n d := by
  unfold zeros
  have h1 : ∀ n, ((List.range n).filter fun j => !(d ||| 2 ^ i).testBit j).length + (if i < n then 1 else 0) = ((List.range n).filter fun j => !d.testBit j).length := fun n => by
    induction n with
    | zero => simp
    | succ n ih =>
      rw [List.range_succ, List.filter_append, List.filter_append, List.length_append, List.length_append, ← ih]
      have e : (d ||| 2 ^ i).testBit n = (d.testBit n || decide (i = n)) := by rw [Nat.testBit_or, Nat.testBit_two_pow]
      simp only [List.filter_cons, List.filter_nil, e]
      by_cases hn : i = n
      · subst hn; simp [hb]
      · by_cases hlt : i < n
        · have : i < n + 1 := by omega
          simp [hn, hlt, this]; omega
        · have : ¬ i < n + 1 := by omega
          simp [hn, hlt, this]
  have := h1 n
  rw [if_pos hi] at this
  exact this
theorem zeros_le (n d : Nat) : zeros n d ≤ n := by unfold zeros; exact Nat.le_trans (List.length_filter_le _ _) (by simp)
theorem zeros_full {n d : Nat} (hd : d < 2 ^ n) (h : zeros n d = 0) : d = 2 ^ n - 1 := by
  have hall : ∀ i, i < n → d.testBit i = true := fun i hi => by
    unfold zeros at h
    have h2 := List.length_eq_zero_iff.1 h
    rw [List.filter_eq_nil_iff] at h2
    simpa using h2 i (by simpa using hi)
  refine Nat.eq_of_testBit_eq fun i => ?_
  rw [Nat.testBit_two_pow_sub_one]
  by_cases hi : i < n
  · simp [hall i hi, hi]
  · simp only [hi, decide_false]
    exact Nat.testBit_lt_two_pow (Nat.lt_of_lt_of_le hd (Nat.pow_le_pow_right (by omega) (by omega)))
theorem zeros_pos {n d : Nat} (hd : d < 2 ^ n) (h : d ≠ 2 ^ n - 1) : 0 < zeros n d := by
  rcases Nat.eq_zero_or_pos (zeros n d) with h0 | h0
  · exact absurd (zeros_full hd h0) h
  · exact h0

section
variable (p s : Int) (l : List Tri) (bf : List Nat)
/-- the fewest reaches from a state on, with fuel -/
def fewF : Nat → Nat → Int → Int → Int
  | 0, _, _, _ => 0
  | k + 1, d, lo, hi => if d = 2 ^ l.length - 1 then 0 else
      minUpto (fun i => if freeB bf d i then some (nn (joinB p s (xAt l i) lo hi) + fewF k (d ||| 2 ^ i) (nlo s (xAt l i) lo (joinB p s (xAt l i) lo hi)) (nhi p s (xAt l i) hi (joinB p s (xAt l i) lo hi))) else none) l.length l.length
def few (d : Nat) (lo hi : Int) : Int := fewF p s l bf (zeros l.length d) d lo hi

/-- what a work costs -/
def cost (d : Nat) (lo hi : Int) (i : Nat) : Option Int :=
  if freeB bf d i then some (nn (joinB p s (xAt l i) lo hi) + few p s l bf (d ||| 2 ^ i) (nlo s (xAt l i) lo (joinB p s (xAt l i) lo hi)) (nhi p s (xAt l i) hi (joinB p s (xAt l i) lo hi))) else none
end
variable {p s : Int} {l : List Tri} {bf : List Nat}

theorem freeB_bit {d i : Nat} (h : freeB bf d i = true) : d.testBit i = false := by
  unfold freeB at h
  simp only [Bool.and_eq_true, Bool.not_eq_true'] at h
  exact h.1
theorem few_full {d : Nat} {lo hi : Int} (h : d = 2 ^ l.length - 1) : few p s l bf d lo hi = 0 := by
  unfold few
  cases zeros l.length d with
  | zero => rfl
  | succ k => rw [fewF, if_pos h]
theorem few_eq {d : Nat} {lo hi : Int} (hd : d < 2 ^ l.length) (h : d ≠ 2 ^ l.length - 1) : few p s l bf d lo hi = minUpto (cost p s l bf d lo hi) l.length l.length := by
  have hp := zeros_pos hd h
  obtain ⟨k, hk⟩ : ∃ k, zeros l.length d = k + 1 := ⟨_, (Nat.sub_add_cancel hp).symm⟩
  rw [few, hk, fewF, if_neg h]
  refine minUpto_congr _ fun i hi => ?_
  unfold cost
  by_cases hf : freeB bf d i = true
  · have hz := zeros_or hi (freeB_bit hf)
    rw [if_pos hf, if_pos hf, few, show zeros l.length (d ||| 2 ^ i) = k by omega]
  · rw [if_neg hf, if_neg hf]
theorem nn_bd (j : Bool) : 0 ≤ nn j ∧ nn j ≤ 1 := by unfold nn; split <;> omega
theorem fewF_bd : ∀ (k d : Nat) (lo hi : Int), 0 ≤ fewF p s l bf k d lo hi ∧ fewF p s l bf k d lo hi ≤ l.length
  | 0, d, lo, hi => by simp [fewF]
  | k + 1, d, lo, hi => by
    unfold fewF
    split
    · simp
    · refine minUpto_bd (by omega) (fun i x hx => ?_) _
      split at hx
      · simp only [Option.some.injEq] at hx
        have := (fewF_bd k (d ||| 2 ^ i) (nlo s (xAt l i) lo (joinB p s (xAt l i) lo hi)) (nhi p s (xAt l i) hi (joinB p s (xAt l i) lo hi))).1
        have := (nn_bd (joinB p s (xAt l i) lo hi)).1
        omega
      · cases hx
theorem few_bd (d : Nat) (lo hi : Int) : 0 ≤ few p s l bf d lo hi ∧ few p s l bf d lo hi ≤ l.length := fewF_bd _ _ _ _
theorem cost_bd {d : Nat} {lo hi : Int} {i : Nat} {x : Int} (h : cost p s l bf d lo hi i = some x) : 0 ≤ x := by
  unfold cost at h
  split at h
  · simp only [Option.some.injEq] at h
    have := (few_bd (p := p) (s := s) (l := l) (bf := bf) (d ||| 2 ^ i) (nlo s (xAt l i) lo (joinB p s (xAt l i) lo hi)) (nhi p s (xAt l i) hi (joinB p s (xAt l i) lo hi))).1
    have := (nn_bd (joinB p s (xAt l i) lo hi)).1
    omega
  · cases h


/-- what the map knows is true -/
def Known (p s : Int) (l : List Tri) (bf : List Nat) (D : DataW Unit) : Prop :=
  ∀ (d : Nat) (lo hi : Int), d < 1024 → 0 ≤ lo → lo ≤ 24 → 0 ≤ hi → hi ≤ 24 → Maps.has D (keyL d lo hi) = true → D.atKey (keyL d lo hi) (.lit (.int .i64 0)) = .lit (.int .i64 (few p s l bf d lo hi))
theorem Known.empty : Known p s l bf (.map []) := fun d lo hi _ _ _ _ _ h => by simp [Maps.has] at h
theorem Known.put {D : DataW Unit} (h : Known p s l bf D) (hD : Maps.IsMap D) {d : Nat} {lo hi : Int} (g0 : d < 1024) (g1 : 0 ≤ lo) (g2 : lo ≤ 24) (g3 : 0 ≤ hi) (g4 : hi ≤ 24) :
    Known p s l bf (D.put (keyL d lo hi) (.lit (.int .i64 (few p s l bf d lo hi)))) := fun d' lo' hi' f0 f1 f2 f3 f4 hh => by
  by_cases e : keyL d' lo' hi' = keyL d lo hi
  · obtain ⟨e1, e2, e3⟩ := key_inj (by omega) (by omega) (by omega) (by omega) (by omega) (by omega) (by omega) (by omega) (by omega) (by omega) (by omega) (by omega) e
    have e1' : d' = d := by omega
    subst e1' e2 e3
    exact Maps.atKey_put_same hD (key_is _ _ _) _ _
  · rw [Maps.has_put_other e] at hh
    rw [Maps.atKey_put_other e]
    exact h d' lo' hi' f0 f1 f2 f3 f4 hh


/-- block mb is a map of at most n entries that knows only what is true -/
def MapK (p s : Int) (l : List Tri) (bf : List Nat) (w : World) (mb n : Nat) : Prop := ∃ D : DataW Unit, w.ownsMap Tryd.prog 95 (plainElem Tryd.prog 3) mb n D ∧ Known p s l bf D
theorem MapK.mono {w : World} {mb n n' : Nat} (h : MapK p s l bf w mb n) (hn : n ≤ n') : MapK p s l bf w mb n' := by obtain ⟨D, h1, h2⟩ := h; exact ⟨D, h1.mono hn, h2⟩
theorem MapK.below {w w' : World} {mb n : Nat} (h : MapK p s l bf w mb n) (hB : Below w.heap.size w w') : MapK p s l bf w' mb n := by
  obtain ⟨D, h1, h2⟩ := h
  obtain ⟨es, clock, hb, r⟩ := h1
  have hlt : mb < w.heap.size := (Array.getElem?_eq_some_iff.1 hb).1
  exact ⟨D, ⟨es, clock, (hB.block mb hlt).trans hb, r⟩, h2⟩
theorem MapK.isMap {w : World} {mb n : Nat} (h : MapK p s l bf w mb n) : ∃ es clock, w.heap[mb]? = some (.map es clock) := by
  obtain ⟨D, ⟨es, clock, hb, r⟩, h2⟩ := h
  exact ⟨es, clock, hb⟩
theorem MapK.lt {w : World} {mb n : Nat} (h : MapK p s l bf w mb n) : mb < w.heap.size := by
  obtain ⟨es, clock, hb⟩ := h.isMap
  exact (Array.getElem?_eq_some_iff.1 hb).1
theorem MapK.ne {w : World} {mb n b o : Nat} {v : Value} (h : MapK p s l bf w mb n) (hc : w.cell? ⟨b, o, none⟩ = some v) : b ≠ mb := fun e => by
  obtain ⟨es, clock, hb⟩ := h.isMap
  subst e
  simp [World.cell?, hb] at hc


/-- a slice of numbers, wherever it lies -/
def RdF (w : World) (A : Option Addr) (bf : List Nat) : Prop := bf ≠ [] → ∃ b o, A = some ⟨b, o, none⟩ ∧ ∀ (k : Nat) (x : Nat), bf[k]? = some x → w.cell? ⟨b, o + k, none⟩ = some (.int .i64 (x : Int))
theorem RdF.rd {w : World} {A : Option Addr} {bf : List Nat} (h : RdF w A bf) : RdN w w.heap.size A bf := fun hl => by
  obtain ⟨b, o, e, hc⟩ := h hl
  obtain ⟨x, r, hx⟩ := List.exists_cons_of_ne_nil hl
  refine ⟨b, o, e, lt_of_cell (hc 0 x (by rw [hx]; rfl)), fun k x hx j u hu => ?_⟩
  match j, hu with
  | 0, hu => simp [nenc] at hu; subst hu; simpa using hc k x hx


/-- the planner as it lies in memory -/
structure PlanAt (w : World) (pb sb mb : Nat) (p s : Int) (A : Option Addr) (c : Nat) (l : List Tri) (Ab : Option Addr) (cb : Nat) (bf : List Nat) (H : Nat) : Prop where
  c0 : w.cell? ⟨pb, 0, none⟩ = some (.pointer (some ⟨sb, 0, none⟩))
  c1 : w.cell? ⟨pb, 1, none⟩ = some (.int .i64 s)
  c2 : w.cell? ⟨pb, 2, none⟩ = some (.slice Ab bf.length cb)
  c3 : w.cell? ⟨pb, 3, none⟩ = some (.map (some mb))
  s0 : w.cell? ⟨sb, 0, none⟩ = some (.int .i64 p)
  s1 : w.cell? ⟨sb, 1, none⟩ = some (.slice A l.length c)
  hr : RdT w H A l
  hH : H ≤ w.heap.size
  hHm : H ≤ mb
  hbf : RdF w Ab bf
theorem PlanAt.same {w w' : World} {pb sb mb n : Nat} {A : Option Addr} {c : Nat} {Ab : Option Addr} {cb : Nat} {H : Nat} (h : PlanAt w pb sb mb p s A c l Ab cb bf H) (hm : MapK p s l bf w mb n) (hS : Same (fun j => j < w.heap.size ∧ j ≠ mb) w w') :
    PlanAt w' pb sb mb p s A c l Ab cb bf H := by
  have k : ∀ {b o v}, w.cell? ⟨b, o, none⟩ = some v → w'.cell? ⟨b, o, none⟩ = some v := fun {b o v} hc => (hS.cell (p := ⟨b, o, none⟩) ⟨lt_of_cell hc, hm.ne hc⟩).trans hc
  have hH := h.hH
  have hHm := h.hHm
  exact ⟨k h.c0, k h.c1, k h.c2, k h.c3, k h.s0, k h.s1, h.hr.keep (fun q hq => hS.cell (p := q) ⟨by omega, by omega⟩), Nat.le_trans h.hH hS.size, h.hHm, fun hl => by
    obtain ⟨b, o, e, hc⟩ := h.hbf hl
    exact ⟨b, o, e, fun i x hx => k (hc i x hx)⟩⟩
theorem Same.of_below' {w w' : World} {mb : Nat} (h : Below w.heap.size w w') : Same (fun j => j < w.heap.size ∧ j ≠ mb) w w' := (Same.of_below h).mono (fun k hk => hk.1)

/-- one step behind another -/
theorem Same.step {w w1 w2 : World} {mb : Nat} (h : Same (fun j => j < w.heap.size ∧ j ≠ mb) w w1) (g : Same (fun j => j < w1.heap.size ∧ j ≠ mb) w1 w2) : Same (fun j => j < w.heap.size ∧ j ≠ mb) w w2 :=
  h.trans (g.mono fun k hk => ⟨Nat.lt_of_lt_of_le hk.1 h.size, hk.2⟩)
end Go.Proofs.YtogkgoabonbkkaaDoor
