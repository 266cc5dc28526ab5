/- Plain theory and walks of small functions (OldA4). -/
import Derived.Lib.QuoteBits
import Derived.WalkKit
import Derived.Test.YtfnklchhhojimaaOldA3
import Derived.BigRegion
import Derived.Maps.OwnSet
import Derived.DeepKeys4
import Derived.Deep.LoopGhost
import Derived.Deep.DeepCutAuto
set_option linter.unusedSimpArgs false
set_option linter.unusedVariables false
namespace Tor
open Go

theorem u64 (a : Nat) (h : a < 18446744073709551616) : (BitVec.ofInt 64 (a : Int)).toNat = a := by
  rw [BitVec.ofInt_natCast, BitVec.toNat_ofNat]; exact Nat.mod_eq_of_lt (by omega)

theorem bor_i64 (a b : Nat) (ha : a < 1048576) (hb : b < 1048576) : bits .or .i64 (a : Int) (b : Int) = ((a ||| b : Nat) : Int) := by
  show IntKind.i64.wrap ((BitVec.ofInt 64 (a : Int) ||| BitVec.ofInt 64 (b : Int)).toNat : Int) = _
  have : a ||| b < 2 ^ 20 := Nat.or_lt_two_pow (by omega) (by omega)
  rw [BitVec.toNat_or, u64 a (by omega), u64 b (by omega)]
  exact Lib.wrap_i64_small _ (by omega)
theorem band_i64 (a b : Nat) (ha : a < 1048576) (hb : b < 1048576) : bits .and .i64 (a : Int) (b : Int) = ((a &&& b : Nat) : Int) := by
  show IntKind.i64.wrap ((BitVec.ofInt 64 (a : Int) &&& BitVec.ofInt 64 (b : Int)).toNat : Int) = _
  have : a &&& b < 2 ^ 20 := Nat.and_lt_two_pow _ (by omega)
  rw [BitVec.toNat_and, u64 a (by omega), u64 b (by omega)]
  exact Lib.wrap_i64_small _ (by omega)

/-- the bits of a that b does not have -/
def dif (a b : Nat) : Nat := a &&& (18446744073709551615 - b)
theorem bnot_i64 (a b : Nat) (ha : a < 1048576) (hb : b < 1048576) : bits .andNot .i64 (a : Int) (b : Int) = ((dif a b : Nat) : Int) := by
  show IntKind.i64.wrap ((BitVec.ofInt 64 (a : Int) &&& ~~~BitVec.ofInt 64 (b : Int)).toNat : Int) = _
  have h : dif a b ≤ a := Nat.and_le_left
  rw [BitVec.toNat_and, BitVec.toNat_not, u64 a (by omega), u64 b (by omega)]
  exact Lib.wrap_i64_small (dif a b) (by omega)
theorem dif_bit (a b : Nat) (ha : a < 1048576) (hb : b < 1048576) (k : Nat) : (dif a b).testBit k = (a.testBit k && !b.testBit k) := by
  unfold dif
  rw [Nat.testBit_and]
  by_cases hk : k < 64
  · congr 1
    have e : 18446744073709551615 - b = 2 ^ 64 - (b + 1) := by omega
    rw [e, Nat.testBit_two_pow_sub_succ (by omega)]
    simp [hk]
  · have : a.testBit k = false := Nat.testBit_lt_two_pow (Nat.lt_of_lt_of_le ha (Nat.le_trans (show 1048576 ≤ 2 ^ 20 by decide) (Nat.pow_le_pow_right (by omega) (show 20 ≤ k by omega))))
    simp [this]
theorem dif_zero {a b : Nat} (ha : a < 1048576) (hb : b < 1048576) : dif a b = 0 ↔ ∀ k, a.testBit k = true → b.testBit k = true := by
  constructor
  · intro h k hk
    have := dif_bit a b ha hb k
    rw [h, hk] at this
    simpa using this
  · intro h
    refine Nat.eq_of_testBit_eq fun k => ?_
    rw [dif_bit a b ha hb k, Nat.zero_testBit]
    cases hk : a.testBit k
    · rfl
    · rw [h k hk]; rfl
theorem shr_and (d i : Nat) : (d / 2 ^ i) &&& 1 = if d.testBit i then 1 else 0 := by
  rw [Nat.and_one_is_mod]
  have : d.testBit i = decide ((d / 2 ^ i) % 2 = 1) := by rw [Nat.testBit_eq_decide_div_mod_eq]
  rw [this]
  by_cases h : (d / 2 ^ i) % 2 = 1
  · simp [h]
  · have : (d / 2 ^ i) % 2 = 0 := by omega
    simp [this]
end Tor
namespace Tor
open Go
theorem shr_test (d i : Nat) (hd : d < 1048576) : (bits .and .i64 ((d : Int) / 2 ^ i) 1 == 0) = !d.testBit i := by
  have e : (d : Int) / 2 ^ i = ((d / 2 ^ i : Nat) : Int) := by
    rw [show ((2 : Int) ^ i) = ((2 ^ i : Nat) : Int) from by simp]
    exact (Int.natCast_ediv d (2 ^ i)).symm
  have h := band_i64 (d / 2 ^ i) 1 (Nat.lt_of_le_of_lt (Nat.div_le_self _ _) hd) (by omega)
  rw [e]
  have h' : bits .and .i64 ((d / 2 ^ i : Nat) : Int) 1 = (((d / 2 ^ i) &&& 1 : Nat) : Int) := h
  rw [h', shr_and]
  cases d.testBit i <;> simp
theorem bnot_test (a b : Nat) (ha : a < 1048576) (hb : b < 1048576) : (bits .andNot .i64 (a : Int) (b : Int) == 0) = decide (dif a b = 0) := by
  rw [bnot_i64 a b ha hb]
  by_cases h : dif a b = 0 <;> simp [h]
end Tor
namespace Tor
open Go Go.RowKit
theorem bor_shl (d i : Nat) (hd : d < 1048576) (hi : i < 20) : bits .or .i64 (d : Int) (wrap64 (2 ^ i)) = ((d ||| 2 ^ i : Nat) : Int) := by
  have h2 : 2 ^ i < 1048576 := Nat.lt_of_lt_of_le (Nat.pow_lt_pow_right (by omega) hi) (by decide)
  have e : (2 : Int) ^ i = ((2 ^ i : Nat) : Int) := by simp
  have ew : wrap64 (2 ^ i) = ((2 ^ i : Nat) : Int) := by
    rw [e]
    have aux : ∀ m : Nat, m < 1048576 → wrap64 (m : Int) = (m : Int) := fun m h => IntWalk.wrap64_in _ ⟨by omega, by omega⟩
    exact aux _ h2
  rw [ew]
  exact bor_i64 d (2 ^ i) hd h2
end Tor

namespace Go.Proofs.Ytfnklchhhojimaa
open Go Go.RowKit Tor

/-- may work i be done next? (d: what is done; f: what must be done before) -/
def freeB (bf : List Nat) (d i : Nat) : Bool := !d.testBit i && decide (dif (bf.getD i 0) d = 0)

end Go.Proofs.Ytfnklchhhojimaa

namespace Go.Proofs.Ytfnklchhhojimaa
open Go Go.RowKit Tor

/-- the places from which a work is in reach -/
def wlo (s : Int) (x : Tri) : Int := max 0 (x.b + 2 - s)
def whi (p s : Int) (x : Tri) : Int := min x.b (p - s)

/-- does work x need no reach, if the hands may lie in lo..hi? -/
def joinB (p s : Int) (x : Tri) (lo hi : Int) : Bool := decide (lo ≤ hi) && decide (max (wlo s x) lo ≤ min (whi p s x) hi)

def nlo (s : Int) (x : Tri) (lo : Int) (j : Bool) : Int := if j then max (wlo s x) lo else wlo s x
def nhi (p s : Int) (x : Tri) (hi : Int) (j : Bool) : Int := if j then min (whi p s x) hi else whi p s x
def nn (j : Bool) : Int := if j then 0 else 1

theorem keepB {w w' : World} {a0 a1 : Addr} {v0 v1 : Value} (h0 : w.cell? a0 = some v0) (h1 : w.cell? a1 = some v1) (hB : Below w.heap.size w w') :
    Below w.heap.size w w' ∧ w'.cell? a0 = some v0 ∧ w'.cell? a1 = some v1 :=
  ⟨hB, (hB.cell (World.block_lt_of_cell? w a0 h0)).trans h0, (hB.cell (World.block_lt_of_cell? w a1 h1)).trans h1⟩


end Go.Proofs.Ytfnklchhhojimaa

namespace Go.Proofs.Ytfnklchhhojimaa
open Go Go.RowKit Tor Go.Maps

theorem laidOut : laidOutB Try.prog = true := by kernel_rfl

theorem zeroInt (w : World) : (zeroValue 3).run Try.prog w = .ok (.int .i64 0) w := by kernel_rfl

def keyL (d lo hi : Int) : Lit := .string (keyBytes [.int .i64 d, .int .i64 lo, .int .i64 hi])
theorem wf_small (n : Int) (h0 : 0 ≤ n) (h1 : n ≤ 100000) : (Lit.int .i64 n).wf = true := WalkArith.wf_i64 (by omega)
theorem cellsInt : Try.prog.cellsOf 3 = 1 := by kernel_rfl
theorem key_int (m : Nat) (n : Int) (h0 : 0 ≤ n) (h1 : n ≤ 100000) : Try.prog.keyLits (m + 1) 3 [.int .i64 n] = some [.int .i64 n] := by
  unfold Program.keyLits
  simp [Try.underlying3, wf_small n h0 h1]
theorem key_is (d a b : Int) : WideAt.IsKeyLit (keyL d a b) := trivial

end Go.Proofs.Ytfnklchhhojimaa

namespace Go.Proofs.Ytfnklchhhojimaa
open Go Go.RowKit Tor Go.Maps

def minUpto (g : Nat → Option Int) (n0 : Int) : Nat → Int
  | 0 => n0
  | j + 1 => match g j with
    | some x => min (minUpto g n0 j) x
    | none => minUpto g n0 j
theorem minUpto_congr {g g' : Nat → Option Int} {n0 : Int} : ∀ (j : Nat), (∀ i, i < j → g i = g' i) → minUpto g n0 j = minUpto g' n0 j
  | 0, _ => rfl
  | j + 1, h => by
    unfold minUpto
    rw [h j (by omega), minUpto_congr j (fun i hi => h i (by omega))]
theorem minUpto_bd {g : Nat → Option Int} {n0 : Int} (h0 : 0 ≤ n0) (hg : ∀ i x, g i = some x → 0 ≤ x) : ∀ j, 0 ≤ minUpto g n0 j ∧ minUpto g n0 j ≤ n0
  | 0 => ⟨h0, Int.le_refl _⟩
  | j + 1 => by
    have ih := minUpto_bd h0 hg j
    unfold minUpto
    cases h : g j with
    | none => exact ih
    | some x => have := hg j x h; simp only; omega

def xAt (l : List Tri) (i : Nat) : Tri := l.getD i ⟨0, 0, .empty⟩
theorem xAt_of {l : List Tri} {i : Nat} (h : i < l.length) : xAt l i = l[i] := by unfold xAt; rw [List.getD_eq_getElem?_getD, List.getElem?_eq_getElem h]; rfl


/-- how many of n bits are not set -/
def zeros (n d : Nat) : Nat := ((List.range n).filter fun i => !d.testBit i).length
theorem zeros_or {n d i : Nat} (hi : i < n) (hb : d.testBit i = false) : zeros n (d ||| 2 ^ i) + 1 = zeros n d := by
  unfold zeros
  have h1 : ∀ n, ((List.range n).filter fun j => !(d ||| 2 ^ i).testBit j).length + (if i < n then 1 else 0) = ((List.range n).filter fun j => !d.testBit j).length := fun n => by
    induction n with
    | zero => simp
    | succ n ih =>
      rw [List.range_succ, List.filter_append, List.filter_append, List.length_append, List.length_append, ← ih]
      have e : (d ||| 2 ^ i).testBit n = (d.testBit n || decide (i = n)) := by rw [Nat.testBit_or, Nat.testBit_two_pow]
      simp only [List.filter_cons, List.filter_nil, e]
      by_cases hn : i = n
      · subst hn; simp [hb]
      · by_cases hlt : i < n
        · have : i < n + 1 := by omega
          simp [hn, hlt, this]; omega
        · have : ¬ i < n + 1 := by omega
          simp [hn, hlt, this]
  have := h1 n
  rw [if_pos hi] at this
  exact this
theorem zeros_le (n d : Nat) : zeros n d ≤ n := by unfold zeros; exact Nat.le_trans (List.length_filter_le _ _) (by simp)
theorem zeros_full {n d : Nat} (hd : d < 2 ^ n) (h : zeros n d = 0) : d = 2 ^ n - 1 := by
  have hall : ∀ i, i < n → d.testBit i = true := fun i hi => by
    unfold zeros at h
    have h2 := List.length_eq_zero_iff.1 h
    rw [List.filter_eq_nil_iff] at h2
    simpa using h2 i (by simpa using hi)
  refine Nat.eq_of_testBit_eq fun i => ?_
  rw [Nat.testBit_two_pow_sub_one]
  by_cases hi : i < n
  · simp [hall i hi, hi]
  · simp only [hi, decide_false]
    exact Nat.testBit_lt_two_pow (Nat.lt_of_lt_of_le hd (Nat.pow_le_pow_right (by omega) (by omega)))
theorem zeros_pos {n d : Nat} (hd : d < 2 ^ n) (h : d ≠ 2 ^ n - 1) : 0 < zeros n d := by
  rcases Nat.eq_zero_or_pos (zeros n d) with h0 | h0
  · exact absurd (zeros_full hd h0) h
  · exact h0

section
variable (p s : Int) (l : List Tri) (bf : List Nat)
/-- the fewest reaches from a state on, with fuel -/
def fewF : Nat → Nat → Int → Int → Int
  | 0, _, _, _ => 0
  | k + 1, d, lo, hi => if d = 2 ^ l.length - 1 then 0 else
      minUpto (fun i => if freeB bf d i then some (nn (joinB p s (xAt l i) lo hi) + fewF k (d ||| 2 ^ i) (nlo s (xAt l i) lo (joinB p s (xAt l i) lo hi)) (nhi p s (xAt l i) hi (joinB p s (xAt l i) lo hi))) else none) l.length l.length
def few (d : Nat) (lo hi : Int) : Int := fewF p s l bf (zeros l.length d) d lo hi

/-- what a work costs -/
def cost (d : Nat) (lo hi : Int) (i : Nat) : Option Int :=
  if freeB bf d i then some (nn (joinB p s (xAt l i) lo hi) + few p s l bf (d ||| 2 ^ i) (nlo s (xAt l i) lo (joinB p s (xAt l i) lo hi)) (nhi p s (xAt l i) hi (joinB p s (xAt l i) lo hi))) else none
end
variable {p s : Int} {l : List Tri} {bf : List Nat}

theorem freeB_bit {d i : Nat} (h : freeB bf d i = true) : d.testBit i = false := by
  unfold freeB at h
  simp only [Bool.and_eq_true, Bool.not_eq_true'] at h
  exact h.1
theorem few_full {d : Nat} {lo hi : Int} (h : d = 2 ^ l.length - 1) : few p s l bf d lo hi = 0 := by
  unfold few
  cases zeros l.length d with
  | zero => rfl
  | succ k => rw [fewF, if_pos h]
theorem few_eq {d : Nat} {lo hi : Int} (hd : d < 2 ^ l.length) (h : d ≠ 2 ^ l.length - 1) : few p s l bf d lo hi = minUpto (cost p s l bf d lo hi) l.length l.length := by
  have hp := zeros_pos hd h
  obtain ⟨k, hk⟩ : ∃ k, zeros l.length d = k + 1 := ⟨_, (Nat.sub_add_cancel hp).symm⟩
  rw [few, hk, fewF, if_neg h]
  refine minUpto_congr _ fun i hi => ?_
  unfold cost
  by_cases hf : freeB bf d i = true
  · have hz := zeros_or hi (freeB_bit hf)
    rw [if_pos hf, if_pos hf, few, show zeros l.length (d ||| 2 ^ i) = k by omega]
  · rw [if_neg hf, if_neg hf]
theorem nn_bd (j : Bool) : 0 ≤ nn j ∧ nn j ≤ 1 := by unfold nn; split <;> omega
theorem fewF_bd : ∀ (k d : Nat) (lo hi : Int), 0 ≤ fewF p s l bf k d lo hi ∧ fewF p s l bf k d lo hi ≤ l.length
  | 0, d, lo, hi => by simp [fewF]
  | k + 1, d, lo, hi => by
    unfold fewF
    split
    · simp
    · refine minUpto_bd (by omega) (fun i x hx => ?_) _
      split at hx
      · simp only [Option.some.injEq] at hx
        have := (fewF_bd k (d ||| 2 ^ i) (nlo s (xAt l i) lo (joinB p s (xAt l i) lo hi)) (nhi p s (xAt l i) hi (joinB p s (xAt l i) lo hi))).1
        have := (nn_bd (joinB p s (xAt l i) lo hi)).1
        omega
      · cases hx
theorem few_bd (d : Nat) (lo hi : Int) : 0 ≤ few p s l bf d lo hi ∧ few p s l bf d lo hi ≤ l.length := fewF_bd _ _ _ _
theorem cost_bd {d : Nat} {lo hi : Int} {i : Nat} {x : Int} (h : cost p s l bf d lo hi i = some x) : 0 ≤ x := by
  unfold cost at h
  split at h
  · simp only [Option.some.injEq] at h
    have := (few_bd (p := p) (s := s) (l := l) (bf := bf) (d ||| 2 ^ i) (nlo s (xAt l i) lo (joinB p s (xAt l i) lo hi)) (nhi p s (xAt l i) hi (joinB p s (xAt l i) lo hi))).1
    have := (nn_bd (joinB p s (xAt l i) lo hi)).1
    omega
  · cases h


/-- what the map knows is true -/
def Known (p s : Int) (l : List Tri) (bf : List Nat) (D : DataW Unit) : Prop :=
  ∀ (d : Nat) (lo hi : Int), d < 1024 → 0 ≤ lo → lo ≤ 24 → 0 ≤ hi → hi ≤ 24 → Maps.has D (keyL d lo hi) = true → D.atKey (keyL d lo hi) (.lit (.int .i64 0)) = .lit (.int .i64 (few p s l bf d lo hi))
theorem Known.empty : Known p s l bf (.map []) := fun d lo hi _ _ _ _ _ h => by simp [Maps.has] at h


/-- a slice of numbers, wherever it lies -/
def RdF (w : World) (A : Option Addr) (bf : List Nat) : Prop := bf ≠ [] → ∃ b o, A = some ⟨b, o, none⟩ ∧ ∀ (k : Nat) (x : Nat), bf[k]? = some x → w.cell? ⟨b, o + k, none⟩ = some (.int .i64 (x : Int))
theorem RdF.rd {w : World} {A : Option Addr} {bf : List Nat} (h : RdF w A bf) : RdN w w.heap.size A bf := fun hl => by
  obtain ⟨b, o, e, hc⟩ := h hl
  obtain ⟨x, r, hx⟩ := List.exists_cons_of_ne_nil hl
  refine ⟨b, o, e, lt_of_cell (hc 0 x (by rw [hx]; rfl)), fun k x hx j u hu => ?_⟩
  match j, hu with
  | 0, hu => simp [nenc] at hu; subst hu; simpa using hc k x hx


/-- the planner as it lies in memory -/
structure PlanAt (w : World) (pb sb mb : Nat) (p s : Int) (A : Option Addr) (c : Nat) (l : List Tri) (Ab : Option Addr) (cb : Nat) (bf : List Nat) (H : Nat) : Prop where
  c0 : w.cell? ⟨pb, 0, none⟩ = some (.pointer (some ⟨sb, 0, none⟩))
  c1 : w.cell? ⟨pb, 1, none⟩ = some (.int .i64 s)
  c2 : w.cell? ⟨pb, 2, none⟩ = some (.slice Ab bf.length cb)
  c3 : w.cell? ⟨pb, 3, none⟩ = some (.map (some mb))
  s0 : w.cell? ⟨sb, 0, none⟩ = some (.int .i64 p)
  s1 : w.cell? ⟨sb, 1, none⟩ = some (.slice A l.length c)
  hr : RdT w H A l
  hH : H ≤ w.heap.size
  hHm : H ≤ mb
  hbf : RdF w Ab bf
theorem Same.of_below' {w w' : World} {mb : Nat} (h : Below w.heap.size w w') : Same (fun j => j < w.heap.size ∧ j ≠ mb) w w' := (Same.of_below h).mono (fun k hk => hk.1)

/-- one step behind another -/
theorem Same.step {w w1 w2 : World} {mb : Nat} (h : Same (fun j => j < w.heap.size ∧ j ≠ mb) w w1) (g : Same (fun j => j < w1.heap.size ∧ j ≠ mb) w1 w2) : Same (fun j => j < w.heap.size ∧ j ≠ mb) w w2 :=
  h.trans (g.mono fun k hk => ⟨Nat.lt_of_lt_of_le hk.1 h.size, hk.2⟩)
end Go.Proofs.Ytfnklchhhojimaa

namespace Go.Proofs.Ytfnklchhhojimaa
open Go Go.RowKit Tor Go.Maps

theorem map_heap {w w' : World} {k : TypeId} {R : Value → Option (DataW Unit × List MemPlace)} {b n : Nat} {D : DataW Unit} (h : w.ownsMap Try.prog k R b n D) (e : w'.heap = w.heap) : w'.ownsMap Try.prog k R b n D := by
  obtain ⟨es, clock, hb, r⟩ := h
  exact ⟨es, clock, by rw [e]; exact hb, r⟩


/-- what is known of the numbers -/
structure PlanOk (p s : Int) (l : List Tri) (bf : List Nat) : Prop where
  n : bf.length = l.length
  n10 : l.length ≤ 10
  b1 : 2 ≤ s
  b2 : s ≤ p
  b3 : p ≤ 24
  hb : ∀ (k : Nat) (hk : k < l.length), 0 ≤ l[k].b ∧ l[k].b ≤ p - 2
  bits : ∀ k, k < bf.length → bf.getD k 0 < 1024

theorem two_pow_le {n : Nat} (h : n ≤ 10) : 1 ≤ 2 ^ n ∧ 2 ^ n ≤ 1024 := ⟨Nat.one_le_two_pow, Nat.le_trans (Nat.pow_le_pow_right (by omega) h) (by decide)⟩

theorem next_bd {p s : Int} {x : Tri} {lo hi : Int} {j : Bool} (b1 : 2 ≤ s) (b2 : s ≤ p) (b3 : p ≤ 24) (b4 : 0 ≤ x.b) (b5 : x.b ≤ p - 2) (g1 : 0 ≤ lo) (g2 : lo ≤ 24) (g3 : 0 ≤ hi) (g4 : hi ≤ 24) :
    0 ≤ nlo s x lo j ∧ nlo s x lo j ≤ 24 ∧ 0 ≤ nhi p s x hi j ∧ nhi p s x hi j ≤ 24 := by
  unfold nlo nhi wlo whi
  cases j <;> simp <;> omega
theorem cost_free {p s : Int} {l : List Tri} {bf : List Nat} {d : Nat} {lo hi : Int} {j : Nat} (hj : j < l.length) {d2 : Nat} {lo2 hi2 c1 F2 : Int} (hf : freeB bf d j = true) (h1 : d ||| 2 ^ j = d2) (h2 : nlo s l[j] lo (joinB p s l[j] lo hi) = lo2) (h3 : nhi p s l[j] hi (joinB p s l[j] lo hi) = hi2)
    (h4 : nn (joinB p s l[j] lo hi) = c1) (h5 : few p s l bf d2 lo2 hi2 = F2) : cost p s l bf d lo hi j = some (c1 + F2) := by
  unfold cost
  rw [if_pos hf, xAt_of hj, h1, h2, h3, h4, h5]
theorem cost_not {p s : Int} {l : List Tri} {bf : List Nat} {d : Nat} {lo hi : Int} {j : Nat} (hf : freeB bf d j = false) : cost p s l bf d lo hi j = none := by
  unfold cost
  rw [if_neg (by simp [hf])]
theorem minUpto_some {g : Nat → Option Int} {n0 : Int} {j : Nat} {x m : Int} (hm : m = minUpto g n0 j) (hg : g j = some x) : min m x = minUpto g n0 (j + 1) := by rw [minUpto, hg, hm]
theorem minUpto_none {g : Nat → Option Int} {n0 : Int} {j : Nat} {m : Int} (hm : m = minUpto g n0 j) (hg : g j = none) : m = minUpto g n0 (j + 1) := by rw [minUpto, hg, hm]
theorem pow_step {n j k len : Nat} (hj : j < len) (hl : len ≤ 10) (h : n + 11 ^ (k + 1) ≤ 1000000000000000) : n + j * 11 ^ k + 11 ^ k ≤ 1000000000000000 := by
  rw [Nat.pow_succ] at h
  have : j * 11 ^ k + 11 ^ k ≤ 11 ^ k * 11 := by
    have : (j + 1) * 11 ^ k ≤ 11 * 11 ^ k := Nat.mul_le_mul_right _ (by omega)
    rw [Nat.add_mul, Nat.one_mul] at this
    rw [Nat.mul_comm (11 ^ k) 11]; exact this
  omega
theorem pow_next (n j k : Nat) : n + j * 11 ^ k + 11 ^ k = n + (j + 1) * 11 ^ k := by rw [Nat.add_mul, Nat.one_mul]; omega
theorem pow_big {n k len : Nat} (hl : len ≤ 10) (h : n + 11 ^ (k + 1) ≤ 1000000000000000) : n + len * 11 ^ k < 1000000000000000000 := by
  have h1 : len * 11 ^ k ≤ 11 * 11 ^ k := Nat.mul_le_mul_right _ (by omega)
  rw [Nat.pow_succ, Nat.mul_comm (11 ^ k) 11] at h
  generalize 11 * 11 ^ k = x at *
  generalize len * 11 ^ k = y at *
  omega
theorem pow_end {n k len : Nat} (hl : len ≤ 10) : n + len * 11 ^ k + 1 ≤ n + 11 ^ (k + 1) := by
  have h1 : len * 11 ^ k ≤ 10 * 11 ^ k := Nat.mul_le_mul_right _ hl
  have h2 : 1 ≤ 11 ^ k := Nat.one_le_pow _ _ (by omega)
  rw [Nat.pow_succ]
  omega



end Go.Proofs.Ytfnklchhhojimaa

namespace Go.Proofs.Ytfnklchhhojimaa
open Go Go.RowKit Tor

/-- levels of the first works, and what comes next at each place -/
structure LvInv (l : List Tri) (L : List Nat) (N : Nat → Nat) : Prop where
  le : ∀ q, N q ≤ L.length
  len : L.length ≤ l.length
  nx : ∀ (k : Nat) (hk : k < L.length) (hk' : k < l.length) (q : Nat), (l[k].b = q ∨ l[k].b + 1 = q) → L[k] < N q
  ord : ∀ (k i : Nat) (hki : k < i) (hi : i < L.length) (hi' : i < l.length), touchB l[k].b l[i].b = true → L[k] < L[i]

theorem LvInv.start (l : List Tri) : LvInv l [] (fun _ => 0) := ⟨fun _ => Nat.le_refl _, Nat.zero_le _, fun k hk => by simp at hk, fun k i _ hi => by simp at hi⟩

theorem LvInv.step {l : List Tri} {L : List Nat} {N : Nat → Nat} {t n : Nat} (h : LvInv l L N) (hlt : L.length < l.length) (ht : l[L.length].b = t) (hn1 : N t ≤ n) (hn2 : N (t + 1) ≤ n) (hn3 : n ≤ L.length) :
    LvInv l (L ++ [n]) (fun q => if q = t ∨ q = t + 1 then n + 1 else N q) := by
  refine ⟨fun q => ?_, by simp; omega, fun k hk hk' q hq => ?_, fun k i hki hi hi' hto => ?_⟩
  · have := h.le q
    split <;> simp <;> omega
  · simp only [List.length_append, List.length_cons, List.length_nil] at hk
    by_cases e : k < L.length
    · rw [List.getElem_append_left e]
      have := h.nx k e hk' q hq
      split
      · rename_i hqt
        rcases hqt with rfl | rfl <;> omega
      · exact this
    · obtain rfl : k = L.length := by omega
      rw [List.getElem_append_right (by omega)]
      simp only [Nat.sub_self, List.getElem_cons_zero]
      rw [if_pos (by omega)]
      omega
  · simp only [List.length_append, List.length_cons, List.length_nil] at hi
    have hkl : k < L.length := by omega
    rw [List.getElem_append_left hkl]
    by_cases e : i < L.length
    · rw [List.getElem_append_left e]
      exact h.ord k i hki e hi' hto
    · obtain rfl : i = L.length := by omega
      rw [List.getElem_append_right (by omega)]
      simp only [Nat.sub_self, List.getElem_cons_zero]
      unfold touchB at hto
      simp only [Bool.and_eq_true, decide_eq_true_eq] at hto
      rw [ht] at hto
      rcases (show l[k].b = t ∨ l[k].b + 1 = t ∨ l[k].b = t + 1 by omega) with e1 | e1 | e1
      · have := h.nx k hkl (by omega) t (Or.inl e1); omega
      · have := h.nx k hkl (by omega) t (Or.inr e1); omega
      · have := h.nx k hkl (by omega) (t + 1) (Or.inl (by omega)); omega

def LevPost (l : List Tri) (w : World) (e : Ending) (w' : World) : Prop :=
  ∃ (v : Value) (L : List Nat), e = .returned (.tuple #[v, .int .i64 0]) ∧ Own 1 nenc w' w.heap.size 3 v L ∧ L.length = l.length ∧ Hid (∀ x ∈ L, x ≤ 1000) ∧ Hid (∀ (k i : Nat) (hki : k < i) (hi : i < L.length) (hi' : i < l.length), touchB l[k].b l[i].b = true → L[k] < L[i]) ∧ Below w.heap.size w w'


end Go.Proofs.Ytfnklchhhojimaa

namespace Go.Proofs.Ytfnklchhhojimaa
open Go Go.RowKit Tor

def bitsUpto (f : Nat → Bool) : Nat → Nat
  | 0 => 0
  | k + 1 => if f k then bitsUpto f k ||| 2 ^ k else bitsUpto f k
theorem bitsUpto_lt (f : Nat → Bool) : ∀ k, bitsUpto f k < 2 ^ k
  | 0 => by simp [bitsUpto]
  | k + 1 => by
    have ih := bitsUpto_lt f k
    unfold bitsUpto
    have h : 2 ^ k < 2 ^ (k + 1) := Nat.pow_lt_pow_right (by omega) (by omega)
    split
    · exact Nat.or_lt_two_pow (by omega) h
    · omega
theorem bitsUpto_bit (f : Nat → Bool) : ∀ k i, (bitsUpto f k).testBit i = (decide (i < k) && f i)
  | 0, i => by simp [bitsUpto]
  | k + 1, i => by
    have ih := bitsUpto_bit f k i
    unfold bitsUpto
    by_cases hf : f k = true
    · rw [if_pos hf, Nat.testBit_or, ih, Nat.testBit_two_pow]
      by_cases e : k = i
      · subst e; simp [hf]
      · have : (i < k + 1) ↔ (i < k) := by omega
        simp [e, this]
    · rw [if_neg hf, ih]
      by_cases e : k = i
      · subst e; simp [hf]
      · have : (i < k + 1) ↔ (i < k) := by omega
        simp [this]
theorem bitsUpto_congr {f g : Nat → Bool} : ∀ k, (∀ i, i < k → f i = g i) → bitsUpto f k = bitsUpto g k
  | 0, _ => rfl
  | k + 1, h => by unfold bitsUpto; rw [h k (by omega), bitsUpto_congr k (fun i hi => h i (by omega))]

def touchAt (l : List Tri) (i k : Nat) : Bool := touchB (xAt l k).b (xAt l i).b

/-- what must be done before work i -/
def bfAt (l : List Tri) (i : Nat) : Nat := bitsUpto (touchAt l i) i
def bfL (l : List Tri) : List Nat := (List.range l.length).map (bfAt l)
theorem bfL_len (l : List Tri) : (bfL l).length = l.length := by simp [bfL]
theorem bfL_get {l : List Tri} {i : Nat} (hi : i < l.length) : (bfL l).getD i 0 = bfAt l i := by
  unfold bfL
  rw [List.getD_eq_getElem?_getD, List.getElem?_map, List.getElem?_range hi]; rfl
theorem bfAt_lt {l : List Tri} {i : Nat} (hi : i < 10) : bfAt l i < 1024 := Nat.lt_of_lt_of_le (bitsUpto_lt _ i) (Nat.le_trans (Nat.pow_le_pow_right (by omega) (show i ≤ 10 by omega)) (by decide))

section
variable (p s : Int) (l : List Tri) (bf : List Nat)
/-- the first work with which the fewest reaches are left -/
def pick (d : Nat) (lo hi : Int) : Option Nat := (List.range l.length).find? fun i => decide (cost p s l bf d lo hi i = some (few p s l bf d lo hi))

/-- the order that is taken -/
def bsel : Nat → Nat → Int → Int → List Nat
  | 0, _, _, _ => []
  | k + 1, d, lo, hi => match pick p s l bf d lo hi with
    | some i => i :: bsel k (d ||| 2 ^ i) (nlo s (xAt l i) lo (joinB p s (xAt l i) lo hi)) (nhi p s (xAt l i) hi (joinB p s (xAt l i) lo hi))
    | none => []
end
variable {p s : Int} {l : List Tri} {bf : List Nat}

theorem minUpto_le {g : Nat → Option Int} {n0 : Int} : ∀ {j i : Nat} {x : Int}, i < j → g i = some x → minUpto g n0 j ≤ x
  | 0, _, _, h, _ => absurd h (by omega)
  | j + 1, i, x, h, hg => by
    unfold minUpto
    by_cases e : i = j
    · subst e; rw [hg]; simp only; omega
    · have := minUpto_le (g := g) (n0 := n0) (j := j) (i := i) (by omega) hg
      cases hj : g j with
      | none => exact this
      | some y => simp only; omega
theorem minUpto_at {g : Nat → Option Int} {n0 : Int} : ∀ {j : Nat}, minUpto g n0 j = n0 ∨ ∃ i, i < j ∧ g i = some (minUpto g n0 j)
  | 0 => Or.inl rfl
  | j + 1 => by
    unfold minUpto
    have ih := minUpto_at (g := g) (n0 := n0) (j := j)
    cases hj : g j with
    | none =>
      rcases ih with h | ⟨i, hi, h⟩
      · exact Or.inl h
      · exact Or.inr ⟨i, by omega, h⟩
    | some y =>
      simp only
      by_cases hy : y ≤ minUpto g n0 j
      · exact Or.inr ⟨j, by omega, by rw [hj]; congr 1; omega⟩
      · have e : min (minUpto g n0 j) y = minUpto g n0 j := by omega
        rw [e]
        rcases ih with h | ⟨i, hi, h⟩
        · exact Or.inl h
        · exact Or.inr ⟨i, by omega, h⟩


/-- only what comes earlier must be done before -/
def BfOk (l : List Tri) (bf : List Nat) : Prop := ∀ i k, i < l.length → (bf.getD i 0).testBit k = true → k < i
theorem bfL_ok (l : List Tri) : BfOk l (bfL l) := fun i k hi h => by
  rw [bfL_get hi, bfAt, bitsUpto_bit] at h
  simp only [Bool.and_eq_true, decide_eq_true_eq] at h
  exact h.1

theorem exists_free (hb : BfOk l bf) (hbits : ∀ k, k < l.length → bf.getD k 0 < 1024) (h10 : l.length ≤ 10) {d : Nat} (hd : d < 2 ^ l.length) (h : d ≠ 2 ^ l.length - 1) : ∃ i, i < l.length ∧ freeB bf d i = true := by
  have hp := zeros_pos hd h
  unfold zeros at hp
  cases hf : (List.range l.length).filter (fun i => !d.testBit i) with
  | nil => rw [hf] at hp; simp at hp
  | cons i r =>
    obtain ⟨h1, h2, h3, _⟩ := filter_head hf
    refine ⟨i, h2, ?_⟩
    unfold freeB
    simp only [Bool.not_eq_true'] at h1
    have hd2 := two_pow_le h10
    have hbi := hbits i h2
    have hz : dif (bf.getD i 0) d = 0 := (dif_zero (by omega) (by omega)).2 fun k hk => by
      have := h3 k (hb i k h2 hk)
      simpa using this
    rw [h1, hz]
    rfl

theorem cost_def {d : Nat} {lo hi : Int} {i : Nat} (hf : freeB bf d i = true) : cost p s l bf d lo hi i = some (nn (joinB p s (xAt l i) lo hi) + few p s l bf (d ||| 2 ^ i) (nlo s (xAt l i) lo (joinB p s (xAt l i) lo hi)) (nhi p s (xAt l i) hi (joinB p s (xAt l i) lo hi))) := by
  unfold cost
  rw [if_pos hf]
theorem few_zeros (hb : BfOk l bf) (hbits : ∀ k, k < l.length → bf.getD k 0 < 1024) (h10 : l.length ≤ 10) : ∀ (k d : Nat) (lo hi : Int), zeros l.length d = k → d < 2 ^ l.length → few p s l bf d lo hi ≤ k := by
  intro k
  induction k with
  | zero =>
    intro d lo hi hz hd
    rw [few_full (zeros_full hd hz)]
    exact Int.le_refl _
  | succ k ih =>
    intro d lo hi hz hd
    by_cases h : d = 2 ^ l.length - 1
    · rw [few_full h]; omega
    · obtain ⟨i, hi', hf⟩ := exists_free hb hbits h10 hd h
      rw [few_eq hd h]
      have hz2 := zeros_or hi' (freeB_bit hf)
      have hc := cost_def (p := p) (s := s) (l := l) (lo := lo) (hi := hi) hf
      have h1 := minUpto_le (n0 := (l.length : Int)) hi' hc
      have h2 := ih (d ||| 2 ^ i) (nlo s (xAt l i) lo (joinB p s (xAt l i) lo hi)) (nhi p s (xAt l i) hi (joinB p s (xAt l i) lo hi)) (by omega) (Nat.or_lt_two_pow hd (Nat.pow_lt_pow_right (by omega) hi'))
      have h3 := nn_bd (joinB p s (xAt l i) lo hi)
      omega

theorem pick_some (hb : BfOk l bf) (hbits : ∀ k, k < l.length → bf.getD k 0 < 1024) (h10 : l.length ≤ 10) {d : Nat} {lo hi : Int} (hd : d < 2 ^ l.length) (h : d ≠ 2 ^ l.length - 1) : ∃ i, pick p s l bf d lo hi = some i := by
  have hz := few_zeros (p := p) (s := s) hb hbits h10 (zeros l.length d) d lo hi rfl hd
  obtain ⟨i, hi', hf⟩ := exists_free hb hbits h10 hd h
  have hz2 := zeros_or hi' (freeB_bit hf)
  have hex : ∃ i, i < l.length ∧ cost p s l bf d lo hi i = some (few p s l bf d lo hi) := by
    rw [few_eq hd h]
    rcases minUpto_at (g := cost p s l bf d lo hi) (n0 := (l.length : Int)) (j := l.length) with e | ⟨i, h1, h2⟩
    · refine ⟨i, hi', ?_⟩
      have hc := cost_def (p := p) (s := s) (l := l) (lo := lo) (hi := hi) hf
      have h1 := minUpto_le (n0 := (l.length : Int)) hi' hc
      have h2 := few_zeros (p := p) (s := s) hb hbits h10 _ (d ||| 2 ^ i) (nlo s (xAt l i) lo (joinB p s (xAt l i) lo hi)) (nhi p s (xAt l i) hi (joinB p s (xAt l i) lo hi)) rfl (Nat.or_lt_two_pow hd (Nat.pow_lt_pow_right (by omega) hi'))
      have h3 := nn_bd (joinB p s (xAt l i) lo hi)
      have h4 := zeros_le l.length d
      rw [hc, e]
      congr 1
      omega
    · exact ⟨i, h1, h2⟩
  obtain ⟨i, h1, h2⟩ := hex
  cases hp : pick p s l bf d lo hi with
  | some j => exact ⟨j, rfl⟩
  | none =>
    unfold pick at hp
    rw [List.find?_eq_none] at hp
    exact absurd h2 (by simpa using hp i (by simpa using h1))
theorem pick_spec {d : Nat} {lo hi : Int} {i : Nat} (h : pick p s l bf d lo hi = some i) : i < l.length ∧ cost p s l bf d lo hi i = some (few p s l bf d lo hi) ∧ ∀ j, j < i → cost p s l bf d lo hi j ≠ some (few p s l bf d lo hi) := by
  unfold pick at h
  rw [List.find?_range_eq_some] at h
  exact ⟨by simpa using h.2.1, by simpa using h.1, fun j hj => by simpa using h.2.2 j hj⟩
theorem cost_isfree {d : Nat} {lo hi : Int} {i : Nat} {x : Int} (h : cost p s l bf d lo hi i = some x) : freeB bf d i = true := by
  unfold cost at h
  by_cases hf : freeB bf d i = true
  · exact hf
  · rw [if_neg hf] at h; cases h
end Go.Proofs.Ytfnklchhhojimaa

namespace Go.Proofs.Ytfnklchhhojimaa
open Go Go.RowKit Tor Go.Maps

theorem RdN.rdf {w : World} {B : Nat} {A : Option Addr} {bf : List Nat} (h : RdN w B A bf) : RdF w A bf := fun hl => by
  obtain ⟨b, o, e, _, hc⟩ := h hl
  exact ⟨b, o, e, fun k x hx => by simpa using hc k x hx 0 _ rfl⟩
theorem RdF.same {w w' : World} {A : Option Addr} {bf : List Nat} {T : Nat → Prop} (h : RdF w A bf) (hs : Same T w w') (hT : ∀ b o v, A = some ⟨b, o, none⟩ → w.cell? ⟨b, o, none⟩ = some v → T b) : RdF w' A bf := fun hl => by
  obtain ⟨b, o, e, hc⟩ := h hl
  obtain ⟨x, r, hx⟩ := List.exists_cons_of_ne_nil hl
  have h0 := hc 0 x (by rw [hx]; rfl)
  exact ⟨b, o, e, fun k x hx => (hs.cell (p := ⟨b, o + k, none⟩) (hT b o _ e h0)).trans (hc k x hx)⟩
theorem Own.rdfb {w : World} {base : Nat} {e : TypeId} {v : Value} {l : List Nat} (h : Own 1 nenc w base e v l) :
    ∃ A c, v = .slice A l.length c ∧ RdF w A l ∧ ∀ b o, A = some ⟨b, o, none⟩ → base ≤ b ∧ b < w.heap.size := by
  obtain ⟨A, c, hv, _, hd⟩ := Own.rd nenc_len h
  exact ⟨A, c, hv, RdN.rdf hd, fun b o e' => World.ownsRow.lt h b (by rw [hv, e']; rfl)⟩
theorem RdF.at {w : World} {A : Option Addr} {bf : List Nat} (h : RdF w A bf) {k : Nat} (hk : k < bf.length) : ∃ b o, A = some ⟨b, o, none⟩ ∧ ∀ (j : Nat) (hj : j < bf.length), w.cell? ⟨b, o + j, none⟩ = some (.int .i64 (bf[j] : Int)) := by
  obtain ⟨b, o, e, hc⟩ := h (by intro e; subst e; simp at hk)
  exact ⟨b, o, e, fun j hj => hc j _ (List.getElem?_eq_getElem hj)⟩

theorem Same.of_below_T {w w' : World} {T : Nat → Prop} (h : Below w.heap.size w w') (hT : ∀ k, T k → k < w.heap.size) : Same T w w' := (Same.of_below h).mono hT
theorem Own.same {α : Type} {sz : Nat} {enc : α → List Value} {w w' : World} {base : Nat} {e : TypeId} {v : Value} {l : List α} {T : Nat → Prop} (h : Own sz enc w base e v l) (hs : Same T w w') (hT : ∀ g, v.ownBlock = some g → T g) : Own sz enc w' base e v l := by
  obtain ⟨h1, h2⟩ := h
  refine ⟨h1, ?_⟩
  rcases h2 with h2 | ⟨g, cap, cur, rfl, hg, hh, r⟩
  · exact Or.inl h2
  · exact Or.inr ⟨g, cap, cur, rfl, hg, (hs.block g (hT g rfl)).trans hh, r⟩
theorem pow10 : (11 : Nat) ^ 10 ≤ 30000000000 := by decide
theorem planOk_bfL {P S : Nat} {l : List Tri} (hl : l.length ≤ 10) (b1 : 2 ≤ S) (b2 : S ≤ P) (b3 : P ≤ 24) (hb : ∀ (k : Nat) (hk : k < l.length), 0 ≤ l[k].b ∧ l[k].b ≤ (P : Int) - 2) : PlanOk P S l (bfL l) :=
  ⟨bfL_len l, hl, by omega, by omega, by omega, hb, fun k hk => by rw [bfL_len] at hk; rw [bfL_get hk]; exact bfAt_lt (by omega)⟩
theorem bsel_step {p s : Int} {l : List Tri} {bf : List Nat} {k d : Nat} {lo hi : Int} {i d2 : Nat} {lo2 hi2 : Int} (hk : 0 < k) (h : pick p s l bf d lo hi = some i) (hi' : i < l.length) (h1 : d ||| 2 ^ i = d2) (h2 : nlo s l[i] lo (joinB p s l[i] lo hi) = lo2) (h3 : nhi p s l[i] hi (joinB p s l[i] lo hi) = hi2) :
    bsel p s l bf k d lo hi = i :: bsel p s l bf (k - 1) d2 lo2 hi2 := by
  obtain ⟨g, rfl⟩ : ∃ g, k = g + 1 := ⟨k - 1, by omega⟩
  rw [bsel, h]
  simp only [xAt_of hi', h1, h2, h3]
  rfl
theorem pick_of {p s : Int} {l : List Tri} {bf : List Nat} {d : Nat} {lo hi : Int} {i : Nat} (hi' : i < l.length) (hc : cost p s l bf d lo hi i = some (few p s l bf d lo hi)) (hn : ∀ j, j < i → cost p s l bf d lo hi j ≠ some (few p s l bf d lo hi)) : pick p s l bf d lo hi = some i := by
  unfold pick
  rw [List.find?_range_eq_some]
  exact ⟨by simpa using hc, by simpa using hi', fun j hj => by simpa using hn j hj⟩
theorem zeros_zero (n : Nat) : zeros n 0 = n := by
  unfold zeros
  rw [List.filter_eq_self.2 (by simp)]
  simp
theorem zeros_none {n d : Nat} (h : zeros n d = 0 → False) : 0 < zeros n d := Nat.pos_of_ne_zero h
theorem not_full {n d : Nat} (h : 0 < zeros n d) : d ≠ 2 ^ n - 1 := fun e => by
  have : zeros n d = 0 := by
    unfold zeros
    rw [List.length_eq_zero_iff, List.filter_eq_nil_iff]
    intro i hi
    have hi' : i < n := by simpa using hi
    rw [e, Nat.testBit_two_pow_sub_one]
    simp [hi']
  omega


end Go.Proofs.Ytfnklchhhojimaa
