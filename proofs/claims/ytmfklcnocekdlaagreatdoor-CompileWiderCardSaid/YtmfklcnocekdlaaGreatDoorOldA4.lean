/- Plain theory and walks of small functions (OldA4). -/
import Derived.Lib.QuoteBits
import Derived.WalkKit
import Derived.Test.YtmfklcnocekdlaaGreatDoorOldA3
import Derived.BigRegion
import Derived.Maps.OwnSet
import Derived.DeepKeys4
import Derived.Deep.LoopGhost
import Derived.Deep.DeepCutAuto
set_option linter.unusedSimpArgs false
set_option linter.unusedVariables false
namespace Tor
open Go

theorem u64 (a : Nat) (h : a < 18446744073709551616) : (BitVec.ofInt 64 (a : Int)).toNat = a := by
  rw [BitVec.ofInt_natCast, BitVec.toNat_ofNat]; exact Nat.mod_eq_of_lt (by omega)

theorem bor_i64 (a b : Nat) (ha : a < 1048576) (hb : b < 1048576) : bits .or .i64 (a : Int) (b : Int) = ((a ||| b : Nat) : Int) := by
  show IntKind.i64.wrap ((BitVec.ofInt 64 (a : Int) ||| BitVec.ofInt 64 (b : Int)).toNat : Int) = _
  have : a ||| b < 2 ^ 20 := Nat.or_lt_two_pow (by omega) (by omega)
  rw [BitVec.toNat_or, u64 a (by omega), u64 b (by omega)]
  exact Lib.wrap_i64_small _ (by omega)
theorem band_i64 (a b : Nat) (ha : a < 1048576) (hb : b < 1048576) : bits .and .i64 (a : Int) (b : Int) = ((a &&& b : Nat) : Int) := by
  show IntKind.i64.wrap ((BitVec.ofInt 64 (a : Int) &&& BitVec.ofInt 64 (b : Int)).toNat : Int) = _
  have : a &&& b < 2 ^ 20 := Nat.and_lt_two_pow _ (by omega)
  rw [BitVec.toNat_and, u64 a (by omega), u64 b (by omega)]
  exact Lib.wrap_i64_small _ (by omega)

/-- the bits of a that b does not have -/
def dif (a b : Nat) : Nat := a &&& (18446744073709551615 - b)
theorem bnot_i64 (a b : Nat) (ha : a < 1048576) (hb : b < 1048576) : bits .andNot .i64 (a : Int) (b : Int) = ((dif a b : Nat) : Int) := by
  show IntKind.i64.wrap ((BitVec.ofInt 64 (a : Int) &&& ~~~BitVec.ofInt 64 (b : Int)).toNat : Int) = _
  have h : dif a b ≤ a := Nat.and_le_left
  rw [BitVec.toNat_and, BitVec.toNat_not, u64 a (by omega), u64 b (by omega)]
  exact Lib.wrap_i64_small (dif a b) (by omega)
theorem dif_bit (a b : Nat) (ha : a < 1048576) (hb : b < 1048576) (k : Nat) : (dif a b).testBit k = (a.testBit k && !b.testBit k) := by
  unfold dif
  rw [Nat.testBit_and]
  by_cases hk : k < 64
  · congr 1
    have e : 18446744073709551615 - b = 2 ^ 64 - (b + 1) := by omega
    rw [e, Nat.testBit_two_pow_sub_succ (by omega)]
    simp [hk]
  · have : a.testBit k = false := Nat.testBit_lt_two_pow (Nat.lt_of_lt_of_le ha (Nat.le_trans (show 1048576 ≤ 2 ^ 20 by decide) (Nat.pow_le_pow_right (by omega) (show 20 ≤ k by omega))))
    simp [this]
theorem dif_zero {a b : Nat} (ha : a < 1048576) (hb : b < 1048576) : dif a b = 0 ↔ ∀ k, a.testBit k = true → b.testBit k = true := by
  constructor
  · intro h k hk
    have := dif_bit a b ha hb k
    rw [h, hk] at this
    simpa using this
  · intro h
    refine Nat.eq_of_testBit_eq fun k => ?_
    rw [dif_bit a b ha hb k, Nat.zero_testBit]
    cases hk : a.testBit k
    · rfl
    · rw [h k hk]; rfl
theorem shr_and (d i : Nat) : (d / 2 ^ i) &&& 1 = if d.testBit i then 1 else 0 := by
  rw [Nat.and_one_is_mod]
  have : d.testBit i = decide ((d / 2 ^ i) % 2 = 1) := by rw [Nat.testBit_eq_decide_div_mod_eq]
  rw [this]
  by_cases h : (d / 2 ^ i) % 2 = 1
  · simp [h]
  · have : (d / 2 ^ i) % 2 = 0 := by omega
    simp [this]
end Tor
namespace Tor
open Go
theorem shr_test (d i : Nat) (hd : d < 1048576) : (bits .and .i64 ((d : Int) / 2 ^ i) 1 == 0) = !d.testBit i := by
  have e : (d : Int) / 2 ^ i = ((d / 2 ^ i : Nat) : Int) := by
    rw [show ((2 : Int) ^ i) = ((2 ^ i : Nat) : Int) from by simp]
    exact (Int.natCast_ediv d (2 ^ i)).symm
  have h := band_i64 (d / 2 ^ i) 1 (Nat.lt_of_le_of_lt (Nat.div_le_self _ _) hd) (by omega)
  rw [e]
  have h' : bits .and .i64 ((d / 2 ^ i : Nat) : Int) 1 = (((d / 2 ^ i) &&& 1 : Nat) : Int) := h
  rw [h', shr_and]
  cases d.testBit i <;> simp
theorem bnot_test (a b : Nat) (ha : a < 1048576) (hb : b < 1048576) : (bits .andNot .i64 (a : Int) (b : Int) == 0) = decide (dif a b = 0) := by
  rw [bnot_i64 a b ha hb]
  by_cases h : dif a b = 0 <;> simp [h]
end Tor
namespace Tor
open Go Go.RowKit
theorem bor_shl (d i : Nat) (hd : d < 1048576) (hi : i < 20) : bits .or .i64 (d : Int) (wrap64 (2 ^ i)) = ((d ||| 2 ^ i : Nat) : Int) := by
  have h2 : 2 ^ i < 1048576 := Nat.lt_of_lt_of_le (Nat.pow_lt_pow_right (by omega) hi) (by decide)
  have e : (2 : Int) ^ i = ((2 ^ i : Nat) : Int) := by simp
  have ew : wrap64 (2 ^ i) = ((2 ^ i : Nat) : Int) := by
    rw [e]
    have aux : ∀ m : Nat, m < 1048576 → wrap64 (m : Int) = (m : Int) := fun m h => IntWalk.wrap64_in _ ⟨by omega, by omega⟩
    exact aux _ h2
  rw [ew]
  exact bor_i64 d (2 ^ i) hd h2
end Tor

namespace Go.Proofs.YtmfklcnocekdlaaGreatDoor
open Go Go.RowKit Tor

/-- may work i be done next? (d: what is done; f: what must be done before) -/
def freeB (bf : List Nat) (d i : Nat) : Bool := !d.testBit i && decide (dif (bf.getD i 0) d = 0)

theorem free_any (pb : Nat) (sp : Value) (s : Int) (mp : Value) (Ab : Option Addr) (bf : List Nat) (cb : Nat) (d : Nat) (lo hi : Int) (i : Nat) (w : World) (H : Nat) (hr : RdN w H Ab bf)
    (hp : w.cell? ⟨pb, 2, none⟩ = some (.slice Ab bf.length cb)) (hib : i < bf.length) (hn : bf.length ≤ 10) (hd : d < 1024) (hb : ∀ k, k < bf.length → bf.getD k 0 < 1024) :
    Calls Tryz.prog 48 #[.pointer (some ⟨pb, 0, none⟩), .agg #[.int .i64 d, .int .i64 lo, .int .i64 hi], .int .i64 i] w (Ret (.bool (freeB bf d i)) w) := by
  have i0 : (0 : Int) ≤ (i : Int) := by omega
  have i1 : (i : Int) < (bf.length : Int) := by omega
  have i2 : (i : Int) ≤ 64 := by omega
  have hx : bf[i]? = some (bf.getD i 0) := by rw [List.getD_eq_getElem?_getD, List.getElem?_eq_getElem hib]; rfl
  obtain ⟨b, o, rfl, hbH, hcell⟩ := hr (by intro e; subst e; simp at hib)
  have hc := hcell i _ hx 0 _ rfl
  rw [Nat.mul_one, Nat.add_zero] at hc
  obtain ⟨x, hX⟩ : ∃ x, Hid (bf.getD i 0 = x) := ⟨_, rfl⟩
  rw [hX.out] at hc
  clear hx hcell hr
  have l1 := lt_of_cell hp
  have l2 := lt_of_cell hc
  have hX2 := Lib.hid (hb i hib)
  have hg := shr_test d i (by omega)
  cases hbit : d.testBit i
  all_goals
    rw [hbit] at hg
    go_enter Tryz.func48, Tryz.ntmps48
    go_wp2
    go_quiet (fail)
    go_wp2
    go_ret
  · exact Ret.bool (by rw [freeB, hbit, hX.out, bnot_test x d (by have := hX2.out; rw [hX.out] at this; omega) (by omega)]; rfl) (((Below.refl _ _).alloc (Nat.le_refl _) _).drewN _)
  · exact Ret.bool (by rw [freeB, hbit]; rfl) (((Below.refl _ _).alloc (Nat.le_refl _) _).drewN _)
end Go.Proofs.YtmfklcnocekdlaaGreatDoor

namespace Go.Proofs.YtmfklcnocekdlaaGreatDoor
open Go Go.RowKit Tor

/-- the places from which a work is in reach -/
def wlo (s : Int) (x : Tri) : Int := max 0 (x.b + 2 - s)
def whi (p s : Int) (x : Tri) : Int := min x.b (p - s)

/-- does work x need no reach, if the hands may lie in lo..hi? -/
def joinB (p s : Int) (x : Tri) (lo hi : Int) : Bool := decide (lo ≤ hi) && decide (max (wlo s x) lo ≤ min (whi p s x) hi)

def nlo (s : Int) (x : Tri) (lo : Int) (j : Bool) : Int := if j then max (wlo s x) lo else wlo s x
def nhi (p s : Int) (x : Tri) (hi : Int) (j : Bool) : Int := if j then min (whi p s x) hi else whi p s x
def nn (j : Bool) : Int := if j then 0 else 1

theorem of_at' (p : Int) (A : Option Addr) (l : List Tri) (c : Nat) (s : Int) (k : Nat) (b o : Nat) {w0 w : World} (hB : Below w0.heap.size w0 w) (H : Nat) (hr : RdT w0 H A l) (hH : H ≤ w0.heap.size) (hp : w0.cell? ⟨b, o, none⟩ = some (.int .i64 p)) (hq : w0.cell? ⟨b, o + 1, none⟩ = some (.slice A l.length c))
    (hi : k < l.length) (b1 : 0 ≤ s) (b2 : s ≤ 1000) (b3 : 0 ≤ p) (b4 : p ≤ 1000) (b5 : 0 ≤ l[k].b) (b6 : l[k].b ≤ 1000) :
    Calls Tryz.prog 84 #[.pointer (some ⟨b, o, none⟩), .int .i64 s, .int .i64 k] w (Ret (.agg #[.int .i64 (wlo s l[k]), .int .i64 (whi p s l[k])]) w) :=
  of_at p A l c s k b o hB H hr hH hp hq hi b1 b2 b3 b4 b5 b6

theorem keepB {w w' : World} {a0 a1 : Addr} {v0 v1 : Value} (h0 : w.cell? a0 = some v0) (h1 : w.cell? a1 = some v1) (hB : Below w.heap.size w w') :
    Below w.heap.size w w' ∧ w'.cell? a0 = some v0 ∧ w'.cell? a1 = some v1 :=
  ⟨hB, (hB.cell (World.block_lt_of_cell? w a0 h0)).trans h0, (hB.cell (World.block_lt_of_cell? w a1 h1)).trans h1⟩


set_option maxRecDepth 100000 in
set_option maxHeartbeats 2000000 in
theorem next_any (p : Int) (A : Option Addr) (l : List Tri) (c : Nat) (s : Int) (pb sb : Nat) (v2 v3 : Value) (d : Nat) (lo hi : Int) (i : Nat) (w : World) (H : Nat) (hr : RdT w H A l) (hH : H ≤ w.heap.size)
    (hp0 : w.cell? ⟨pb, 0, none⟩ = some (.pointer (some ⟨sb, 0, none⟩))) (hp1 : w.cell? ⟨pb, 1, none⟩ = some (.int .i64 s))
    (hs0 : w.cell? ⟨sb, 0, none⟩ = some (.int .i64 p)) (hs1 : w.cell? ⟨sb, 1, none⟩ = some (.slice A l.length c))
    (hi' : i < l.length) (hl : l.length ≤ 10) (hd : d < 1024) (b1 : 2 ≤ s) (b2 : s ≤ p) (b3 : p ≤ 24) (b4 : 0 ≤ l[i].b) (b5 : l[i].b ≤ p - 2) :
    Calls Tryz.prog 49 #[.pointer (some ⟨pb, 0, none⟩), .agg #[.int .i64 d, .int .i64 lo, .int .i64 hi], .int .i64 i] w
      (Ret (.tuple #[.agg #[.int .i64 ((d ||| 2 ^ i : Nat) : Int), .int .i64 (nlo s l[i] lo (joinB p s l[i] lo hi)), .int .i64 (nhi p s l[i] hi (joinB p s l[i] lo hi))], .int .i64 (nn (joinB p s l[i] lo hi))]) w) := by
  have i2 : (i : Int) ≤ 64 := by omega
  have i3 : (0 : Int) ≤ (i : Int) := by omega
  rcases (show (lo ≤ hi ∧ max (wlo s l[i]) lo ≤ min (whi p s l[i]) hi) ∨ (lo ≤ hi ∧ ¬ max (wlo s l[i]) lo ≤ min (whi p s l[i]) hi) ∨ (¬ lo ≤ hi) by by_cases h1 : lo ≤ hi <;> by_cases h2 : max (wlo s l[i]) lo ≤ min (whi p s l[i]) hi <;> simp [h1, h2]) with ⟨h1, h2⟩ | ⟨h1, h2⟩ | h1
  · have hd1 : decide (lo ≤ hi) = true := by simpa using h1
    have hd2 : decide (max (wlo s l[i]) lo ≤ min (whi p s l[i]) hi) = true := by simpa using h2
    have HJ := Lib.hid (show joinB p s l[i] lo hi = true by simp [joinB, hd1, hd2])
    clear h1 h2
    have l0 := lt_of_cell hp0
    have l1 := lt_of_cell hs0
    go_enter Tryz.func49, Tryz.ntmps49
    go_wp2
    have hk0 := (Blk.new w 94 #[.int .i64 d, .int .i64 lo, .int .i64 hi]).alloc (.cells #[.int .i64 0, .int .i64 0, .int .i64 0] 94)
    have hk1 := Blk.new (w.alloc (.cells #[.int .i64 d, .int .i64 lo, .int .i64 hi] 94)) 94 #[.int .i64 0, .int .i64 0, .int .i64 0]
    rw [World.size_alloc] at hk1
    have hBW : Below w.heap.size w ((w.alloc (.cells #[.int .i64 d, .int .i64 lo, .int .i64 hi] 94)).alloc (.cells #[.int .i64 0, .int .i64 0, .int .i64 0] 94)) := by (repeat' first | exact Below.refl _ _ | apply Below.drew | (refine Below.setCells ?_ _ _ ?_) | (refine Below.setCell ?_ ?_ _) | (refine Below.alloc ?_ ?_ _) | (simp; done) | (simp; omega))
    generalize (w.alloc (.cells #[.int .i64 d, .int .i64 lo, .int .i64 hi] 94)).alloc (.cells #[.int .i64 0, .int .i64 0, .int .i64 0] 94) = W at *
    refine wp_region_J (fun w' => w'.cell? ⟨pb, 0, none⟩ = some (.pointer (some ⟨sb, 0, none⟩)) ∧ w'.cell? ⟨pb, 1, none⟩ = some (.int .i64 s)) (fun _ => True) (fun _ => false) (by kernel_rfl) ?_
    have hB0 : Below w.heap.size w W.drew := hBW.drew
    have hS1 := keepB hp0 hp1 hB0
    replace hS1 := hS1.2
    refine wpAnyJ_take1 0 rfl (by kernel_rfl) (by kernel_rfl) rfl (by kernel_rfl) (fun _ _ _ h => h) (by rfl) hS1 (fun w' hSw => (by obtain ⟨c1, c2⟩ := hSw; go_simp; try (with_reducible rfl))) ?_
    try simp only [Act.put, List.setIfInBounds_toArray, List.set_cons_zero, List.set_cons_succ]
    refine wpAnyJ_take1 1 rfl (by kernel_rfl) (by kernel_rfl) rfl (by kernel_rfl) (fun _ _ _ h => h) (by rfl) hS1 (fun w' hSw => (by obtain ⟨c1, c2⟩ := hSw; go_simp; try (with_reducible rfl))) ?_
    try simp only [Act.put, List.setIfInBounds_toArray, List.set_cons_zero, List.set_cons_succ]
    refine wpAnyJ_take1 2 rfl (by kernel_rfl) (by kernel_rfl) rfl (by kernel_rfl) (fun _ _ _ h => h) (by rfl) hS1 (fun w' hSw => (by obtain ⟨c1, c2⟩ := hSw; go_simp; try (with_reducible rfl))) ?_
    try simp only [Act.put, List.setIfInBounds_toArray, List.set_cons_zero, List.set_cons_succ]
    refine wpAnyJ_take1 3 rfl (by kernel_rfl) (by kernel_rfl) rfl (by kernel_rfl) (fun _ _ _ h => h) (by rfl) hS1 (fun w' hSw => (by obtain ⟨c1, c2⟩ := hSw; go_simp; try (with_reducible rfl))) ?_
    try simp only [Act.put, List.setIfInBounds_toArray, List.set_cons_zero, List.set_cons_succ]
    refine wpAnyJ_take1 4 rfl (by kernel_rfl) (by kernel_rfl) rfl (by kernel_rfl) (fun _ _ _ h => h) (by rfl) hS1 (fun w' hSw => (by obtain ⟨c1, c2⟩ := hSw; go_simp; try (with_reducible rfl))) ?_
    try simp only [Act.put, List.setIfInBounds_toArray, List.set_cons_zero, List.set_cons_succ]
    refine wpAnyJ_take1 5 rfl (by kernel_rfl) (by kernel_rfl) rfl (by kernel_rfl) (fun _ _ _ h => h) (by rfl) hS1 (fun w' hSw => (by obtain ⟨c1, c2⟩ := hSw; go_simp; try (with_reducible rfl))) ?_
    try simp only [Act.put, List.setIfInBounds_toArray, List.set_cons_zero, List.set_cons_succ]
    refine wpAnyJ_take1 6 rfl (by kernel_rfl) (by kernel_rfl) rfl (by kernel_rfl) (fun _ _ _ h => h) (by rfl) hS1 (fun w' hSw => (by obtain ⟨c1, c2⟩ := hSw; go_simp; try (with_reducible rfl))) ?_
    try simp only [Act.put, List.setIfInBounds_toArray, List.set_cons_zero, List.set_cons_succ]
    refine wpAnyJ_take1 7 rfl (by kernel_rfl) (by kernel_rfl) rfl (by kernel_rfl) (fun _ _ _ h => h) (by rfl) hS1 (fun w' hSw => (by obtain ⟨c1, c2⟩ := hSw; go_simp; try (with_reducible rfl))) ?_
    try simp only [Act.put, List.setIfInBounds_toArray, List.set_cons_zero, List.set_cons_succ]
    refine wpAnyJ_take1 8 rfl (by kernel_rfl) (by kernel_rfl) rfl (by kernel_rfl) (fun _ _ _ h => h) (by rfl) hS1 (fun w' hSw => (by obtain ⟨c1, c2⟩ := hSw; go_simp; try (with_reducible rfl))) ?_
    try simp only [Act.put, List.setIfInBounds_toArray, List.set_cons_zero, List.set_cons_succ]
    refine wpAnyJ_ready [9, 10] (by kernel_rfl) (by simp) (NextJ.cons rfl (fun K hK => ?_) (NextJ.cons rfl (fun K hK => ?_) NextJ.nil))
    case' _ =>
      go_simp
      refine (of_at' p A l c s i sb 0 (w0 := w) hB0 H hr hH hs0 hs1 hi' (by omega) (by omega) (by omega) (by omega) (by omega) (by omega)).mono ?_
      rintro e w5 ⟨rfl, hB5⟩
      have hB1 := hB0.trans (hB5.mono hB0.size)
      go_simp
      refine hK.out _ _ (keepB hp0 hp1 hB1).2 (fun h => absurd h (by decide)) ?_
      clear hK K
      try simp only [Act.put, List.setIfInBounds_toArray, List.set_cons_zero, List.set_cons_succ]
      refine wpAnyJ_ready [10] (by kernel_rfl) (by simp) (NextJ.cons rfl (fun K hK => ?_) NextJ.nil)
      go_simp
      have hB2 := hB1.alloc hB1.size (.cells #[.int .i64 0, .int .i64 0] 91)
      have h8 := Blk.new w5 91 #[.int .i64 0, .int .i64 0]
      have k0 := ((hk0.drew).below' hB5).alloc (.cells #[.int .i64 0, .int .i64 0] 91)
      have k1 := ((hk1.drew).below' hB5).alloc (.cells #[.int .i64 0, .int .i64 0] 91)
      have hne : w.heap.size < w5.heap.size ∧ w.heap.size + 1 < w5.heap.size := ⟨by have := (hk0.drew).lt; have := hB5.size; omega, by have := (hk1.drew).lt; have := hB5.size; omega⟩
      refine hK.out _ _ (keepB hp0 hp1 hB2).2 (fun h => absurd h (by decide)) ?_
      clear hK K
      try simp only [Act.put, List.setIfInBounds_toArray, List.set_cons_zero, List.set_cons_succ]
      refine wpAnyJ_ready [11] (by kernel_rfl) (by simp) (NextJ.cons rfl (fun K hK => ?_) NextJ.nil)
      generalize w5.alloc (.cells #[.int .i64 0, .int .i64 0] 91) = w6 at *
      generalize w5.heap.size = n8 at *
    rotate_left
    case' _ =>
      go_simp
      have hB1 := hB0.alloc hB0.size (.cells #[.int .i64 0, .int .i64 0] 91)
      refine hK.out _ _ (keepB hp0 hp1 hB1).2 (fun h => absurd h (by decide)) ?_
      clear hK K
      try simp only [Act.put, List.setIfInBounds_toArray, List.set_cons_zero, List.set_cons_succ]
      refine wpAnyJ_ready [9] (by kernel_rfl) (by simp) (NextJ.cons rfl (fun K hK => ?_) NextJ.nil)
      go_simp
      refine (of_at' p A l c s i sb 0 (w0 := w) hB1 H hr hH hs0 hs1 hi' (by omega) (by omega) (by omega) (by omega) (by omega) (by omega)).mono ?_
      rintro e w6 ⟨rfl, hB5⟩
      have hB2 := hB1.trans (hB5.mono hB1.size)
      have h8 := (Blk.new W.drew 91 #[.int .i64 0, .int .i64 0]).below' hB5
      have k0 := ((hk0.drew).alloc (.cells #[.int .i64 0, .int .i64 0] 91)).below' hB5
      have k1 := ((hk1.drew).alloc (.cells #[.int .i64 0, .int .i64 0] 91)).below' hB5
      have hne : w.heap.size < W.drew.heap.size ∧ w.heap.size + 1 < W.drew.heap.size := ⟨hk0.lt, hk1.lt⟩
      go_simp
      refine hK.out _ _ (keepB hp0 hp1 hB2).2 (fun h => absurd h (by decide)) ?_
      clear hK K
      try simp only [Act.put, List.setIfInBounds_toArray, List.set_cons_zero, List.set_cons_succ]
      refine wpAnyJ_ready [11] (by kernel_rfl) (by simp) (NextJ.cons rfl (fun K hK => ?_) NextJ.nil)
      change Blk w6 W.heap.size _ _ at h8
      change w.heap.size < W.heap.size ∧ w.heap.size + 1 < W.heap.size at hne
      generalize W.heap.size = n8 at *
    rotate_left

    all_goals
      have q0 := h8.cell 0 _ rfl
      have q1 := h8.cell 1 _ rfl
      have f0 := h8.frozen 0
      have f1 := h8.frozen 1
      have hl8 := h8.lt
      go_simp
      have hB3 := (hB2.setCell (p := ⟨n8, 0, none⟩) (Nat.le_of_lt hne.1) (.int .i64 (wlo s l[i]))).setCell (p := ⟨n8, 1, none⟩) (Nat.le_of_lt hne.1) (.int .i64 (whi p s l[i]))
      have h8' := (h8.set_ 0 (.int .i64 (wlo s l[i]))).set_ 1 (.int .i64 (whi p s l[i]))
      have k0' := (k0.far (p := ⟨n8, 0, none⟩) (Nat.ne_of_lt hne.1) (.int .i64 (wlo s l[i]))).far (p := ⟨n8, 1, none⟩) (Nat.ne_of_lt hne.1) (.int .i64 (whi p s l[i]))
      have k1' := (k1.far (p := ⟨n8, 0, none⟩) (Nat.ne_of_lt hne.2) (.int .i64 (wlo s l[i]))).far (p := ⟨n8, 1, none⟩) (Nat.ne_of_lt hne.2) (.int .i64 (whi p s l[i]))
      refine hK.out _ _ (keepB hp0 hp1 hB3).2 (fun h => absurd h (by decide)) ?_
      clear hK K
      try simp only [Act.put, List.setIfInBounds_toArray, List.set_cons_zero, List.set_cons_succ]
      refine wpAnyJ_done (by kernel_rfl) ?_ _
      have h8 : Blk _ n8 91 #[.int .i64 (wlo s l[i]), .int .i64 (whi p s l[i])] := h8'
      clear q0 q1 f0 f1 hB2 k0 k1 hB1 hB0 hS1 h8'
      generalize (w6.setCell ⟨n8, 0, none⟩ (.int .i64 (wlo s l[i]))).setCell ⟨n8, 1, none⟩ (.int .i64 (whi p s l[i])) = w7 at *
      have c80 := h8.cell 0 _ rfl
      have c81 := h8.cell 1 _ rfl
      have c01 := k0'.cell 1 _ rfl
      have c02 := k0'.cell 2 _ rfl
      go_wp2_with (first
        | (go_at_call 85; refine (and_any _ _ _ _ _).mono ?_; rintro e w8 ⟨rfl, hB8⟩
           have k08 := k0'.below' hB8
           have k18 := k1'.below' hB8
           have h88 := h8.below' hB8
           have d1 := k08.cell 1 _ rfl
           have d2 := k08.cell 2 _ rfl
           have dl := k08.lt
           have hx8 := hne.2
           have ht := Blk.new w8 91 #[.int .i64 (max (wlo s l[i]) lo), .int .i64 (min (whi p s l[i]) hi)]
           have kz := k08.alloc (.cells #[.int .i64 (max (wlo s l[i]) lo), .int .i64 (min (whi p s l[i]) hi)] 91)
           have ky := k18.alloc (.cells #[.int .i64 (max (wlo s l[i]) lo), .int .i64 (min (whi p s l[i]) hi)] 91)
           have hz := h88.alloc (.cells #[.int .i64 (max (wlo s l[i]) lo), .int .i64 (min (whi p s l[i]) hi)] 91)
           have hBz := (hB3.trans (hB8.mono hB3.size)).alloc (Nat.le_trans hB3.size hB8.size) (.cells #[.int .i64 (max (wlo s l[i]) lo), .int .i64 (min (whi p s l[i]) hi)] 91)
           have hn8 : n8 < w8.heap.size := h88.lt)
        | (go_at_call 86; refine (open_any _ _ _).mono ?_; rintro e w9 ⟨rfl, hB9⟩
           replace hBz := hBz.trans (hB9.mono hBz.size)
           replace kz := kz.below' hB9
           replace ky := ky.below' hB9
           replace hz := hz.below' hB9
           replace ht := ht.below' hB9
           have z0 := kz.cell 0 _ rfl
           have z1 := ht.cell 0 _ rfl
           have z2 := ht.cell 1 _ rfl
           have z3 := hz.cell 0 _ rfl
           have z4 := hz.cell 1 _ rfl
           have z5 := hz.frozen 0
           have z6 := hz.frozen 1
           have z7 := ky.frozen 0
           have z8 := ky.frozen 1
           have z9 := ky.frozen 2
           have y0 := ky.cell 0 _ rfl
           have y1 := ky.cell 1 _ rfl
           have y2 := ky.cell 2 _ rfl
           have yl := ky.lt
           have zl := kz.lt))
      have hz5 := (hz.set_ 0 (.int .i64 (max (wlo s l[i]) lo))).set_ 1 (.int .i64 (min (whi p s l[i]) hi))
      have kz5 := (kz.far (p := ⟨n8, 0, none⟩) (Nat.ne_of_lt hne.1) (.int .i64 (max (wlo s l[i]) lo))).far (p := ⟨n8, 1, none⟩) (Nat.ne_of_lt hne.1) (.int .i64 (min (whi p s l[i]) hi))
      have ky5 := (ky.far (p := ⟨n8, 0, none⟩) (Nat.ne_of_lt hne.2) (.int .i64 (max (wlo s l[i]) lo))).far (p := ⟨n8, 1, none⟩) (Nat.ne_of_lt hne.2) (.int .i64 (min (whi p s l[i]) hi))
      have hB5 := (hBz.setCell (p := ⟨n8, 0, none⟩) (Nat.le_of_lt hne.1) (.int .i64 (max (wlo s l[i]) lo))).setCell (p := ⟨n8, 1, none⟩) (Nat.le_of_lt hne.1) (.int .i64 (min (whi p s l[i]) hi))
      generalize (w9.setCell ⟨n8, 0, none⟩ (.int .i64 (max (wlo s l[i]) lo))).setCell ⟨n8, 1, none⟩ (.int .i64 (min (whi p s l[i]) hi)) = w10 at *
      have hz6 : Blk w10 n8 91 #[.int .i64 (max (wlo s l[i]) lo), .int .i64 (min (whi p s l[i]) hi)] := hz5
      clear z0 z1 z2 z3 z4 z5 z6 z7 z8 z9 y0 y1 y2 yl zl hz5
      have z0 := kz5.cell 0 _ rfl
      have z3 := hz6.cell 0 _ rfl
      have z4 := hz6.cell 1 _ rfl
      have z7 := ky5.frozen 0
      have z8 := ky5.frozen 1
      have z9 := ky5.frozen 2
      have y0 := ky5.cell 0 _ rfl
      have y1 := ky5.cell 1 _ rfl
      have y2 := ky5.cell 2 _ rfl
      have yl := ky5.lt
      have zl := kz5.lt
      go_region
      all_goals
        have kf := (((ky5.set_ 0 (.int .i64 (bits BinOp.or IntKind.i64 d (wrap64 (2 ^ i))))).set_ 1 (.int .i64 (max (wlo s l[i]) lo))).set_ 2 (.int .i64 (min (whi p s l[i]) hi))).drew
        have e0 := kf.cell 0 _ rfl
        have e1 := kf.cell 1 _ rfl
        have e2 := kf.cell 2 _ rfl
        have hBf := (((hB5.setCell (p := ⟨w.heap.size + 1, 0, none⟩) (Nat.le_succ _) (.int .i64 (bits BinOp.or IntKind.i64 d (wrap64 (2 ^ i))))).setCell (p := ⟨w.heap.size + 1, 1, none⟩) (Nat.le_succ _) (.int .i64 (max (wlo s l[i]) lo))).setCell (p := ⟨w.heap.size + 1, 2, none⟩) (Nat.le_succ _) (.int .i64 (min (whi p s l[i]) hi))).drew
        go_wp2_with fail
        refine bodyPost_ret (v := _) (by simp [results, Tryz.results49, go_sem, e0, e1, e2]; rfl) rfl (Ret.val ?_ hBf)
        rw [HJ.out, bor_shl d i (by omega) (by omega)]
        rfl
  · have hd1 : decide (lo ≤ hi) = true := by simpa using h1
    have hd2 : decide (max (wlo s l[i]) lo ≤ min (whi p s l[i]) hi) = false := by simpa using h2
    have HJ := Lib.hid (show joinB p s l[i] lo hi = false by simp [joinB, hd1, hd2])
    clear h1 h2
    have l0 := lt_of_cell hp0
    have l1 := lt_of_cell hs0
    go_enter Tryz.func49, Tryz.ntmps49
    go_wp2
    have hk0 := (Blk.new w 94 #[.int .i64 d, .int .i64 lo, .int .i64 hi]).alloc (.cells #[.int .i64 0, .int .i64 0, .int .i64 0] 94)
    have hk1 := Blk.new (w.alloc (.cells #[.int .i64 d, .int .i64 lo, .int .i64 hi] 94)) 94 #[.int .i64 0, .int .i64 0, .int .i64 0]
    rw [World.size_alloc] at hk1
    have hBW : Below w.heap.size w ((w.alloc (.cells #[.int .i64 d, .int .i64 lo, .int .i64 hi] 94)).alloc (.cells #[.int .i64 0, .int .i64 0, .int .i64 0] 94)) := by (repeat' first | exact Below.refl _ _ | apply Below.drew | (refine Below.setCells ?_ _ _ ?_) | (refine Below.setCell ?_ ?_ _) | (refine Below.alloc ?_ ?_ _) | (simp; done) | (simp; omega))
    generalize (w.alloc (.cells #[.int .i64 d, .int .i64 lo, .int .i64 hi] 94)).alloc (.cells #[.int .i64 0, .int .i64 0, .int .i64 0] 94) = W at *
    refine wp_region_J (fun w' => w'.cell? ⟨pb, 0, none⟩ = some (.pointer (some ⟨sb, 0, none⟩)) ∧ w'.cell? ⟨pb, 1, none⟩ = some (.int .i64 s)) (fun _ => True) (fun _ => false) (by kernel_rfl) ?_
    have hB0 : Below w.heap.size w W.drew := hBW.drew
    have hS1 := keepB hp0 hp1 hB0
    replace hS1 := hS1.2
    refine wpAnyJ_take1 0 rfl (by kernel_rfl) (by kernel_rfl) rfl (by kernel_rfl) (fun _ _ _ h => h) (by rfl) hS1 (fun w' hSw => (by obtain ⟨c1, c2⟩ := hSw; go_simp; try (with_reducible rfl))) ?_
    try simp only [Act.put, List.setIfInBounds_toArray, List.set_cons_zero, List.set_cons_succ]
    refine wpAnyJ_take1 1 rfl (by kernel_rfl) (by kernel_rfl) rfl (by kernel_rfl) (fun _ _ _ h => h) (by rfl) hS1 (fun w' hSw => (by obtain ⟨c1, c2⟩ := hSw; go_simp; try (with_reducible rfl))) ?_
    try simp only [Act.put, List.setIfInBounds_toArray, List.set_cons_zero, List.set_cons_succ]
    refine wpAnyJ_take1 2 rfl (by kernel_rfl) (by kernel_rfl) rfl (by kernel_rfl) (fun _ _ _ h => h) (by rfl) hS1 (fun w' hSw => (by obtain ⟨c1, c2⟩ := hSw; go_simp; try (with_reducible rfl))) ?_
    try simp only [Act.put, List.setIfInBounds_toArray, List.set_cons_zero, List.set_cons_succ]
    refine wpAnyJ_take1 3 rfl (by kernel_rfl) (by kernel_rfl) rfl (by kernel_rfl) (fun _ _ _ h => h) (by rfl) hS1 (fun w' hSw => (by obtain ⟨c1, c2⟩ := hSw; go_simp; try (with_reducible rfl))) ?_
    try simp only [Act.put, List.setIfInBounds_toArray, List.set_cons_zero, List.set_cons_succ]
    refine wpAnyJ_take1 4 rfl (by kernel_rfl) (by kernel_rfl) rfl (by kernel_rfl) (fun _ _ _ h => h) (by rfl) hS1 (fun w' hSw => (by obtain ⟨c1, c2⟩ := hSw; go_simp; try (with_reducible rfl))) ?_
    try simp only [Act.put, List.setIfInBounds_toArray, List.set_cons_zero, List.set_cons_succ]
    refine wpAnyJ_take1 5 rfl (by kernel_rfl) (by kernel_rfl) rfl (by kernel_rfl) (fun _ _ _ h => h) (by rfl) hS1 (fun w' hSw => (by obtain ⟨c1, c2⟩ := hSw; go_simp; try (with_reducible rfl))) ?_
    try simp only [Act.put, List.setIfInBounds_toArray, List.set_cons_zero, List.set_cons_succ]
    refine wpAnyJ_take1 6 rfl (by kernel_rfl) (by kernel_rfl) rfl (by kernel_rfl) (fun _ _ _ h => h) (by rfl) hS1 (fun w' hSw => (by obtain ⟨c1, c2⟩ := hSw; go_simp; try (with_reducible rfl))) ?_
    try simp only [Act.put, List.setIfInBounds_toArray, List.set_cons_zero, List.set_cons_succ]
    refine wpAnyJ_take1 7 rfl (by kernel_rfl) (by kernel_rfl) rfl (by kernel_rfl) (fun _ _ _ h => h) (by rfl) hS1 (fun w' hSw => (by obtain ⟨c1, c2⟩ := hSw; go_simp; try (with_reducible rfl))) ?_
    try simp only [Act.put, List.setIfInBounds_toArray, List.set_cons_zero, List.set_cons_succ]
    refine wpAnyJ_take1 8 rfl (by kernel_rfl) (by kernel_rfl) rfl (by kernel_rfl) (fun _ _ _ h => h) (by rfl) hS1 (fun w' hSw => (by obtain ⟨c1, c2⟩ := hSw; go_simp; try (with_reducible rfl))) ?_
    try simp only [Act.put, List.setIfInBounds_toArray, List.set_cons_zero, List.set_cons_succ]
    refine wpAnyJ_ready [9, 10] (by kernel_rfl) (by simp) (NextJ.cons rfl (fun K hK => ?_) (NextJ.cons rfl (fun K hK => ?_) NextJ.nil))
    case' _ =>
      go_simp
      refine (of_at' p A l c s i sb 0 (w0 := w) hB0 H hr hH hs0 hs1 hi' (by omega) (by omega) (by omega) (by omega) (by omega) (by omega)).mono ?_
      rintro e w5 ⟨rfl, hB5⟩
      have hB1 := hB0.trans (hB5.mono hB0.size)
      go_simp
      refine hK.out _ _ (keepB hp0 hp1 hB1).2 (fun h => absurd h (by decide)) ?_
      clear hK K
      try simp only [Act.put, List.setIfInBounds_toArray, List.set_cons_zero, List.set_cons_succ]
      refine wpAnyJ_ready [10] (by kernel_rfl) (by simp) (NextJ.cons rfl (fun K hK => ?_) NextJ.nil)
      go_simp
      have hB2 := hB1.alloc hB1.size (.cells #[.int .i64 0, .int .i64 0] 91)
      have h8 := Blk.new w5 91 #[.int .i64 0, .int .i64 0]
      have k0 := ((hk0.drew).below' hB5).alloc (.cells #[.int .i64 0, .int .i64 0] 91)
      have k1 := ((hk1.drew).below' hB5).alloc (.cells #[.int .i64 0, .int .i64 0] 91)
      have hne : w.heap.size < w5.heap.size ∧ w.heap.size + 1 < w5.heap.size := ⟨by have := (hk0.drew).lt; have := hB5.size; omega, by have := (hk1.drew).lt; have := hB5.size; omega⟩
      refine hK.out _ _ (keepB hp0 hp1 hB2).2 (fun h => absurd h (by decide)) ?_
      clear hK K
      try simp only [Act.put, List.setIfInBounds_toArray, List.set_cons_zero, List.set_cons_succ]
      refine wpAnyJ_ready [11] (by kernel_rfl) (by simp) (NextJ.cons rfl (fun K hK => ?_) NextJ.nil)
      generalize w5.alloc (.cells #[.int .i64 0, .int .i64 0] 91) = w6 at *
      generalize w5.heap.size = n8 at *
    rotate_left
    case' _ =>
      go_simp
      have hB1 := hB0.alloc hB0.size (.cells #[.int .i64 0, .int .i64 0] 91)
      refine hK.out _ _ (keepB hp0 hp1 hB1).2 (fun h => absurd h (by decide)) ?_
      clear hK K
      try simp only [Act.put, List.setIfInBounds_toArray, List.set_cons_zero, List.set_cons_succ]
      refine wpAnyJ_ready [9] (by kernel_rfl) (by simp) (NextJ.cons rfl (fun K hK => ?_) NextJ.nil)
      go_simp
      refine (of_at' p A l c s i sb 0 (w0 := w) hB1 H hr hH hs0 hs1 hi' (by omega) (by omega) (by omega) (by omega) (by omega) (by omega)).mono ?_
      rintro e w6 ⟨rfl, hB5⟩
      have hB2 := hB1.trans (hB5.mono hB1.size)
      have h8 := (Blk.new W.drew 91 #[.int .i64 0, .int .i64 0]).below' hB5
      have k0 := ((hk0.drew).alloc (.cells #[.int .i64 0, .int .i64 0] 91)).below' hB5
      have k1 := ((hk1.drew).alloc (.cells #[.int .i64 0, .int .i64 0] 91)).below' hB5
      have hne : w.heap.size < W.drew.heap.size ∧ w.heap.size + 1 < W.drew.heap.size := ⟨hk0.lt, hk1.lt⟩
      go_simp
      refine hK.out _ _ (keepB hp0 hp1 hB2).2 (fun h => absurd h (by decide)) ?_
      clear hK K
      try simp only [Act.put, List.setIfInBounds_toArray, List.set_cons_zero, List.set_cons_succ]
      refine wpAnyJ_ready [11] (by kernel_rfl) (by simp) (NextJ.cons rfl (fun K hK => ?_) NextJ.nil)
      change Blk w6 W.heap.size _ _ at h8
      change w.heap.size < W.heap.size ∧ w.heap.size + 1 < W.heap.size at hne
      generalize W.heap.size = n8 at *
    rotate_left

    all_goals
      have q0 := h8.cell 0 _ rfl
      have q1 := h8.cell 1 _ rfl
      have f0 := h8.frozen 0
      have f1 := h8.frozen 1
      have hl8 := h8.lt
      go_simp
      have hB3 := (hB2.setCell (p := ⟨n8, 0, none⟩) (Nat.le_of_lt hne.1) (.int .i64 (wlo s l[i]))).setCell (p := ⟨n8, 1, none⟩) (Nat.le_of_lt hne.1) (.int .i64 (whi p s l[i]))
      have h8' := (h8.set_ 0 (.int .i64 (wlo s l[i]))).set_ 1 (.int .i64 (whi p s l[i]))
      have k0' := (k0.far (p := ⟨n8, 0, none⟩) (Nat.ne_of_lt hne.1) (.int .i64 (wlo s l[i]))).far (p := ⟨n8, 1, none⟩) (Nat.ne_of_lt hne.1) (.int .i64 (whi p s l[i]))
      have k1' := (k1.far (p := ⟨n8, 0, none⟩) (Nat.ne_of_lt hne.2) (.int .i64 (wlo s l[i]))).far (p := ⟨n8, 1, none⟩) (Nat.ne_of_lt hne.2) (.int .i64 (whi p s l[i]))
      refine hK.out _ _ (keepB hp0 hp1 hB3).2 (fun h => absurd h (by decide)) ?_
      clear hK K
      try simp only [Act.put, List.setIfInBounds_toArray, List.set_cons_zero, List.set_cons_succ]
      refine wpAnyJ_done (by kernel_rfl) ?_ _
      have h8 : Blk _ n8 91 #[.int .i64 (wlo s l[i]), .int .i64 (whi p s l[i])] := h8'
      clear q0 q1 f0 f1 hB2 k0 k1 hB1 hB0 hS1 h8'
      generalize (w6.setCell ⟨n8, 0, none⟩ (.int .i64 (wlo s l[i]))).setCell ⟨n8, 1, none⟩ (.int .i64 (whi p s l[i])) = w7 at *
      have c80 := h8.cell 0 _ rfl
      have c81 := h8.cell 1 _ rfl
      have c01 := k0'.cell 1 _ rfl
      have c02 := k0'.cell 2 _ rfl
      go_wp2_with (first
        | (go_at_call 85; refine (and_any _ _ _ _ _).mono ?_; rintro e w8 ⟨rfl, hB8⟩
           have k08 := k0'.below' hB8
           have k18 := k1'.below' hB8
           have h88 := h8.below' hB8
           have d1 := k08.cell 1 _ rfl
           have d2 := k08.cell 2 _ rfl
           have dl := k08.lt
           have hx8 := hne.2
           have ht := Blk.new w8 91 #[.int .i64 (max (wlo s l[i]) lo), .int .i64 (min (whi p s l[i]) hi)]
           have kz := k08.alloc (.cells #[.int .i64 (max (wlo s l[i]) lo), .int .i64 (min (whi p s l[i]) hi)] 91)
           have ky := k18.alloc (.cells #[.int .i64 (max (wlo s l[i]) lo), .int .i64 (min (whi p s l[i]) hi)] 91)
           have hz := h88.alloc (.cells #[.int .i64 (max (wlo s l[i]) lo), .int .i64 (min (whi p s l[i]) hi)] 91)
           have hBz := (hB3.trans (hB8.mono hB3.size)).alloc (Nat.le_trans hB3.size hB8.size) (.cells #[.int .i64 (max (wlo s l[i]) lo), .int .i64 (min (whi p s l[i]) hi)] 91)
           have hn8 : n8 < w8.heap.size := h88.lt)
        | (go_at_call 86; refine (open_any _ _ _).mono ?_; rintro e w9 ⟨rfl, hB9⟩
           replace hBz := hBz.trans (hB9.mono hBz.size)
           replace kz := kz.below' hB9
           replace ky := ky.below' hB9
           replace hz := hz.below' hB9
           replace ht := ht.below' hB9
           have z0 := kz.cell 0 _ rfl
           have z1 := ht.cell 0 _ rfl
           have z2 := ht.cell 1 _ rfl
           have z3 := hz.cell 0 _ rfl
           have z4 := hz.cell 1 _ rfl
           have z5 := hz.frozen 0
           have z6 := hz.frozen 1
           have z7 := ky.frozen 0
           have z8 := ky.frozen 1
           have z9 := ky.frozen 2
           have y0 := ky.cell 0 _ rfl
           have y1 := ky.cell 1 _ rfl
           have y2 := ky.cell 2 _ rfl
           have yl := ky.lt
           have zl := kz.lt))
      go_region
      all_goals
        have kf := (((ky.set_ 0 (.int .i64 (bits BinOp.or IntKind.i64 d (wrap64 (2 ^ i))))).set_ 1 (.int .i64 (wlo s l[i]))).set_ 2 (.int .i64 (whi p s l[i]))).drew
        have e0 := kf.cell 0 _ rfl
        have e1 := kf.cell 1 _ rfl
        have e2 := kf.cell 2 _ rfl
        have hBf := (((hBz.setCell (p := ⟨w.heap.size + 1, 0, none⟩) (Nat.le_succ _) (.int .i64 (bits BinOp.or IntKind.i64 d (wrap64 (2 ^ i))))).setCell (p := ⟨w.heap.size + 1, 1, none⟩) (Nat.le_succ _) (.int .i64 (wlo s l[i]))).setCell (p := ⟨w.heap.size + 1, 2, none⟩) (Nat.le_succ _) (.int .i64 (whi p s l[i]))).drew
        go_wp2_with fail
        refine bodyPost_ret (v := _) (by simp [results, Tryz.results49, go_sem, e0, e1, e2]; rfl) rfl (Ret.val ?_ hBf)
        rw [HJ.out, bor_shl d i (by omega) (by omega)]
        rfl
  · have hd1 : decide (lo ≤ hi) = false := by simpa using h1
    have HJ := Lib.hid (show joinB p s l[i] lo hi = false by simp [joinB, hd1])
    clear h1
    have l0 := lt_of_cell hp0
    have l1 := lt_of_cell hs0
    go_enter Tryz.func49, Tryz.ntmps49
    go_wp2
    have hk0 := (Blk.new w 94 #[.int .i64 d, .int .i64 lo, .int .i64 hi]).alloc (.cells #[.int .i64 0, .int .i64 0, .int .i64 0] 94)
    have hk1 := Blk.new (w.alloc (.cells #[.int .i64 d, .int .i64 lo, .int .i64 hi] 94)) 94 #[.int .i64 0, .int .i64 0, .int .i64 0]
    rw [World.size_alloc] at hk1
    have hBW : Below w.heap.size w ((w.alloc (.cells #[.int .i64 d, .int .i64 lo, .int .i64 hi] 94)).alloc (.cells #[.int .i64 0, .int .i64 0, .int .i64 0] 94)) := by (repeat' first | exact Below.refl _ _ | apply Below.drew | (refine Below.setCells ?_ _ _ ?_) | (refine Below.setCell ?_ ?_ _) | (refine Below.alloc ?_ ?_ _) | (simp; done) | (simp; omega))
    generalize (w.alloc (.cells #[.int .i64 d, .int .i64 lo, .int .i64 hi] 94)).alloc (.cells #[.int .i64 0, .int .i64 0, .int .i64 0] 94) = W at *
    refine wp_region_J (fun w' => w'.cell? ⟨pb, 0, none⟩ = some (.pointer (some ⟨sb, 0, none⟩)) ∧ w'.cell? ⟨pb, 1, none⟩ = some (.int .i64 s)) (fun _ => True) (fun _ => false) (by kernel_rfl) ?_
    have hB0 : Below w.heap.size w W.drew := hBW.drew
    have hS1 := keepB hp0 hp1 hB0
    replace hS1 := hS1.2
    refine wpAnyJ_take1 0 rfl (by kernel_rfl) (by kernel_rfl) rfl (by kernel_rfl) (fun _ _ _ h => h) (by rfl) hS1 (fun w' hSw => (by obtain ⟨c1, c2⟩ := hSw; go_simp; try (with_reducible rfl))) ?_
    try simp only [Act.put, List.setIfInBounds_toArray, List.set_cons_zero, List.set_cons_succ]
    refine wpAnyJ_take1 1 rfl (by kernel_rfl) (by kernel_rfl) rfl (by kernel_rfl) (fun _ _ _ h => h) (by rfl) hS1 (fun w' hSw => (by obtain ⟨c1, c2⟩ := hSw; go_simp; try (with_reducible rfl))) ?_
    try simp only [Act.put, List.setIfInBounds_toArray, List.set_cons_zero, List.set_cons_succ]
    refine wpAnyJ_take1 2 rfl (by kernel_rfl) (by kernel_rfl) rfl (by kernel_rfl) (fun _ _ _ h => h) (by rfl) hS1 (fun w' hSw => (by obtain ⟨c1, c2⟩ := hSw; go_simp; try (with_reducible rfl))) ?_
    try simp only [Act.put, List.setIfInBounds_toArray, List.set_cons_zero, List.set_cons_succ]
    refine wpAnyJ_take1 3 rfl (by kernel_rfl) (by kernel_rfl) rfl (by kernel_rfl) (fun _ _ _ h => h) (by rfl) hS1 (fun w' hSw => (by obtain ⟨c1, c2⟩ := hSw; go_simp; try (with_reducible rfl))) ?_
    try simp only [Act.put, List.setIfInBounds_toArray, List.set_cons_zero, List.set_cons_succ]
    refine wpAnyJ_take1 4 rfl (by kernel_rfl) (by kernel_rfl) rfl (by kernel_rfl) (fun _ _ _ h => h) (by rfl) hS1 (fun w' hSw => (by obtain ⟨c1, c2⟩ := hSw; go_simp; try (with_reducible rfl))) ?_
    try simp only [Act.put, List.setIfInBounds_toArray, List.set_cons_zero, List.set_cons_succ]
    refine wpAnyJ_take1 5 rfl (by kernel_rfl) (by kernel_rfl) rfl (by kernel_rfl) (fun _ _ _ h => h) (by rfl) hS1 (fun w' hSw => (by obtain ⟨c1, c2⟩ := hSw; go_simp; try (with_reducible rfl))) ?_
    try simp only [Act.put, List.setIfInBounds_toArray, List.set_cons_zero, List.set_cons_succ]
    refine wpAnyJ_take1 6 rfl (by kernel_rfl) (by kernel_rfl) rfl (by kernel_rfl) (fun _ _ _ h => h) (by rfl) hS1 (fun w' hSw => (by obtain ⟨c1, c2⟩ := hSw; go_simp; try (with_reducible rfl))) ?_
    try simp only [Act.put, List.setIfInBounds_toArray, List.set_cons_zero, List.set_cons_succ]
    refine wpAnyJ_take1 7 rfl (by kernel_rfl) (by kernel_rfl) rfl (by kernel_rfl) (fun _ _ _ h => h) (by rfl) hS1 (fun w' hSw => (by obtain ⟨c1, c2⟩ := hSw; go_simp; try (with_reducible rfl))) ?_
    try simp only [Act.put, List.setIfInBounds_toArray, List.set_cons_zero, List.set_cons_succ]
    refine wpAnyJ_take1 8 rfl (by kernel_rfl) (by kernel_rfl) rfl (by kernel_rfl) (fun _ _ _ h => h) (by rfl) hS1 (fun w' hSw => (by obtain ⟨c1, c2⟩ := hSw; go_simp; try (with_reducible rfl))) ?_
    try simp only [Act.put, List.setIfInBounds_toArray, List.set_cons_zero, List.set_cons_succ]
    refine wpAnyJ_ready [9, 10] (by kernel_rfl) (by simp) (NextJ.cons rfl (fun K hK => ?_) (NextJ.cons rfl (fun K hK => ?_) NextJ.nil))
    case' _ =>
      go_simp
      refine (of_at' p A l c s i sb 0 (w0 := w) hB0 H hr hH hs0 hs1 hi' (by omega) (by omega) (by omega) (by omega) (by omega) (by omega)).mono ?_
      rintro e w5 ⟨rfl, hB5⟩
      have hB1 := hB0.trans (hB5.mono hB0.size)
      go_simp
      refine hK.out _ _ (keepB hp0 hp1 hB1).2 (fun h => absurd h (by decide)) ?_
      clear hK K
      try simp only [Act.put, List.setIfInBounds_toArray, List.set_cons_zero, List.set_cons_succ]
      refine wpAnyJ_ready [10] (by kernel_rfl) (by simp) (NextJ.cons rfl (fun K hK => ?_) NextJ.nil)
      go_simp
      have hB2 := hB1.alloc hB1.size (.cells #[.int .i64 0, .int .i64 0] 91)
      have h8 := Blk.new w5 91 #[.int .i64 0, .int .i64 0]
      have k0 := ((hk0.drew).below' hB5).alloc (.cells #[.int .i64 0, .int .i64 0] 91)
      have k1 := ((hk1.drew).below' hB5).alloc (.cells #[.int .i64 0, .int .i64 0] 91)
      have hne : w.heap.size < w5.heap.size ∧ w.heap.size + 1 < w5.heap.size := ⟨by have := (hk0.drew).lt; have := hB5.size; omega, by have := (hk1.drew).lt; have := hB5.size; omega⟩
      refine hK.out _ _ (keepB hp0 hp1 hB2).2 (fun h => absurd h (by decide)) ?_
      clear hK K
      try simp only [Act.put, List.setIfInBounds_toArray, List.set_cons_zero, List.set_cons_succ]
      refine wpAnyJ_ready [11] (by kernel_rfl) (by simp) (NextJ.cons rfl (fun K hK => ?_) NextJ.nil)
      generalize w5.alloc (.cells #[.int .i64 0, .int .i64 0] 91) = w6 at *
      generalize w5.heap.size = n8 at *
    rotate_left
    case' _ =>
      go_simp
      have hB1 := hB0.alloc hB0.size (.cells #[.int .i64 0, .int .i64 0] 91)
      refine hK.out _ _ (keepB hp0 hp1 hB1).2 (fun h => absurd h (by decide)) ?_
      clear hK K
      try simp only [Act.put, List.setIfInBounds_toArray, List.set_cons_zero, List.set_cons_succ]
      refine wpAnyJ_ready [9] (by kernel_rfl) (by simp) (NextJ.cons rfl (fun K hK => ?_) NextJ.nil)
      go_simp
      refine (of_at' p A l c s i sb 0 (w0 := w) hB1 H hr hH hs0 hs1 hi' (by omega) (by omega) (by omega) (by omega) (by omega) (by omega)).mono ?_
      rintro e w6 ⟨rfl, hB5⟩
      have hB2 := hB1.trans (hB5.mono hB1.size)
      have h8 := (Blk.new W.drew 91 #[.int .i64 0, .int .i64 0]).below' hB5
      have k0 := ((hk0.drew).alloc (.cells #[.int .i64 0, .int .i64 0] 91)).below' hB5
      have k1 := ((hk1.drew).alloc (.cells #[.int .i64 0, .int .i64 0] 91)).below' hB5
      have hne : w.heap.size < W.drew.heap.size ∧ w.heap.size + 1 < W.drew.heap.size := ⟨hk0.lt, hk1.lt⟩
      go_simp
      refine hK.out _ _ (keepB hp0 hp1 hB2).2 (fun h => absurd h (by decide)) ?_
      clear hK K
      try simp only [Act.put, List.setIfInBounds_toArray, List.set_cons_zero, List.set_cons_succ]
      refine wpAnyJ_ready [11] (by kernel_rfl) (by simp) (NextJ.cons rfl (fun K hK => ?_) NextJ.nil)
      change Blk w6 W.heap.size _ _ at h8
      change w.heap.size < W.heap.size ∧ w.heap.size + 1 < W.heap.size at hne
      generalize W.heap.size = n8 at *
    rotate_left

    all_goals
      have q0 := h8.cell 0 _ rfl
      have q1 := h8.cell 1 _ rfl
      have f0 := h8.frozen 0
      have f1 := h8.frozen 1
      have hl8 := h8.lt
      go_simp
      have hB3 := (hB2.setCell (p := ⟨n8, 0, none⟩) (Nat.le_of_lt hne.1) (.int .i64 (wlo s l[i]))).setCell (p := ⟨n8, 1, none⟩) (Nat.le_of_lt hne.1) (.int .i64 (whi p s l[i]))
      have h8' := (h8.set_ 0 (.int .i64 (wlo s l[i]))).set_ 1 (.int .i64 (whi p s l[i]))
      have k0' := (k0.far (p := ⟨n8, 0, none⟩) (Nat.ne_of_lt hne.1) (.int .i64 (wlo s l[i]))).far (p := ⟨n8, 1, none⟩) (Nat.ne_of_lt hne.1) (.int .i64 (whi p s l[i]))
      have k1' := (k1.far (p := ⟨n8, 0, none⟩) (Nat.ne_of_lt hne.2) (.int .i64 (wlo s l[i]))).far (p := ⟨n8, 1, none⟩) (Nat.ne_of_lt hne.2) (.int .i64 (whi p s l[i]))
      refine hK.out _ _ (keepB hp0 hp1 hB3).2 (fun h => absurd h (by decide)) ?_
      clear hK K
      try simp only [Act.put, List.setIfInBounds_toArray, List.set_cons_zero, List.set_cons_succ]
      refine wpAnyJ_done (by kernel_rfl) ?_ _
      have h8 : Blk _ n8 91 #[.int .i64 (wlo s l[i]), .int .i64 (whi p s l[i])] := h8'
      clear q0 q1 f0 f1 hB2 k0 k1 hB1 hB0 hS1 h8'
      generalize (w6.setCell ⟨n8, 0, none⟩ (.int .i64 (wlo s l[i]))).setCell ⟨n8, 1, none⟩ (.int .i64 (whi p s l[i])) = w7 at *
      have c80 := h8.cell 0 _ rfl
      have c81 := h8.cell 1 _ rfl
      have c01 := k0'.cell 1 _ rfl
      have c02 := k0'.cell 2 _ rfl
      go_wp2_with (first
        | (go_at_call 85; refine (and_any _ _ _ _ _).mono ?_; rintro e w8 ⟨rfl, hB8⟩
           have k08 := k0'.below' hB8
           have k18 := k1'.below' hB8
           have h88 := h8.below' hB8
           have d1 := k08.cell 1 _ rfl
           have d2 := k08.cell 2 _ rfl
           have dl := k08.lt
           have hx8 := hne.2
           have ht := Blk.new w8 91 #[.int .i64 (max (wlo s l[i]) lo), .int .i64 (min (whi p s l[i]) hi)]
           have kz := k08.alloc (.cells #[.int .i64 (max (wlo s l[i]) lo), .int .i64 (min (whi p s l[i]) hi)] 91)
           have ky := k18.alloc (.cells #[.int .i64 (max (wlo s l[i]) lo), .int .i64 (min (whi p s l[i]) hi)] 91)
           have hz := h88.alloc (.cells #[.int .i64 (max (wlo s l[i]) lo), .int .i64 (min (whi p s l[i]) hi)] 91)
           have hBz := (hB3.trans (hB8.mono hB3.size)).alloc (Nat.le_trans hB3.size hB8.size) (.cells #[.int .i64 (max (wlo s l[i]) lo), .int .i64 (min (whi p s l[i]) hi)] 91)
           have hn8 : n8 < w8.heap.size := h88.lt)
        | (go_at_call 86; refine (open_any _ _ _).mono ?_; rintro e w9 ⟨rfl, hB9⟩
           replace hBz := hBz.trans (hB9.mono hBz.size)
           replace kz := kz.below' hB9
           replace ky := ky.below' hB9
           replace hz := hz.below' hB9
           replace ht := ht.below' hB9
           have z0 := kz.cell 0 _ rfl
           have z1 := ht.cell 0 _ rfl
           have z2 := ht.cell 1 _ rfl
           have z3 := hz.cell 0 _ rfl
           have z4 := hz.cell 1 _ rfl
           have z5 := hz.frozen 0
           have z6 := hz.frozen 1
           have z7 := ky.frozen 0
           have z8 := ky.frozen 1
           have z9 := ky.frozen 2
           have y0 := ky.cell 0 _ rfl
           have y1 := ky.cell 1 _ rfl
           have y2 := ky.cell 2 _ rfl
           have yl := ky.lt
           have zl := kz.lt))
      go_region
      all_goals
        have kf := (((ky.set_ 0 (.int .i64 (bits BinOp.or IntKind.i64 d (wrap64 (2 ^ i))))).set_ 1 (.int .i64 (wlo s l[i]))).set_ 2 (.int .i64 (whi p s l[i]))).drew
        have e0 := kf.cell 0 _ rfl
        have e1 := kf.cell 1 _ rfl
        have e2 := kf.cell 2 _ rfl
        have hBf := (((hBz.setCell (p := ⟨w.heap.size + 1, 0, none⟩) (Nat.le_succ _) (.int .i64 (bits BinOp.or IntKind.i64 d (wrap64 (2 ^ i))))).setCell (p := ⟨w.heap.size + 1, 1, none⟩) (Nat.le_succ _) (.int .i64 (wlo s l[i]))).setCell (p := ⟨w.heap.size + 1, 2, none⟩) (Nat.le_succ _) (.int .i64 (whi p s l[i]))).drew
        go_wp2_with fail
        refine bodyPost_ret (v := _) (by simp [results, Tryz.results49, go_sem, e0, e1, e2]; rfl) rfl (Ret.val ?_ hBf)
        rw [HJ.out, bor_shl d i (by omega) (by omega)]
        rfl
end Go.Proofs.YtmfklcnocekdlaaGreatDoor

namespace Go.Proofs.YtmfklcnocekdlaaGreatDoor
open Go Go.RowKit Tor Go.Maps

theorem laidOut : laidOutB Tryz.prog = true := by kernel_rfl
theorem rowState : (94 : TypeId) < Tryz.prog.types.size := of_decide_eq_true (by kernel_rfl)
theorem wideState : (match Tryz.prog.underlying 94 with | some (.array _ _) | some (.struct _) => true | _ => false) = true := by kernel_rfl

set_option maxRecDepth 100000 in
theorem lawState : Keyed Tryz.prog 94 := Keyed.of_law (deep_law_laid laidOut (m := 4) (by omega) rowState (by kernel_rfl) wideState)
theorem zeroInt (w : World) : (zeroValue 3).run Tryz.prog w = .ok (.int .i64 0) w := by kernel_rfl

def keyL (d lo hi : Int) : Lit := .string (keyBytes [.int .i64 d, .int .i64 lo, .int .i64 hi])
theorem wf_small (n : Int) (h0 : 0 ≤ n) (h1 : n ≤ 100000) : (Lit.int .i64 n).wf = true := WalkArith.wf_i64 (by omega)
theorem cellsState : Tryz.prog.cellsOf 94 = 3 := by kernel_rfl
theorem cellsWindow : Tryz.prog.cellsOf 91 = 2 := by kernel_rfl
theorem cellsInt : Tryz.prog.cellsOf 3 = 1 := by kernel_rfl
theorem keyTState : Tryz.prog.keyType 94 = true := by kernel_rfl

theorem key_int (m : Nat) (n : Int) (h0 : 0 ≤ n) (h1 : n ≤ 100000) : Tryz.prog.keyLits (m + 1) 3 [.int .i64 n] = some [.int .i64 n] := by
  unfold Program.keyLits
  simp [Tryz.underlying3, wf_small n h0 h1]
theorem key_window (m : Nat) (a b : Int) (h0 : 0 ≤ a) (h1 : a ≤ 100000) (h2 : 0 ≤ b) (h3 : b ≤ 100000) : Tryz.prog.keyLits (m + 2) 91 [.int .i64 a, .int .i64 b] = some [.int .i64 a, .int .i64 b] := by
  unfold Program.keyLits
  simp [Tryz.underlying91, cellsWindow, cellsInt, key_int m a h0 h1, key_int m b h2 h3]
theorem key_state3 (m : Nat) (d a b : Int) (g0 : 0 ≤ d) (g1 : d ≤ 100000) (h0 : 0 ≤ a) (h1 : a ≤ 100000) (h2 : 0 ≤ b) (h3 : b ≤ 100000) : Tryz.prog.keyLits (m + 3) 94 [.int .i64 d, .int .i64 a, .int .i64 b] = some [.int .i64 d, .int .i64 a, .int .i64 b] := by
  unfold Program.keyLits
  simp [Tryz.underlying94, cellsState, cellsWindow, cellsInt, key_int (m + 1) d g0 g1, key_window m a b h0 h1 h2 h3]

theorem key_state (d a b : Int) (g0 : 0 ≤ d) (g1 : d ≤ 100000) (h0 : 0 ≤ a) (h1 : a ≤ 100000) (h2 : 0 ≤ b) (h3 : b ≤ 100000) : keyOf Tryz.prog 94 (.agg #[.int .i64 d, .int .i64 a, .int .i64 b]) = some (keyL d a b) := by
  have hs : 3 ≤ Tryz.prog.types.size + 1 := of_decide_eq_true (by kernel_rfl)
  obtain ⟨m, hm⟩ : ∃ m, Tryz.prog.types.size + 1 = m + 3 := ⟨_, (Nat.sub_add_cancel hs).symm⟩
  unfold keyOf
  rw [hm]
  simp [Tryz.underlying94, keyTState, Value.formed, cellsState, Value.cells, key_state3 m d a b g0 g1 h0 h1 h2 h3, keyL]

theorem key_inj {d a b d' a' b' : Int} (g0 : 0 ≤ d) (g1 : d ≤ 100000) (h0 : 0 ≤ a) (h1 : a ≤ 100000) (h2 : 0 ≤ b) (h3 : b ≤ 100000) (g0' : 0 ≤ d') (g1' : d' ≤ 100000) (h0' : 0 ≤ a') (h1' : a' ≤ 100000) (h2' : 0 ≤ b') (h3' : b' ≤ 100000)
    (h : keyL d a b = keyL d' a' b') : d = d' ∧ a = a' ∧ b = b' := by
  have e1 := key_state d a b g0 g1 h0 h1 h2 h3
  have e2 := key_state d' a' b' g0' g1' h0' h1' h2' h3'
  rw [← h] at e2
  have := lawState.inj e1 e2
  simpa using this
theorem key_is (d a b : Int) : WideAt.IsKeyLit (keyL d a b) := trivial

end Go.Proofs.YtmfklcnocekdlaaGreatDoor

namespace Go.Proofs.YtmfklcnocekdlaaGreatDoor
open Go Go.RowKit Tor Go.Maps

def minUpto (g : Nat → Option Int) (n0 : Int) : Nat → Int
  | 0 => n0
  | j + 1 => match g j with
    | some x => min (minUpto g n0 j) x
    | none => minUpto g n0 j
theorem minUpto_congr {g g' : Nat → Option Int} {n0 : Int} : ∀ (j : Nat), (∀ i, i < j → g i = g' i) → minUpto g n0 j = minUpto g' n0 j
  | 0, _ => rfl
  | j + 1, h => by
    unfold minUpto
    rw [h j (by omega), minUpto_congr j (fun i hi => h i (by omega))]
theorem minUpto_bd {g : Nat → Option Int} {n0 : Int} (h0 : 0 ≤ n0) (hg : ∀ i x, g i = some x → 0 ≤ x) : ∀ j, 0 ≤ minUpto g n0 j ∧ minUpto g n0 j ≤ n0
  | 0 => ⟨h0, Int.le_refl _⟩
  | j + 1 => by
    have ih := minUpto_bd h0 hg j
    unfold minUpto
    cases h : g j with
    | none => exact ih
    | some x => have := hg j x h; simp only; omega

def xAt (l : List Tri) (i : Nat) : Tri := l.getD i ⟨0, 0, .empty⟩
theorem xAt_of {l : List Tri} {i : Nat} (h : i < l.length) : xAt l i = l[i] := by unfold xAt; rw [List.getD_eq_getElem?_getD, List.getElem?_eq_getElem h]; rfl


/-- how many of n bits are not set -/
def zeros (n d : Nat) : Nat := ((List.range n).filter fun i => !d.testBit i).length
theorem zeros_or {n d i : Nat} (hi : i < n) (hb : d.testBit i = false) : zeros n (d ||| 2 ^ i) + 1 = zeros n d := by
  unfold zeros
  have h1 : ∀ n, ((List.range n).filter fun j => !(d ||| 2 ^ i).testBit j).length + (if i < n then 1 else 0) = ((List.range n).filter fun j => !d.testBit j).length := fun n => by
    induction n with
    | zero => simp
    | succ n ih =>
      rw [List.range_succ, List.filter_append, List.filter_append, List.length_append, List.length_append, ← ih]
      have e : (d ||| 2 ^ i).testBit n = (d.testBit n || decide (i = n)) := by rw [Nat.testBit_or, Nat.testBit_two_pow]
      simp only [List.filter_cons, List.filter_nil, e]
      by_cases hn : i = n
      · subst hn; simp [hb]
      · by_cases hlt : i < n
        · have : i < n + 1 := by omega
          simp [hn, hlt, this]; omega
        · have : ¬ i < n + 1 := by omega
          simp [hn, hlt, this]
  have := h1 n
  rw [if_pos hi] at this
  exact this
theorem zeros_le (n d : Nat) : zeros n d ≤ n := by unfold zeros; exact Nat.le_trans (List.length_filter_le _ _) (by simp)
theorem zeros_full {n d : Nat} (hd : d < 2 ^ n) (h : zeros n d = 0) : d = 2 ^ n - 1 := by
  have hall : ∀ i, i < n → d.testBit i = true := fun i hi => by
    unfold zeros at h
    have h2 := List.length_eq_zero_iff.1 h
    rw [List.filter_eq_nil_iff] at h2
    simpa using h2 i (by simpa using hi)
  refine Nat.eq_of_testBit_eq fun i => ?_
  rw [Nat.testBit_two_pow_sub_one]
  by_cases hi : i < n
  · simp [hall i hi, hi]
  · simp only [hi, decide_false]
    exact Nat.testBit_lt_two_pow (Nat.lt_of_lt_of_le hd (Nat.pow_le_pow_right (by omega) (by omega)))
theorem zeros_pos {n d : Nat} (hd : d < 2 ^ n) (h : d ≠ 2 ^ n - 1) : 0 < zeros n d := by
  rcases Nat.eq_zero_or_pos (zeros n d) with h0 | h0
  · exact absurd (zeros_full hd h0) h
  · exact h0

section
variable (p s : Int) (l : List Tri) (bf : List Nat)
/-- the fewest reaches from a state on, with fuel -/
def fewF : Nat → Nat → Int → Int → Int
  | 0, _, _, _ => 0
  | k + 1, d, lo, hi => if d = 2 ^ l.length - 1 then 0 else
      minUpto (fun i => if freeB bf d i then some (nn (joinB p s (xAt l i) lo hi) + fewF k (d ||| 2 ^ i) (nlo s (xAt l i) lo (joinB p s (xAt l i) lo hi)) (nhi p s (xAt l i) hi (joinB p s (xAt l i) lo hi))) else none) l.length l.length
def few (d : Nat) (lo hi : Int) : Int := fewF p s l bf (zeros l.length d) d lo hi

/-- what a work costs -/
def cost (d : Nat) (lo hi : Int) (i : Nat) : Option Int :=
  if freeB bf d i then some (nn (joinB p s (xAt l i) lo hi) + few p s l bf (d ||| 2 ^ i) (nlo s (xAt l i) lo (joinB p s (xAt l i) lo hi)) (nhi p s (xAt l i) hi (joinB p s (xAt l i) lo hi))) else none
end
variable {p s : Int} {l : List Tri} {bf : List Nat}

theorem freeB_bit {d i : Nat} (h : freeB bf d i = true) : d.testBit i = false := by
  unfold freeB at h
  simp only [Bool.and_eq_true, Bool.not_eq_true'] at h
  exact h.1
theorem few_full {d : Nat} {lo hi : Int} (h : d = 2 ^ l.length - 1) : few p s l bf d lo hi = 0 := by
  unfold few
  cases zeros l.length d with
  | zero => rfl
  | succ k => rw [fewF, if_pos h]
theorem few_eq {d : Nat} {lo hi : Int} (hd : d < 2 ^ l.length) (h : d ≠ 2 ^ l.length - 1) : few p s l bf d lo hi = minUpto (cost p s l bf d lo hi) l.length l.length := by
  have hp := zeros_pos hd h
  obtain ⟨k, hk⟩ : ∃ k, zeros l.length d = k + 1 := ⟨_, (Nat.sub_add_cancel hp).symm⟩
  rw [few, hk, fewF, if_neg h]
  refine minUpto_congr _ fun i hi => ?_
  unfold cost
  by_cases hf : freeB bf d i = true
  · have hz := zeros_or hi (freeB_bit hf)
    rw [if_pos hf, if_pos hf, few, show zeros l.length (d ||| 2 ^ i) = k by omega]
  · rw [if_neg hf, if_neg hf]
theorem nn_bd (j : Bool) : 0 ≤ nn j ∧ nn j ≤ 1 := by unfold nn; split <;> omega
theorem fewF_bd : ∀ (k d : Nat) (lo hi : Int), 0 ≤ fewF p s l bf k d lo hi ∧ fewF p s l bf k d lo hi ≤ l.length
  | 0, d, lo, hi => by simp [fewF]
  | k + 1, d, lo, hi => by
    unfold fewF
    split
    · simp
    · refine minUpto_bd (by omega) (fun i x hx => ?_) _
      split at hx
      · simp only [Option.some.injEq] at hx
        have := (fewF_bd k (d ||| 2 ^ i) (nlo s (xAt l i) lo (joinB p s (xAt l i) lo hi)) (nhi p s (xAt l i) hi (joinB p s (xAt l i) lo hi))).1
        have := (nn_bd (joinB p s (xAt l i) lo hi)).1
        omega
      · cases hx
theorem few_bd (d : Nat) (lo hi : Int) : 0 ≤ few p s l bf d lo hi ∧ few p s l bf d lo hi ≤ l.length := fewF_bd _ _ _ _
theorem cost_bd {d : Nat} {lo hi : Int} {i : Nat} {x : Int} (h : cost p s l bf d lo hi i = some x) : 0 ≤ x := by
  unfold cost at h
  split at h
  · simp only [Option.some.injEq] at h
    have := (few_bd (p := p) (s := s) (l := l) (bf := bf) (d ||| 2 ^ i) (nlo s (xAt l i) lo (joinB p s (xAt l i) lo hi)) (nhi p s (xAt l i) hi (joinB p s (xAt l i) lo hi))).1
    have := (nn_bd (joinB p s (xAt l i) lo hi)).1
    omega
  · cases h


/-- what the map knows is true -/
def Known (p s : Int) (l : List Tri) (bf : List Nat) (D : DataW Unit) : Prop :=
  ∀ (d : Nat) (lo hi : Int), d < 1024 → 0 ≤ lo → lo ≤ 24 → 0 ≤ hi → hi ≤ 24 → Maps.has D (keyL d lo hi) = true → D.atKey (keyL d lo hi) (.lit (.int .i64 0)) = .lit (.int .i64 (few p s l bf d lo hi))
theorem Known.empty : Known p s l bf (.map []) := fun d lo hi _ _ _ _ _ h => by simp [Maps.has] at h
theorem Known.put {D : DataW Unit} (h : Known p s l bf D) (hD : Maps.IsMap D) {d : Nat} {lo hi : Int} (g0 : d < 1024) (g1 : 0 ≤ lo) (g2 : lo ≤ 24) (g3 : 0 ≤ hi) (g4 : hi ≤ 24) :
    Known p s l bf (D.put (keyL d lo hi) (.lit (.int .i64 (few p s l bf d lo hi)))) := fun d' lo' hi' f0 f1 f2 f3 f4 hh => by
  by_cases e : keyL d' lo' hi' = keyL d lo hi
  · obtain ⟨e1, e2, e3⟩ := key_inj (by omega) (by omega) (by omega) (by omega) (by omega) (by omega) (by omega) (by omega) (by omega) (by omega) (by omega) (by omega) e
    have e1' : d' = d := by omega
    subst e1' e2 e3
    exact Maps.atKey_put_same hD (key_is _ _ _) _ _
  · rw [Maps.has_put_other e] at hh
    rw [Maps.atKey_put_other e]
    exact h d' lo' hi' f0 f1 f2 f3 f4 hh


/-- block mb is a map of at most n entries that knows only what is true -/
def MapK (p s : Int) (l : List Tri) (bf : List Nat) (w : World) (mb n : Nat) : Prop := ∃ D : DataW Unit, w.ownsMap Tryz.prog 94 (plainElem Tryz.prog 3) mb n D ∧ Known p s l bf D
theorem MapK.mono {w : World} {mb n n' : Nat} (h : MapK p s l bf w mb n) (hn : n ≤ n') : MapK p s l bf w mb n' := by obtain ⟨D, h1, h2⟩ := h; exact ⟨D, h1.mono hn, h2⟩
theorem MapK.below {w w' : World} {mb n : Nat} (h : MapK p s l bf w mb n) (hB : Below w.heap.size w w') : MapK p s l bf w' mb n := by
  obtain ⟨D, h1, h2⟩ := h
  obtain ⟨es, clock, hb, r⟩ := h1
  have hlt : mb < w.heap.size := (Array.getElem?_eq_some_iff.1 hb).1
  exact ⟨D, ⟨es, clock, (hB.block mb hlt).trans hb, r⟩, h2⟩
theorem MapK.isMap {w : World} {mb n : Nat} (h : MapK p s l bf w mb n) : ∃ es clock, w.heap[mb]? = some (.map es clock) := by
  obtain ⟨D, ⟨es, clock, hb, r⟩, h2⟩ := h
  exact ⟨es, clock, hb⟩
theorem MapK.lt {w : World} {mb n : Nat} (h : MapK p s l bf w mb n) : mb < w.heap.size := by
  obtain ⟨es, clock, hb⟩ := h.isMap
  exact (Array.getElem?_eq_some_iff.1 hb).1
theorem MapK.ne {w : World} {mb n b o : Nat} {v : Value} (h : MapK p s l bf w mb n) (hc : w.cell? ⟨b, o, none⟩ = some v) : b ≠ mb := fun e => by
  obtain ⟨es, clock, hb⟩ := h.isMap
  subst e
  simp [World.cell?, hb] at hc


/-- a slice of numbers, wherever it lies -/
def RdF (w : World) (A : Option Addr) (bf : List Nat) : Prop := bf ≠ [] → ∃ b o, A = some ⟨b, o, none⟩ ∧ ∀ (k : Nat) (x : Nat), bf[k]? = some x → w.cell? ⟨b, o + k, none⟩ = some (.int .i64 (x : Int))
theorem RdF.rd {w : World} {A : Option Addr} {bf : List Nat} (h : RdF w A bf) : RdN w w.heap.size A bf := fun hl => by
  obtain ⟨b, o, e, hc⟩ := h hl
  obtain ⟨x, r, hx⟩ := List.exists_cons_of_ne_nil hl
  refine ⟨b, o, e, lt_of_cell (hc 0 x (by rw [hx]; rfl)), fun k x hx j u hu => ?_⟩
  match j, hu with
  | 0, hu => simp [nenc] at hu; subst hu; simpa using hc k x hx


/-- the planner as it lies in memory -/
structure PlanAt (w : World) (pb sb mb : Nat) (p s : Int) (A : Option Addr) (c : Nat) (l : List Tri) (Ab : Option Addr) (cb : Nat) (bf : List Nat) (H : Nat) : Prop where
  c0 : w.cell? ⟨pb, 0, none⟩ = some (.pointer (some ⟨sb, 0, none⟩))
  c1 : w.cell? ⟨pb, 1, none⟩ = some (.int .i64 s)
  c2 : w.cell? ⟨pb, 2, none⟩ = some (.slice Ab bf.length cb)
  c3 : w.cell? ⟨pb, 3, none⟩ = some (.map (some mb))
  s0 : w.cell? ⟨sb, 0, none⟩ = some (.int .i64 p)
  s1 : w.cell? ⟨sb, 1, none⟩ = some (.slice A l.length c)
  hr : RdT w H A l
  hH : H ≤ w.heap.size
  hHm : H ≤ mb
  hbf : RdF w Ab bf
theorem PlanAt.same {w w' : World} {pb sb mb n : Nat} {A : Option Addr} {c : Nat} {Ab : Option Addr} {cb : Nat} {H : Nat} (h : PlanAt w pb sb mb p s A c l Ab cb bf H) (hm : MapK p s l bf w mb n) (hS : Same (fun j => j < w.heap.size ∧ j ≠ mb) w w') :
    PlanAt w' pb sb mb p s A c l Ab cb bf H := by
  have k : ∀ {b o v}, w.cell? ⟨b, o, none⟩ = some v → w'.cell? ⟨b, o, none⟩ = some v := fun {b o v} hc => (hS.cell (p := ⟨b, o, none⟩) ⟨lt_of_cell hc, hm.ne hc⟩).trans hc
  have hH := h.hH
  have hHm := h.hHm
  exact ⟨k h.c0, k h.c1, k h.c2, k h.c3, k h.s0, k h.s1, h.hr.keep (fun q hq => hS.cell (p := q) ⟨by omega, by omega⟩), Nat.le_trans h.hH hS.size, h.hHm, fun hl => by
    obtain ⟨b, o, e, hc⟩ := h.hbf hl
    exact ⟨b, o, e, fun i x hx => k (hc i x hx)⟩⟩
theorem Same.of_below' {w w' : World} {mb : Nat} (h : Below w.heap.size w w') : Same (fun j => j < w.heap.size ∧ j ≠ mb) w w' := (Same.of_below h).mono (fun k hk => hk.1)

/-- one step behind another -/
theorem Same.step {w w1 w2 : World} {mb : Nat} (h : Same (fun j => j < w.heap.size ∧ j ≠ mb) w w1) (g : Same (fun j => j < w1.heap.size ∧ j ≠ mb) w1 w2) : Same (fun j => j < w.heap.size ∧ j ≠ mb) w w2 :=
  h.trans (g.mono fun k hk => ⟨Nat.lt_of_lt_of_le hk.1 h.size, hk.2⟩)
end Go.Proofs.YtmfklcnocekdlaaGreatDoor

namespace Go.Proofs.YtmfklcnocekdlaaGreatDoor
open Go Go.RowKit Tor Go.Maps

theorem map_heap {w w' : World} {k : TypeId} {R : Value → Option (DataW Unit × List MemPlace)} {b n : Nat} {D : DataW Unit} (h : w.ownsMap Tryz.prog k R b n D) (e : w'.heap = w.heap) : w'.ownsMap Tryz.prog k R b n D := by
  obtain ⟨es, clock, hb, r⟩ := h
  exact ⟨es, clock, by rw [e]; exact hb, r⟩

theorem look_known {p s : Int} {l : List Tri} {bf : List Nat} {w : World} {mb n : Nat} (h : MapK p s l bf w mb n) {d : Nat} {lo hi : Int} (g0 : d < 1024) (g1 : 0 ≤ lo) (g2 : lo ≤ 24) (g3 : 0 ≤ hi) (g4 : hi ≤ 24) :
    ∃ (b : Bool) (c : Int), Hid (b = true → c = few p s l bf d lo hi) ∧ ∀ k, (Instr.lookup 85 (.map (some mb)) (.agg #[.int .i64 d, .int .i64 lo, .int .i64 hi]) true).run Tryz.prog (w.drewN k) = .ok (.tuple #[.int .i64 c, .bool b]) (w.drewN k) := by
  obtain ⟨D, h1, h2⟩ := h
  have hk := key_state d lo hi (by omega) (by omega) (by omega) (by omega) (by omega) (by omega)
  have aux : ∀ k, ∃ c, (Instr.lookup 85 (.map (some mb)) (.agg #[.int .i64 d, .int .i64 lo, .int .i64 hi]) true).run Tryz.prog (w.drewN k) = .ok (.tuple #[.int .i64 c, .bool (Maps.has D (keyL d lo hi))]) (w.drewN k) ∧ D.atKey (keyL d lo hi) (.lit (.int .i64 0)) = .lit (.int .i64 c) := fun k => by
    have h1' : (w.drewN k).ownsMap Tryz.prog 94 (plainElem Tryz.prog 3) mb n D := map_heap h1 rfl
    obtain ⟨v, ps, hr, hv⟩ := h1'.look_ok lawState Tryz.underlying85 (zeroInt _) (plainElem_int Tryz.underlying3 (wf_small 0 (by omega) (by omega))) hk
    obtain ⟨c, rfl, hc, _⟩ := plainElem_int_inv Tryz.underlying3 hv
    exact ⟨c, hr, congrArg Prod.fst hc⟩
  obtain ⟨c, _, hc⟩ := aux 0
  refine ⟨Maps.has D (keyL d lo hi), c, fun hh => ?_, fun k => ?_⟩
  · have := h2 d lo hi g0 g1 g2 g3 g4 hh
    rw [hc] at this
    simpa using this
  · obtain ⟨c', hr, hc'⟩ := aux k
    rw [hc] at hc'
    have : c = c' := by simpa using hc'
    rw [this]; exact hr

theorem step_known {p s : Int} {l : List Tri} {bf : List Nat} {ops : Array Oper} {o : Oper} {a : Act} {K : Act → World → Prop} {Q : Exit → Act → World → Prop} {E : Prop} {w : World} (hgd : o.guard = none) (m x v : Operand)
    (ho : o.op = Op.mapUpdate 85 m x v) (mb n : Nat) (d : Nat) (lo hi F : Int) (hm : a.eval m = .map (some mb)) (hx : a.eval x = .agg #[.int .i64 d, .int .i64 lo, .int .i64 hi]) (hv : a.eval v = .int .i64 F)
    (hk : MapK p s l bf w mb n) (hF : F = few p s l bf d lo hi) (hn : n < 1000000000000000000) (hl : l.length ≤ 10) (g0 : d < 1024) (g1 : 0 ≤ lo) (g2 : lo ≤ 24) (g3 : 0 ≤ hi) (g4 : hi ≤ 24)
    (h : ∀ w', MapK p s l bf w' mb (n + 1) → Same (fun j => j < w.heap.size ∧ j ≠ mb) w w' → K (a.put o.dst undef) w') :
    if Region.wanted o (yielded ops a.tmps) = true then Oper.wp Tryz.prog o a w K Q else E := by
  have hw : Region.wanted o (yielded ops a.tmps) = true := by simp [Region.wanted, hgd]
  rw [if_pos hw]
  obtain ⟨D, h1, h2⟩ := hk
  have hkey := key_state d lo hi (by omega) (by omega) (by omega) (by omega) (by omega) (by omega)
  have hfb := few_bd (p := p) (s := s) (l := l) (bf := bf) d lo hi
  obtain ⟨w', hrun, r1, r2⟩ := h1.update lawState Tryz.underlying85 (by unfold maxLen; omega) hkey (plainElem_int Tryz.underlying3 (a := F) (wf_small F (by omega) (by omega)))
  subst hF
  have hK := h w' ⟨_, r1, h2.put (World.ownsMap.isMap h1) g0 g1 g2 g3 g4⟩ ⟨r2.os, r2.tape, r2.output, r2.size, fun k hk => r2.block k hk.1 (fun e => hk.2 (by simpa using e))⟩
  unfold Oper.wp
  simp [execOp, ho, hm, hx, hv, hrun, Result.andThen]
  simpa [Oper.upon] using hK


/-- what is known of the numbers -/
structure PlanOk (p s : Int) (l : List Tri) (bf : List Nat) : Prop where
  n : bf.length = l.length
  n10 : l.length ≤ 10
  b1 : 2 ≤ s
  b2 : s ≤ p
  b3 : p ≤ 24
  hb : ∀ (k : Nat) (hk : k < l.length), 0 ≤ l[k].b ∧ l[k].b ≤ p - 2
  bits : ∀ k, k < bf.length → bf.getD k 0 < 1024

theorem two_pow_le {n : Nat} (h : n ≤ 10) : 1 ≤ 2 ^ n ∧ 2 ^ n ≤ 1024 := ⟨Nat.one_le_two_pow, Nat.le_trans (Nat.pow_le_pow_right (by omega) h) (by decide)⟩

theorem next_bd {p s : Int} {x : Tri} {lo hi : Int} {j : Bool} (b1 : 2 ≤ s) (b2 : s ≤ p) (b3 : p ≤ 24) (b4 : 0 ≤ x.b) (b5 : x.b ≤ p - 2) (g1 : 0 ≤ lo) (g2 : lo ≤ 24) (g3 : 0 ≤ hi) (g4 : hi ≤ 24) :
    0 ≤ nlo s x lo j ∧ nlo s x lo j ≤ 24 ∧ 0 ≤ nhi p s x hi j ∧ nhi p s x hi j ≤ 24 := by
  unfold nlo nhi wlo whi
  cases j <;> simp <;> omega
theorem cost_free {p s : Int} {l : List Tri} {bf : List Nat} {d : Nat} {lo hi : Int} {j : Nat} (hj : j < l.length) {d2 : Nat} {lo2 hi2 c1 F2 : Int} (hf : freeB bf d j = true) (h1 : d ||| 2 ^ j = d2) (h2 : nlo s l[j] lo (joinB p s l[j] lo hi) = lo2) (h3 : nhi p s l[j] hi (joinB p s l[j] lo hi) = hi2)
    (h4 : nn (joinB p s l[j] lo hi) = c1) (h5 : few p s l bf d2 lo2 hi2 = F2) : cost p s l bf d lo hi j = some (c1 + F2) := by
  unfold cost
  rw [if_pos hf, xAt_of hj, h1, h2, h3, h4, h5]
theorem cost_not {p s : Int} {l : List Tri} {bf : List Nat} {d : Nat} {lo hi : Int} {j : Nat} (hf : freeB bf d j = false) : cost p s l bf d lo hi j = none := by
  unfold cost
  rw [if_neg (by simp [hf])]
theorem minUpto_some {g : Nat → Option Int} {n0 : Int} {j : Nat} {x m : Int} (hm : m = minUpto g n0 j) (hg : g j = some x) : min m x = minUpto g n0 (j + 1) := by rw [minUpto, hg, hm]
theorem minUpto_none {g : Nat → Option Int} {n0 : Int} {j : Nat} {m : Int} (hm : m = minUpto g n0 j) (hg : g j = none) : m = minUpto g n0 (j + 1) := by rw [minUpto, hg, hm]
theorem pow_step {n j k len : Nat} (hj : j < len) (hl : len ≤ 10) (h : n + 11 ^ (k + 1) ≤ 1000000000000000) : n + j * 11 ^ k + 11 ^ k ≤ 1000000000000000 := by
  rw [Nat.pow_succ] at h
  have : j * 11 ^ k + 11 ^ k ≤ 11 ^ k * 11 := by
    have : (j + 1) * 11 ^ k ≤ 11 * 11 ^ k := Nat.mul_le_mul_right _ (by omega)
    rw [Nat.add_mul, Nat.one_mul] at this
    rw [Nat.mul_comm (11 ^ k) 11]; exact this
  omega
theorem pow_next (n j k : Nat) : n + j * 11 ^ k + 11 ^ k = n + (j + 1) * 11 ^ k := by rw [Nat.add_mul, Nat.one_mul]; omega
theorem pow_big {n k len : Nat} (hl : len ≤ 10) (h : n + 11 ^ (k + 1) ≤ 1000000000000000) : n + len * 11 ^ k < 1000000000000000000 := by
  have h1 : len * 11 ^ k ≤ 11 * 11 ^ k := Nat.mul_le_mul_right _ (by omega)
  rw [Nat.pow_succ, Nat.mul_comm (11 ^ k) 11] at h
  generalize 11 * 11 ^ k = x at *
  generalize len * 11 ^ k = y at *
  omega
theorem pow_end {n k len : Nat} (hl : len ≤ 10) : n + len * 11 ^ k + 1 ≤ n + 11 ^ (k + 1) := by
  have h1 : len * 11 ^ k ≤ 10 * 11 ^ k := Nat.mul_le_mul_right _ hl
  have h2 : 1 ≤ 11 ^ k := Nat.one_le_pow _ _ (by omega)
  rw [Nat.pow_succ]
  omega

def FewPost (p s : Int) (l : List Tri) (bf : List Nat) (d : Nat) (lo hi : Int) (mb n : Nat) (w : World) (e : Ending) (w' : World) : Prop :=
  e = .returned (.int .i64 (few p s l bf d lo hi)) ∧ MapK p s l bf w' mb n ∧ Same (fun j => j < w.heap.size ∧ j ≠ mb) w w'


set_option maxRecDepth 100000 in
set_option maxHeartbeats 1000000 in
theorem fewest_full (p s : Int) (l : List Tri) (bf : List Nat) (ok : PlanOk p s l bf) (pb sb mb : Nat) (A : Option Addr) (c : Nat) (Ab : Option Addr) (cb H : Nat) (d : Nat) (lo hi : Int) (w : World) (n n' : Nat) (hfull : d = 2 ^ l.length - 1)
    (hP : PlanAt w pb sb mb p s A c l Ab cb bf H) (hM : MapK p s l bf w mb n) (hn : n ≤ n') :
    Calls Tryz.prog 47 #[.pointer (some ⟨pb, 0, none⟩), .agg #[.int .i64 d, .int .i64 lo, .int .i64 hi]] w (FewPost p s l bf d lo hi mb n' w) := by
  obtain ⟨n0, n10, b1, b2, b3, hb, hbits⟩ := ok
  have HF := Lib.hid hfull
  have h2 := two_pow_le n10
  have n10' : bf.length ≤ 10 := by omega
  obtain ⟨M, hMp⟩ : ∃ M : Nat, Hid (2 ^ l.length = M) := ⟨_, Lib.hid rfl⟩
  rw [hMp.out] at h2 hfull
  have HW2 : Hid (IntKind.i64.wrap (2 ^ bf.length) = (M : Int)) := by
    rw [Hid, n0, show ((2 : Int) ^ l.length) = ((2 ^ l.length : Nat) : Int) by simp, hMp.out]
    exact IntWalk.i64_in _ (by omega)
  clear n0
  have hc2 := hP.c2
  have hlpb := lt_of_cell hc2
  have i2 : (bf.length : Int) ≤ 64 := by omega
  have t1 : ((d : Int) == (M : Int) - 1) = true := by simp; omega
  clear hfull hb hbits
  go_enter Tryz.func47, Tryz.ntmps47
  go_wp2_with fail
  have hw3 : IntKind.i64.wrap ((M : Int) - 1) = (M : Int) - 1 := IntWalk.i64_in _ (by omega)
  have hw2 := HW2.out
  go_quiet (fail)
  clear hw2 hw3
  go_wp2_with fail
  go_ret
  exact ⟨ret_int (few_full HF.out).symm, (hM.below (Below.drewN (by (repeat' first | exact Below.refl _ _ | apply Below.drew | (refine Below.setCells ?_ _ _ ?_) | (refine Below.setCell ?_ ?_ _) | (refine Below.alloc ?_ ?_ _) | (simp; done) | (simp; omega))) nq)).mono hn, Same.of_below' (Below.drewN (by (repeat' first | exact Below.refl _ _ | apply Below.drew | (refine Below.setCells ?_ _ _ ?_) | (refine Below.setCell ?_ ?_ _) | (refine Below.alloc ?_ ?_ _) | (simp; done) | (simp; omega))) nq)⟩


set_option maxRecDepth 100000 in
set_option maxHeartbeats 1000000 in
theorem fewest_any (p s : Int) (l : List Tri) (bf : List Nat) (ok : PlanOk p s l bf) (pb sb mb : Nat) (A : Option Addr) (c : Nat) (Ab : Option Addr) (cb H : Nat) : ∀ (k : Nat) (d : Nat) (lo hi : Int) (w : World) (n : Nat),
    zeros l.length d ≤ k → d < 2 ^ l.length → 0 ≤ lo → lo ≤ 24 → 0 ≤ hi → hi ≤ 24 → PlanAt w pb sb mb p s A c l Ab cb bf H → MapK p s l bf w mb n → n + 11 ^ k ≤ 1000000000000000 →
    Calls Tryz.prog 47 #[.pointer (some ⟨pb, 0, none⟩), .agg #[.int .i64 d, .int .i64 lo, .int .i64 hi]] w (FewPost p s l bf d lo hi mb (n + 11 ^ k) w) := by
  intro k
  induction k with
  | zero =>
    intro d lo hi w n hz hd g1 g2 g3 g4 hP hM hn
    exact fewest_full p s l bf ok pb sb mb A c Ab cb H d lo hi w n _ (zeros_full hd (by omega)) hP hM (Nat.le_add_right _ _)
  | succ k ih =>
    intro d lo hi w n hz hd g1 g2 g3 g4 hP hM hn
    have IH := Lib.hid ih
    have OK := Lib.hid ok
    clear ih
    obtain ⟨n0, n10, b1, b2, b3, hb, hbits⟩ := ok
    have HN := Lib.hid n0
    have HB := Lib.hid hb
    have HBI := Lib.hid hbits
    have HNK := Lib.hid hn
    clear hb hbits hn
    have h2 := two_pow_le n10
    have n10' : bf.length ≤ 10 := by omega
    obtain ⟨M, hMp⟩ : ∃ M : Nat, Hid (2 ^ l.length = M) := ⟨_, rfl⟩
    rw [hMp.out] at hd h2
    have HW2 : Hid (IntKind.i64.wrap (2 ^ bf.length) = (M : Int)) := by
      rw [Hid, n0, show ((2 : Int) ^ l.length) = ((2 ^ l.length : Nat) : Int) by simp, hMp.out]
      exact IntWalk.i64_in _ (by omega)
    clear n0
    have hc2 := hP.c2
    have hlpb := lt_of_cell hc2
    have i2 : (bf.length : Int) ≤ 64 := by omega
    by_cases hfull : d = M - 1
    · exact fewest_full p s l bf OK.out pb sb mb A c Ab cb H d lo hi w n _ (by rw [hMp.out]; exact hfull) hP hM (Nat.le_add_right _ _)
    · have t1 : ((d : Int) == (M : Int) - 1) = false := by simp; omega
      have HF := Lib.hid hfull
      clear hfull
      go_enter Tryz.func47, Tryz.ntmps47
      go_wp2_with fail
      have hw3 : IntKind.i64.wrap ((M : Int) - 1) = (M : Int) - 1 := IntWalk.i64_in _ (by omega)
      have hw2 := HW2.out
      go_quiet (fail)
      clear hw2 hw3
      go_wp2_with fail
      have hB1 : Below w.heap.size w ((w.alloc (.cells #[.int .i64 d, .int .i64 lo, .int .i64 hi] 94)).drewN nq) := Below.drewN (by (repeat' first | exact Below.refl _ _ | apply Below.drew | (refine Below.setCells ?_ _ _ ?_) | (refine Below.setCell ?_ ?_ _) | (refine Below.alloc ?_ ?_ _) | (simp; done) | (simp; omega))) nq
      have hbox : Blk ((w.alloc (.cells #[.int .i64 d, .int .i64 lo, .int .i64 hi] 94)).drewN nq) w.heap.size 94 #[.int .i64 d, .int .i64 lo, .int .i64 hi] := Blk.new w _ _
      generalize (w.alloc (.cells #[.int .i64 d, .int .i64 lo, .int .i64 hi] 94)).drewN nq = W at *
      have hP1 := hP.same hM (Same.of_below' hB1)
      have hM1 := hM.below hB1
      have hHP := Lib.hid hP
      have hc3 := hP1.c3
      have hc2 := hP1.c2
      clear hP
      have hx0 := hbox.cell 0 _ rfl
      have hx1 := hbox.cell 1 _ rfl
      have hx2 := hbox.cell 2 _ rfl
      have hxl := hbox.lt
      have hlpb1 := lt_of_cell hc3
      obtain ⟨b, cv, hbc, hrun⟩ := look_known hM1 (d := d) (lo := lo) (hi := hi) (by omega) g1 g2 g3 g4
      cases b
      · go_quiet (fail)
        clear hrun
        go_wp2_with fail
        have hP2 : PlanAt (W.drewN nq) pb sb mb p s A c l Ab cb bf H := hP1.same hM1 (Same.of_below' (Below.drewN (Below.refl _ _) nq))
        have hM2 : MapK p s l bf (W.drewN nq) mb n := hM1.below (Below.drewN (Below.refl _ _) nq)
        have hbox2 : Blk (W.drewN nq) w.heap.size 94 #[.int .i64 d, .int .i64 lo, .int .i64 hi] := hbox
        have hB2 : Below w.heap.size w (W.drewN nq) := hB1.drewN nq
        have hmw := hM.lt
        clear hx0 hx1 hx2 hc3 hc2 hP1 hM1 hbox hB1 hxl hlpb1
        generalize W.drewN nq = W2 at *
        have hN1 := HN.out
        have HMIN := Lib.hid (show ((bf.length : Nat) : Int) = minUpto (cost p s l bf d lo hi) l.length 0 by rw [hN1]; rfl)
        clear hN1
        go_loopw [7, 42] (fun m i wr => ∃ (j : Nat) (mv : Int), j ≤ bf.length ∧ i = .int .i64 j ∧ m = .int .i64 mv ∧ Hid (mv = minUpto (cost p s l bf d lo hi) l.length j) ∧ 0 ≤ mv ∧ mv ≤ 10 ∧ Hid (MapK p s l bf wr mb (n + j * 11 ^ k)) ∧ Same (fun j => j < W2.heap.size ∧ j ≠ mb) W2 wr) (fun _ i _ => bf.length - (intOf i).toNat)
        case atStart => exact ⟨0, bf.length, by omega, rfl, rfl, HMIN, by omega, by omega, by rw [Hid, Nat.zero_mul]; exact hM2, Same.refl _ _⟩
        case round =>
          obtain ⟨j, mv, hj, rfl, rfl, hmv, hm0, hm1, hMr0, hS⟩ := hrel
          have hMr := hMr0.out
          have hPr := hP2.same hM2 hS
          have boxr : Blk wr w.heap.size 94 #[.int .i64 d, .int .i64 lo, .int .i64 hi] := hbox2.same hS ⟨hbox2.lt, by omega⟩
          have x0 := boxr.cell 0 _ rfl
          have x1 := boxr.cell 1 _ rfl
          have x2 := boxr.cell 2 _ rfl
          have xl := boxr.lt
          have c2 := hPr.c2
          have c2l := lt_of_cell c2
          by_cases hjn : j < bf.length
          · have hjl : j < l.length := by have := HN.out; omega
            have hbd := HB.out j hjl
            cases hfree : freeB bf d j
            · have HF2 := Lib.hid hfree
              clear hfree
              go_wp2_with (first
                | (go_at_call 48; refine (free_any pb (.int .i64 0) s (.int .i64 0) Ab bf cb d lo hi j wr wr.heap.size hPr.hbf.rd c2 hjn n10' (by omega) HBI.out).mono ?_; rintro e w2 ⟨rfl, hB3⟩; rw [HF2.out]))
              go_roundw
              case rel => exact ⟨j + 1, mv, by omega, by go_num, rfl, minUpto_none hmv.out (cost_not HF2.out), hm0, hm1, (hMr.below hB3).mono (Nat.add_le_add_left (Nat.mul_le_mul_right _ (by omega)) _), hS.step (Same.of_below' hB3)⟩
              case measure => simp [intOf]; omega
            · have HF2 := Lib.hid hfree
              have hbit := freeB_bit hfree
              have hz2 := zeros_or hjl hbit
              clear hfree
              obtain ⟨d2, hd2⟩ : ∃ x : Nat, Hid (d ||| 2 ^ j = x) := ⟨_, rfl⟩
              obtain ⟨lo2, hlo2⟩ : ∃ x : Int, Hid (nlo s l[j] lo (joinB p s l[j] lo hi) = x) := ⟨_, Lib.hid rfl⟩
              obtain ⟨hi2, hhi2⟩ : ∃ x : Int, Hid (nhi p s l[j] hi (joinB p s l[j] lo hi) = x) := ⟨_, Lib.hid rfl⟩
              obtain ⟨c1, hc1⟩ : ∃ x : Int, Hid (nn (joinB p s l[j] lo hi) = x) := ⟨_, Lib.hid rfl⟩
              have hbd2 := next_bd (lo := lo) (hi := hi) (j := joinB p s l[j] lo hi) b1 b2 b3 hbd.1 hbd.2 g1 g2 g3 g4
              rw [hlo2.out, hhi2.out] at hbd2
              have hcb := nn_bd (joinB p s l[j] lo hi)
              rw [hc1.out] at hcb
              rw [hd2.out] at hz2
              have hd2b : d2 < 2 ^ l.length := by rw [← hd2.out]; exact Nat.or_lt_two_pow (by rw [hMp.out]; exact hd) (Nat.pow_lt_pow_right (by omega) hjl)
              have HNEXT : Hid (∀ w', PlanAt w' pb sb mb p s A c l Ab cb bf H → Calls Tryz.prog 49 #[.pointer (some ⟨pb, 0, none⟩), .agg #[.int .i64 d, .int .i64 lo, .int .i64 hi], .int .i64 j] w' (Ret (.tuple #[.agg #[.int .i64 d2, .int .i64 lo2, .int .i64 hi2], .int .i64 c1]) w')) := fun w' hP' => by
                have := next_any p A l c s pb sb (.int .i64 0) (.int .i64 0) d lo hi j w' H hP'.hr hP'.hH hP'.c0 hP'.c1 hP'.s0 hP'.s1 hjl n10 (by omega) b1 b2 b3 hbd.1 hbd.2
                rw [hd2.out, hlo2.out, hhi2.out, hc1.out] at this
                exact this
              obtain ⟨F2, hF2⟩ : ∃ x : Int, Hid (few p s l bf d2 lo2 hi2 = x) := ⟨_, Lib.hid rfl⟩
              have hFb := few_bd (p := p) (s := s) (l := l) (bf := bf) d2 lo2 hi2
              rw [hF2.out] at hFb
              have HZ : Hid (zeros l.length d2 ≤ k) := by show _ ≤ _; omega
              have HD2 := Lib.hid hd2b
              have HCOST := Lib.hid (cost_free (p := p) (s := s) (bf := bf) (d := d) (lo := lo) (hi := hi) hjl HF2.out hd2.out hlo2.out hhi2.out hc1.out hF2.out)
              have HPW := Lib.hid (pow_step (n := n) (k := k) hjn n10' HNK.out)
              clear hz2 hd2b hbit
              go_wp2_with (first
                | (go_at_call 48; refine (free_any pb (.int .i64 0) s (.int .i64 0) Ab bf cb d lo hi j wr wr.heap.size hPr.hbf.rd c2 hjn n10' (by omega) HBI.out).mono ?_; rintro e w2 ⟨rfl, hB3⟩; rw [HF2.out]
                   have hP3 := hPr.same hMr (Same.of_below' hB3)
                   have hM3 := hMr.below hB3
                   have box3 := boxr.below' hB3
                   have y0 := box3.cell 0 _ rfl
                   have y1 := box3.cell 1 _ rfl
                   have y2 := box3.cell 2 _ rfl
                   have yl := box3.lt)
                | (go_at_call 49; refine (HNEXT.out _ hP3).mono ?_; rintro e w3 ⟨rfl, hB4⟩
                   have hB5 : Below w2.heap.size w2 (w3.alloc (.cells #[.int .i64 d2, .int .i64 lo2, .int .i64 hi2] 94)) := hB4.alloc hB4.size _
                   have hP5 := hP3.same hM3 (Same.of_below' hB5)
                   have hM5 := hM3.below hB5)
                | (go_at_call 47; refine (IH.out d2 lo2 hi2 _ _ HZ.out HD2.out hbd2.1 hbd2.2.1 hbd2.2.2.1 hbd2.2.2.2 hP5 hM5 HPW.out).mono ?_; rintro e w6 ⟨rfl, hM6, hS6⟩; rw [hF2.out]; replace hM6 := Lib.hid hM6))
              refine ⟨⟨j + 1, min mv (c1 + F2), by omega, by go_num, ?_, minUpto_some hmv.out HCOST.out, by omega, by omega, by rw [Hid, ← pow_next]; exact hM6.out, ((hS.step (Same.of_below' hB3)).step (Same.of_below' hB5)).step hS6⟩, by simp [intOf]; omega⟩
              congr 1
              split <;> omega
          · have e1 : j = bf.length := by omega
            subst e1
            have hfw : mv = few p s l bf d lo hi := by
              have h1 := HN.out
              have h3 := hmv.out
              rw [h1] at h3
              rw [h3, few_eq (by rw [hMp.out]; exact hd) (by rw [hMp.out]; exact HF.out)]
            have HFW := Lib.hid hfw
            have HBIG := Lib.hid (pow_big (k := k) n10' HNK.out)
            clear hfw
            have c3 := hPr.c3
            go_wp2_with fail
            refine wp_region_J (fun w' => w'.cell? ⟨pb, 3, none⟩ = some (.map (some mb)) ∧ w'.cell? ⟨w.heap.size, 0, none⟩ = some (.int .i64 d) ∧ w'.cell? ⟨w.heap.size, 1, none⟩ = some (.int .i64 lo) ∧ w'.cell? ⟨w.heap.size, 2, none⟩ = some (.int .i64 hi)) (fun _ => True) (fun i => i == 6) (by kernel_rfl) ?_
            have hS1 : wr.drew.cell? ⟨pb, 3, none⟩ = some (.map (some mb)) ∧ wr.drew.cell? ⟨w.heap.size, 0, none⟩ = some (.int .i64 d) ∧ wr.drew.cell? ⟨w.heap.size, 1, none⟩ = some (.int .i64 lo) ∧ wr.drew.cell? ⟨w.heap.size, 2, none⟩ = some (.int .i64 hi) := ⟨hPr.c3, boxr.cell 0 _ rfl, boxr.cell 1 _ rfl, boxr.cell 2 _ rfl⟩
            refine wpAnyJ_take1 0 rfl (by kernel_rfl) (by kernel_rfl) rfl (by kernel_rfl) (fun _ _ _ h => h) (by rfl) hS1 (fun w' hSw => (by obtain ⟨c1, c2, c3, c4⟩ := hSw; go_simp; try (with_reducible rfl))) ?_
            try simp only [Act.put, List.getElem_toArray, List.getElem_cons_succ, List.getElem_cons_zero, List.setIfInBounds_toArray, List.set_cons_zero, List.set_cons_succ]
            refine wpAnyJ_take1 1 rfl (by kernel_rfl) (by kernel_rfl) rfl (by kernel_rfl) (fun _ _ _ h => h) (by rfl) hS1 (fun w' hSw => (by obtain ⟨c1, c2, c3, c4⟩ := hSw; go_simp; try (with_reducible rfl))) ?_
            try simp only [Act.put, List.getElem_toArray, List.getElem_cons_succ, List.getElem_cons_zero, List.setIfInBounds_toArray, List.set_cons_zero, List.set_cons_succ]
            refine wpAnyJ_take1 2 rfl (by kernel_rfl) (by kernel_rfl) rfl (by kernel_rfl) (fun _ _ _ h => h) (by rfl) hS1 (fun w' hSw => (by obtain ⟨c1, c2, c3, c4⟩ := hSw; go_simp; try (with_reducible rfl))) ?_
            try simp only [Act.put, List.getElem_toArray, List.getElem_cons_succ, List.getElem_cons_zero, List.setIfInBounds_toArray, List.set_cons_zero, List.set_cons_succ]
            refine wpAnyJ_take1 3 rfl (by kernel_rfl) (by kernel_rfl) rfl (by kernel_rfl) (fun _ _ _ h => h) (by rfl) hS1 (fun w' hSw => (by obtain ⟨c1, c2, c3, c4⟩ := hSw; go_simp; try (with_reducible rfl))) ?_
            try simp only [Act.put, List.getElem_toArray, List.getElem_cons_succ, List.getElem_cons_zero, List.setIfInBounds_toArray, List.set_cons_zero, List.set_cons_succ]
            refine wpAnyJ_take1 4 rfl (by kernel_rfl) (by kernel_rfl) rfl (by kernel_rfl) (fun _ _ _ h => h) (by rfl) hS1 (fun w' hSw => (by obtain ⟨c1, c2, c3, c4⟩ := hSw; go_simp; try (with_reducible rfl))) ?_
            try simp only [Act.put, List.getElem_toArray, List.getElem_cons_succ, List.getElem_cons_zero, List.setIfInBounds_toArray, List.set_cons_zero, List.set_cons_succ]
            refine wpAnyJ_take1 5 rfl (by kernel_rfl) (by kernel_rfl) rfl (by kernel_rfl) (fun _ _ _ h => h) (by rfl) hS1 (fun w' hSw => (by obtain ⟨c1, c2, c3, c4⟩ := hSw; go_simp; try (with_reducible rfl))) ?_
            try simp only [Act.put, List.getElem_toArray, List.getElem_cons_succ, List.getElem_cons_zero, List.setIfInBounds_toArray, List.set_cons_zero, List.set_cons_succ]
            refine wpAnyJ_ready [6] (by kernel_rfl) (by simp) (NextJ.cons rfl (fun K hK => ?_) NextJ.nil)
            have hMd : MapK p s l bf wr.drew mb (n + bf.length * 11 ^ k) := hMr.below (Below.refl _ _).drew
            refine step_known (by rfl) (.tmp 67) (.tmp 68) (.tmp 69) (by rfl) mb (n + bf.length * 11 ^ k) d lo hi mv (by rfl) (by rfl) (by rfl) hMd HFW.out HBIG.out n10 (by omega) g1 g2 g3 g4 ?_
            intro w7 hM7 hS7
            refine hK.out _ _ ⟨(hS7.cell (p := ⟨pb, 3, none⟩) ⟨lt_of_cell c3, hMr.ne c3⟩).trans c3, (hS7.cell (p := ⟨w.heap.size, 0, none⟩) ⟨xl, by show w.heap.size ≠ mb; omega⟩).trans x0, (hS7.cell (p := ⟨w.heap.size, 1, none⟩) ⟨xl, by show w.heap.size ≠ mb; omega⟩).trans x1, (hS7.cell (p := ⟨w.heap.size, 2, none⟩) ⟨xl, by show w.heap.size ≠ mb; omega⟩).trans x2⟩ (fun _ => trivial) ?_
            clear hK K
            try simp only [Act.put, List.setIfInBounds_toArray, List.set_cons_zero, List.set_cons_succ]
            refine wpAnyJ_done (by kernel_rfl) ?_ _
            have hSf : Same (fun j => j < w.heap.size ∧ j ≠ mb) w w7 := ((Same.of_below' hB2).step hS).step ((Same.of_below' (Below.refl _ _).drew).step hS7)
            have hMf : MapK p s l bf w7 mb (n + 11 ^ (k + 1)) := hM7.mono (pow_end n10')
            clear hS1 hS7 hM7 hMd
            go_wp2_with fail
            go_ret
            exact ⟨ret_int HFW.out, hMf, hSf⟩
      · go_quiet (fail)
        clear hrun
        go_wp2_with fail
        go_ret
        exact ⟨ret_int (hbc.out trivial), (hM1.below (Below.drewN (Below.refl _ _) nq)).mono (Nat.le_add_right _ _), Same.of_below' (hB1.drewN nq)⟩
end Go.Proofs.YtmfklcnocekdlaaGreatDoor

namespace Go.Proofs.YtmfklcnocekdlaaGreatDoor
open Go Go.RowKit Tor

/-- levels of the first works, and what comes next at each place -/
structure LvInv (l : List Tri) (L : List Nat) (N : Nat → Nat) : Prop where
  le : ∀ q, N q ≤ L.length
  len : L.length ≤ l.length
  nx : ∀ (k : Nat) (hk : k < L.length) (hk' : k < l.length) (q : Nat), (l[k].b = q ∨ l[k].b + 1 = q) → L[k] < N q
  ord : ∀ (k i : Nat) (hki : k < i) (hi : i < L.length) (hi' : i < l.length), touchB l[k].b l[i].b = true → L[k] < L[i]

theorem LvInv.start (l : List Tri) : LvInv l [] (fun _ => 0) := ⟨fun _ => Nat.le_refl _, Nat.zero_le _, fun k hk => by simp at hk, fun k i _ hi => by simp at hi⟩

theorem LvInv.step {l : List Tri} {L : List Nat} {N : Nat → Nat} {t n : Nat} (h : LvInv l L N) (hlt : L.length < l.length) (ht : l[L.length].b = t) (hn1 : N t ≤ n) (hn2 : N (t + 1) ≤ n) (hn3 : n ≤ L.length) :
    LvInv l (L ++ [n]) (fun q => if q = t ∨ q = t + 1 then n + 1 else N q) := by
  refine ⟨fun q => ?_, by simp; omega, fun k hk hk' q hq => ?_, fun k i hki hi hi' hto => ?_⟩
  · have := h.le q
    split <;> simp <;> omega
  · simp only [List.length_append, List.length_cons, List.length_nil] at hk
    by_cases e : k < L.length
    · rw [List.getElem_append_left e]
      have := h.nx k e hk' q hq
      split
      · rename_i hqt
        rcases hqt with rfl | rfl <;> omega
      · exact this
    · obtain rfl : k = L.length := by omega
      rw [List.getElem_append_right (by omega)]
      simp only [Nat.sub_self, List.getElem_cons_zero]
      rw [if_pos (by omega)]
      omega
  · simp only [List.length_append, List.length_cons, List.length_nil] at hi
    have hkl : k < L.length := by omega
    rw [List.getElem_append_left hkl]
    by_cases e : i < L.length
    · rw [List.getElem_append_left e]
      exact h.ord k i hki e hi' hto
    · obtain rfl : i = L.length := by omega
      rw [List.getElem_append_right (by omega)]
      simp only [Nat.sub_self, List.getElem_cons_zero]
      unfold touchB at hto
      simp only [Bool.and_eq_true, decide_eq_true_eq] at hto
      rw [ht] at hto
      rcases (show l[k].b = t ∨ l[k].b + 1 = t ∨ l[k].b = t + 1 by omega) with e1 | e1 | e1
      · have := h.nx k hkl (by omega) t (Or.inl e1); omega
      · have := h.nx k hkl (by omega) t (Or.inr e1); omega
      · have := h.nx k hkl (by omega) (t + 1) (Or.inl (by omega)); omega

def LevPost (l : List Tri) (w : World) (e : Ending) (w' : World) : Prop :=
  ∃ (v : Value) (L : List Nat), e = .returned (.tuple #[v, .int .i64 0]) ∧ Own 1 nenc w' w.heap.size 3 v L ∧ L.length = l.length ∧ Hid (∀ x ∈ L, x ≤ 1000) ∧ Hid (∀ (k i : Nat) (hki : k < i) (hi : i < L.length) (hi' : i < l.length), touchB l[k].b l[i].b = true → L[k] < L[i]) ∧ Below w.heap.size w w'


set_option maxRecDepth 100000 in
set_option maxHeartbeats 2000000 in
theorem levels_any (p : Int) (A : Option Addr) (l : List Tri) (c : Nat) (w : World) (H : Nat) (hr : RdT w H A l) (hH : H ≤ w.heap.size)
    (hw : ∀ (k : Nat) (hk : k < l.length), l[k].s.size ≤ 9223372036854775807) (hchk : sheetE p l = 0)
    (hb : ∀ (k : Nat) (hk : k < l.length), 0 ≤ l[k].b ∧ l[k].b ≤ 22) (hl : l.length ≤ 400) :
    Calls Tryz.prog 45 #[.agg #[.int .i64 p, .slice A l.length c]] w (LevPost l w) := by
  obtain ⟨i0, hi0, hz0', hz1', hz2'⟩ := info_parts infoInt
  have HC := Lib.hid hchk
  have HH := Lib.hid hb
  clear hchk hb
  go_enter Tryz.func45, Tryz.ntmps45
  go_wp2_with (first
    | (go_at_call 82; refine (sheet_any p A l c _ H (hr.below' (B' := w.heap.size) (by (repeat' first | exact Below.refl _ _ | apply Below.drew | (refine Below.setCells ?_ _ _ ?_) | (refine Below.setCell ?_ ?_ _) | (refine Below.alloc ?_ ?_ _) | (simp; done) | (simp; omega))) hH) (by simp; omega) hw (by omega)).mono ?_; rintro e w1 ⟨rfl, hB1⟩; rw [HC.out]
       have kS := (Blk.new w 33 #[.int .i64 p, .slice A l.length c]).below' hB1
       have c0 := kS.cell 0 (.int .i64 p) rfl
       have c1 := kS.cell 1 (.slice A l.length c) rfl
       have n0 := kS.lt
       have hBw : Below w.heap.size w w1 := Below.trans (b := w.alloc (.cells #[.int .i64 p, .slice A l.length c] 33)) (by (repeat' first | exact Below.refl _ _ | apply Below.drew | (refine Below.setCells ?_ _ _ ?_) | (refine Below.setCell ?_ ?_ _) | (refine Below.alloc ?_ ?_ _) | (simp; done) | (simp; omega))) (hB1.mono (by simp)))
    | (at_make; refine wpList_make_own _ rfl _ _ _ rfl (w1.heap.size + 1) _ i0 _ 1 Tryz.underlying48 hi0 hz0' hz1' .i64 .i64 _ l.length rfl rfl rfl (by rw [hz2']; omega) (by unfold maxLen; omega) (by simp) ?_; intro w2 hown0 hg0
       have kS2 := (kS.alloc (.cells (Array.replicate 24 (.int .i64 0)) 139)).grown hg0 (by simp)
       have c12 := kS2.cell 1 (.slice A l.length c) rfl
       have hnb : Blk w2 w1.heap.size 139 (Array.replicate 24 (.int .i64 0)) := (Blk.new w1 139 (Array.replicate 24 (.int .i64 0))).grown hg0 (by simp)
       have hB2 : Below w1.heap.size w1 w2 := ⟨hg0.os, hg0.tape, hg0.output, Nat.le_trans (by simp) hg0.size, fun k hk => (hg0.block k (by simp; omega) (by simp)).trans (Below.heap_alloc w1 _ k hk)⟩
       rw [World.size_alloc] at hown0))
  clear c0 c1
  go_loopw [6, 22] (fun v i wr => ∃ (L : List Nat) (N : Nat → Nat) (cs : Array Value), i = .int .i64 L.length ∧ Own 1 nenc wr (w1.heap.size + 1) 3 v L ∧ Blk wr w1.heap.size 139 cs ∧ cs.size = 24 ∧ Hid (∀ q, q < 24 → cs[q]? = some (.int .i64 (N q))) ∧ LvInv l L N ∧ Below w1.heap.size w1 wr) (fun _ i _ => l.length - (intOf i).toNat)
  case atStart => exact ⟨[], fun _ => 0, _, rfl, hown0, hnb, by simp, fun q hq => by simp [hq], LvInv.start l, hB2⟩
  case round =>
    obtain ⟨L, N, cs, rfl, hown, hnbr, hcs, hcq, hinv, hB⟩ := hrel
    have hsz := hnbr.lt
    have hLl := hinv.len
    have kSr := kS.below hB n0
    have c1r := kSr.cell 1 (.slice A l.length c) rfl
    by_cases hlt : L.length < l.length
    · have hrm : RdT wr H A l := hr.below' (hBw.trans (hB.mono (by omega))) hH
      obtain ⟨b, o, rfl, hb0, h0, h1, h2⟩ := hrm.tri hlt
      have hbd := HH.out L.length hlt
      obtain ⟨t, ht⟩ : ∃ t : Nat, l[L.length].b = t := ⟨l[L.length].b.toNat, by omega⟩
      rw [ht] at h1 hbd
      have HT := Lib.hid ht
      clear ht
      have ht24 : t + 1 < 24 := by omega
      have q0 := hnbr.cell t _ (hcq.out t (by omega))
      have q1 := hnbr.cell (t + 1) _ (hcq.out (t + 1) ht24)
      have hNt := hinv.le t
      have hNt1 := hinv.le (t + 1)
      obtain ⟨x0, hx0⟩ : ∃ x0, Hid (N t = x0) := ⟨_, Lib.hid rfl⟩
      obtain ⟨x1, hx1⟩ : ∃ x1, Hid (N (t + 1) = x1) := ⟨_, Lib.hid rfl⟩
      rw [hx0.out] at q0
      rw [hx1.out] at q1
      rw [hx0.out] at hNt
      rw [hx1.out] at hNt1
      have j0 : (0 : Int) ≤ (t : Int) := by omega
      have j1 : (t : Int) < 24 := by omega
      have j2 : (0 : Int) ≤ (t : Int) + 1 := by omega
      have j3 : (t : Int) + 1 < 24 := by omega
      have e1 : IntKind.i64.wrap ((t : Int) + 1) = (t : Int) + 1 := IntWalk.i64_in _ (by omega)
      have e2 : ((t : Int) + 1).toNat = t + 1 := by omega
      by_cases hh : x0 < x1
      · have hh' : (x0 : Int) < (x1 : Int) := by omega
        go_wp2_with fail
        go_quiet (fail)
        have hbox : Blk ((wr.alloc (.cells #[.int .i64 l[L.length].a, .int .i64 t, .string l[L.length].s] 79)).drewN nq) wr.heap.size 79 #[.int .i64 l[L.length].a, .int .i64 t, .string l[L.length].s] := Blk.new wr _ _
        have hB3 : Below w1.heap.size w1 ((wr.alloc (.cells #[.int .i64 l[L.length].a, .int .i64 t, .string l[L.length].s] 79)).drewN nq) := (hB.alloc (by omega) _).drewN nq
        have hn3 : Blk ((wr.alloc (.cells #[.int .i64 l[L.length].a, .int .i64 t, .string l[L.length].s] 79)).drewN nq) w1.heap.size 139 cs := hnbr.alloc _
        have hown3 : Own 1 nenc ((wr.alloc (.cells #[.int .i64 l[L.length].a, .int .i64 t, .string l[L.length].s] 79)).drewN nq) (w1.heap.size + 1) 3 u6 L := hown.alloc _
        generalize (wr.alloc (.cells #[.int .i64 l[L.length].a, .int .i64 t, .string l[L.length].s] 79)).drewN nq = W at *
        have hWn := hn3.lt
        have hWb := hbox.lt
        go_wp2_with (first
          | (at_builtin; refine wpList_append_n rfl (.tmp 36) (.tmp 38) _ rfl (w1.heap.size + 1) _ i0 _ Tryz.underlying48 hi0 hz0' hz1' hz2' rfl _ L rfl (hown3.alloc _) W.heap.size x1 rfl (cell_new rfl) (by omega) (by simp; omega) ?_; intro v' w4 hown4 hg4))
        have hn4 := (hn3.alloc (.cells #[.int .i64 x1] 3)).grown hg4 (Own.ne_block (hown3.alloc _) (hn3.alloc (.cells #[.int .i64 x1] 3)) (by decide))
        have hb4 := (hbox.alloc (.cells #[.int .i64 x1] 3)).grown hg4 (Own.ne_block (hown3.alloc _) (hbox.alloc (.cells #[.int .i64 x1] 3)) (by decide))
        have hB4 : Below w1.heap.size w1 w4 := ((hown3.alloc (.cells #[.int .i64 x1] 3)).base (Nat.le_succ _)).grown (hB3.alloc (by omega) _) hg4 (by simp; omega)
        have p0 := hn4.cell t _ (hcq.out t (by omega))
        have p1 := hn4.cell (t + 1) _ (hcq.out (t + 1) ht24)
        have pf0 := hn4.frozen t
        have pf1 := hn4.frozen (t + 1)
        have pl := hn4.lt
        have pb := hb4.cell 1 _ rfl
        have pbl := hb4.lt
        have e3 : IntKind.i64.wrap ((x1 : Nat) + 1 : Int) = ((x1 : Nat) : Int) + 1 := IntWalk.i64_in _ (by omega)
        go_region
        go_wp2_with fail
        go_roundw
        case rel =>
          have hst := hinv.step hlt HT.out (n := x1) (by rw [hx0.out]; omega) (by rw [hx1.out]; omega) (by omega)
          refine ⟨L ++ [x1], _, _, by simp, Own.far (Own.far hown4 (p := ⟨w1.heap.size, t, none⟩) (Nat.lt_succ_self _) _) (p := ⟨w1.heap.size, t + 1, none⟩) (Nat.lt_succ_self _) _, (hn4.set_ t _).set_ (t + 1) _, by simp [hcs], fun q hq => ?_, hst, ((hB4.setCell (p := ⟨w1.heap.size, t, none⟩) (Nat.le_refl _) _).setCell (p := ⟨w1.heap.size, t + 1, none⟩) (Nat.le_refl _) _).drew⟩
          by_cases c1 : q = t + 1
          · subst c1; simp [hcs, hq]
          · by_cases c2 : q = t
            · subst c2; simp [hcs, hq, Array.getElem?_setIfInBounds]
            · rw [if_neg (by omega), Array.getElem?_setIfInBounds_ne (by omega), Array.getElem?_setIfInBounds_ne (by omega)]
              exact hcq.out q hq
        case measure => simp [intOf]; omega
      · have hh' : ¬ (x0 : Int) < (x1 : Int) := by omega
        go_wp2_with fail
        go_quiet (fail)
        have hbox : Blk ((wr.alloc (.cells #[.int .i64 l[L.length].a, .int .i64 t, .string l[L.length].s] 79)).drewN nq) wr.heap.size 79 #[.int .i64 l[L.length].a, .int .i64 t, .string l[L.length].s] := Blk.new wr _ _
        have hB3 : Below w1.heap.size w1 ((wr.alloc (.cells #[.int .i64 l[L.length].a, .int .i64 t, .string l[L.length].s] 79)).drewN nq) := (hB.alloc (by omega) _).drewN nq
        have hn3 : Blk ((wr.alloc (.cells #[.int .i64 l[L.length].a, .int .i64 t, .string l[L.length].s] 79)).drewN nq) w1.heap.size 139 cs := hnbr.alloc _
        have hown3 : Own 1 nenc ((wr.alloc (.cells #[.int .i64 l[L.length].a, .int .i64 t, .string l[L.length].s] 79)).drewN nq) (w1.heap.size + 1) 3 u6 L := hown.alloc _
        generalize (wr.alloc (.cells #[.int .i64 l[L.length].a, .int .i64 t, .string l[L.length].s] 79)).drewN nq = W at *
        have hWn := hn3.lt
        have hWb := hbox.lt
        go_wp2_with (first
          | (at_builtin; refine wpList_append_n rfl (.tmp 36) (.tmp 38) _ rfl (w1.heap.size + 1) _ i0 _ Tryz.underlying48 hi0 hz0' hz1' hz2' rfl _ L rfl (hown3.alloc _) W.heap.size x0 rfl (cell_new rfl) (by omega) (by simp; omega) ?_; intro v' w4 hown4 hg4))
        have hn4 := (hn3.alloc (.cells #[.int .i64 x0] 3)).grown hg4 (Own.ne_block (hown3.alloc _) (hn3.alloc (.cells #[.int .i64 x0] 3)) (by decide))
        have hb4 := (hbox.alloc (.cells #[.int .i64 x0] 3)).grown hg4 (Own.ne_block (hown3.alloc _) (hbox.alloc (.cells #[.int .i64 x0] 3)) (by decide))
        have hB4 : Below w1.heap.size w1 w4 := ((hown3.alloc (.cells #[.int .i64 x0] 3)).base (Nat.le_succ _)).grown (hB3.alloc (by omega) _) hg4 (by simp; omega)
        have p0 := hn4.cell t _ (hcq.out t (by omega))
        have p1 := hn4.cell (t + 1) _ (hcq.out (t + 1) ht24)
        have pf0 := hn4.frozen t
        have pf1 := hn4.frozen (t + 1)
        have pl := hn4.lt
        have pb := hb4.cell 1 _ rfl
        have pbl := hb4.lt
        have e3 : IntKind.i64.wrap ((x0 : Nat) + 1 : Int) = ((x0 : Nat) : Int) + 1 := IntWalk.i64_in _ (by omega)
        go_region
        go_wp2_with fail
        go_roundw
        case rel =>
          have hst := hinv.step hlt HT.out (n := x0) (by rw [hx0.out]; omega) (by rw [hx1.out]; omega) (by omega)
          refine ⟨L ++ [x0], _, _, by simp, Own.far (Own.far hown4 (p := ⟨w1.heap.size, t, none⟩) (Nat.lt_succ_self _) _) (p := ⟨w1.heap.size, t + 1, none⟩) (Nat.lt_succ_self _) _, (hn4.set_ t _).set_ (t + 1) _, by simp [hcs], fun q hq => ?_, hst, ((hB4.setCell (p := ⟨w1.heap.size, t, none⟩) (Nat.le_refl _) _).setCell (p := ⟨w1.heap.size, t + 1, none⟩) (Nat.le_refl _) _).drew⟩
          by_cases c1 : q = t + 1
          · subst c1; simp [hcs, hq]
          · by_cases c2 : q = t
            · subst c2; simp [hcs, hq, Array.getElem?_setIfInBounds]
            · rw [if_neg (by omega), Array.getElem?_setIfInBounds_ne (by omega), Array.getElem?_setIfInBounds_ne (by omega)]
              exact hcq.out q hq
        case measure => simp [intOf]; omega
    · have e1 : L.length = l.length := by omega
      go_wp2_with fail
      go_ret2
      exact ⟨_, L, rfl, hown.base (by have := hBw.size; omega), e1, fun x hx => by
          obtain ⟨k, hk, rfl⟩ := List.mem_iff_getElem.1 hx
          obtain ⟨t, ht⟩ : ∃ t : Nat, l[k].b = t := ⟨l[k].b.toNat, by have := HH.out k (by omega); omega⟩
          have := hinv.nx k hk (by omega) t (Or.inl ht)
          have := hinv.le t
          omega, hinv.ord, hBw.trans (hB.mono (by have := hBw.size; omega))⟩
end Go.Proofs.YtmfklcnocekdlaaGreatDoor

namespace Go.Proofs.YtmfklcnocekdlaaGreatDoor
open Go Go.RowKit Tor

def bitsUpto (f : Nat → Bool) : Nat → Nat
  | 0 => 0
  | k + 1 => if f k then bitsUpto f k ||| 2 ^ k else bitsUpto f k
theorem bitsUpto_lt (f : Nat → Bool) : ∀ k, bitsUpto f k < 2 ^ k
  | 0 => by simp [bitsUpto]
  | k + 1 => by
    have ih := bitsUpto_lt f k
    unfold bitsUpto
    have h : 2 ^ k < 2 ^ (k + 1) := Nat.pow_lt_pow_right (by omega) (by omega)
    split
    · exact Nat.or_lt_two_pow (by omega) h
    · omega
theorem bitsUpto_bit (f : Nat → Bool) : ∀ k i, (bitsUpto f k).testBit i = (decide (i < k) && f i)
  | 0, i => by simp [bitsUpto]
  | k + 1, i => by
    have ih := bitsUpto_bit f k i
    unfold bitsUpto
    by_cases hf : f k = true
    · rw [if_pos hf, Nat.testBit_or, ih, Nat.testBit_two_pow]
      by_cases e : k = i
      · subst e; simp [hf]
      · have : (i < k + 1) ↔ (i < k) := by omega
        simp [e, this]
    · rw [if_neg hf, ih]
      by_cases e : k = i
      · subst e; simp [hf]
      · have : (i < k + 1) ↔ (i < k) := by omega
        simp [this]
theorem bitsUpto_congr {f g : Nat → Bool} : ∀ k, (∀ i, i < k → f i = g i) → bitsUpto f k = bitsUpto g k
  | 0, _ => rfl
  | k + 1, h => by unfold bitsUpto; rw [h k (by omega), bitsUpto_congr k (fun i hi => h i (by omega))]

def touchAt (l : List Tri) (i k : Nat) : Bool := touchB (xAt l k).b (xAt l i).b

/-- what must be done before work i -/
def bfAt (l : List Tri) (i : Nat) : Nat := bitsUpto (touchAt l i) i
def bfL (l : List Tri) : List Nat := (List.range l.length).map (bfAt l)
theorem bfL_len (l : List Tri) : (bfL l).length = l.length := by simp [bfL]
theorem bfL_get {l : List Tri} {i : Nat} (hi : i < l.length) : (bfL l).getD i 0 = bfAt l i := by
  unfold bfL
  rw [List.getD_eq_getElem?_getD, List.getElem?_map, List.getElem?_range hi]; rfl
theorem bfAt_lt {l : List Tri} {i : Nat} (hi : i < 10) : bfAt l i < 1024 := Nat.lt_of_lt_of_le (bitsUpto_lt _ i) (Nat.le_trans (Nat.pow_le_pow_right (by omega) (show i ≤ 10 by omega)) (by decide))

section
variable (p s : Int) (l : List Tri) (bf : List Nat)
/-- the first work with which the fewest reaches are left -/
def pick (d : Nat) (lo hi : Int) : Option Nat := (List.range l.length).find? fun i => decide (cost p s l bf d lo hi i = some (few p s l bf d lo hi))

/-- the order that is taken -/
def bsel : Nat → Nat → Int → Int → List Nat
  | 0, _, _, _ => []
  | k + 1, d, lo, hi => match pick p s l bf d lo hi with
    | some i => i :: bsel k (d ||| 2 ^ i) (nlo s (xAt l i) lo (joinB p s (xAt l i) lo hi)) (nhi p s (xAt l i) hi (joinB p s (xAt l i) lo hi))
    | none => []
end
variable {p s : Int} {l : List Tri} {bf : List Nat}

theorem minUpto_le {g : Nat → Option Int} {n0 : Int} : ∀ {j i : Nat} {x : Int}, i < j → g i = some x → minUpto g n0 j ≤ x
  | 0, _, _, h, _ => absurd h (by omega)
  | j + 1, i, x, h, hg => by
    unfold minUpto
    by_cases e : i = j
    · subst e; rw [hg]; simp only; omega
    · have := minUpto_le (g := g) (n0 := n0) (j := j) (i := i) (by omega) hg
      cases hj : g j with
      | none => exact this
      | some y => simp only; omega
theorem minUpto_at {g : Nat → Option Int} {n0 : Int} : ∀ {j : Nat}, minUpto g n0 j = n0 ∨ ∃ i, i < j ∧ g i = some (minUpto g n0 j)
  | 0 => Or.inl rfl
  | j + 1 => by
    unfold minUpto
    have ih := minUpto_at (g := g) (n0 := n0) (j := j)
    cases hj : g j with
    | none =>
      rcases ih with h | ⟨i, hi, h⟩
      · exact Or.inl h
      · exact Or.inr ⟨i, by omega, h⟩
    | some y =>
      simp only
      by_cases hy : y ≤ minUpto g n0 j
      · exact Or.inr ⟨j, by omega, by rw [hj]; congr 1; omega⟩
      · have e : min (minUpto g n0 j) y = minUpto g n0 j := by omega
        rw [e]
        rcases ih with h | ⟨i, hi, h⟩
        · exact Or.inl h
        · exact Or.inr ⟨i, by omega, h⟩


/-- only what comes earlier must be done before -/
def BfOk (l : List Tri) (bf : List Nat) : Prop := ∀ i k, i < l.length → (bf.getD i 0).testBit k = true → k < i
theorem bfL_ok (l : List Tri) : BfOk l (bfL l) := fun i k hi h => by
  rw [bfL_get hi, bfAt, bitsUpto_bit] at h
  simp only [Bool.and_eq_true, decide_eq_true_eq] at h
  exact h.1

theorem exists_free (hb : BfOk l bf) (hbits : ∀ k, k < l.length → bf.getD k 0 < 1024) (h10 : l.length ≤ 10) {d : Nat} (hd : d < 2 ^ l.length) (h : d ≠ 2 ^ l.length - 1) : ∃ i, i < l.length ∧ freeB bf d i = true := by
  have hp := zeros_pos hd h
  unfold zeros at hp
  cases hf : (List.range l.length).filter (fun i => !d.testBit i) with
  | nil => rw [hf] at hp; simp at hp
  | cons i r =>
    obtain ⟨h1, h2, h3, _⟩ := filter_head hf
    refine ⟨i, h2, ?_⟩
    unfold freeB
    simp only [Bool.not_eq_true'] at h1
    have hd2 := two_pow_le h10
    have hbi := hbits i h2
    have hz : dif (bf.getD i 0) d = 0 := (dif_zero (by omega) (by omega)).2 fun k hk => by
      have := h3 k (hb i k h2 hk)
      simpa using this
    rw [h1, hz]
    rfl

theorem cost_def {d : Nat} {lo hi : Int} {i : Nat} (hf : freeB bf d i = true) : cost p s l bf d lo hi i = some (nn (joinB p s (xAt l i) lo hi) + few p s l bf (d ||| 2 ^ i) (nlo s (xAt l i) lo (joinB p s (xAt l i) lo hi)) (nhi p s (xAt l i) hi (joinB p s (xAt l i) lo hi))) := by
  unfold cost
  rw [if_pos hf]
theorem few_zeros (hb : BfOk l bf) (hbits : ∀ k, k < l.length → bf.getD k 0 < 1024) (h10 : l.length ≤ 10) : ∀ (k d : Nat) (lo hi : Int), zeros l.length d = k → d < 2 ^ l.length → few p s l bf d lo hi ≤ k := by
  intro k
  induction k with
  | zero =>
    intro d lo hi hz hd
    rw [few_full (zeros_full hd hz)]
    exact Int.le_refl _
  | succ k ih =>
    intro d lo hi hz hd
    by_cases h : d = 2 ^ l.length - 1
    · rw [few_full h]; omega
    · obtain ⟨i, hi', hf⟩ := exists_free hb hbits h10 hd h
      rw [few_eq hd h]
      have hz2 := zeros_or hi' (freeB_bit hf)
      have hc := cost_def (p := p) (s := s) (l := l) (lo := lo) (hi := hi) hf
      have h1 := minUpto_le (n0 := (l.length : Int)) hi' hc
      have h2 := ih (d ||| 2 ^ i) (nlo s (xAt l i) lo (joinB p s (xAt l i) lo hi)) (nhi p s (xAt l i) hi (joinB p s (xAt l i) lo hi)) (by omega) (Nat.or_lt_two_pow hd (Nat.pow_lt_pow_right (by omega) hi'))
      have h3 := nn_bd (joinB p s (xAt l i) lo hi)
      omega

theorem pick_some (hb : BfOk l bf) (hbits : ∀ k, k < l.length → bf.getD k 0 < 1024) (h10 : l.length ≤ 10) {d : Nat} {lo hi : Int} (hd : d < 2 ^ l.length) (h : d ≠ 2 ^ l.length - 1) : ∃ i, pick p s l bf d lo hi = some i := by
  have hz := few_zeros (p := p) (s := s) hb hbits h10 (zeros l.length d) d lo hi rfl hd
  obtain ⟨i, hi', hf⟩ := exists_free hb hbits h10 hd h
  have hz2 := zeros_or hi' (freeB_bit hf)
  have hex : ∃ i, i < l.length ∧ cost p s l bf d lo hi i = some (few p s l bf d lo hi) := by
    rw [few_eq hd h]
    rcases minUpto_at (g := cost p s l bf d lo hi) (n0 := (l.length : Int)) (j := l.length) with e | ⟨i, h1, h2⟩
    · refine ⟨i, hi', ?_⟩
      have hc := cost_def (p := p) (s := s) (l := l) (lo := lo) (hi := hi) hf
      have h1 := minUpto_le (n0 := (l.length : Int)) hi' hc
      have h2 := few_zeros (p := p) (s := s) hb hbits h10 _ (d ||| 2 ^ i) (nlo s (xAt l i) lo (joinB p s (xAt l i) lo hi)) (nhi p s (xAt l i) hi (joinB p s (xAt l i) lo hi)) rfl (Nat.or_lt_two_pow hd (Nat.pow_lt_pow_right (by omega) hi'))
      have h3 := nn_bd (joinB p s (xAt l i) lo hi)
      have h4 := zeros_le l.length d
      rw [hc, e]
      congr 1
      omega
    · exact ⟨i, h1, h2⟩
  obtain ⟨i, h1, h2⟩ := hex
  cases hp : pick p s l bf d lo hi with
  | some j => exact ⟨j, rfl⟩
  | none =>
    unfold pick at hp
    rw [List.find?_eq_none] at hp
    exact absurd h2 (by simpa using hp i (by simpa using h1))
theorem pick_spec {d : Nat} {lo hi : Int} {i : Nat} (h : pick p s l bf d lo hi = some i) : i < l.length ∧ cost p s l bf d lo hi i = some (few p s l bf d lo hi) ∧ ∀ j, j < i → cost p s l bf d lo hi j ≠ some (few p s l bf d lo hi) := by
  unfold pick at h
  rw [List.find?_range_eq_some] at h
  exact ⟨by simpa using h.2.1, by simpa using h.1, fun j hj => by simpa using h.2.2 j hj⟩
theorem cost_isfree {d : Nat} {lo hi : Int} {i : Nat} {x : Int} (h : cost p s l bf d lo hi i = some x) : freeB bf d i = true := by
  unfold cost at h
  by_cases hf : freeB bf d i = true
  · exact hf
  · rw [if_neg hf] at h; cases h
end Go.Proofs.YtmfklcnocekdlaaGreatDoor

namespace Go.Proofs.YtmfklcnocekdlaaGreatDoor
open Go Go.RowKit Tor Go.Maps

theorem RdN.rdf {w : World} {B : Nat} {A : Option Addr} {bf : List Nat} (h : RdN w B A bf) : RdF w A bf := fun hl => by
  obtain ⟨b, o, e, _, hc⟩ := h hl
  exact ⟨b, o, e, fun k x hx => by simpa using hc k x hx 0 _ rfl⟩
theorem RdF.same {w w' : World} {A : Option Addr} {bf : List Nat} {T : Nat → Prop} (h : RdF w A bf) (hs : Same T w w') (hT : ∀ b o v, A = some ⟨b, o, none⟩ → w.cell? ⟨b, o, none⟩ = some v → T b) : RdF w' A bf := fun hl => by
  obtain ⟨b, o, e, hc⟩ := h hl
  obtain ⟨x, r, hx⟩ := List.exists_cons_of_ne_nil hl
  have h0 := hc 0 x (by rw [hx]; rfl)
  exact ⟨b, o, e, fun k x hx => (hs.cell (p := ⟨b, o + k, none⟩) (hT b o _ e h0)).trans (hc k x hx)⟩
theorem Own.rdfb {w : World} {base : Nat} {e : TypeId} {v : Value} {l : List Nat} (h : Own 1 nenc w base e v l) :
    ∃ A c, v = .slice A l.length c ∧ RdF w A l ∧ ∀ b o, A = some ⟨b, o, none⟩ → base ≤ b ∧ b < w.heap.size := by
  obtain ⟨A, c, hv, _, hd⟩ := Own.rd nenc_len h
  exact ⟨A, c, hv, RdN.rdf hd, fun b o e' => World.ownsRow.lt h b (by rw [hv, e']; rfl)⟩
theorem RdF.at {w : World} {A : Option Addr} {bf : List Nat} (h : RdF w A bf) {k : Nat} (hk : k < bf.length) : ∃ b o, A = some ⟨b, o, none⟩ ∧ ∀ (j : Nat) (hj : j < bf.length), w.cell? ⟨b, o + j, none⟩ = some (.int .i64 (bf[j] : Int)) := by
  obtain ⟨b, o, e, hc⟩ := h (by intro e; subst e; simp at hk)
  exact ⟨b, o, e, fun j hj => hc j _ (List.getElem?_eq_getElem hj)⟩

theorem MapK.same {p s : Int} {l : List Tri} {bf : List Nat} {w w' : World} {mb n : Nat} {T : Nat → Prop} (h : MapK p s l bf w mb n) (hs : Same T w w') (hT : T mb) : MapK p s l bf w' mb n := by
  obtain ⟨D, ⟨es, clock, hb, r⟩, h2⟩ := h
  exact ⟨D, ⟨es, clock, (hs.block mb hT).trans hb, r⟩, h2⟩
theorem Same.of_below_T {w w' : World} {T : Nat → Prop} (h : Below w.heap.size w w') (hT : ∀ k, T k → k < w.heap.size) : Same T w w' := (Same.of_below h).mono hT
theorem Own.same {α : Type} {sz : Nat} {enc : α → List Value} {w w' : World} {base : Nat} {e : TypeId} {v : Value} {l : List α} {T : Nat → Prop} (h : Own sz enc w base e v l) (hs : Same T w w') (hT : ∀ g, v.ownBlock = some g → T g) : Own sz enc w' base e v l := by
  obtain ⟨h1, h2⟩ := h
  refine ⟨h1, ?_⟩
  rcases h2 with h2 | ⟨g, cap, cur, rfl, hg, hh, r⟩
  · exact Or.inl h2
  · exact Or.inr ⟨g, cap, cur, rfl, hg, (hs.block g (hT g rfl)).trans hh, r⟩
theorem pow10 : (11 : Nat) ^ 10 ≤ 30000000000 := by decide
theorem fewest10 (p s : Int) (l : List Tri) (bf : List Nat) (ok : PlanOk p s l bf) (pb sb mb : Nat) (A : Option Addr) (c : Nat) (Ab : Option Addr) (cb H : Nat) (d : Nat) (lo hi : Int) (w : World) (n : Nat)
    (hd : d < 2 ^ l.length) (g1 : 0 ≤ lo) (g2 : lo ≤ 24) (g3 : 0 ≤ hi) (g4 : hi ≤ 24) (hP : PlanAt w pb sb mb p s A c l Ab cb bf H) (hM : MapK p s l bf w mb n) (hn : n ≤ 100000000000000) :
    Calls Tryz.prog 47 #[.pointer (some ⟨pb, 0, none⟩), .agg #[.int .i64 d, .int .i64 lo, .int .i64 hi]] w (FewPost p s l bf d lo hi mb (n + 30000000000) w) :=
  (fewest_any p s l bf ok pb sb mb A c Ab cb H 10 d lo hi w n (Nat.le_trans (zeros_le _ _) ok.n10) hd g1 g2 g3 g4 hP hM (by have := pow10; omega)).mono fun e w' ⟨h1, h2, h3⟩ => ⟨h1, h2.mono (by have := pow10; omega), h3⟩
theorem planOk_bfL {P S : Nat} {l : List Tri} (hl : l.length ≤ 10) (b1 : 2 ≤ S) (b2 : S ≤ P) (b3 : P ≤ 24) (hb : ∀ (k : Nat) (hk : k < l.length), 0 ≤ l[k].b ∧ l[k].b ≤ (P : Int) - 2) : PlanOk P S l (bfL l) :=
  ⟨bfL_len l, hl, by omega, by omega, by omega, hb, fun k hk => by rw [bfL_len] at hk; rw [bfL_get hk]; exact bfAt_lt (by omega)⟩
theorem bsel_step {p s : Int} {l : List Tri} {bf : List Nat} {k d : Nat} {lo hi : Int} {i d2 : Nat} {lo2 hi2 : Int} (hk : 0 < k) (h : pick p s l bf d lo hi = some i) (hi' : i < l.length) (h1 : d ||| 2 ^ i = d2) (h2 : nlo s l[i] lo (joinB p s l[i] lo hi) = lo2) (h3 : nhi p s l[i] hi (joinB p s l[i] lo hi) = hi2) :
    bsel p s l bf k d lo hi = i :: bsel p s l bf (k - 1) d2 lo2 hi2 := by
  obtain ⟨g, rfl⟩ : ∃ g, k = g + 1 := ⟨k - 1, by omega⟩
  rw [bsel, h]
  simp only [xAt_of hi', h1, h2, h3]
  rfl
theorem pick_of {p s : Int} {l : List Tri} {bf : List Nat} {d : Nat} {lo hi : Int} {i : Nat} (hi' : i < l.length) (hc : cost p s l bf d lo hi i = some (few p s l bf d lo hi)) (hn : ∀ j, j < i → cost p s l bf d lo hi j ≠ some (few p s l bf d lo hi)) : pick p s l bf d lo hi = some i := by
  unfold pick
  rw [List.find?_range_eq_some]
  exact ⟨by simpa using hc, by simpa using hi', fun j hj => by simpa using hn j hj⟩
theorem zeros_zero (n : Nat) : zeros n 0 = n := by
  unfold zeros
  rw [List.filter_eq_self.2 (by simp)]
  simp
theorem zeros_none {n d : Nat} (h : zeros n d = 0 → False) : 0 < zeros n d := Nat.pos_of_ne_zero h
theorem not_full {n d : Nat} (h : 0 < zeros n d) : d ≠ 2 ^ n - 1 := fun e => by
  have : zeros n d = 0 := by
    unfold zeros
    rw [List.length_eq_zero_iff, List.filter_eq_nil_iff]
    intro i hi
    have hi' : i < n := by simpa using hi
    rw [e, Nat.testBit_two_pow_sub_one]
    simp [hi']
  omega


set_option maxRecDepth 100000 in
set_option maxHeartbeats 4000000 in
theorem cbest_any (P S : Nat) (A : Option Addr) (l : List Tri) (c : Nat) (w : World) (H : Nat) (hr : RdT w H A l) (hH : H ≤ w.heap.size)
    (hw : ∀ (k : Nat) (hk : k < l.length), l[k].s.size ≤ 9223372036854775807) (hchk : chkE P l S = 0) (hsh : sheetE P l = 0)
    (hb : ∀ (k : Nat) (hk : k < l.length), 0 ≤ l[k].b ∧ l[k].b ≤ (P : Int) - 2) (hl : l.length ≤ 10) (hlc : l.length ≤ c) (b1 : 2 ≤ S) (b2 : S ≤ P) (b3 : P ≤ 24) :
    Calls Tryz.prog 16 #[.agg #[.int .i64 P, .slice A l.length c], .int .i64 S] w fun e w' => ∃ v, e = .returned (.tuple #[v, .int .i64 0]) ∧ Own 3 Tri.enc w' w.heap.size 52 v (rst P S ((bsel P S l (bfL l) l.length 0 1 0).map (xAt l)) (-1)) ∧ Below w.heap.size w w' := by
  obtain ⟨i0, hi0, hz0', hz1', hz2'⟩ := info_parts infoInt
  have HC := Lib.hid hchk
  have HSH := Lib.hid hsh
  have HH := Lib.hid hb
  have HWW := Lib.hid hw
  have b1' : (2 : Int) ≤ S := by omega
  have b2' : (S : Int) ≤ P := by omega
  have b3' : (P : Int) ≤ 24 := by omega
  clear hchk hb hsh
  have hmm := @run_makeMap Tryz.prog
  go_enter Tryz.func16, Tryz.ntmps16
  go_wp2_with (first
    | (go_at_call 43; refine (ccheck_any P A l c S w.heap.size 0 _ H (hr.below' (B' := w.heap.size) (by (repeat' first | exact Below.refl _ _ | apply Below.drew | (refine Below.setCells ?_ _ _ ?_) | (refine Below.setCell ?_ ?_ _) | (refine Below.alloc ?_ ?_ _) | (simp; done) | (simp; omega))) hH) (by simp; omega) (by simp) (by simp) hw (by omega)).mono ?_; rintro e w1 ⟨rfl, hB1⟩; rw [HC.out]
       have kS := (Blk.new w 33 #[.int .i64 P, .slice A l.length c]).below' hB1
       have c0 := kS.cell 0 (.int .i64 P) rfl
       have c1 := kS.cell 1 (.slice A l.length c) rfl
       have n1 := kS.lt)
    | (go_at_call 45
       have hBw : Below w.heap.size w w1 := Below.trans (b := w.alloc (.cells #[.int .i64 P, .slice A l.length c] 33)) (by (repeat' first | exact Below.refl _ _ | apply Below.drew | (refine Below.setCells ?_ _ _ ?_) | (refine Below.setCell ?_ ?_ _) | (refine Below.alloc ?_ ?_ _) | (simp; done) | (simp; omega))) (hB1.mono (by simp))
       have hBW : Below w1.heap.size w1 ((w1.alloc (.map #[] 0)).alloc (.cells #[.pointer (some ⟨w.heap.size, 0, none⟩), .int .i64 S, .slice none 0 0, .map (some w1.heap.size)] 87)) := by (repeat' first | exact Below.refl _ _ | apply Below.drew | (refine Below.setCells ?_ _ _ ?_) | (refine Below.setCell ?_ ?_ _) | (refine Below.alloc ?_ ?_ _) | (simp; done) | (simp; omega))
       refine (levels_any P A l c _ H (hr.below' (hBw.trans (hBW.mono (by omega))) hH) (by simp; omega) HWW.out HSH.out (fun k hk => by have := HH.out k hk; omega) (by omega)).mono ?_
       rintro e w2 ⟨vL, L, rfl, hLo, hLl, hLb, hLord, hB2⟩
       have kS2 := ((kS.alloc (.map #[] 0)).alloc (.cells #[.pointer (some ⟨w.heap.size, 0, none⟩), .int .i64 S, .slice none 0 0, .map (some w1.heap.size)] 87)).below' hB2
       have kp2 := (Blk.new (w1.alloc (.map #[] 0)) 87 #[.pointer (some ⟨w.heap.size, 0, none⟩), .int .i64 S, .slice none 0 0, .map (some w1.heap.size)]).below' hB2
       rw [World.size_alloc] at kp2
       have hM2 : MapK P S l (bfL l) w2 w1.heap.size 0 := MapK.below (w := (w1.alloc (.map #[] 0)).alloc (.cells #[.pointer (some ⟨w.heap.size, 0, none⟩), .int .i64 S, .slice none 0 0, .map (some w1.heap.size)] 87)) ⟨.map [], (World.ownsMap_made w1 _ _ _).alloc _, Known.empty⟩ hB2
       have hBw2 : Below w.heap.size w w2 := hBw.trans ((hBW.mono (by omega)).trans (hB2.mono (by simp; omega)))
       obtain ⟨AL, cL, hvL, hLr, hLb2⟩ := Own.rdfb hLo
       subst hvL
       have HLF := Lib.hid hLr
       have HLB := Lib.hid hLb2
       have d1 := kS2.cell 1 (.slice A l.length c) rfl
       have n2 := kp2.lt
       clear hLo hLr hB2 hLb2))
  clear c0 c1 hmm
  go_loopw [42] (fun i wr => ∃ (j : Nat) (v : Value), j ≤ l.length ∧ i = .int .i64 j ∧ Blk wr (w1.heap.size + 1) 87 #[.pointer (some ⟨w.heap.size, 0, none⟩), .int .i64 S, v, .map (some w1.heap.size)] ∧ Own 1 nenc wr w2.heap.size 3 v ((List.range j).map (bfAt l)) ∧ Same (fun k => k < w2.heap.size ∧ k ≠ w1.heap.size + 1) w2 wr) (fun i _ => l.length - (intOf i).toNat)
  case atStart => exact ⟨0, _, by omega, rfl, kp2, Own.nil _ _ _, Same.refl _ _⟩
  case round =>
    obtain ⟨j, v, hj, rfl, hkp, hown, hS⟩ := hrel
    have hz2 := hS.size
    have kSr := kS2.same hS ⟨by omega, by omega⟩
    have e1 := kSr.cell 1 (.slice A l.length c) rfl
    have hLF : RdF wr AL L := HLF.out.same hS (fun b o v hA hc => ⟨lt_of_cell hc, by have := (HLB.out b o hA).1; simp at this; omega⟩)
    by_cases hlt : j < l.length
    · have hrm : RdT wr H A l := (hr.below' hBw2 hH).keep (fun q hq => hS.cell (p := q) ⟨by omega, by omega⟩)
      obtain ⟨b, o, rfl, hb0, h0, h1, h2⟩ := hrm.tri hlt
      have kSl := kSr.lt
      have hjc : j ≤ c := by omega
      go_wp2_with fail
      have hbw : Blk (wr.alloc (.cells #[.int .i64 l[j].a, .int .i64 l[j].b, .string l[j].s] 79)) wr.heap.size 79 #[.int .i64 l[j].a, .int .i64 l[j].b, .string l[j].s] := Blk.new wr _ _
      have hW : Below wr.heap.size wr (wr.alloc (.cells #[.int .i64 l[j].a, .int .i64 l[j].b, .string l[j].s] 79)) := by (repeat' first | exact Below.refl _ _ | apply Below.drew | (refine Below.setCells ?_ _ _ ?_) | (refine Below.setCell ?_ ?_ _) | (refine Below.alloc ?_ ?_ _) | (simp; done) | (simp; omega))
      have hWs : (wr.alloc (.cells #[.int .i64 l[j].a, .int .i64 l[j].b, .string l[j].s] 79)).heap.size = wr.heap.size + 1 := by simp
      generalize wr.alloc (.cells #[.int .i64 l[j].a, .int .i64 l[j].b, .string l[j].s] 79) = W at *
      have hWl : wr.heap.size < W.heap.size := by omega
      clear hWs
      have hjL : j < L.length := by omega
      obtain ⟨lb, lo', hA, hLc0⟩ := hLF.at hjL
      have hLc := Lib.hid hLc0
      have hLbn := (HLB.out lb lo' hA).2
      subst hA
      have hYb := hLb.out L[j] (List.getElem_mem hjL)
      obtain ⟨Y, hY⟩ : ∃ Y, Hid (L[j] = Y) := ⟨_, Lib.hid rfl⟩
      have hYc := hLc0 j hjL
      rw [hY.out] at hYc hYb
      have hYc0 := Lib.hid hYc
      have hbj := HH.out j hlt
      clear hLc0 hLF hYc
      have hbw0 := hbw
      have hkS0 := kSr.below' hW
      have hrmW := hrm.below' hW (by omega)
      obtain ⟨wo, rfl⟩ : ∃ wo : World, wo = wr := ⟨_, rfl⟩
      go_loopw [12, 52] (fun st k wi => ∃ m : Nat, m ≤ j ∧ k = .int .i64 m ∧ st = .int .i64 (bitsUpto (touchAt l j) m) ∧ Below W.heap.size W wi) (fun _ k _ => j - (intOf k).toNat)
      case atStart => exact ⟨0, by omega, rfl, rfl, Below.refl _ _⟩
      case round =>
        obtain ⟨m, hmj, rfl, rfl, hBi⟩ := hrel
        have hzi := hBi.size
        by_cases hm : m < j
        · have hml : m < l.length := by omega
          have hmL : m < L.length := by omega
          obtain ⟨g0, g1, g2, g3⟩ := (hrmW.below' hBi (by omega)).triAt hml
          have hbm := HH.out m hml
          have hwb1 := (hbw0.below' hBi).cell 1 _ rfl
          have hwbl := (hbw0.below' hBi).lt
          have hYi := (hBi.cell (p := ⟨lb, lo' + j, none⟩) (by show lb < _; omega)).trans ((hW.cell (p := ⟨lb, lo' + j, none⟩) (by show lb < _; omega)).trans hYc0.out)
          have hXb := hLb.out L[m] (List.getElem_mem hmL)
          obtain ⟨X, hX⟩ : ∃ X, Hid (L[m] = X) := ⟨_, Lib.hid rfl⟩
          have hXi := (hBi.cell (p := ⟨lb, lo' + m, none⟩) (by show lb < _; omega)).trans ((hW.cell (p := ⟨lb, lo' + m, none⟩) (by show lb < _; omega)).trans (hLc.out m hmL))
          rw [hX.out] at hXi hXb
          have hLO := hLord.out m j hm hjL hlt
          rw [hX.out, hY.out] at hLO
          have hlbi := lt_of_cell hXi
          have hTA : Hid (touchAt l j m = touchB l[m].b l[j].b) := by rw [Hid, touchAt, xAt_of hml, xAt_of hlt]
          have k0 : (0 : Int) ≤ (m : Int) := by omega
          have k1 : (m : Int) < (l.length : Int) := by omega
          have k2 : (0 : Int) ≤ (j : Int) := by omega
          have k3 : (j : Int) < (l.length : Int) := by omega
          have k4 : (m : Int) ≤ 64 := by omega
          have hbu := bitsUpto_lt (touchAt l j) m
          have hbu2 : Hid (bitsUpto (touchAt l j) m < 1048576) := Nat.lt_of_lt_of_le hbu (Nat.le_trans (Nat.pow_le_pow_right (by omega) (show m ≤ 20 by omega)) (by decide))
          clear hbu
          by_cases ht : touchB l[m].b l[j].b = true
          · have hxy := hLO ht
            have HTT := Lib.hid ht
            unfold touchB at ht
            simp only [Bool.and_eq_true, decide_eq_true_eq] at ht
            have f1 : decide ((X : Int) < (Y : Int)) = true := by simpa using hxy
            have f2 : decide (l[m].b - l[j].b < 2) = true := by simp; omega
            have f3 : decide (l[j].b - l[m].b < 2) = true := by simp; omega
            clear ht hLO
            go_wp2_with fail
            go_quiet (fail)
            go_wp2_with fail
            go_roundw
            case rel => exact ⟨m + 1, by omega, by go_num, by rw [bor_shl _ _ hbu2.out (by omega), bitsUpto, if_pos (by rw [hTA.out]; exact HTT.out)], (hBi.alloc (by omega) _).drewN nq⟩
            case measure => simp [intOf]; omega
          · have HTT := Lib.hid ht
            unfold touchB at ht
            simp only [Bool.and_eq_true, decide_eq_true_eq] at ht
            clear hLO
            by_cases hxy : X < Y
            · have f1 : decide ((X : Int) < (Y : Int)) = true := by simpa using hxy
              by_cases h12 : l[m].b - l[j].b < 2
              · have f2 : decide (l[m].b - l[j].b < 2) = true := by simpa using h12
                have f3 : decide (l[j].b - l[m].b < 2) = false := by simp; omega
                clear ht
                go_wp2_with fail
                go_quiet (fail)
                go_wp2_with fail
                go_roundw
                case rel => exact ⟨m + 1, by omega, by go_num, by rw [bitsUpto, if_neg (by rw [hTA.out]; exact HTT.out)], (hBi.alloc (by omega) _).drewN nq⟩
                case measure => simp [intOf]; omega
              · have f2 : decide (l[m].b - l[j].b < 2) = false := by simpa using h12
                clear ht
                go_wp2_with fail
                go_quiet (fail)
                go_wp2_with fail
                go_roundw
                case rel => exact ⟨m + 1, by omega, by go_num, by rw [bitsUpto, if_neg (by rw [hTA.out]; exact HTT.out)], (hBi.alloc (by omega) _).drewN nq⟩
                case measure => simp [intOf]; omega
            · have f1 : decide ((X : Int) < (Y : Int)) = false := by simpa using hxy
              clear ht
              go_wp2_with fail
              go_quiet (fail)
              go_wp2_with fail
              go_roundw
              case rel => exact ⟨m + 1, by omega, by go_num, by rw [bitsUpto, if_neg (by rw [hTA.out]; exact HTT.out)], (hBi.alloc (by omega) _).drewN nq⟩
              case measure => simp [intOf]; omega
        · have e2 : m = j := by omega
          subst e2
          have hkp2 := (hkp.below' hW).below' hBi
          have hown2 := (hown.below hW).below hBi
          have s2 := hkp2.cell 2 v rfl
          have s2l := hkp2.lt
          have hne : ∀ g, g < w2.heap.size → some g ≠ v.ownBlock := fun g hg e => by have := (World.ownsRow.lt hown g e.symm).1; omega
          have HBI := Lib.hid (show bitsUpto (touchAt l m) m = bfAt l m from rfl)
          go_wp2_with (first
            | (at_builtin; refine wpList_append_n rfl (.tmp 91) (.tmp 93) _ rfl w2.heap.size _ i0 _ Tryz.underlying48 hi0 hz0' hz1' hz2' rfl v ((List.range m).map (bfAt l)) rfl (hown2.alloc _) wr.heap.size (bitsUpto (touchAt l m) m) rfl (cell_new rfl) (by simp; omega) (by simp; omega) ?_; intro v' w4 hown4 hg4
               have hkp4 := (hkp2.alloc (.cells #[.int .i64 (bitsUpto (touchAt l m) m)] 3)).grown hg4 (hne _ n2)
               obtain ⟨A4, c4, hv4, _, _⟩ := Own.rd nenc_len hown4
               subst hv4
               have s4 := hkp4.cell 2 v rfl
               have s4f := hkp4.frozen 2
               have s4l := hkp4.lt))
          go_roundw
          case rel =>
            have hS4 : Same (fun k => k < w2.heap.size ∧ k ≠ w1.heap.size + 1) w2 w4 := ((hS.trans (Same.below_mono hW (fun k hk => by omega))).trans (Same.below_mono hBi (fun k hk => by omega))).trans ⟨hg4.os, hg4.tape, hg4.output, Nat.le_trans (by simp) hg4.size, fun k hk => (hg4.block k (by simp; omega) (hne k hk.1)).trans (Below.heap_alloc wr _ k (by omega))⟩
            refine ⟨m + 1, _, by omega, by go_num, hkp4.set_ 2 _, ?_, hS4.setCell (p := ⟨w1.heap.size + 1, 2, none⟩) (fun e => e.2 rfl) _⟩
            rw [List.range_succ, List.map_append, List.map_cons, List.map_nil, ← HBI.out]
            exact Own.far (by simpa using hown4) (p := ⟨w1.heap.size + 1, 2, none⟩) n2 _
          case measure => simp [intOf]; omega
    · have e2 : j = l.length := by omega
      subst e2
      have hsb0 := kSr.cell 0 (.int .i64 P) rfl
      have hsbl := kSr.lt
      go_wp2_with fail
      go_cut [15, 16] (fun xa xb wx => ∃ n15 n16 : Nat, xa = .pointer (some ⟨n15, 0, none⟩) ∧ xb = .pointer (some ⟨n16, 0, none⟩) ∧ n15 ≠ n16 ∧ wr.heap.size ≤ n15 ∧ wr.heap.size ≤ n16 ∧ Blk wx n15 94 #[.int .i64 0, .int .i64 1, .int .i64 0] ∧ Blk wx n16 33 #[.int .i64 P, .slice none 0 0] ∧ Below wr.heap.size wr wx)
      case first =>
        refine wp_region_J (fun w' => w'.cell? ⟨w.heap.size, 0, none⟩ = some (.int .i64 P)) (fun _ => True) (fun _ => false) (by kernel_rfl) ?_
        have hB0 : Below wr.heap.size wr wr.drew := (Below.refl _ _).drew
        have hS1 : wr.drew.cell? ⟨w.heap.size, 0, none⟩ = some (.int .i64 P) := hsb0
        generalize wr.drew = W0 at *
        refine wpAnyJ_take1 2 rfl (by kernel_rfl) (by kernel_rfl) rfl (by kernel_rfl) (fun _ _ _ h => h) (by rfl) hS1 (fun w' hSw => (by obtain hSw := hSw; go_simp; try (with_reducible rfl))) ?_
        try simp only [Act.put, List.getElem_toArray, List.getElem_cons_succ, List.getElem_cons_zero, List.setIfInBounds_toArray, List.set_cons_zero, List.set_cons_succ]
        refine wpAnyJ_take1 3 rfl (by kernel_rfl) (by kernel_rfl) rfl (by kernel_rfl) (fun _ _ _ h => h) (by rfl) hS1 (fun w' hSw => (by obtain hSw := hSw; go_simp; try (with_reducible rfl))) ?_
        try simp only [Act.put, List.getElem_toArray, List.getElem_cons_succ, List.getElem_cons_zero, List.setIfInBounds_toArray, List.set_cons_zero, List.set_cons_succ]
        refine wpAnyJ_take1 4 rfl (by kernel_rfl) (by kernel_rfl) rfl (by kernel_rfl) (fun _ _ _ h => h) (by rfl) hS1 (fun w' hSw => (by obtain hSw := hSw; go_simp; try (with_reducible rfl))) ?_
        try simp only [Act.put, List.getElem_toArray, List.getElem_cons_succ, List.getElem_cons_zero, List.setIfInBounds_toArray, List.set_cons_zero, List.set_cons_succ]
        refine wpAnyJ_ready [0, 5, 6] (by kernel_rfl) (by simp) (NextJ.cons rfl (fun K hK => ?_) (NextJ.cons rfl (fun K hK => ?_) (NextJ.cons rfl (fun K hK => ?_) NextJ.nil)))
        · skip
          go_simp
          refine (nowhere_any _).mono ?_
          rintro e W1 ⟨rfl, hc1⟩
          have hB1 := hB0.trans (hc1.mono hB0.size)
          have hs1 := hc1.size
          go_simp
          refine hK.out _ _ ((hB1.cell (p := ⟨w.heap.size, 0, none⟩) hsbl).trans hsb0) (fun h => absurd h (by decide)) ?_
          clear hK K
          try simp only [Act.put, List.getElem_toArray, List.getElem_cons_succ, List.getElem_cons_zero, List.setIfInBounds_toArray, List.set_cons_zero, List.set_cons_succ]
          have hS1 := (hB1.cell (p := ⟨w.heap.size, 0, none⟩) hsbl).trans hsb0
          refine wpAnyJ_take1 1 rfl (by kernel_rfl) (by kernel_rfl) rfl (by kernel_rfl) (fun _ _ _ h => h) (by rfl) hS1 (fun w' hSw => (by obtain hSw := hSw; go_simp; try (with_reducible rfl))) ?_
          try simp only [Act.put, List.getElem_toArray, List.getElem_cons_succ, List.getElem_cons_zero, List.setIfInBounds_toArray, List.set_cons_zero, List.set_cons_succ]
          refine wpAnyJ_ready [5, 6] (by kernel_rfl) (by simp) (NextJ.cons rfl (fun K hK => ?_) (NextJ.cons rfl (fun K hK => ?_) NextJ.nil))
          · skip
            go_simp
            have hB2 := hB1.alloc hB1.size (.cells #[.int .i64 0, .int .i64 0, .int .i64 0] 94)
            have h15 := Blk.new W1 94 #[.int .i64 0, .int .i64 0, .int .i64 0]
            generalize W1.alloc (.cells #[.int .i64 0, .int .i64 0, .int .i64 0] 94) = W2 at *
            have hs2 : W1.heap.size < W2.heap.size := h15.lt
            refine hK.out _ _ ((hB2.cell (p := ⟨w.heap.size, 0, none⟩) hsbl).trans hsb0) (fun h => absurd h (by decide)) ?_
            clear hK K
            try simp only [Act.put, List.getElem_toArray, List.getElem_cons_succ, List.getElem_cons_zero, List.setIfInBounds_toArray, List.set_cons_zero, List.set_cons_succ]
            have hS1 := (hB2.cell (p := ⟨w.heap.size, 0, none⟩) hsbl).trans hsb0
            refine wpAnyJ_ready [6] (by kernel_rfl) (by simp) (NextJ.cons rfl (fun K hK => ?_) NextJ.nil)
            · skip
              go_simp
              have hB3 := hB2.alloc hB2.size (.cells #[.int .i64 0, .slice none 0 0] 33)
              have h15 := h15.alloc (.cells #[.int .i64 0, .slice none 0 0] 33)
              have h16 := Blk.new W2 33 #[.int .i64 0, .slice none 0 0]
              generalize W2.alloc (.cells #[.int .i64 0, .slice none 0 0] 33) = W3 at *
              have hs3 : W2.heap.size < W3.heap.size := h16.lt
              refine hK.out _ _ ((hB3.cell (p := ⟨w.heap.size, 0, none⟩) hsbl).trans hsb0) (fun h => absurd h (by decide)) ?_
              clear hK K
              try simp only [Act.put, List.getElem_toArray, List.getElem_cons_succ, List.getElem_cons_zero, List.setIfInBounds_toArray, List.set_cons_zero, List.set_cons_succ]
              have hS1 := (hB3.cell (p := ⟨w.heap.size, 0, none⟩) hsbl).trans hsb0
              have hne : W1.heap.size ≠ W2.heap.size := by omega
              have g1 : wr.heap.size ≤ W1.heap.size := hB1.size
              have g2 : wr.heap.size ≤ W2.heap.size := hB2.size
              generalize W1.heap.size = n15 at *
              generalize W2.heap.size = n16 at *
              refine wpAnyJ_ready [7] (by kernel_rfl) (by simp) (NextJ.cons rfl (fun K hK => ?_) NextJ.nil)
              have q0 := h15.cell 0 _ rfl
              have q1 := h15.cell 1 _ rfl
              have q2 := h15.cell 2 _ rfl
              have f0 := h15.frozen 0
              have f1 := h15.frozen 1
              have f2 := h15.frozen 2
              have ql := h15.lt
              go_simp
              have hB7 := ((hB3.setCell (p := ⟨n15, 0, none⟩) g1 (.int .i64 0)).setCell (p := ⟨n15, 1, none⟩) g1 (.int .i64 1)).setCell (p := ⟨n15, 2, none⟩) g1 (.int .i64 0)
              have h15' := ((h15.set_ 0 (.int .i64 0)).set_ 1 (.int .i64 1)).set_ 2 (.int .i64 0)
              have h16' := ((h16.far (p := ⟨n15, 0, none⟩) (Ne.symm hne) (.int .i64 0)).far (p := ⟨n15, 1, none⟩) (Ne.symm hne) (.int .i64 1)).far (p := ⟨n15, 2, none⟩) (Ne.symm hne) (.int .i64 0)
              clear q0 q1 q2 f0 f1 f2 ql
              refine hK.out _ _ ((hB7.cell (p := ⟨w.heap.size, 0, none⟩) hsbl).trans hsb0) (fun h => absurd h (by decide)) ?_
              clear hK K
              try simp only [Act.put, List.getElem_toArray, List.getElem_cons_succ, List.getElem_cons_zero, List.setIfInBounds_toArray, List.set_cons_zero, List.set_cons_succ]
              generalize ((W3.setCell ⟨n15, 0, none⟩ (.int .i64 0)).setCell ⟨n15, 1, none⟩ (.int .i64 1)).setCell ⟨n15, 2, none⟩ (.int .i64 0) = W7 at *
              refine wpAnyJ_ready [8] (by kernel_rfl) (by simp) (NextJ.cons rfl (fun K hK => ?_) NextJ.nil)
              have q0 := h16'.cell 0 _ rfl
              have q1 := h16'.cell 1 _ rfl
              have f0 := h16'.frozen 0
              have f1 := h16'.frozen 1
              have ql := h16'.lt
              go_simp
              have hB8 := (hB7.setCell (p := ⟨n16, 0, none⟩) g2 (.int .i64 P)).setCell (p := ⟨n16, 1, none⟩) g2 (.slice none 0 0)
              have h16'' := (h16'.set_ 0 (.int .i64 P)).set_ 1 (.slice none 0 0)
              have h15'' := (h15'.far (p := ⟨n16, 0, none⟩) hne (.int .i64 P)).far (p := ⟨n16, 1, none⟩) hne (.slice none 0 0)
              refine hK.out _ _ ((hB8.cell (p := ⟨w.heap.size, 0, none⟩) hsbl).trans hsb0) (fun h => absurd h (by decide)) ?_
              clear hK K
              try simp only [Act.put, List.getElem_toArray, List.getElem_cons_succ, List.getElem_cons_zero, List.setIfInBounds_toArray, List.set_cons_zero, List.set_cons_succ]
              clear q0 q1 f0 f1 ql
              refine wpAnyJ_done (by kernel_rfl) ?_ _
              go_wp2_with fail
              go_meet
              exact ⟨n15, n16, rfl, rfl, hne, g1, g2, h15'', h16'', hB8⟩
          · skip
            go_simp
            have hB2 := hB1.alloc hB1.size (.cells #[.int .i64 0, .slice none 0 0] 33)
            have h16 := Blk.new W1 33 #[.int .i64 0, .slice none 0 0]
            generalize W1.alloc (.cells #[.int .i64 0, .slice none 0 0] 33) = W2 at *
            have hs2 : W1.heap.size < W2.heap.size := h16.lt
            refine hK.out _ _ ((hB2.cell (p := ⟨w.heap.size, 0, none⟩) hsbl).trans hsb0) (fun h => absurd h (by decide)) ?_
            clear hK K
            try simp only [Act.put, List.getElem_toArray, List.getElem_cons_succ, List.getElem_cons_zero, List.setIfInBounds_toArray, List.set_cons_zero, List.set_cons_succ]
            have hS1 := (hB2.cell (p := ⟨w.heap.size, 0, none⟩) hsbl).trans hsb0
            refine wpAnyJ_ready [5] (by kernel_rfl) (by simp) (NextJ.cons rfl (fun K hK => ?_) NextJ.nil)
            · skip
              go_simp
              have hB3 := hB2.alloc hB2.size (.cells #[.int .i64 0, .int .i64 0, .int .i64 0] 94)
              have h16 := h16.alloc (.cells #[.int .i64 0, .int .i64 0, .int .i64 0] 94)
              have h15 := Blk.new W2 94 #[.int .i64 0, .int .i64 0, .int .i64 0]
              generalize W2.alloc (.cells #[.int .i64 0, .int .i64 0, .int .i64 0] 94) = W3 at *
              have hs3 : W2.heap.size < W3.heap.size := h15.lt
              refine hK.out _ _ ((hB3.cell (p := ⟨w.heap.size, 0, none⟩) hsbl).trans hsb0) (fun h => absurd h (by decide)) ?_
              clear hK K
              try simp only [Act.put, List.getElem_toArray, List.getElem_cons_succ, List.getElem_cons_zero, List.setIfInBounds_toArray, List.set_cons_zero, List.set_cons_succ]
              have hS1 := (hB3.cell (p := ⟨w.heap.size, 0, none⟩) hsbl).trans hsb0
              have hne : W2.heap.size ≠ W1.heap.size := by omega
              have g1 : wr.heap.size ≤ W2.heap.size := hB2.size
              have g2 : wr.heap.size ≤ W1.heap.size := hB1.size
              generalize W2.heap.size = n15 at *
              generalize W1.heap.size = n16 at *
              refine wpAnyJ_ready [7] (by kernel_rfl) (by simp) (NextJ.cons rfl (fun K hK => ?_) NextJ.nil)
              have q0 := h15.cell 0 _ rfl
              have q1 := h15.cell 1 _ rfl
              have q2 := h15.cell 2 _ rfl
              have f0 := h15.frozen 0
              have f1 := h15.frozen 1
              have f2 := h15.frozen 2
              have ql := h15.lt
              go_simp
              have hB7 := ((hB3.setCell (p := ⟨n15, 0, none⟩) g1 (.int .i64 0)).setCell (p := ⟨n15, 1, none⟩) g1 (.int .i64 1)).setCell (p := ⟨n15, 2, none⟩) g1 (.int .i64 0)
              have h15' := ((h15.set_ 0 (.int .i64 0)).set_ 1 (.int .i64 1)).set_ 2 (.int .i64 0)
              have h16' := ((h16.far (p := ⟨n15, 0, none⟩) (Ne.symm hne) (.int .i64 0)).far (p := ⟨n15, 1, none⟩) (Ne.symm hne) (.int .i64 1)).far (p := ⟨n15, 2, none⟩) (Ne.symm hne) (.int .i64 0)
              clear q0 q1 q2 f0 f1 f2 ql
              refine hK.out _ _ ((hB7.cell (p := ⟨w.heap.size, 0, none⟩) hsbl).trans hsb0) (fun h => absurd h (by decide)) ?_
              clear hK K
              try simp only [Act.put, List.getElem_toArray, List.getElem_cons_succ, List.getElem_cons_zero, List.setIfInBounds_toArray, List.set_cons_zero, List.set_cons_succ]
              generalize ((W3.setCell ⟨n15, 0, none⟩ (.int .i64 0)).setCell ⟨n15, 1, none⟩ (.int .i64 1)).setCell ⟨n15, 2, none⟩ (.int .i64 0) = W7 at *
              refine wpAnyJ_ready [8] (by kernel_rfl) (by simp) (NextJ.cons rfl (fun K hK => ?_) NextJ.nil)
              have q0 := h16'.cell 0 _ rfl
              have q1 := h16'.cell 1 _ rfl
              have f0 := h16'.frozen 0
              have f1 := h16'.frozen 1
              have ql := h16'.lt
              go_simp
              have hB8 := (hB7.setCell (p := ⟨n16, 0, none⟩) g2 (.int .i64 P)).setCell (p := ⟨n16, 1, none⟩) g2 (.slice none 0 0)
              have h16'' := (h16'.set_ 0 (.int .i64 P)).set_ 1 (.slice none 0 0)
              have h15'' := (h15'.far (p := ⟨n16, 0, none⟩) hne (.int .i64 P)).far (p := ⟨n16, 1, none⟩) hne (.slice none 0 0)
              refine hK.out _ _ ((hB8.cell (p := ⟨w.heap.size, 0, none⟩) hsbl).trans hsb0) (fun h => absurd h (by decide)) ?_
              clear hK K
              try simp only [Act.put, List.getElem_toArray, List.getElem_cons_succ, List.getElem_cons_zero, List.setIfInBounds_toArray, List.set_cons_zero, List.set_cons_succ]
              clear q0 q1 f0 f1 ql
              refine wpAnyJ_done (by kernel_rfl) ?_ _
              go_wp2_with fail
              go_meet
              exact ⟨n15, n16, rfl, rfl, hne, g1, g2, h15'', h16'', hB8⟩
        · skip
          go_simp
          have hB1 := hB0.alloc hB0.size (.cells #[.int .i64 0, .int .i64 0, .int .i64 0] 94)
          have h15 := Blk.new W0 94 #[.int .i64 0, .int .i64 0, .int .i64 0]
          generalize W0.alloc (.cells #[.int .i64 0, .int .i64 0, .int .i64 0] 94) = W1 at *
          have hs1 : W0.heap.size < W1.heap.size := h15.lt
          refine hK.out _ _ ((hB1.cell (p := ⟨w.heap.size, 0, none⟩) hsbl).trans hsb0) (fun h => absurd h (by decide)) ?_
          clear hK K
          try simp only [Act.put, List.getElem_toArray, List.getElem_cons_succ, List.getElem_cons_zero, List.setIfInBounds_toArray, List.set_cons_zero, List.set_cons_succ]
          have hS1 := (hB1.cell (p := ⟨w.heap.size, 0, none⟩) hsbl).trans hsb0
          refine wpAnyJ_ready [0, 6] (by kernel_rfl) (by simp) (NextJ.cons rfl (fun K hK => ?_) (NextJ.cons rfl (fun K hK => ?_) NextJ.nil))
          · skip
            go_simp
            refine (nowhere_any _).mono ?_
            rintro e W2 ⟨rfl, hc2⟩
            have hB2 := hB1.trans (hc2.mono hB1.size)
            have h15 := h15.below' hc2
            have hs2 := hc2.size
            go_simp
            refine hK.out _ _ ((hB2.cell (p := ⟨w.heap.size, 0, none⟩) hsbl).trans hsb0) (fun h => absurd h (by decide)) ?_
            clear hK K
            try simp only [Act.put, List.getElem_toArray, List.getElem_cons_succ, List.getElem_cons_zero, List.setIfInBounds_toArray, List.set_cons_zero, List.set_cons_succ]
            have hS1 := (hB2.cell (p := ⟨w.heap.size, 0, none⟩) hsbl).trans hsb0
            refine wpAnyJ_take1 1 rfl (by kernel_rfl) (by kernel_rfl) rfl (by kernel_rfl) (fun _ _ _ h => h) (by rfl) hS1 (fun w' hSw => (by obtain hSw := hSw; go_simp; try (with_reducible rfl))) ?_
            try simp only [Act.put, List.getElem_toArray, List.getElem_cons_succ, List.getElem_cons_zero, List.setIfInBounds_toArray, List.set_cons_zero, List.set_cons_succ]
            refine wpAnyJ_ready [6] (by kernel_rfl) (by simp) (NextJ.cons rfl (fun K hK => ?_) NextJ.nil)
            · skip
              go_simp
              have hB3 := hB2.alloc hB2.size (.cells #[.int .i64 0, .slice none 0 0] 33)
              have h15 := h15.alloc (.cells #[.int .i64 0, .slice none 0 0] 33)
              have h16 := Blk.new W2 33 #[.int .i64 0, .slice none 0 0]
              generalize W2.alloc (.cells #[.int .i64 0, .slice none 0 0] 33) = W3 at *
              have hs3 : W2.heap.size < W3.heap.size := h16.lt
              refine hK.out _ _ ((hB3.cell (p := ⟨w.heap.size, 0, none⟩) hsbl).trans hsb0) (fun h => absurd h (by decide)) ?_
              clear hK K
              try simp only [Act.put, List.getElem_toArray, List.getElem_cons_succ, List.getElem_cons_zero, List.setIfInBounds_toArray, List.set_cons_zero, List.set_cons_succ]
              have hS1 := (hB3.cell (p := ⟨w.heap.size, 0, none⟩) hsbl).trans hsb0
              have hne : W0.heap.size ≠ W2.heap.size := by omega
              have g1 : wr.heap.size ≤ W0.heap.size := hB0.size
              have g2 : wr.heap.size ≤ W2.heap.size := hB2.size
              generalize W0.heap.size = n15 at *
              generalize W2.heap.size = n16 at *
              refine wpAnyJ_ready [7] (by kernel_rfl) (by simp) (NextJ.cons rfl (fun K hK => ?_) NextJ.nil)
              have q0 := h15.cell 0 _ rfl
              have q1 := h15.cell 1 _ rfl
              have q2 := h15.cell 2 _ rfl
              have f0 := h15.frozen 0
              have f1 := h15.frozen 1
              have f2 := h15.frozen 2
              have ql := h15.lt
              go_simp
              have hB7 := ((hB3.setCell (p := ⟨n15, 0, none⟩) g1 (.int .i64 0)).setCell (p := ⟨n15, 1, none⟩) g1 (.int .i64 1)).setCell (p := ⟨n15, 2, none⟩) g1 (.int .i64 0)
              have h15' := ((h15.set_ 0 (.int .i64 0)).set_ 1 (.int .i64 1)).set_ 2 (.int .i64 0)
              have h16' := ((h16.far (p := ⟨n15, 0, none⟩) (Ne.symm hne) (.int .i64 0)).far (p := ⟨n15, 1, none⟩) (Ne.symm hne) (.int .i64 1)).far (p := ⟨n15, 2, none⟩) (Ne.symm hne) (.int .i64 0)
              clear q0 q1 q2 f0 f1 f2 ql
              refine hK.out _ _ ((hB7.cell (p := ⟨w.heap.size, 0, none⟩) hsbl).trans hsb0) (fun h => absurd h (by decide)) ?_
              clear hK K
              try simp only [Act.put, List.getElem_toArray, List.getElem_cons_succ, List.getElem_cons_zero, List.setIfInBounds_toArray, List.set_cons_zero, List.set_cons_succ]
              generalize ((W3.setCell ⟨n15, 0, none⟩ (.int .i64 0)).setCell ⟨n15, 1, none⟩ (.int .i64 1)).setCell ⟨n15, 2, none⟩ (.int .i64 0) = W7 at *
              refine wpAnyJ_ready [8] (by kernel_rfl) (by simp) (NextJ.cons rfl (fun K hK => ?_) NextJ.nil)
              have q0 := h16'.cell 0 _ rfl
              have q1 := h16'.cell 1 _ rfl
              have f0 := h16'.frozen 0
              have f1 := h16'.frozen 1
              have ql := h16'.lt
              go_simp
              have hB8 := (hB7.setCell (p := ⟨n16, 0, none⟩) g2 (.int .i64 P)).setCell (p := ⟨n16, 1, none⟩) g2 (.slice none 0 0)
              have h16'' := (h16'.set_ 0 (.int .i64 P)).set_ 1 (.slice none 0 0)
              have h15'' := (h15'.far (p := ⟨n16, 0, none⟩) hne (.int .i64 P)).far (p := ⟨n16, 1, none⟩) hne (.slice none 0 0)
              refine hK.out _ _ ((hB8.cell (p := ⟨w.heap.size, 0, none⟩) hsbl).trans hsb0) (fun h => absurd h (by decide)) ?_
              clear hK K
              try simp only [Act.put, List.getElem_toArray, List.getElem_cons_succ, List.getElem_cons_zero, List.setIfInBounds_toArray, List.set_cons_zero, List.set_cons_succ]
              clear q0 q1 f0 f1 ql
              refine wpAnyJ_done (by kernel_rfl) ?_ _
              go_wp2_with fail
              go_meet
              exact ⟨n15, n16, rfl, rfl, hne, g1, g2, h15'', h16'', hB8⟩
          · skip
            go_simp
            have hB2 := hB1.alloc hB1.size (.cells #[.int .i64 0, .slice none 0 0] 33)
            have h15 := h15.alloc (.cells #[.int .i64 0, .slice none 0 0] 33)
            have h16 := Blk.new W1 33 #[.int .i64 0, .slice none 0 0]
            generalize W1.alloc (.cells #[.int .i64 0, .slice none 0 0] 33) = W2 at *
            have hs2 : W1.heap.size < W2.heap.size := h16.lt
            refine hK.out _ _ ((hB2.cell (p := ⟨w.heap.size, 0, none⟩) hsbl).trans hsb0) (fun h => absurd h (by decide)) ?_
            clear hK K
            try simp only [Act.put, List.getElem_toArray, List.getElem_cons_succ, List.getElem_cons_zero, List.setIfInBounds_toArray, List.set_cons_zero, List.set_cons_succ]
            have hS1 := (hB2.cell (p := ⟨w.heap.size, 0, none⟩) hsbl).trans hsb0
            refine wpAnyJ_ready [0] (by kernel_rfl) (by simp) (NextJ.cons rfl (fun K hK => ?_) NextJ.nil)
            · skip
              go_simp
              refine (nowhere_any _).mono ?_
              rintro e W3 ⟨rfl, hc3⟩
              have hB3 := hB2.trans (hc3.mono hB2.size)
              have h15 := h15.below' hc3
              have h16 := h16.below' hc3
              have hs3 := hc3.size
              go_simp
              refine hK.out _ _ ((hB3.cell (p := ⟨w.heap.size, 0, none⟩) hsbl).trans hsb0) (fun h => absurd h (by decide)) ?_
              clear hK K
              try simp only [Act.put, List.getElem_toArray, List.getElem_cons_succ, List.getElem_cons_zero, List.setIfInBounds_toArray, List.set_cons_zero, List.set_cons_succ]
              have hS1 := (hB3.cell (p := ⟨w.heap.size, 0, none⟩) hsbl).trans hsb0
              refine wpAnyJ_take1 1 rfl (by kernel_rfl) (by kernel_rfl) rfl (by kernel_rfl) (fun _ _ _ h => h) (by rfl) hS1 (fun w' hSw => (by obtain hSw := hSw; go_simp; try (with_reducible rfl))) ?_
              try simp only [Act.put, List.getElem_toArray, List.getElem_cons_succ, List.getElem_cons_zero, List.setIfInBounds_toArray, List.set_cons_zero, List.set_cons_succ]
              have hne : W0.heap.size ≠ W1.heap.size := by omega
              have g1 : wr.heap.size ≤ W0.heap.size := hB0.size
              have g2 : wr.heap.size ≤ W1.heap.size := hB1.size
              generalize W0.heap.size = n15 at *
              generalize W1.heap.size = n16 at *
              refine wpAnyJ_ready [7] (by kernel_rfl) (by simp) (NextJ.cons rfl (fun K hK => ?_) NextJ.nil)
              have q0 := h15.cell 0 _ rfl
              have q1 := h15.cell 1 _ rfl
              have q2 := h15.cell 2 _ rfl
              have f0 := h15.frozen 0
              have f1 := h15.frozen 1
              have f2 := h15.frozen 2
              have ql := h15.lt
              go_simp
              have hB7 := ((hB3.setCell (p := ⟨n15, 0, none⟩) g1 (.int .i64 0)).setCell (p := ⟨n15, 1, none⟩) g1 (.int .i64 1)).setCell (p := ⟨n15, 2, none⟩) g1 (.int .i64 0)
              have h15' := ((h15.set_ 0 (.int .i64 0)).set_ 1 (.int .i64 1)).set_ 2 (.int .i64 0)
              have h16' := ((h16.far (p := ⟨n15, 0, none⟩) (Ne.symm hne) (.int .i64 0)).far (p := ⟨n15, 1, none⟩) (Ne.symm hne) (.int .i64 1)).far (p := ⟨n15, 2, none⟩) (Ne.symm hne) (.int .i64 0)
              clear q0 q1 q2 f0 f1 f2 ql
              refine hK.out _ _ ((hB7.cell (p := ⟨w.heap.size, 0, none⟩) hsbl).trans hsb0) (fun h => absurd h (by decide)) ?_
              clear hK K
              try simp only [Act.put, List.getElem_toArray, List.getElem_cons_succ, List.getElem_cons_zero, List.setIfInBounds_toArray, List.set_cons_zero, List.set_cons_succ]
              generalize ((W3.setCell ⟨n15, 0, none⟩ (.int .i64 0)).setCell ⟨n15, 1, none⟩ (.int .i64 1)).setCell ⟨n15, 2, none⟩ (.int .i64 0) = W7 at *
              refine wpAnyJ_ready [8] (by kernel_rfl) (by simp) (NextJ.cons rfl (fun K hK => ?_) NextJ.nil)
              have q0 := h16'.cell 0 _ rfl
              have q1 := h16'.cell 1 _ rfl
              have f0 := h16'.frozen 0
              have f1 := h16'.frozen 1
              have ql := h16'.lt
              go_simp
              have hB8 := (hB7.setCell (p := ⟨n16, 0, none⟩) g2 (.int .i64 P)).setCell (p := ⟨n16, 1, none⟩) g2 (.slice none 0 0)
              have h16'' := (h16'.set_ 0 (.int .i64 P)).set_ 1 (.slice none 0 0)
              have h15'' := (h15'.far (p := ⟨n16, 0, none⟩) hne (.int .i64 P)).far (p := ⟨n16, 1, none⟩) hne (.slice none 0 0)
              refine hK.out _ _ ((hB8.cell (p := ⟨w.heap.size, 0, none⟩) hsbl).trans hsb0) (fun h => absurd h (by decide)) ?_
              clear hK K
              try simp only [Act.put, List.getElem_toArray, List.getElem_cons_succ, List.getElem_cons_zero, List.setIfInBounds_toArray, List.set_cons_zero, List.set_cons_succ]
              clear q0 q1 f0 f1 ql
              refine wpAnyJ_done (by kernel_rfl) ?_ _
              go_wp2_with fail
              go_meet
              exact ⟨n15, n16, rfl, rfl, hne, g1, g2, h15'', h16'', hB8⟩
        · skip
          go_simp
          have hB1 := hB0.alloc hB0.size (.cells #[.int .i64 0, .slice none 0 0] 33)
          have h16 := Blk.new W0 33 #[.int .i64 0, .slice none 0 0]
          generalize W0.alloc (.cells #[.int .i64 0, .slice none 0 0] 33) = W1 at *
          have hs1 : W0.heap.size < W1.heap.size := h16.lt
          refine hK.out _ _ ((hB1.cell (p := ⟨w.heap.size, 0, none⟩) hsbl).trans hsb0) (fun h => absurd h (by decide)) ?_
          clear hK K
          try simp only [Act.put, List.getElem_toArray, List.getElem_cons_succ, List.getElem_cons_zero, List.setIfInBounds_toArray, List.set_cons_zero, List.set_cons_succ]
          have hS1 := (hB1.cell (p := ⟨w.heap.size, 0, none⟩) hsbl).trans hsb0
          refine wpAnyJ_ready [0, 5] (by kernel_rfl) (by simp) (NextJ.cons rfl (fun K hK => ?_) (NextJ.cons rfl (fun K hK => ?_) NextJ.nil))
          · skip
            go_simp
            refine (nowhere_any _).mono ?_
            rintro e W2 ⟨rfl, hc2⟩
            have hB2 := hB1.trans (hc2.mono hB1.size)
            have h16 := h16.below' hc2
            have hs2 := hc2.size
            go_simp
            refine hK.out _ _ ((hB2.cell (p := ⟨w.heap.size, 0, none⟩) hsbl).trans hsb0) (fun h => absurd h (by decide)) ?_
            clear hK K
            try simp only [Act.put, List.getElem_toArray, List.getElem_cons_succ, List.getElem_cons_zero, List.setIfInBounds_toArray, List.set_cons_zero, List.set_cons_succ]
            have hS1 := (hB2.cell (p := ⟨w.heap.size, 0, none⟩) hsbl).trans hsb0
            refine wpAnyJ_take1 1 rfl (by kernel_rfl) (by kernel_rfl) rfl (by kernel_rfl) (fun _ _ _ h => h) (by rfl) hS1 (fun w' hSw => (by obtain hSw := hSw; go_simp; try (with_reducible rfl))) ?_
            try simp only [Act.put, List.getElem_toArray, List.getElem_cons_succ, List.getElem_cons_zero, List.setIfInBounds_toArray, List.set_cons_zero, List.set_cons_succ]
            refine wpAnyJ_ready [5] (by kernel_rfl) (by simp) (NextJ.cons rfl (fun K hK => ?_) NextJ.nil)
            · skip
              go_simp
              have hB3 := hB2.alloc hB2.size (.cells #[.int .i64 0, .int .i64 0, .int .i64 0] 94)
              have h16 := h16.alloc (.cells #[.int .i64 0, .int .i64 0, .int .i64 0] 94)
              have h15 := Blk.new W2 94 #[.int .i64 0, .int .i64 0, .int .i64 0]
              generalize W2.alloc (.cells #[.int .i64 0, .int .i64 0, .int .i64 0] 94) = W3 at *
              have hs3 : W2.heap.size < W3.heap.size := h15.lt
              refine hK.out _ _ ((hB3.cell (p := ⟨w.heap.size, 0, none⟩) hsbl).trans hsb0) (fun h => absurd h (by decide)) ?_
              clear hK K
              try simp only [Act.put, List.getElem_toArray, List.getElem_cons_succ, List.getElem_cons_zero, List.setIfInBounds_toArray, List.set_cons_zero, List.set_cons_succ]
              have hS1 := (hB3.cell (p := ⟨w.heap.size, 0, none⟩) hsbl).trans hsb0
              have hne : W2.heap.size ≠ W0.heap.size := by omega
              have g1 : wr.heap.size ≤ W2.heap.size := hB2.size
              have g2 : wr.heap.size ≤ W0.heap.size := hB0.size
              generalize W2.heap.size = n15 at *
              generalize W0.heap.size = n16 at *
              refine wpAnyJ_ready [7] (by kernel_rfl) (by simp) (NextJ.cons rfl (fun K hK => ?_) NextJ.nil)
              have q0 := h15.cell 0 _ rfl
              have q1 := h15.cell 1 _ rfl
              have q2 := h15.cell 2 _ rfl
              have f0 := h15.frozen 0
              have f1 := h15.frozen 1
              have f2 := h15.frozen 2
              have ql := h15.lt
              go_simp
              have hB7 := ((hB3.setCell (p := ⟨n15, 0, none⟩) g1 (.int .i64 0)).setCell (p := ⟨n15, 1, none⟩) g1 (.int .i64 1)).setCell (p := ⟨n15, 2, none⟩) g1 (.int .i64 0)
              have h15' := ((h15.set_ 0 (.int .i64 0)).set_ 1 (.int .i64 1)).set_ 2 (.int .i64 0)
              have h16' := ((h16.far (p := ⟨n15, 0, none⟩) (Ne.symm hne) (.int .i64 0)).far (p := ⟨n15, 1, none⟩) (Ne.symm hne) (.int .i64 1)).far (p := ⟨n15, 2, none⟩) (Ne.symm hne) (.int .i64 0)
              clear q0 q1 q2 f0 f1 f2 ql
              refine hK.out _ _ ((hB7.cell (p := ⟨w.heap.size, 0, none⟩) hsbl).trans hsb0) (fun h => absurd h (by decide)) ?_
              clear hK K
              try simp only [Act.put, List.getElem_toArray, List.getElem_cons_succ, List.getElem_cons_zero, List.setIfInBounds_toArray, List.set_cons_zero, List.set_cons_succ]
              generalize ((W3.setCell ⟨n15, 0, none⟩ (.int .i64 0)).setCell ⟨n15, 1, none⟩ (.int .i64 1)).setCell ⟨n15, 2, none⟩ (.int .i64 0) = W7 at *
              refine wpAnyJ_ready [8] (by kernel_rfl) (by simp) (NextJ.cons rfl (fun K hK => ?_) NextJ.nil)
              have q0 := h16'.cell 0 _ rfl
              have q1 := h16'.cell 1 _ rfl
              have f0 := h16'.frozen 0
              have f1 := h16'.frozen 1
              have ql := h16'.lt
              go_simp
              have hB8 := (hB7.setCell (p := ⟨n16, 0, none⟩) g2 (.int .i64 P)).setCell (p := ⟨n16, 1, none⟩) g2 (.slice none 0 0)
              have h16'' := (h16'.set_ 0 (.int .i64 P)).set_ 1 (.slice none 0 0)
              have h15'' := (h15'.far (p := ⟨n16, 0, none⟩) hne (.int .i64 P)).far (p := ⟨n16, 1, none⟩) hne (.slice none 0 0)
              refine hK.out _ _ ((hB8.cell (p := ⟨w.heap.size, 0, none⟩) hsbl).trans hsb0) (fun h => absurd h (by decide)) ?_
              clear hK K
              try simp only [Act.put, List.getElem_toArray, List.getElem_cons_succ, List.getElem_cons_zero, List.setIfInBounds_toArray, List.set_cons_zero, List.set_cons_succ]
              clear q0 q1 f0 f1 ql
              refine wpAnyJ_done (by kernel_rfl) ?_ _
              go_wp2_with fail
              go_meet
              exact ⟨n15, n16, rfl, rfl, hne, g1, g2, h15'', h16'', hB8⟩
          · skip
            go_simp
            have hB2 := hB1.alloc hB1.size (.cells #[.int .i64 0, .int .i64 0, .int .i64 0] 94)
            have h16 := h16.alloc (.cells #[.int .i64 0, .int .i64 0, .int .i64 0] 94)
            have h15 := Blk.new W1 94 #[.int .i64 0, .int .i64 0, .int .i64 0]
            generalize W1.alloc (.cells #[.int .i64 0, .int .i64 0, .int .i64 0] 94) = W2 at *
            have hs2 : W1.heap.size < W2.heap.size := h15.lt
            refine hK.out _ _ ((hB2.cell (p := ⟨w.heap.size, 0, none⟩) hsbl).trans hsb0) (fun h => absurd h (by decide)) ?_
            clear hK K
            try simp only [Act.put, List.getElem_toArray, List.getElem_cons_succ, List.getElem_cons_zero, List.setIfInBounds_toArray, List.set_cons_zero, List.set_cons_succ]
            have hS1 := (hB2.cell (p := ⟨w.heap.size, 0, none⟩) hsbl).trans hsb0
            refine wpAnyJ_ready [0] (by kernel_rfl) (by simp) (NextJ.cons rfl (fun K hK => ?_) NextJ.nil)
            · skip
              go_simp
              refine (nowhere_any _).mono ?_
              rintro e W3 ⟨rfl, hc3⟩
              have hB3 := hB2.trans (hc3.mono hB2.size)
              have h16 := h16.below' hc3
              have h15 := h15.below' hc3
              have hs3 := hc3.size
              go_simp
              refine hK.out _ _ ((hB3.cell (p := ⟨w.heap.size, 0, none⟩) hsbl).trans hsb0) (fun h => absurd h (by decide)) ?_
              clear hK K
              try simp only [Act.put, List.getElem_toArray, List.getElem_cons_succ, List.getElem_cons_zero, List.setIfInBounds_toArray, List.set_cons_zero, List.set_cons_succ]
              have hS1 := (hB3.cell (p := ⟨w.heap.size, 0, none⟩) hsbl).trans hsb0
              refine wpAnyJ_take1 1 rfl (by kernel_rfl) (by kernel_rfl) rfl (by kernel_rfl) (fun _ _ _ h => h) (by rfl) hS1 (fun w' hSw => (by obtain hSw := hSw; go_simp; try (with_reducible rfl))) ?_
              try simp only [Act.put, List.getElem_toArray, List.getElem_cons_succ, List.getElem_cons_zero, List.setIfInBounds_toArray, List.set_cons_zero, List.set_cons_succ]
              have hne : W1.heap.size ≠ W0.heap.size := by omega
              have g1 : wr.heap.size ≤ W1.heap.size := hB1.size
              have g2 : wr.heap.size ≤ W0.heap.size := hB0.size
              generalize W1.heap.size = n15 at *
              generalize W0.heap.size = n16 at *
              refine wpAnyJ_ready [7] (by kernel_rfl) (by simp) (NextJ.cons rfl (fun K hK => ?_) NextJ.nil)
              have q0 := h15.cell 0 _ rfl
              have q1 := h15.cell 1 _ rfl
              have q2 := h15.cell 2 _ rfl
              have f0 := h15.frozen 0
              have f1 := h15.frozen 1
              have f2 := h15.frozen 2
              have ql := h15.lt
              go_simp
              have hB7 := ((hB3.setCell (p := ⟨n15, 0, none⟩) g1 (.int .i64 0)).setCell (p := ⟨n15, 1, none⟩) g1 (.int .i64 1)).setCell (p := ⟨n15, 2, none⟩) g1 (.int .i64 0)
              have h15' := ((h15.set_ 0 (.int .i64 0)).set_ 1 (.int .i64 1)).set_ 2 (.int .i64 0)
              have h16' := ((h16.far (p := ⟨n15, 0, none⟩) (Ne.symm hne) (.int .i64 0)).far (p := ⟨n15, 1, none⟩) (Ne.symm hne) (.int .i64 1)).far (p := ⟨n15, 2, none⟩) (Ne.symm hne) (.int .i64 0)
              clear q0 q1 q2 f0 f1 f2 ql
              refine hK.out _ _ ((hB7.cell (p := ⟨w.heap.size, 0, none⟩) hsbl).trans hsb0) (fun h => absurd h (by decide)) ?_
              clear hK K
              try simp only [Act.put, List.getElem_toArray, List.getElem_cons_succ, List.getElem_cons_zero, List.setIfInBounds_toArray, List.set_cons_zero, List.set_cons_succ]
              generalize ((W3.setCell ⟨n15, 0, none⟩ (.int .i64 0)).setCell ⟨n15, 1, none⟩ (.int .i64 1)).setCell ⟨n15, 2, none⟩ (.int .i64 0) = W7 at *
              refine wpAnyJ_ready [8] (by kernel_rfl) (by simp) (NextJ.cons rfl (fun K hK => ?_) NextJ.nil)
              have q0 := h16'.cell 0 _ rfl
              have q1 := h16'.cell 1 _ rfl
              have f0 := h16'.frozen 0
              have f1 := h16'.frozen 1
              have ql := h16'.lt
              go_simp
              have hB8 := (hB7.setCell (p := ⟨n16, 0, none⟩) g2 (.int .i64 P)).setCell (p := ⟨n16, 1, none⟩) g2 (.slice none 0 0)
              have h16'' := (h16'.set_ 0 (.int .i64 P)).set_ 1 (.slice none 0 0)
              have h15'' := (h15'.far (p := ⟨n16, 0, none⟩) hne (.int .i64 P)).far (p := ⟨n16, 1, none⟩) hne (.slice none 0 0)
              refine hK.out _ _ ((hB8.cell (p := ⟨w.heap.size, 0, none⟩) hsbl).trans hsb0) (fun h => absurd h (by decide)) ?_
              clear hK K
              try simp only [Act.put, List.getElem_toArray, List.getElem_cons_succ, List.getElem_cons_zero, List.setIfInBounds_toArray, List.set_cons_zero, List.set_cons_succ]
              clear q0 q1 f0 f1 ql
              refine wpAnyJ_done (by kernel_rfl) ?_ _
              go_wp2_with fail
              go_meet
              exact ⟨n15, n16, rfl, rfl, hne, g1, g2, h15'', h16'', hB8⟩
      case rest =>
        obtain ⟨n15, n16, rfl, rfl, hne, g1, g2, h15, h16, hBr⟩ := hcut
        obtain ⟨s0, hs0, sz0, sz1, sz2⟩ := info_parts infoWork
        have hn15 := h15.lt
        have hn16 := h16.lt
        obtain ⟨wB, rfl⟩ : ∃ wo : World, wo = wr := ⟨_, rfl⟩
        have hown' : Own 1 nenc wB w2.heap.size 3 v (bfL l) := hown
        obtain ⟨Ab, cb, hvb, hbf, hbb⟩ := Own.rdfb hown'
        subst hvb
        have ok := planOk_bfL (P := P) (S := S) hl b1 b2 b3 HH.out
        have hMB : MapK P S l (bfL l) wB w1.heap.size 0 := hM2.same hS ⟨hM2.lt, by omega⟩
        have hPB : PlanAt wB (w1.heap.size + 1) w.heap.size w1.heap.size P S A c l Ab cb (bfL l) H :=
          ⟨hkp.cell 0 _ rfl, hkp.cell 1 _ rfl, hkp.cell 2 _ rfl, hkp.cell 3 _ rfl, hsb0, e1, (hr.below' hBw2 hH).keep (fun q hq => hS.cell (p := q) ⟨by omega, by omega⟩), by omega, by omega, hbf⟩
        have hMC := hMB.below hBr
        have hPC := hPB.same hMB (Same.of_below' hBr)
        have hmw := hMC.lt
        have hBwc : Below w.heap.size w wc := (hBw2.trans (Same.below (hS.mono (fun k hk => ⟨by omega, by omega⟩)))).trans (hBr.mono (by omega))
        have HOK := Lib.hid ok
        have hbl : (bfL l).length = l.length := bfL_len l
        have HBL := Lib.hid hbl
        have HBB := Lib.hid hbb
        clear hkp hown hown' hbf hbb hS hBr hlt hj hLF e1 hMB hPB kSr ok hbl
        have hzc := hBwc.size
        go_wp2_with fail
        go_loopg [17] l.length (fun gk _ wr => ∃ (M : List Nat) (d : Nat) (lo hi : Int) (v : Value) (cnt : Nat), Hid (bsel P S l (bfL l) l.length 0 1 0 = M ++ bsel P S l (bfL l) gk d lo hi) ∧ M.length + gk = l.length ∧ zeros l.length d = gk ∧ Hid (d < 2 ^ l.length) ∧ 0 ≤ lo ∧ lo ≤ 24 ∧ 0 ≤ hi ∧ hi ≤ 24 ∧
          Blk wr n15 94 #[.int .i64 d, .int .i64 lo, .int .i64 hi] ∧ Blk wr n16 33 #[.int .i64 P, v] ∧ Own 3 Tri.enc wr wc.heap.size 79 v (M.map (xAt l)) ∧ Hid (∀ x ∈ M, x < l.length) ∧ Hid (MapK P S l (bfL l) wr w1.heap.size cnt ∧ cnt ≤ M.length * 400000000000) ∧ Same (fun j => j < wc.heap.size ∧ j ≠ w1.heap.size ∧ j ≠ n15 ∧ j ≠ n16) wc wr)
        case atStart => exact ⟨[], 0, 1, 0, .slice none 0 0, 0, by simp [Hid], by simp, zeros_zero _, Nat.pow_pos (by omega), by omega, by omega, by omega, by omega, h15, h16, Own.nil _ _ _, by simp [Hid], ⟨hMC, by omega⟩, Same.refl _ _⟩
        case round =>
          obtain ⟨M, d, lo, hi, v, cnt, hsel, hMg, hzd, hdd, q1, q2, q3, q4, hx, ht, hownV, hMl, hMK, hS⟩ := hrel
          obtain ⟨hMr, hcnt⟩ := hMK.out
          obtain ⟨Av, cv, hv, _, _⟩ := Own.rd tri_len hownV
          have hv' : v = .slice Av M.length cv := by rw [hv]; simp
          subst hv'
          clear hv hMK
          have hSz := hS.size
          have hPr : PlanAt wr (w1.heap.size + 1) w.heap.size w1.heap.size P S A c l Ab cb (bfL l) H := by
            have k : ∀ {b o v}, wc.cell? ⟨b, o, none⟩ = some v → b ≠ n15 → b ≠ n16 → wr.cell? ⟨b, o, none⟩ = some v := fun {b o v} hc h1 h2 => (hS.cell (p := ⟨b, o, none⟩) ⟨lt_of_cell hc, hMC.ne hc, h1, h2⟩).trans hc
            refine ⟨k hPC.c0 (by omega) (by omega), k hPC.c1 (by omega) (by omega), k hPC.c2 (by omega) (by omega), k hPC.c3 (by omega) (by omega), k hPC.s0 (by omega) (by omega), k hPC.s1 (by omega) (by omega), hPC.hr.keep (fun q hq => hS.cell (p := q) ⟨by omega, by omega, by omega, by omega⟩), Nat.le_trans hPC.hH hSz, hPC.hHm, fun hl => ?_⟩
            obtain ⟨b, o, e, hc⟩ := hPC.hbf hl
            have := (HBB.out b o e).2
            exact ⟨b, o, e, fun i x hx => k (hc i x hx) (by omega) (by omega)⟩
          have t1 := ht.cell 1 _ rfl
          have tl := ht.lt
          have xl := hx.lt
          have x0 := hx.cell 0 _ rfl
          have x1 := hx.cell 1 _ rfl
          have x2 := hx.cell 2 _ rfl
          have s1 := hPr.s1
          have s1l := lt_of_cell s1
          have c2 := hPr.c2
          have c2l := lt_of_cell c2
          by_cases hlt : M.length < l.length
          · obtain ⟨F, hF⟩ : ∃ x : Int, Hid (few P S l (bfL l) d lo hi = x) := ⟨_, Lib.hid rfl⟩
            have hFb := few_bd (p := P) (s := S) (l := l) (bf := bfL l) d lo hi
            rw [hF.out] at hFb
            have hnf := not_full (n := l.length) (d := d) (by omega)
            obtain ⟨pk, hpk⟩ := pick_some (p := P) (s := S) (lo := lo) (hi := hi) (bfL_ok l) (fun k hk => by rw [bfL_get hk]; exact bfAt_lt (by omega)) hl hdd.out hnf
            have HPK := Lib.hid (pick_spec hpk)
            clear hpk hnf
            have hbls : (bfL l).length = l.length := HBL.out
            have HBLS := Lib.hid hbls
            clear hbls
            go_wp2_with (first
              | (go_at_call 47; refine (fewest10 P S l (bfL l) HOK.out (w1.heap.size + 1) w.heap.size w1.heap.size A c Ab cb H d lo hi wr cnt hdd.out q1 q2 q3 q4 hPr hMr (by omega)).mono ?_; rintro e w3 ⟨rfl, hM3, hS3⟩; rw [hF.out]
                 have hP3 := hPr.same hMr hS3
                 have c3 := hP3.c2
                 have c3l := lt_of_cell c3))
            have hx3 : Blk w3 n15 94 #[.int .i64 d, .int .i64 lo, .int .i64 hi] := hx.same hS3 ⟨xl, by omega⟩
            have ht3 : Blk w3 n16 33 #[.int .i64 P, .slice Av M.length cv] := ht.same hS3 ⟨tl, by omega⟩
            have hown3 : Own 3 Tri.enc w3 wc.heap.size 79 (.slice Av M.length cv) (M.map (xAt l)) := Own.same hownV hS3 (fun g hg => ⟨(World.ownsRow.lt hownV g hg).2, by have := (World.ownsRow.lt hownV g hg).1; omega⟩)
            have hz3 := hS3.size
            have hS3' : Same (fun j => j < wc.heap.size ∧ j ≠ w1.heap.size ∧ j ≠ n15 ∧ j ≠ n16) wc w3 := hS.trans (hS3.mono (fun k hk => ⟨by omega, hk.2.1⟩))
            clear x0 x1 x2 t1 tl xl s1 s1l c2 c2l hx ht hownV hMr hPr hS3 hS c3 c3l
            obtain ⟨wo, rfl⟩ : ∃ wo : World, wo = wr := ⟨_, rfl⟩
            go_loopw [118] (fun ix wi => ∃ i : Nat, i ≤ l.length ∧ ix = .int .i64 i ∧ Hid (∀ j, j < i → cost P S l (bfL l) d lo hi j ≠ some F) ∧ Hid (MapK P S l (bfL l) wi w1.heap.size (cnt + 30000000000 + i * 30000000000)) ∧ Same (fun j => j < w3.heap.size ∧ j ≠ w1.heap.size) w3 wi) (fun ix _ => l.length - (intOf ix).toNat)
            case atStart => exact ⟨0, by omega, rfl, fun j hj => by omega, by rw [Hid, Nat.zero_mul]; exact hM3, Same.refl _ _⟩
            case round =>
              obtain ⟨i, hil, rfl, hno, hMi, hSi⟩ := hrel
              have hMr := hMi.out
              have hPr := hP3.same hM3 hSi
              have hxr : Blk wr n15 94 #[.int .i64 d, .int .i64 lo, .int .i64 hi] := hx3.same hSi ⟨hx3.lt, by omega⟩
              have htr : Blk wr n16 33 #[.int .i64 P, .slice Av M.length cv] := ht3.same hSi ⟨ht3.lt, by omega⟩
              have x0 := hxr.cell 0 _ rfl
              have x1 := hxr.cell 1 _ rfl
              have x2 := hxr.cell 2 _ rfl
              have xl := hxr.lt
              have c2 := hPr.c2
              have c2l := lt_of_cell c2
              have hzi := hSi.size
              by_cases hin : i < l.length
              · have hib : i < (bfL l).length := by have := HBLS.out; omega
                have hbd := HH.out i hin
                have hlb10 : (bfL l).length ≤ 10 := by have := HBLS.out; omega
                have HBITS : Hid (∀ k, k < (bfL l).length → (bfL l).getD k 0 < 1024) := HOK.out.bits
                have hd10 : d < 1024 := by have := hdd.out; have := two_pow_le hl; omega
                cases hfree : freeB (bfL l) d i
                · have HF2 := Lib.hid hfree
                  clear hfree
                  go_wp2_with (first
                    | (go_at_call 48; refine (free_any (w1.heap.size + 1) (.int .i64 0) S (.int .i64 0) Ab (bfL l) cb d lo hi i wr wr.heap.size hPr.hbf.rd c2 hib hlb10 hd10 HBITS.out).mono ?_; rintro e w4 ⟨rfl, hB4⟩; rw [HF2.out]))
                  go_roundw
                  case rel =>
                    refine ⟨i + 1, by omega, by go_num, fun j hj => ?_, (hMr.below hB4).mono (by omega), hSi.step (Same.of_below' hB4)⟩
                    by_cases e : j = i
                    · subst e; rw [cost_not HF2.out]; simp
                    · exact hno.out j (by omega)
                  case measure => simp [intOf]; omega
                · have HF2 := Lib.hid hfree
                  have hbit := freeB_bit hfree
                  have hz2 := zeros_or hin hbit
                  clear hfree
                  obtain ⟨d2, hd2⟩ : ∃ x : Nat, Hid (d ||| 2 ^ i = x) := ⟨_, Lib.hid rfl⟩
                  obtain ⟨lo2, hlo2⟩ : ∃ x : Int, Hid (nlo S l[i] lo (joinB P S l[i] lo hi) = x) := ⟨_, Lib.hid rfl⟩
                  obtain ⟨hi2, hhi2⟩ : ∃ x : Int, Hid (nhi P S l[i] hi (joinB P S l[i] lo hi) = x) := ⟨_, Lib.hid rfl⟩
                  obtain ⟨c1, hc1⟩ : ∃ x : Int, Hid (nn (joinB P S l[i] lo hi) = x) := ⟨_, Lib.hid rfl⟩
                  have hbd2 := next_bd (lo := lo) (hi := hi) (j := joinB P S l[i] lo hi) b1' b2' b3' hbd.1 hbd.2 q1 q2 q3 q4
                  rw [hlo2.out, hhi2.out] at hbd2
                  have hcb := nn_bd (joinB P S l[i] lo hi)
                  rw [hc1.out] at hcb
                  rw [hd2.out] at hz2
                  have hd2b : d2 < 2 ^ l.length := by rw [← hd2.out]; exact Nat.or_lt_two_pow hdd.out (Nat.pow_lt_pow_right (by omega) hin)
                  have HNEXT : Hid (∀ w', PlanAt w' (w1.heap.size + 1) w.heap.size w1.heap.size P S A c l Ab cb (bfL l) H → Calls Tryz.prog 49 #[.pointer (some ⟨w1.heap.size + 1, 0, none⟩), .agg #[.int .i64 d, .int .i64 lo, .int .i64 hi], .int .i64 i] w' (Ret (.tuple #[.agg #[.int .i64 d2, .int .i64 lo2, .int .i64 hi2], .int .i64 c1]) w')) := fun w' hP' => by
                    have := next_any P A l c S (w1.heap.size + 1) w.heap.size (.int .i64 0) (.int .i64 0) d lo hi i w' H hP'.hr hP'.hH hP'.c0 hP'.c1 hP'.s0 hP'.s1 hin hl hd10 b1' b2' b3' hbd.1 hbd.2
                    rw [hd2.out, hlo2.out, hhi2.out, hc1.out] at this
                    exact this
                  obtain ⟨F2, hF2⟩ : ∃ x : Int, Hid (few P S l (bfL l) d2 lo2 hi2 = x) := ⟨_, Lib.hid rfl⟩
                  have hFb2 := few_bd (p := P) (s := S) (l := l) (bf := bfL l) d2 lo2 hi2
                  rw [hF2.out] at hFb2
                  have HD2 := Lib.hid hd2b
                  have HCOST := Lib.hid (cost_free (p := P) (s := S) (bf := bfL l) (d := d) (lo := lo) (hi := hi) hin HF2.out hd2.out hlo2.out hhi2.out hc1.out hF2.out)
                  have HZ2 := Lib.hid hz2
                  clear hd2b hbit hz2
                  by_cases hEq : c1 + F2 = F
                  · have tE : (c1 + F2 == F) = true := by simpa using hEq
                    have HEQ := Lib.hid hEq
                    clear hEq
                    go_wp2_with (first
                      | (go_at_call 48; refine (free_any (w1.heap.size + 1) (.int .i64 0) S (.int .i64 0) Ab (bfL l) cb d lo hi i wr wr.heap.size hPr.hbf.rd c2 hib hlb10 hd10 HBITS.out).mono ?_; rintro e w4 ⟨rfl, hB4⟩; rw [HF2.out]
                         have hP4 := hPr.same hMr (Same.of_below' hB4)
                         have hM4 := hMr.below hB4
                         have box4 := hxr.below' hB4
                         have y0 := box4.cell 0 _ rfl
                         have y1 := box4.cell 1 _ rfl
                         have y2 := box4.cell 2 _ rfl
                         have yl := box4.lt)
                      | (go_at_call 49; refine (HNEXT.out _ hP4).mono ?_; rintro e w5 ⟨rfl, hB5⟩
                         have hB5' : Below w4.heap.size w4 (w5.alloc (.cells #[.int .i64 d2, .int .i64 lo2, .int .i64 hi2] 94)) := hB5.alloc hB5.size _
                         have hP5 := hP4.same hM4 (Same.of_below' hB5')
                         have hM5 := hM4.below hB5'
                         have hY5 := Blk.new w5 94 #[.int .i64 d2, .int .i64 lo2, .int .i64 hi2]
                         have hz5 := hB5.size
                         have hz4 := hB4.size)
                      | (go_at_call 47; refine (fewest10 P S l (bfL l) HOK.out (w1.heap.size + 1) w.heap.size w1.heap.size A c Ab cb H d2 lo2 hi2 _ _ HD2.out hbd2.1 hbd2.2.1 hbd2.2.2.1 hbd2.2.2.2 hP5 hM5 (by omega)).mono ?_; rintro e W6 ⟨rfl, hM6, hSS6⟩; rw [hF2.out]
                         have hS6 := ((hSi.step (Same.of_below' hB4)).step (Same.of_below' hB5')).step hSS6
                         have hP6 := hP5.same hM5 hSS6
                         have hY6 : Blk W6 w5.heap.size 94 #[.int .i64 d2, .int .i64 lo2, .int .i64 hi2] := hY5.same hSS6 ⟨hY5.lt, by omega⟩))
                    obtain ⟨b, o, hA, hbH, a2, a3, a4⟩ := hP6.hr.tri hin
                    have a1 := hP6.s1
                    rw [hA] at a1
                    replace hA := Lib.hid hA
                    have hHm := hP6.hHm
                    have h16r : Blk W6 n16 33 #[.int .i64 P, .slice Av M.length cv] := ht3.same hS6 ⟨ht3.lt, by omega⟩
                    have h15r : Blk W6 n15 94 #[.int .i64 d, .int .i64 lo, .int .i64 hi] := hx3.same hS6 ⟨hx3.lt, by omega⟩
                    have hownV : Own 3 Tri.enc W6 wc.heap.size 79 (.slice Av M.length cv) (M.map (xAt l)) := Own.same hown3 hS6 (fun g hg => ⟨(World.ownsRow.lt hown3 g hg).2, by have := (World.ownsRow.lt hown3 g hg).1; omega⟩)
                    have hny1 : wc.heap.size ≤ w5.heap.size := by omega
                    generalize w5.heap.size = nY at *
                    have a5 := hY6.cell 0 _ rfl
                    have a6 := hY6.cell 1 _ rfl
                    have a7 := hY6.cell 2 _ rfl
                    have a8 := h16r.cell 1 _ rfl
                    have hyl := hY6.lt
                    have hz6 := hS6.size
                    have hnY := Own.ne_block hownV hY6.heap (by decide)
                    have hT6 : ∀ k, (k < wc.heap.size ∨ k = nY) → k < W6.heap.size := fun k hk => by omega
                    have hkeep : ∀ w', Same (fun j => j < wc.heap.size ∨ j = nY) W6 w' → w'.cell? ⟨w.heap.size, 1, none⟩ = some (.slice (some ⟨b, o, none⟩) l.length c) ∧ w'.cell? ⟨b, o + i * 3, none⟩ = some (.int .i64 l[i].a) ∧ w'.cell? ⟨b, o + i * 3 + 1, none⟩ = some (.int .i64 l[i].b) ∧ w'.cell? ⟨b, o + i * 3 + 2, none⟩ = some (.string l[i].s) ∧ w'.cell? ⟨nY, 0, none⟩ = some (.int .i64 d2) ∧ w'.cell? ⟨nY, 1, none⟩ = some (.int .i64 lo2) ∧ w'.cell? ⟨nY, 2, none⟩ = some (.int .i64 hi2) := fun w' hw' =>
                      ⟨(hw'.cell (p := ⟨w.heap.size, 1, none⟩) (Or.inl (by show w.heap.size < _; omega))).trans a1, (hw'.cell (p := ⟨b, _, none⟩) (Or.inl (by show b < _; omega))).trans a2, (hw'.cell (p := ⟨b, _, none⟩) (Or.inl (by show b < _; omega))).trans a3, (hw'.cell (p := ⟨b, _, none⟩) (Or.inl (by show b < _; omega))).trans a4, (hw'.cell (p := ⟨nY, _, none⟩) (Or.inr rfl)).trans a5, (hw'.cell (p := ⟨nY, _, none⟩) (Or.inr rfl)).trans a6, (hw'.cell (p := ⟨nY, _, none⟩) (Or.inr rfl)).trans a7⟩
                    have hsbwc : w.heap.size < wc.heap.size := by omega
                    have hbwc : b < wc.heap.size := by omega
                    have hMw : w1.heap.size < wc.heap.size := hmw
                    have hxl6 := h16r.lt
                    have i0' : (0 : Int) ≤ (i : Int) := by omega
                    have i1' : (i : Int) < (l.length : Int) := by omega
                    refine wp_region_J (fun w' => w'.cell? ⟨w.heap.size, 1, none⟩ = some (.slice (some ⟨b, o, none⟩) l.length c) ∧ w'.cell? ⟨b, o + i * 3, none⟩ = some (.int .i64 l[i].a) ∧ w'.cell? ⟨b, o + i * 3 + 1, none⟩ = some (.int .i64 l[i].b) ∧ w'.cell? ⟨b, o + i * 3 + 2, none⟩ = some (.string l[i].s) ∧ w'.cell? ⟨nY, 0, none⟩ = some (.int .i64 d2) ∧ w'.cell? ⟨nY, 1, none⟩ = some (.int .i64 lo2) ∧ w'.cell? ⟨nY, 2, none⟩ = some (.int .i64 hi2)) (fun w' => w'.cell? ⟨n16, 1, none⟩ = some (.slice Av M.length cv)) (fun i => i == 7) (by kernel_rfl) ?_
                    have hS1 : W6.drew.cell? ⟨w.heap.size, 1, none⟩ = some (.slice (some ⟨b, o, none⟩) l.length c) ∧ W6.drew.cell? ⟨b, o + i * 3, none⟩ = some (.int .i64 l[i].a) ∧ W6.drew.cell? ⟨b, o + i * 3 + 1, none⟩ = some (.int .i64 l[i].b) ∧ W6.drew.cell? ⟨b, o + i * 3 + 2, none⟩ = some (.string l[i].s) ∧ W6.drew.cell? ⟨nY, 0, none⟩ = some (.int .i64 d2) ∧ W6.drew.cell? ⟨nY, 1, none⟩ = some (.int .i64 lo2) ∧ W6.drew.cell? ⟨nY, 2, none⟩ = some (.int .i64 hi2) := ⟨a1, a2, a3, a4, a5, a6, a7⟩
                    have hS2 : W6.drew.cell? ⟨n16, 1, none⟩ = some (.slice Av M.length cv) := a8
                    refine wpAnyJ_take1 0 rfl (by kernel_rfl) (by kernel_rfl) rfl (by kernel_rfl) (fun _ _ _ h => h) (by rfl) hS1 (fun w' hSw => (by obtain ⟨z1, z2, z3, z4, z5, z6, z7⟩ := hSw; go_simp; try (with_reducible rfl))) ?_
                    try simp only [Act.put, List.getElem_toArray, List.getElem_cons_succ, List.getElem_cons_zero, List.setIfInBounds_toArray, List.set_cons_zero, List.set_cons_succ]
                    refine wpAnyJ_take1 2 rfl (by kernel_rfl) (by kernel_rfl) rfl (by kernel_rfl) (fun _ _ _ h => h) (by rfl) hS1 (fun w' hSw => (by obtain ⟨z1, z2, z3, z4, z5, z6, z7⟩ := hSw; go_simp; try (with_reducible rfl))) ?_
                    try simp only [Act.put, List.getElem_toArray, List.getElem_cons_succ, List.getElem_cons_zero, List.setIfInBounds_toArray, List.set_cons_zero, List.set_cons_succ]
                    refine wpAnyJ_take1 3 rfl (by kernel_rfl) (by kernel_rfl) rfl (by kernel_rfl) (fun _ _ _ h => h) (by rfl) hS1 (fun w' hSw => (by obtain ⟨z1, z2, z3, z4, z5, z6, z7⟩ := hSw; go_simp; try (with_reducible rfl))) ?_
                    try simp only [Act.put, List.getElem_toArray, List.getElem_cons_succ, List.getElem_cons_zero, List.setIfInBounds_toArray, List.set_cons_zero, List.set_cons_succ]
                    refine wpAnyJ_take1 4 rfl (by kernel_rfl) (by kernel_rfl) rfl (by kernel_rfl) (fun _ _ _ h => h) (by rfl) hS1 (fun w' hSw => (by obtain ⟨z1, z2, z3, z4, z5, z6, z7⟩ := hSw; go_simp; try (with_reducible rfl))) ?_
                    try simp only [Act.put, List.getElem_toArray, List.getElem_cons_succ, List.getElem_cons_zero, List.setIfInBounds_toArray, List.set_cons_zero, List.set_cons_succ]
                    refine wpAnyJ_take1 5 rfl (by kernel_rfl) (by kernel_rfl) rfl (by kernel_rfl) (fun _ _ _ h => h) (by rfl) hS1 (fun w' hSw => (by obtain ⟨z1, z2, z3, z4, z5, z6, z7⟩ := hSw; go_simp; try (with_reducible rfl))) ?_
                    try simp only [Act.put, List.getElem_toArray, List.getElem_cons_succ, List.getElem_cons_zero, List.setIfInBounds_toArray, List.set_cons_zero, List.set_cons_succ]
                    refine wpAnyJ_take1 6 rfl (by kernel_rfl) (by kernel_rfl) rfl (by kernel_rfl) (fun _ _ _ h => h) (by rfl) hS1 (fun w' hSw => (by obtain ⟨z1, z2, z3, z4, z5, z6, z7⟩ := hSw; go_simp; try (with_reducible rfl))) ?_
                    try simp only [Act.put, List.getElem_toArray, List.getElem_cons_succ, List.getElem_cons_zero, List.setIfInBounds_toArray, List.set_cons_zero, List.set_cons_succ]
                    refine wpAnyJ_take1 9 rfl (by kernel_rfl) (by kernel_rfl) rfl (by kernel_rfl) (fun _ _ _ h => h) (by rfl) hS1 (fun w' hSw => (by obtain ⟨z1, z2, z3, z4, z5, z6, z7⟩ := hSw; go_simp; try (with_reducible rfl))) ?_
                    try simp only [Act.put, List.getElem_toArray, List.getElem_cons_succ, List.getElem_cons_zero, List.setIfInBounds_toArray, List.set_cons_zero, List.set_cons_succ]
                    refine wpAnyJ_take2 1 rfl (by kernel_rfl) (by kernel_rfl) (by kernel_rfl) (by kernel_rfl) (fun _ _ _ h => h) (by rfl) hS1 hS2 (fun w' hSw => (by obtain ⟨⟨z1, z2, z3, z4, z5, z6, z7⟩, z8⟩ := hSw; go_simp; try (with_reducible rfl))) ?_
                    try simp only [Act.put, List.getElem_toArray, List.getElem_cons_succ, List.getElem_cons_zero, List.setIfInBounds_toArray, List.set_cons_zero, List.set_cons_succ]
                    refine wpAnyJ_ready [7] (by kernel_rfl) (by simp) (NextJ.cons rfl (fun K hK => ?_) NextJ.nil)
                    go_simp
                    have hA7 : Below W6.heap.size W6 (W6.drew.alloc (.cells #[.int .i64 l[i].a, .int .i64 l[i].b, .string l[i].s] 79)) := by (repeat' first | exact Below.refl _ _ | apply Below.drew | (refine Below.setCells ?_ _ _ ?_) | (refine Below.setCell ?_ ?_ _) | (refine Below.alloc ?_ ?_ _) | (simp; done) | (simp; omega))
                    have hS1_7 := hkeep _ (Same.of_below_T hA7 hT6)
                    refine hK.out _ _ hS1_7 (fun _ => (hA7.cell (p := ⟨n16, 1, none⟩) (lt_of_cell a8)).trans a8) ?_
                    clear hK K
                    try simp only [Act.put, List.getElem_toArray, List.getElem_cons_succ, List.getElem_cons_zero, List.setIfInBounds_toArray, List.set_cons_zero, List.set_cons_succ]
                    refine wpAnyJ_ready [8] (by kernel_rfl) (by simp) (NextJ.cons rfl (fun K hK => ?_) NextJ.nil)
                    refine step_append_tri (by rfl) (.tmp 141) (.tmp 147) _ (by rfl) wc.heap.size _ s0 _ Tryz.underlying31 hs0 sz0 sz1 sz2 rfl (.slice Av M.length cv) (M.map (xAt l)) (by rfl) ((hownV.below (Below.refl _ _).drew).alloc (.cells #[.int .i64 l[i].a, .int .i64 l[i].b, .string l[i].s] 79)) W6.heap.size l[i] (by rfl) (World.cell?_alloc_new _ _ _ 0) (World.cell?_alloc_new _ _ _ 1) (World.cell?_alloc_new _ _ _ 2) (by simp; omega) (by simp; omega) ?_
                    intro v' W8 hown8 hg8
                    obtain ⟨A8, c8, hv8, _, _⟩ := Own.rd tri_len hown8
                    subst hv8
                    have hown8' : Own 3 Tri.enc W8 wc.heap.size 79 (.slice A8 (M.length + 1) c8) (M.map (xAt l) ++ [l[i]]) := by have e0 : (M.map (xAt l) ++ [l[i]]).length = M.length + 1 := (by simp); rw [e0] at hown8; exact hown8
                    have hneV : ∀ g, g < wc.heap.size → some g ≠ (Value.slice Av M.length cv).ownBlock := fun g hg e => by have := (World.ownsRow.lt hownV g e.symm).1; omega
                    have hS8 : Same (fun j => j < wc.heap.size ∨ j = nY) W6 W8 := (Same.of_below_T hA7 hT6).trans ⟨hg8.os, hg8.tape, hg8.output, hg8.size, fun k hk => hg8.block k (by simp; rcases hk with hk | hk <;> omega) (fun e => by rcases hk with hk | hk; exact hneV k hk e; subst hk; exact hnY e)⟩
                    have hS1_8 := hkeep _ hS8
                    refine hK.out _ _ hS1_8 (fun h => absurd h (by decide)) ?_
                    clear hK K
                    try simp only [Act.put, List.getElem_toArray, List.getElem_cons_succ, List.getElem_cons_zero, List.setIfInBounds_toArray, List.set_cons_zero, List.set_cons_succ]
                    refine wpAnyJ_take1 10 rfl (by kernel_rfl) (by kernel_rfl) rfl (by kernel_rfl) (fun _ _ _ h => h) (by rfl) hS1_8 (fun w' hSw => (by obtain ⟨z1, z2, z3, z4, z5, z6, z7⟩ := hSw; go_simp; try (with_reducible rfl))) ?_
                    try simp only [Act.put, List.getElem_toArray, List.getElem_cons_succ, List.getElem_cons_zero, List.setIfInBounds_toArray, List.set_cons_zero, List.set_cons_succ]
                    refine wpAnyJ_ready [11] (by kernel_rfl) (by simp) (NextJ.cons rfl (fun K hK => ?_) NextJ.nil)
                    have k8 := h16r.same hS8 (Or.inl hn16)
                    have x8 := h15r.same hS8 (Or.inl hn15)
                    have q0 := k8.cell 1 _ rfl
                    have f0 := k8.frozen 1
                    have ql := k8.lt
                    go_simp
                    have k9 := k8.set_ 1 (.slice A8 (M.length + 1) c8)
                    have x9 := x8.far (p := ⟨n16, 1, none⟩) hne (.slice A8 (M.length + 1) c8)
                    have y9 := (hS1_8)
                    obtain ⟨y1, y2, y3, y4, y5, y6, y7⟩ := y9
                    have hS1_9 := And.intro ((World.cell?_setCell_other W8 ⟨n16, 1, none⟩ ⟨w.heap.size, 1, none⟩ (.slice A8 (M.length + 1) c8) (fun e => by simp only [Addr.mk.injEq] at e; omega)).trans y1) (And.intro ((World.cell?_setCell_other W8 ⟨n16, 1, none⟩ ⟨b, o + i * 3, none⟩ (.slice A8 (M.length + 1) c8) (fun e => by simp only [Addr.mk.injEq] at e; omega)).trans y2) (And.intro ((World.cell?_setCell_other W8 ⟨n16, 1, none⟩ ⟨b, o + i * 3 + 1, none⟩ (.slice A8 (M.length + 1) c8) (fun e => by simp only [Addr.mk.injEq] at e; omega)).trans y3) (And.intro ((World.cell?_setCell_other W8 ⟨n16, 1, none⟩ ⟨b, o + i * 3 + 2, none⟩ (.slice A8 (M.length + 1) c8) (fun e => by simp only [Addr.mk.injEq] at e; omega)).trans y4) (And.intro ((World.cell?_setCell_other W8 ⟨n16, 1, none⟩ ⟨nY, 0, none⟩ (.slice A8 (M.length + 1) c8) (fun e => by simp only [Addr.mk.injEq] at e; omega)).trans y5) (And.intro ((World.cell?_setCell_other W8 ⟨n16, 1, none⟩ ⟨nY, 1, none⟩ (.slice A8 (M.length + 1) c8) (fun e => by simp only [Addr.mk.injEq] at e; omega)).trans y6) ((World.cell?_setCell_other W8 ⟨n16, 1, none⟩ ⟨nY, 2, none⟩ (.slice A8 (M.length + 1) c8) (fun e => by simp only [Addr.mk.injEq] at e; omega)).trans y7))))))
                    refine hK.out _ _ hS1_9 (fun h => absurd h (by decide)) ?_
                    clear hK K
                    try simp only [Act.put, List.getElem_toArray, List.getElem_cons_succ, List.getElem_cons_zero, List.setIfInBounds_toArray, List.set_cons_zero, List.set_cons_succ]
                    have hown9 := Own.far hown8' (p := ⟨n16, 1, none⟩) hn16 (.slice A8 (M.length + 1) c8)
                    have hS9 := hS8.mono (T := fun j => (j < wc.heap.size ∨ j = nY) ∧ j ≠ n16 ∧ j ≠ n15) (fun k hk => hk.1) |>.setCell (p := ⟨n16, 1, none⟩) (fun e => e.2.1 rfl) (.slice A8 (M.length + 1) c8)
                    generalize W8.setCell ⟨n16, 1, none⟩ (.slice A8 (M.length + 1) c8) = W9 at *
                    refine wpAnyJ_ready [12] (by kernel_rfl) (by simp) (NextJ.cons rfl (fun K hK => ?_) NextJ.nil)
                    have q0 := x9.cell 0 _ rfl
                    have q1 := x9.cell 1 _ rfl
                    have q2 := x9.cell 2 _ rfl
                    have f0 := x9.frozen 0
                    have f1 := x9.frozen 1
                    have f2 := x9.frozen 2
                    have ql := x9.lt
                    go_simp
                    have x10 := ((x9.set_ 0 (.int .i64 d2)).set_ 1 (.int .i64 lo2)).set_ 2 (.int .i64 hi2)
                    have k10 := ((k9.far (p := ⟨n15, 0, none⟩) (Ne.symm hne) (.int .i64 d2)).far (p := ⟨n15, 1, none⟩) (Ne.symm hne) (.int .i64 lo2)).far (p := ⟨n15, 2, none⟩) (Ne.symm hne) (.int .i64 hi2)
                    have hown10 := ((Own.far (Own.far (Own.far hown9 (p := ⟨n15, 0, none⟩) hn15 (.int .i64 d2)) (p := ⟨n15, 1, none⟩) hn15 (.int .i64 lo2)) (p := ⟨n15, 2, none⟩) hn15 (.int .i64 hi2)))
                    have hS10 := ((hS9.setCell (p := ⟨n15, 0, none⟩) (fun e => e.2.2 rfl) (.int .i64 d2)).setCell (p := ⟨n15, 1, none⟩) (fun e => e.2.2 rfl) (.int .i64 lo2)).setCell (p := ⟨n15, 2, none⟩) (fun e => e.2.2 rfl) (.int .i64 hi2)
                    obtain ⟨u1, u2, u3, u4, u5, u6, u7⟩ := hS1_9
                    have hS1_10 := And.intro ((World.cell?_setCell_other (((W9).setCell ⟨n15, 0, none⟩ (.int .i64 d2)).setCell ⟨n15, 1, none⟩ (.int .i64 lo2)) ⟨n15, 2, none⟩ ⟨w.heap.size, 1, none⟩ (.int .i64 hi2) (fun e => by simp only [Addr.mk.injEq] at e; omega)).trans ((World.cell?_setCell_other ((W9).setCell ⟨n15, 0, none⟩ (.int .i64 d2)) ⟨n15, 1, none⟩ ⟨w.heap.size, 1, none⟩ (.int .i64 lo2) (fun e => by simp only [Addr.mk.injEq] at e; omega)).trans ((World.cell?_setCell_other (W9) ⟨n15, 0, none⟩ ⟨w.heap.size, 1, none⟩ (.int .i64 d2) (fun e => by simp only [Addr.mk.injEq] at e; omega)).trans (u1)))) (And.intro ((World.cell?_setCell_other (((W9).setCell ⟨n15, 0, none⟩ (.int .i64 d2)).setCell ⟨n15, 1, none⟩ (.int .i64 lo2)) ⟨n15, 2, none⟩ ⟨b, o + i * 3, none⟩ (.int .i64 hi2) (fun e => by simp only [Addr.mk.injEq] at e; omega)).trans ((World.cell?_setCell_other ((W9).setCell ⟨n15, 0, none⟩ (.int .i64 d2)) ⟨n15, 1, none⟩ ⟨b, o + i * 3, none⟩ (.int .i64 lo2) (fun e => by simp only [Addr.mk.injEq] at e; omega)).trans ((World.cell?_setCell_other (W9) ⟨n15, 0, none⟩ ⟨b, o + i * 3, none⟩ (.int .i64 d2) (fun e => by simp only [Addr.mk.injEq] at e; omega)).trans (u2)))) (And.intro ((World.cell?_setCell_other (((W9).setCell ⟨n15, 0, none⟩ (.int .i64 d2)).setCell ⟨n15, 1, none⟩ (.int .i64 lo2)) ⟨n15, 2, none⟩ ⟨b, o + i * 3 + 1, none⟩ (.int .i64 hi2) (fun e => by simp only [Addr.mk.injEq] at e; omega)).trans ((World.cell?_setCell_other ((W9).setCell ⟨n15, 0, none⟩ (.int .i64 d2)) ⟨n15, 1, none⟩ ⟨b, o + i * 3 + 1, none⟩ (.int .i64 lo2) (fun e => by simp only [Addr.mk.injEq] at e; omega)).trans ((World.cell?_setCell_other (W9) ⟨n15, 0, none⟩ ⟨b, o + i * 3 + 1, none⟩ (.int .i64 d2) (fun e => by simp only [Addr.mk.injEq] at e; omega)).trans (u3)))) (And.intro ((World.cell?_setCell_other (((W9).setCell ⟨n15, 0, none⟩ (.int .i64 d2)).setCell ⟨n15, 1, none⟩ (.int .i64 lo2)) ⟨n15, 2, none⟩ ⟨b, o + i * 3 + 2, none⟩ (.int .i64 hi2) (fun e => by simp only [Addr.mk.injEq] at e; omega)).trans ((World.cell?_setCell_other ((W9).setCell ⟨n15, 0, none⟩ (.int .i64 d2)) ⟨n15, 1, none⟩ ⟨b, o + i * 3 + 2, none⟩ (.int .i64 lo2) (fun e => by simp only [Addr.mk.injEq] at e; omega)).trans ((World.cell?_setCell_other (W9) ⟨n15, 0, none⟩ ⟨b, o + i * 3 + 2, none⟩ (.int .i64 d2) (fun e => by simp only [Addr.mk.injEq] at e; omega)).trans (u4)))) (And.intro ((World.cell?_setCell_other (((W9).setCell ⟨n15, 0, none⟩ (.int .i64 d2)).setCell ⟨n15, 1, none⟩ (.int .i64 lo2)) ⟨n15, 2, none⟩ ⟨nY, 0, none⟩ (.int .i64 hi2) (fun e => by simp only [Addr.mk.injEq] at e; omega)).trans ((World.cell?_setCell_other ((W9).setCell ⟨n15, 0, none⟩ (.int .i64 d2)) ⟨n15, 1, none⟩ ⟨nY, 0, none⟩ (.int .i64 lo2) (fun e => by simp only [Addr.mk.injEq] at e; omega)).trans ((World.cell?_setCell_other (W9) ⟨n15, 0, none⟩ ⟨nY, 0, none⟩ (.int .i64 d2) (fun e => by simp only [Addr.mk.injEq] at e; omega)).trans (u5)))) (And.intro ((World.cell?_setCell_other (((W9).setCell ⟨n15, 0, none⟩ (.int .i64 d2)).setCell ⟨n15, 1, none⟩ (.int .i64 lo2)) ⟨n15, 2, none⟩ ⟨nY, 1, none⟩ (.int .i64 hi2) (fun e => by simp only [Addr.mk.injEq] at e; omega)).trans ((World.cell?_setCell_other ((W9).setCell ⟨n15, 0, none⟩ (.int .i64 d2)) ⟨n15, 1, none⟩ ⟨nY, 1, none⟩ (.int .i64 lo2) (fun e => by simp only [Addr.mk.injEq] at e; omega)).trans ((World.cell?_setCell_other (W9) ⟨n15, 0, none⟩ ⟨nY, 1, none⟩ (.int .i64 d2) (fun e => by simp only [Addr.mk.injEq] at e; omega)).trans (u6)))) ((World.cell?_setCell_other (((W9).setCell ⟨n15, 0, none⟩ (.int .i64 d2)).setCell ⟨n15, 1, none⟩ (.int .i64 lo2)) ⟨n15, 2, none⟩ ⟨nY, 2, none⟩ (.int .i64 hi2) (fun e => by simp only [Addr.mk.injEq] at e; omega)).trans ((World.cell?_setCell_other ((W9).setCell ⟨n15, 0, none⟩ (.int .i64 d2)) ⟨n15, 1, none⟩ ⟨nY, 2, none⟩ (.int .i64 lo2) (fun e => by simp only [Addr.mk.injEq] at e; omega)).trans ((World.cell?_setCell_other (W9) ⟨n15, 0, none⟩ ⟨nY, 2, none⟩ (.int .i64 d2) (fun e => by simp only [Addr.mk.injEq] at e; omega)).trans (u7)))))))))
                    refine hK.out _ _ hS1_10 (fun h => absurd h (by decide)) ?_
                    clear hK K
                    try simp only [Act.put, List.getElem_toArray, List.getElem_cons_succ, List.getElem_cons_zero, List.setIfInBounds_toArray, List.set_cons_zero, List.set_cons_succ]
                    refine wpAnyJ_done (by kernel_rfl) ?_ _
                    go_wp2_with fail
                    go_roundg (gk - 1)
                    case measure => omega
                    case rel =>
                      have hpick := pick_of (p := P) (s := S) (bf := bfL l) hin (by rw [HCOST.out, HEQ.out, hF.out]) (fun j hj => by rw [hF.out]; exact hno.out j hj)
                      have hstep := bsel_step (k := gk) (by omega) hpick hin hd2.out hlo2.out hhi2.out
                      have hzz := HZ2.out
                      refine ⟨M ++ [i], d2, lo2, hi2, _, _, by rw [Hid, hsel.out, hstep]; simp, by simp; omega, by omega, HD2.out, hbd2.1, hbd2.2.1, hbd2.2.2.1, hbd2.2.2.2, x10, k10, ?_, ?_, ⟨hM6.same hS10 ⟨Or.inl hMw, by omega, by omega⟩, ?_⟩, ?_⟩
                      · rw [List.map_append, List.map_cons, List.map_nil, xAt_of hin]; exact hown10
                      · intro x hx
                        rcases List.mem_append.1 hx with hx | hx
                        · exact hMl.out x hx
                        · simp at hx; subst hx; exact hin
                      · simp; omega
                      · exact (hS3'.trans (hS6.mono (fun k hk => ⟨by omega, hk.2.1⟩))).trans (hS10.mono (fun k hk => ⟨Or.inl hk.1, hk.2.2.2, hk.2.2.1⟩))
                  · have tE : (c1 + F2 == F) = false := by simpa using hEq
                    have HEQ := Lib.hid hEq
                    clear hEq
                    go_wp2_with (first
                      | (go_at_call 48; refine (free_any (w1.heap.size + 1) (.int .i64 0) S (.int .i64 0) Ab (bfL l) cb d lo hi i wr wr.heap.size hPr.hbf.rd c2 hib hlb10 hd10 HBITS.out).mono ?_; rintro e w4 ⟨rfl, hB4⟩; rw [HF2.out]
                         have hP4 := hPr.same hMr (Same.of_below' hB4)
                         have hM4 := hMr.below hB4
                         have box4 := hxr.below' hB4
                         have y0 := box4.cell 0 _ rfl
                         have y1 := box4.cell 1 _ rfl
                         have y2 := box4.cell 2 _ rfl
                         have yl := box4.lt)
                      | (go_at_call 49; refine (HNEXT.out _ hP4).mono ?_; rintro e w5 ⟨rfl, hB5⟩
                         have hB5' : Below w4.heap.size w4 (w5.alloc (.cells #[.int .i64 d2, .int .i64 lo2, .int .i64 hi2] 94)) := hB5.alloc hB5.size _
                         have hP5 := hP4.same hM4 (Same.of_below' hB5')
                         have hM5 := hM4.below hB5'
                         have hY5 := Blk.new w5 94 #[.int .i64 d2, .int .i64 lo2, .int .i64 hi2]
                         have hz5 := hB5.size
                         have hz4 := hB4.size)
                      | (go_at_call 47; refine (fewest10 P S l (bfL l) HOK.out (w1.heap.size + 1) w.heap.size w1.heap.size A c Ab cb H d2 lo2 hi2 _ _ HD2.out hbd2.1 hbd2.2.1 hbd2.2.2.1 hbd2.2.2.2 hP5 hM5 (by omega)).mono ?_; rintro e W6 ⟨rfl, hM6, hSS6⟩; rw [hF2.out]
                         have hS6 := ((hSi.step (Same.of_below' hB4)).step (Same.of_below' hB5')).step hSS6
                         have hP6 := hP5.same hM5 hSS6
                         have hY6 : Blk W6 w5.heap.size 94 #[.int .i64 d2, .int .i64 lo2, .int .i64 hi2] := hY5.same hSS6 ⟨hY5.lt, by omega⟩))
                    go_roundw
                    case rel =>
                      refine ⟨i + 1, by omega, by go_num, fun j hj => ?_, hM6.mono (by omega), hS6⟩
                      by_cases e : j = i
                      · subst e; rw [HCOST.out]; simpa using HEQ.out
                      · exact hno.out j (by omega)
                    case measure => simp [intOf]; omega
              · exfalso
                have e : i = l.length := by omega
                obtain ⟨h1, h2, _⟩ := HPK.out
                exact hno.out pk (by omega) (by rw [← hF.out]; exact h2)
          · have hg0 : gk = 0 := by omega
            subst hg0
            have hMB : bsel P S l (bfL l) l.length 0 1 0 = M := by rw [hsel.out, bsel]; simp
            have HMB := Lib.hid hMB
            obtain ⟨A9, c9, hv9, _, hRd⟩ := Own.rd tri_len hownV
            simp only [List.length_map, Value.slice.injEq, true_and] at hv9
            obtain ⟨rfl, rfl⟩ := hv9
            have t0 := ht.cell 0 _ rfl
            have t1' : wr.cell? ⟨n16, 0 + 1, none⟩ = some (.slice Av (M.map (xAt l)).length cv) := by rw [List.length_map]; exact t1
            have hbb : ∀ (k : Nat) (hk : k < (M.map (xAt l)).length), 0 ≤ (M.map (xAt l))[k].b ∧ (M.map (xAt l))[k].b ≤ (P : Int) - 2 := fun k hk => by
              have hk' : k < M.length := by simpa using hk
              have hx' := hMl.out M[k] (List.getElem_mem hk')
              rw [List.getElem_map, xAt_of hx']
              exact HH.out _ hx'
            have HBB2 := Lib.hid hbb
            have HT1 := Lib.hid t1'
            clear hMB hbb t1'
            go_wp2_with (first
              | (go_at_call 44; refine (csteps_any P Av (M.map (xAt l)) cv S n16 0 wr wr.heap.size hRd (Nat.le_refl _) t0 HT1.out HBB2.out (by simp; omega) b1' b2' b3').mono ?_; rintro e w9 ⟨vv, rfl, hownF, hBF⟩))
            go_ret2
            exact ⟨vv, rfl, by rw [HMB.out]; exact hownF.base (by omega), (hBwc.trans (Same.below (hS.mono (fun k hk => ⟨by omega, by omega, by omega, by omega⟩)))).trans (hBF.mono (by omega))⟩
end Go.Proofs.YtmfklcnocekdlaaGreatDoor
