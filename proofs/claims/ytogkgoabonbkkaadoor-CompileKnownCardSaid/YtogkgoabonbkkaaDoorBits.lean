/- Plain: bits of small numbers, as the model reckons them. -/
import Derived.Lib.QuoteBits
import Derived.WalkKit
set_option linter.unusedSimpArgs false
namespace Tor
open Go

theorem u64 (a : Nat) (h : a < 18446744073709551616) : (BitVec.ofInt 64 (a : Int)).toNat = a := by
  rw [BitVec.ofInt_natCast, BitVec.toNat_ofNat]; exact Nat.mod_eq_of_lt (by omega)

theorem bor_i64 (a b : Nat) (ha : a < 1048576) (hb : b < 1048576) : bits .or .i64 (a : Int) (b : Int) = ((a ||| b : Nat) : Int) := by
  show IntKind.i64.wrap ((BitVec.ofInt 64 (a : Int) ||| BitVec.ofInt 64 (b : Int)).toNat : Int) = _
  have : a ||| b < 2 ^ 20 := Nat.or_lt_two_pow (by omega) (by omega)
  rw [BitVec.toNat_or, u64 a (by omega), u64 b (by omega)]
  exact Lib.wrap_i64_small _ (by omega)
theorem band_i64 (a b : Nat) (ha : a < 1048576) (hb : b < 1048576) : bits .and .i64 (a : Int) (b : Int) = ((a &&& b : Nat) : Int) := by
  show IntKind.i64.wrap ((BitVec.ofInt 64 (a : Int) &&& BitVec.ofInt 64 (b : Int)).toNat : Int) = _
  have : a &&& b < 2 ^ 20 := Nat.and_lt_two_pow _ (by omega)
  rw [BitVec.toNat_and, u64 a (by omega), u64 b (by omega)]
  exact Lib.wrap_i64_small _ (by omega)

/-- the bits of a that b does not have -/
def dif (a b : Nat) : Nat := a &&& (18446744073709551615 - b)
theorem bnot_i64 (a b : Nat) (ha : a < 1048576) (hb : b < 1048576) : bits .andNot .i64 (a : Int) (b : Int) = ((dif a b : Nat) : Int) := by
  show IntKind.i64.wrap ((BitVec.ofInt 64 (a : Int) &&& ~~~BitVec.ofInt 64 (b : Int)).toNat : Int) = _
  have h : dif a b ≤ a := Nat.and_le_left
  rw [BitVec.toNat_and, BitVec.toNat_not, u64 a (by omega), u64 b (by omega)]
  exact Lib.wrap_i64_small (dif a b) (by omega)
theorem dif_bit (a b : Nat) (ha : a < 1048576) (hb : b < 1048576) (k : Nat) : (dif a b).testBit k = (a.testBit k && !b.testBit k) := by
  unfold dif
  rw [Nat.testBit_and]
  by_cases hk : k < 64
  · congr 1
    have e : 18446744073709551615 - b = 2 ^ 64 - (b + 1) := by omega
    rw [e, Nat.testBit_two_pow_sub_succ (by omega)]
    simp [hk]
  · have : a.testBit k = false := Nat.testBit_lt_two_pow (Nat.lt_of_lt_of_le ha (Nat.le_trans (show 1048576 ≤ 2 ^ 20 by decide) (Nat.pow_le_pow_right (by omega) (show 20 ≤ k by omega))))
    simp [this]
theorem dif_zero {a b : Nat} (ha : a < 1048576) (hb : b < 1048576) : dif a b = 0 ↔ ∀ k, a.testBit k = true → b.testBit k = true := by
  constructor
  · intro h k hk
    have := dif_bit a b ha hb k
    rw [h, hk] at this
    simpa using this
  · intro h
    refine Nat.eq_of_testBit_eq fun k => ?_
    rw [dif_bit a b ha hb k, Nat.zero_testBit]
    cases hk : a.testBit k
    · rfl
    · rw [h k hk]; rfl
theorem shr_and (d i : Nat) : (d / 2 ^ i) &&& 1 = if d.testBit i then 1 else 0 := by
  rw [Nat.and_one_is_mod]
  have : d.testBit i = decide ((d / 2 ^ i) % 2 = 1) := by rw [Nat.testBit_eq_decide_div_mod_eq]
  rw [this]
  by_cases h : (d / 2 ^ i) % 2 = 1
  · simp [h]
  · have : (d / 2 ^ i) % 2 = 0 := by omega
    simp [this]
end Tor
namespace Tor
open Go
theorem shr_test (d i : Nat) (hd : d < 1048576) : (bits .and .i64 ((d : Int) / 2 ^ i) 1 == 0) = !d.testBit i := by
  have e : (d : Int) / 2 ^ i = ((d / 2 ^ i : Nat) : Int) := by
    rw [show ((2 : Int) ^ i) = ((2 ^ i : Nat) : Int) from by simp]
    exact (Int.natCast_ediv d (2 ^ i)).symm
  have h := band_i64 (d / 2 ^ i) 1 (Nat.lt_of_le_of_lt (Nat.div_le_self _ _) hd) (by omega)
  rw [e]
  have h' : bits .and .i64 ((d / 2 ^ i : Nat) : Int) 1 = (((d / 2 ^ i) &&& 1 : Nat) : Int) := h
  rw [h', shr_and]
  cases d.testBit i <;> simp
theorem bnot_test (a b : Nat) (ha : a < 1048576) (hb : b < 1048576) : (bits .andNot .i64 (a : Int) (b : Int) == 0) = decide (dif a b = 0) := by
  rw [bnot_i64 a b ha hb]
  by_cases h : dif a b = 0 <;> simp [h]
end Tor
namespace Tor
open Go Go.RowKit
theorem bor_shl (d i : Nat) (hd : d < 1048576) (hi : i < 20) : bits .or .i64 (d : Int) (wrap64 (2 ^ i)) = ((d ||| 2 ^ i : Nat) : Int) := by
  have h2 : 2 ^ i < 1048576 := Nat.lt_of_lt_of_le (Nat.pow_lt_pow_right (by omega) hi) (by decide)
  have e : (2 : Int) ^ i = ((2 ^ i : Nat) : Int) := by simp
  have ew : wrap64 (2 ^ i) = ((2 ^ i : Nat) : Int) := by
    rw [e]
    have aux : ∀ m : Nat, m < 1048576 → wrap64 (m : Int) = (m : Int) := fun m h => IntWalk.wrap64_in _ ⟨by omega, by omega⟩
    exact aux _ h2
  rw [ew]
  exact bor_i64 d (2 ^ i) hd h2
end Tor
