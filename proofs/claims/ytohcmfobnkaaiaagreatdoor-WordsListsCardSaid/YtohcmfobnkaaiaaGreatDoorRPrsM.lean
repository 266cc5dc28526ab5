/- Plain: the reference's reading of an item, and of a list. -/
import Derived.Test.YtohcmfobnkaaiaaGreatDoorAppM
set_option linter.unusedSimpArgs false
set_option linter.unusedVariables false
namespace Go.Proofs.YtohcmfobnkaaiaaGreatDoor
open Go

/-- an item's numbers, as digits -/
structure It3 where
  n : List UInt8
  m : List UInt8
  t : List UInt8
deriving DecidableEq, Inhabited
def i3enc (x : It3) : List Value := [.string ⟨x.n.toArray⟩, .string ⟨x.m.toArray⟩, .string ⟨x.t.toArray⟩]
theorem i3_len (x : It3) : (i3enc x).length = 3 := rfl
theorem i3_one (x : It3) : ∀ u ∈ i3enc x, u.oneCell' = true := by
  intro u hu
  simp only [i3enc, List.mem_cons, List.not_mem_nil, or_false] at hu
  rcases hu with rfl | rfl | rfl <;> rfl
def rreadP (s : List UInt8) : It3 × Bool :=
  let k := Lib.indexAny s [45, 120]
  if k < 0 then (⟨s, s, [49]⟩, natB s)
  else
    let a := s.take k.toNat
    let b := s.drop (k.toNat + 1)
    if s[k.toNat]? = some 45 then (⟨a, b, [49]⟩, natB a && (natB b && ltB a b))
    else (⟨b, b, a⟩, natB a && (natB b && ltB [49] a))
theorem natP_nat {s : List UInt8} (h : natB s = true) : natP s = (min (natV s : Int) 1099511627776, true) := by
  have hn := nat_head (natB_all h)
  have hm : magL s = s := by unfold magL; rw [hn]; rfl
  have hv : valB s = natV s := by unfold valB; rw [hn, hm]; rfl
  have hw : wholeB s = true := by unfold wholeB; rw [hm, h, hn]; rfl
  have h45 : s.head? ≠ some 45 := fun e => by unfold negB at hn; rw [e] at hn; simp at hn
  unfold natP intW
  rw [hw, hv]
  have hmin : ¬ ((1099511627776 : Int) < 0) := by omega
  simp only [hmin, if_false, Bool.true_eq_false]
  by_cases hb : ((natV s : Nat) : Int) < -9223372036854775808 ∨ 9223372036854775807 < ((natV s : Nat) : Int) ∨ ((natV s : Nat) : Int) < 0 ∨ 1099511627776 < ((natV s : Nat) : Int)
  · simp only [hb, if_true, true_and]
    rw [if_pos h45]
    simp only [Prod.mk.injEq, and_true]
    omega
  · simp only [hb, if_false]
    rw [if_neg (by simp)]
    simp only [decide_true, Prod.mk.injEq, and_true]
    omega
theorem natP_no {s : List UInt8} (h : natB s = false) : (natP s).2 = false := by
  cases hh : (natP s).2 with
  | false => rfl
  | true => rw [(natP_true hh).1] at h; cases h
theorem ltB_of {a b : List UInt8} (ha : natB a = true) (hb : natB b = true) (h : natV a < natV b) : ltB a b = true := by
  cases hl : ltB a b with
  | true => rfl
  | false =>
    exfalso
    cases hr : ltB b a with
    | true => have := ltB_val hb ha hr; omega
    | false => rw [ltB_tri hl hr] at h; omega
theorem ltB_one {a : List UInt8} (ha : natB a = true) : ltB [49] a = decide (2 ≤ min (natV a : Int) 1099511627776) := by
  have h1 : natB [49] = true := by decide
  have v1 : natV [49] = 1 := by decide
  by_cases h : 1 < natV a
  · rw [ltB_of h1 ha (by rw [v1]; exact h), decide_eq_true (by omega)]
  · rw [decide_eq_false (by omega)]
    cases hl : ltB [49] a with
    | false => rfl
    | true => have := ltB_val h1 ha hl; omega
/-- what is read, and what it counts as -/
structure Rdd (u : List UInt8) : Prop where
  n : natB (rreadP u).1.n = true
  m : natB (rreadP u).1.m = true
  t : natB (rreadP u).1.t = true
  e : (readP u).1 = ⟨min (natV (rreadP u).1.n : Int) 1099511627776, min (natV (rreadP u).1.m : Int) 1099511627776, min (natV (rreadP u).1.t : Int) 1099511627776⟩
theorem rread_eq (s : List UInt8) : (readP s).2 = (rreadP s).2 ∧ ((rreadP s).2 = true → Rdd s) := by
  have h49 : natB [49] = true := by decide
  have v49 : min (natV [49] : Int) 1099511627776 = 1 := by decide
  by_cases hk : Lib.indexAny s [45, 120] < 0
  · have e1 : readP s = (⟨(natP s).1, (natP s).1, 1⟩, (natP s).2) := by unfold readP; simp only [hk, if_true]
    have e2 : rreadP s = (⟨s, s, [49]⟩, natB s) := by unfold rreadP; simp only [hk, if_true]
    rw [e1, e2]
    cases hs : natB s with
    | false => exact ⟨natP_no hs, fun h => absurd h (by simp)⟩
    | true => exact ⟨by rw [natP_nat hs], fun _ => ⟨by rw [e2]; exact hs, by rw [e2]; exact hs, by rw [e2]; exact h49, by rw [e1, e2, natP_nat hs, v49]⟩⟩
  · by_cases h45 : s[(Lib.indexAny s [45, 120]).toNat]? = some 45
    · obtain ⟨a, ha⟩ : ∃ a, s.take (Lib.indexAny s [45, 120]).toNat = a := ⟨_, rfl⟩
      obtain ⟨b, hb⟩ : ∃ b, s.drop ((Lib.indexAny s [45, 120]).toNat + 1) = b := ⟨_, rfl⟩
      have e1 : readP s = (⟨(natP a).1, (natP b).1, 1⟩, (natP a).2 && ((natP b).2 && ltB a b)) := by unfold readP; simp only [hk, if_false, h45, if_true, ha, hb]
      have e2 : rreadP s = (⟨a, b, [49]⟩, natB a && (natB b && ltB a b)) := by unfold rreadP; simp only [hk, if_false, h45, if_true, ha, hb]
      rw [e1, e2]
      cases hs : natB a with
      | false => exact ⟨by simp [natP_no hs], fun h => by simp at h⟩
      | true =>
        cases ht : natB b with
        | false => exact ⟨by simp [natP_no ht], fun h => by simp at h⟩
        | true => exact ⟨by rw [natP_nat hs, natP_nat ht], fun _ => ⟨by rw [e2]; exact hs, by rw [e2]; exact ht, by rw [e2]; exact h49, by rw [e1, e2, natP_nat hs, natP_nat ht, v49]⟩⟩
    · obtain ⟨a, ha⟩ : ∃ a, s.take (Lib.indexAny s [45, 120]).toNat = a := ⟨_, rfl⟩
      obtain ⟨b, hb⟩ : ∃ b, s.drop ((Lib.indexAny s [45, 120]).toNat + 1) = b := ⟨_, rfl⟩
      have e1 : readP s = (⟨(natP b).1, (natP b).1, (natP a).1⟩, (natP a).2 && ((natP b).2 && decide (2 ≤ (natP a).1))) := by unfold readP; simp only [hk, if_false, h45, ha, hb]
      have e2 : rreadP s = (⟨b, b, a⟩, natB a && (natB b && ltB [49] a)) := by unfold rreadP; simp only [hk, if_false, h45, ha, hb]
      rw [e1, e2]
      cases hs : natB a with
      | false => exact ⟨by simp [natP_no hs], fun h => by simp at h⟩
      | true =>
        cases ht : natB b with
        | false => exact ⟨by simp [natP_no ht], fun h => by simp at h⟩
        | true => exact ⟨by rw [natP_nat hs, natP_nat ht, ltB_one hs], fun _ => ⟨by rw [e2]; exact ht, by rw [e2]; exact ht, by rw [e2]; exact hs, by rw [e1, e2, natP_nat hs, natP_nat ht]⟩⟩
theorem lt9999 {m : List UInt8} (h : natB m = true) : ltB [57, 57, 57, 57] m = decide (9999 < min (natV m : Int) 1099511627776) := by
  have h1 : natB [57, 57, 57, 57] = true := by decide
  have v1 : natV [57, 57, 57, 57] = 9999 := by decide
  by_cases hh : 9999 < natV m
  · rw [ltB_of h1 h (by rw [v1]; exact hh), decide_eq_true (by omega)]
  · rw [decide_eq_false (by omega)]
    cases hl : ltB [57, 57, 57, 57] m with
    | false => rfl
    | true => have := ltB_val h1 h hl; omega
/-- a number from 0 on, read -/
theorem intW_nat {s : List UInt8} (h : natB s = true) (least most : Int) (hlm : least ≤ most) (hm : most ≤ 1000000) (h0 : 0 ≤ least) : intW s least most = if (natV s : Int) < least ∨ most < natV s then (0, 7) else ((natV s : Int), 0) := by
  have hn := nat_head (natB_all h)
  have hmm : magL s = s := by unfold magL; rw [hn]; rfl
  have hv : valB s = natV s := by unfold valB; rw [hn, hmm]; rfl
  have hw : wholeB s = true := by unfold wholeB; rw [hmm, h, hn]; rfl
  unfold intW
  rw [if_neg (by omega), hw, hv, if_neg (by simp)]
  by_cases hh : (natV s : Int) < least ∨ most < natV s
  · rw [if_pos hh, if_pos (by omega)]
  · rw [if_neg hh, if_neg (by omega)]
theorem whole_nat (L : List UInt8) : natB L = (wholeB L && decide (L.head? ≠ some 45)) := by
  unfold wholeB
  by_cases h : L.head? = some 45
  · have hn : natB L = false := by
      cases hb : natB L with
      | false => rfl
      | true => have := nat_head (natB_all hb); unfold negB at this; rw [h] at this; simp at this
    rw [hn]; simp [h]
  · have hn : negB L = false := by unfold negB; simp [h]
    have hm : magL L = L := by unfold magL; rw [hn]; rfl
    rw [hm, hn]; simp [h]
end Go.Proofs.YtohcmfobnkaaiaaGreatDoor
