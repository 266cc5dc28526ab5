/- Plain: lines. -/
import Derived.Test.YtmfklcnocekdlaaGreatDoorQuoM
set_option linter.unusedSimpArgs false
set_option linter.unusedVariables false
namespace Go.Proofs.YtmfklcnocekdlaaGreatDoor
open Go

def spl (c : UInt8) : List UInt8 → List (List UInt8)
  | [] => [[]]
  | b :: r => if b = c then [] :: spl c r else match spl c r with
    | [] => [[b]]
    | h :: t => (b :: h) :: t
theorem spl_ne (c : UInt8) (L : List UInt8) : spl c L ≠ [] := by
  cases L with
  | nil => simp [spl]
  | cons b r =>
    rw [spl]
    split
    · simp
    · split <;> simp
theorem spl_length (c : UInt8) : ∀ L : List UInt8, (spl c L).length = L.count c + 1
  | [] => rfl
  | b :: r => by
    have ih := spl_length c r
    rw [spl]
    by_cases hb : b = c
    · rw [if_pos hb, hb]; simp [ih]
    · rw [if_neg hb, List.count_cons_of_ne hb]
      cases hs : spl c r with
      | nil => exact absurd hs (spl_ne c r)
      | cons h t => rw [hs] at ih; simpa using ih
theorem split_spl (c : UInt8) : ∀ L : List UInt8, Lib.split L [c] = spl c L
  | [] => by
    unfold Lib.split
    cases Lib.count [] [c] with
    | zero => rfl
    | succ k => rfl
  | b :: r => by
    have ih := split_spl c r
    by_cases hb : b = c
    · subst hb
      have hp : ([b] : List UInt8).isPrefixOf (b :: r) = true := by simp [List.isPrefixOf]
      rw [spl, if_pos rfl, ← ih]
      unfold Lib.split
      rw [cnt_hit (by simp) hp, Nat.add_comm 1]
      simp only [List.length_cons, List.length_nil, List.drop_succ_cons, List.drop_zero]
      rw [Lib.splitK, idx_hit hp]
      simp
    · have hp : ([c] : List UInt8).isPrefixOf (b :: r) = false := by simp [List.isPrefixOf]; exact fun e => hb e.symm
      rw [spl, if_neg hb, ← ih]
      unfold Lib.split
      rw [cnt_miss (by simp) hp]
      cases Lib.count r [c] with
      | zero => rfl
      | succ k =>
        rw [Lib.splitK, Lib.splitK]
        rcases idx_miss hp with ⟨h1, h2⟩ | ⟨i, h1, h2⟩
        · rw [h1, h2]; rfl
        · rw [h1, h2]
          have e1 : ((i : Int) == -1) = false := by rw [beq_eq_false_iff_ne]; omega
          have e2 : (((i + 1 : Nat) : Int) == -1) = false := by rw [beq_eq_false_iff_ne]; omega
          rw [e1, e2]
          simp only [Bool.false_eq_true, if_false, Int.toNat_natCast, Nat.add_zero, List.take_succ_cons, List.length_cons, List.length_nil, Nat.zero_add, List.drop_succ_cons]
end Go.Proofs.YtmfklcnocekdlaaGreatDoor

