/- Plain: lines. -/
import Derived.Test.YtoccplfnjammjaaGreatDoorQuoM
set_option linter.unusedSimpArgs false
set_option linter.unusedVariables false
namespace Go.Proofs.YtoccplfnjammjaaGreatDoor
open Go

def spl (c : UInt8) : List UInt8 → List (List UInt8)
  | [] => [[]]
  | b :: r => if b = c then [] :: spl c r else match spl c r with
    | [] => [[b]]
    | h :: t => (b :: h) :: t
theorem spl_ne (c : UInt8) (L : List UInt8) : spl c L ≠ [] := by
  cases L with
  | nil => simp [spl]
  | cons b r =>
    rw [spl]
    split
    · simp
    · split <;> simp
theorem spl_length (c : UInt8) : ∀ L : List UInt8, (spl c L).length = L.count c + 1
  | [] => rfl
  | b :: r => by
    have ih := spl_length c r
    rw [spl]
    by_cases hb : b = c
    · rw [if_pos hb, hb]; simp [ih]
    · rw [if_neg hb, List.count_cons_of_ne hb]
      cases hs : spl c r with
      | nil => exact absurd hs (spl_ne c r)
      | cons h t => rw [hs] at ih; simpa using ih
theorem split_spl (c : UInt8) : ∀ L : List UInt8, Lib.split L [c] = spl c L
  | [] => by
    unfold Lib.split
    cases Lib.count [] [c] with
    | zero => rfl
    | succ k => rfl
  | b :: r => by
    have ih := split_spl c r
    by_cases hb : b = c
    · subst hb
      have hp : ([b] : List UInt8).isPrefixOf (b :: r) = true := by simp [List.isPrefixOf]
      rw [spl, if_pos rfl, ← ih]
      unfold Lib.split
      rw [cnt_hit (by simp) hp, Nat.add_comm 1]
      simp only [List.length_cons, List.length_nil, List.drop_succ_cons, List.drop_zero]
      rw [Lib.splitK, idx_hit hp]
      simp
    · have hp : ([c] : List UInt8).isPrefixOf (b :: r) = false := by simp [List.isPrefixOf]; exact fun e => hb e.symm
      rw [spl, if_neg hb, ← ih]
      unfold Lib.split
      rw [cnt_miss (by simp) hp]
      cases Lib.count r [c] with
      | zero => rfl
      | succ k =>
        rw [Lib.splitK, Lib.splitK]
        rcases idx_miss hp with ⟨h1, h2⟩ | ⟨i, h1, h2⟩
        · rw [h1, h2]; rfl
        · rw [h1, h2]
          have e1 : ((i : Int) == -1) = false := by rw [beq_eq_false_iff_ne]; omega
          have e2 : (((i + 1 : Nat) : Int) == -1) = false := by rw [beq_eq_false_iff_ne]; omega
          rw [e1, e2]
          simp only [Bool.false_eq_true, if_false, Int.toNat_natCast, Nat.add_zero, List.take_succ_cons, List.length_cons, List.length_nil, Nat.zero_add, List.drop_succ_cons]
theorem spl_snoc (c : UInt8) : ∀ (A : List UInt8) (O : List (List UInt8)) (l : List UInt8), spl c A = O ++ [l] →
    spl c (A ++ [c]) = (O ++ [l]) ++ [[]] ∧ ∀ b, b ≠ c → spl c (A ++ [b]) = O ++ [l ++ [b]]
  | [], O, l, h => by
    cases O with
    | nil =>
      simp [spl] at h
      subst h
      exact ⟨by simp [spl], fun b hb => by simp [spl, hb]⟩
    | cons o t => simp [spl] at h
  | a :: r, O, l, h => by
    rw [spl] at h
    by_cases ha : a = c
    · rw [if_pos ha] at h
      cases O with
      | nil => simp at h; exact absurd h.2 (spl_ne c r)
      | cons o O' =>
        simp only [List.cons_append, List.cons.injEq] at h
        obtain ⟨h1, h2⟩ := spl_snoc c r O' l h.2
        refine ⟨?_, fun b hb => ?_⟩
        · rw [List.cons_append, spl, if_pos ha, h1, ← h.1]; simp
        · rw [List.cons_append, spl, if_pos ha, h2 b hb, ← h.1]; simp
    · rw [if_neg ha] at h
      cases hs : spl c r with
      | nil => exact absurd hs (spl_ne c r)
      | cons x t =>
        rw [hs] at h
        simp only at h
        cases O with
        | nil =>
          simp only [List.nil_append, List.cons.injEq] at h
          obtain ⟨rfl, rfl⟩ := h
          obtain ⟨h1, h2⟩ := spl_snoc c r [] x (by rw [hs]; rfl)
          refine ⟨?_, fun b hb => ?_⟩
          · rw [List.cons_append, spl, if_neg ha, h1]; simp
          · rw [List.cons_append, spl, if_neg ha, h2 b hb]; simp
        | cons o O' =>
          simp only [List.cons_append, List.cons.injEq] at h
          obtain ⟨rfl, rfl⟩ := h
          obtain ⟨h1, h2⟩ := spl_snoc c r (x :: O') l (by rw [hs]; rfl)
          refine ⟨?_, fun b hb => ?_⟩
          · rw [List.cons_append, spl, if_neg ha, h1]; simp
          · rw [List.cons_append, spl, if_neg ha, h2 b hb]; simp
/-- the lines of a text, without their ends -/
def linL (L : List UInt8) : List (List UInt8) := (spl 10 L).dropLast
theorem linL_length (L : List UInt8) : (linL L).length = L.count 10 := by
  unfold linL; rw [List.length_dropLast, spl_length]; omega
theorem linL_split (M : List UInt8) : linL (M ++ [10]) = Lib.split M [10] := by
  have hne := spl_ne 10 M
  have h := (spl_snoc 10 M (spl 10 M).dropLast ((spl 10 M).getLast hne) (List.dropLast_concat_getLast hne).symm).1
  rw [List.dropLast_concat_getLast hne] at h
  unfold linL
  rw [h, List.dropLast_concat, split_spl]
def linesP (L : List UInt8) : List (List UInt8) × Int :=
  if 1048576 < L.length then ([], 3) else if L = [] then ([], 0) else if L.getLast? ≠ some 10 then ([], 6) else if 5000 < L.count 10 then ([], 3) else (linL L, 0)
end Go.Proofs.YtoccplfnjammjaaGreatDoor
