/- Plain: quotations, written and read byte by byte. -/
import Derived.Lib.CountLaws
import Derived.Lib.ReplaceLaws
import Derived.Test.YtoccplfnjammjaaGreatDoorWdM
set_option linter.unusedSimpArgs false
set_option linter.unusedVariables false
namespace Go.Proofs.YtoccplfnjammjaaGreatDoor
open Go

section
variable {old new : List UInt8}
theorem idx_hit {c : UInt8} {r : List UInt8} (h : old.isPrefixOf (c :: r) = true) : Lib.index (c :: r) old = 0 := by unfold Lib.index; rw [if_pos h]
theorem idx_miss {c : UInt8} {r : List UInt8} (h : old.isPrefixOf (c :: r) = false) : (Lib.index r old = -1 ∧ Lib.index (c :: r) old = -1) ∨ (∃ i : Nat, Lib.index r old = i ∧ Lib.index (c :: r) old = (i + 1 : Nat)) := by
  have hg := Lib.index_ge r old
  have he : Lib.index (c :: r) old = (if Lib.index r old == -1 then -1 else Lib.index r old + 1) := by
    rw [Lib.index, h]
    simp only [Bool.false_eq_true, if_false]
  rw [he]
  by_cases hm : Lib.index r old = -1
  · left; rw [hm]; exact ⟨rfl, rfl⟩
  · right
    refine ⟨(Lib.index r old).toNat, by omega, ?_⟩
    have : (Lib.index r old == -1) = false := beq_eq_false_iff_ne.2 hm
    rw [this]
    simp only [Bool.false_eq_true, if_false]
    omega
theorem repK_miss {c : UInt8} {r : List UInt8} (h : old.isPrefixOf (c :: r) = false) (k : Nat) : Lib.replaceK old new k (c :: r) = c :: Lib.replaceK old new k r := by
  cases k with
  | zero => rfl
  | succ k =>
    rcases idx_miss h with ⟨h1, h2⟩ | ⟨i, h1, h2⟩
    · rw [Lib.replaceK, Lib.replaceK, h1, h2]; rfl
    · rw [Lib.replaceK_hit _ _ _ _ _ h1, Lib.replaceK_hit _ _ _ _ _ h2, List.take_succ_cons, show i + 1 + old.length = (i + old.length) + 1 by omega, List.drop_succ_cons]
      rfl
theorem repK_hit {c : UInt8} {r : List UInt8} (h : old.isPrefixOf (c :: r) = true) (k : Nat) : Lib.replaceK old new (k + 1) (c :: r) = new ++ Lib.replaceK old new k ((c :: r).drop old.length) := by
  rw [Lib.replaceK_hit old new k (c :: r) 0 (by rw [idx_hit h]; rfl)]
  simp
theorem cnt_miss (ho : old ≠ []) {c : UInt8} {r : List UInt8} (h : old.isPrefixOf (c :: r) = false) : Lib.count (c :: r) old = Lib.count r old := by
  rcases idx_miss h with ⟨h1, h2⟩ | ⟨i, h1, h2⟩
  · rw [Lib.count_miss h1, Lib.count_miss h2]
  · rw [Lib.count_hit ho h1, Lib.count_hit ho h2, show i + 1 + old.length = (i + old.length) + 1 by omega, List.drop_succ_cons]
theorem cnt_hit (ho : old ≠ []) {c : UInt8} {r : List UInt8} (h : old.isPrefixOf (c :: r) = true) : Lib.count (c :: r) old = 1 + Lib.count ((c :: r).drop old.length) old := by
  have := Lib.count_hit (s := c :: r) (i := 0) ho (by rw [idx_hit h]; rfl)
  simpa using this
theorem repA_eq (hn : old ≠ new) (s : List UInt8) : Lib.replaceAll s old new = Lib.replaceK old new (Lib.count s old) s := by
  unfold Lib.replaceAll Lib.replace Lib.replaceNum
  rw [if_neg (by simpa using hn), if_pos (.inl (by omega))]
theorem repA_miss (ho : old ≠ []) (hn : old ≠ new) {c : UInt8} {r : List UInt8} (h : old.isPrefixOf (c :: r) = false) : Lib.replaceAll (c :: r) old new = c :: Lib.replaceAll r old new := by
  rw [repA_eq hn, repA_eq hn, cnt_miss ho h, repK_miss h]
theorem repA_hit (ho : old ≠ []) (hn : old ≠ new) {c : UInt8} {r : List UInt8} (h : old.isPrefixOf (c :: r) = true) : Lib.replaceAll (c :: r) old new = new ++ Lib.replaceAll ((c :: r).drop old.length) old new := by
  rw [repA_eq hn, repA_eq hn, cnt_hit ho h, Nat.add_comm 1, repK_hit h]
theorem repA_nil (hn : old ≠ new) (ho : old ≠ []) : Lib.replaceAll [] old new = [] := by
  rw [repA_eq hn]
  cases old with
  | nil => exact absurd rfl ho
  | cons a t => rfl
end

/-- each quotation mark is doubled -/
def qd (L : List UInt8) : List UInt8 := L.flatMap fun c => if c = 34 then [34, 34] else [c]
theorem qd_eq : ∀ L : List UInt8, Lib.replaceAll L [34] [34, 34] = qd L
  | [] => repA_nil (by decide) (by decide)
  | c :: r => by
    by_cases hc : c = 34
    · subst hc
      rw [repA_hit (by decide) (by decide) (by simp [List.isPrefixOf])]
      simp only [List.length_cons, List.length_nil, List.drop_succ_cons, List.drop_zero]
      rw [qd_eq r]
      simp [qd]
    · rw [repA_miss (by decide) (by decide) (by simp [List.isPrefixOf]; exact fun e => hc e.symm), qd_eq r]
      simp [qd, hc]
theorem quoteL_eq (L : List UInt8) : quoteL L = 34 :: (qd L ++ [34]) := by unfold quoteL; rw [qd_eq]
/-- each doubled quotation mark is one: none where one stands alone -/
def und : List UInt8 → Option (List UInt8)
  | [] => some []
  | [c] => if c = 34 then none else some [c]
  | c :: d :: r => if c = 34 then (if d = 34 then (und r).map (34 :: ·) else none) else (und (d :: r)).map (c :: ·)
theorem und_qd : ∀ L : List UInt8, und (qd L) = some L
  | [] => rfl
  | c :: r => by
    have ih := und_qd r
    by_cases hc : c = 34
    · subst hc
      have e : qd (34 :: r) = 34 :: 34 :: qd r := by simp [qd]
      rw [e, und, if_pos rfl, if_pos rfl, ih]
      rfl
    · have e : qd (c :: r) = c :: qd r := by simp [qd, hc]
      rw [e]
      cases hq : qd r with
      | nil =>
        rw [hq] at ih
        rw [und, if_neg hc]
        have : r = [] := by
          have h2 : und [] = some r := ih
          simpa [und] using h2.symm
        rw [this]
      | cons d t =>
        rw [hq] at ih
        rw [und, if_neg hc, ih]
        rfl
theorem qd_und : ∀ (n : Nat) (M t : List UInt8), M.length = n → und M = some t → qd t = M ∧ Lib.replaceAll M [34, 34] [34] = t := by
  intro n
  induction n using Nat.strongRecOn with
  | ind n ih =>
    intro M t hM h
    match M, hM, h with
    | [], _, h =>
      simp [und] at h
      subst h
      exact ⟨rfl, repA_nil (by decide) (by decide)⟩
    | [c], _, h =>
      rw [und] at h
      split at h
      · cases h
      · rename_i hc
        simp at h
        subst h
        refine ⟨by simp [qd, hc], ?_⟩
        rw [repA_miss (by decide) (by decide) (by simp [List.isPrefixOf]), repA_nil (by decide) (by decide)]
    | c :: d :: r, hM, h =>
      rw [und] at h
      split at h
      · rename_i hc
        subst hc
        split at h
        · rename_i hd
          subst hd
          cases hu : und r with
          | none => rw [hu] at h; cases h
          | some t' =>
            rw [hu] at h
            simp at h
            subst h
            obtain ⟨h1, h2⟩ := ih r.length (by rw [← hM]; simp; omega) r t' rfl hu
            refine ⟨by simp [qd]; exact h1, ?_⟩
            rw [repA_hit (by decide) (by decide) (by simp [List.isPrefixOf])]
            simp only [List.length_cons, List.length_nil, List.drop_succ_cons, List.drop_zero]
            rw [h2]
            rfl
        · cases h
      · rename_i hc
        cases hu : und (d :: r) with
        | none => rw [hu] at h; cases h
        | some t' =>
          rw [hu] at h
          simp at h
          subst h
          obtain ⟨h1, h2⟩ := ih (d :: r).length (by rw [← hM]; simp) (d :: r) t' rfl hu
          refine ⟨by simp [qd, hc]; exact h1, ?_⟩
          rw [repA_miss (by decide) (by decide) (by simp [List.isPrefixOf]; exact fun e => absurd e.symm hc), h2]
/-- Unquote, byte by byte -/
theorem unqP_eq (L : List UInt8) (h : ¬ (L.length < 2 ∨ L.head? ≠ some 34 ∨ L.getLast? ≠ some 34)) : unqP L = match und (midL L) with
    | none => ([], 6)
    | some t => if textB t then (t, 0) else ([], 6) := by
  have hL : L = 34 :: (midL L ++ [34]) := by
    have h2 : 2 ≤ L.length := by omega
    cases L with
    | nil => simp at h2
    | cons a r =>
      have ha : a = 34 := by
        by_cases e : a = 34
        · exact e
        · exact absurd (.inr (.inl (by simpa using e))) h
      subst ha
      have hr : r ≠ [] := fun e => by subst e; simp at h2
      have hl : r.getLast hr = 34 := by
        by_cases e : r.getLast hr = 34
        · exact e
        · refine absurd (.inr (.inr ?_)) h
          rw [List.getLast?_cons, List.getLast?_eq_some_getLast hr]
          simpa using e
      have e2 : midL (34 :: r) = r.dropLast := by
        unfold midL
        simp [List.dropLast_eq_take]
      rw [e2]
      conv => lhs; rw [← List.dropLast_concat_getLast hr]
      rw [hl]
  unfold unqP
  rw [if_neg h]
  cases hu : und (midL L) with
  | none =>
    simp only
    rw [if_neg]
    intro e
    unfold quoteP at e
    split at e
    · have e1 := congrArg Prod.fst e
      simp only [quoteL_eq] at e1
      rw [hL] at e1
      have e2 := List.append_cancel_right (List.cons.inj e1).2
      have e3 := und_qd (Lib.replaceAll (midL L) [34, 34] [34])
      rw [← hL] at e2
      rw [e2, hu] at e3
      cases e3
    · cases e
  | some t =>
    obtain ⟨h1, h2⟩ := qd_und _ _ _ rfl hu
    simp only
    rw [h2]
    unfold quoteP
    cases ht : textB t
    · simp
    · simp only [if_true]
      rw [if_pos]
      rw [quoteL_eq, h1, ← hL]
end Go.Proofs.YtoccplfnjammjaaGreatDoor
