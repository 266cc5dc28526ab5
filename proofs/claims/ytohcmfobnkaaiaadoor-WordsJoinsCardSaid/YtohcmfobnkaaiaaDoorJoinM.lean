/- Plain: the join of what Split takes is the line. -/
import Derived.Test.YtohcmfobnkaaiaaDoorWJoin
set_option linter.unusedSimpArgs false
set_option linter.unusedVariables false
namespace Go.Proofs.YtohcmfobnkaaiaaDoor
open Go

theorem fieldP_write {y : List UInt8} {x : Fld} (h : fieldP y = some x) : writeF x = y ∧ rightF x = true := by
  unfold fieldP at h
  split at h
  · rcases unq_two y with hU | ⟨t, hU, hq⟩
    · rw [hU] at h; simp at h
    · rw [hU] at h
      simp only [ne_eq, not_true_eq_false, if_false] at h
      split at h
      · rename_i ht
        cases h
        unfold quoteP at hq
        rw [if_pos ht] at hq
        exact ⟨congrArg Prod.fst hq, ht⟩
      · cases h
  · split at h
    · rename_i hr
      cases h
      exact ⟨rfl, hr⟩
    · cases h
theorem allF_write : ∀ (ps : List (List UInt8)) (l : List Fld), allF ps = some l → l.map writeF = ps ∧ l.all rightF = true
  | [], l, h => by cases h; exact ⟨rfl, rfl⟩
  | p :: r, l, h => by
    rw [allF_cons] at h
    cases hp : fieldP p with
    | none => rw [hp] at h; cases h
    | some y =>
      rw [hp] at h
      cases hr : allF r with
      | none => rw [hr] at h; cases h
      | some t =>
        rw [hr] at h
        cases h
        obtain ⟨a, b⟩ := allF_write r t hr
        obtain ⟨c, d⟩ := fieldP_write hp
        exact ⟨by rw [List.map_cons, a, c], by rw [List.all_cons, d, b]; rfl⟩
theorem endP_at : ∀ (s : List UInt8) (q : Bool) (k : Nat), endP q s = some k → s[k]? = some 32
  | [], q, k, h => by simp [endP] at h
  | c :: r, q, k, h => by
    rw [endP] at h
    split at h
    · cases he : endP (!q) r with
      | none => rw [he] at h; cases h
      | some m => rw [he] at h; cases h; rw [List.getElem?_cons_succ]; exact endP_at r _ _ he
    split at h
    · rename_i hc; cases h; rw [hc.1]; rfl
    · cases he : endP q r with
      | none => rw [he] at h; cases h
      | some m => rw [he] at h; cases h; rw [List.getElem?_cons_succ]; exact endP_at r _ _ he
theorem pcs_join : ∀ (n : Nat) (L : List UInt8), L.length = n → Lib.join (pcsG L) [32] = L := by
  intro n
  induction n using Nat.strongRecOn with
  | ind n ih =>
    intro L hL
    cases he : endP false L with
    | none => rw [pcsG_none he, Lib.join_one]
    | some k =>
      have hk := end_lt _ _ _ he
      have h32 := endP_at _ _ _ he
      have := ih (L.drop (k + 1)).length (by rw [List.length_drop]; omega) _ rfl
      rw [pcsG_some he]
      cases hp : pcsG (L.drop (k + 1)) with
      | nil =>
        exfalso
        cases he2 : endP false (L.drop (k + 1)) with
        | none => rw [pcsG_none he2] at hp; cases hp
        | some m => rw [pcsG_some he2] at hp; cases hp
      | cons y t =>
        rw [join_two, ← hp, this]
        have e : L[k] = 32 := by rw [List.getElem?_eq_getElem hk] at h32; exact Option.some.inj h32
        conv => rhs; rw [← List.take_append_drop k L, List.drop_eq_getElem_cons hk, e]
theorem join_size (l : List Fld) (h : l ≠ []) : sizeF l = (Lib.join (l.map writeF) [32]).length + 1 := by
  induction l with
  | nil => exact absurd rfl h
  | cons x r ih =>
    cases r with
    | nil => simp [sizeF, Lib.join_one]
    | cons y t =>
      have := ih (by simp)
      rw [List.map_cons, List.map_cons, join_two]
      rw [List.map_cons] at this
      simp only [sizeF, List.map_cons, List.sum_cons, List.length_append, List.length_cons] at this ⊢
      omega
theorem split_join {L : List UInt8} {l : List Fld} (h : splitP L = (l, 0)) : joinP l = (L, 0) := by
  have h1 : ¬ 4096 < L.length := fun h1 => by unfold splitP at h; rw [if_pos h1] at h; cases h
  by_cases h0 : L = []
  · subst h0
    have : l = [] := (congrArg Prod.fst h).symm
    subst this
    rfl
  rw [splitP_r h1, rspl_eq _ L (Nat.le_refl _) h0] at h
  cases ha : allF (pcsG L) with
  | none => rw [ha] at h; cases h
  | some m =>
    rw [ha] at h
    simp only at h
    split at h
    · cases h
    · rename_i h64
      cases h
      obtain ⟨a, b⟩ := allF_write _ _ ha
      have hj := pcs_join _ L rfl
      unfold joinP
      rw [if_neg h64, if_neg (by rw [b]; simp), a, hj, if_neg]
      by_cases hl : l = []
      · subst hl; simp [sizeF]
      · rw [join_size l hl, a, hj]; omega
theorem split_kinds (L : List UInt8) : (∃ l, splitP L = (l, 0) ∧ l.length ≤ 64 ∧ ∀ x ∈ l, x.s.length ≤ 200) ∨ (∃ n : Int, splitP L = ([], n) ∧ (n == 0) = false) := by
  by_cases h1 : 4096 < L.length
  · exact .inr ⟨3, by unfold splitP; rw [if_pos h1], rfl⟩
  by_cases h0 : L = []
  · subst h0; exact .inl ⟨[], rfl, by simp, by simp⟩
  have h := splitP_r h1
  rw [rspl_eq _ L (Nat.le_refl _) h0] at h
  cases ha : allF (pcsG L) with
  | none => rw [ha] at h; exact .inr ⟨6, h, rfl⟩
  | some m =>
    rw [ha] at h
    simp only at h
    by_cases h64 : 64 < m.length
    · rw [if_pos h64] at h; exact .inr ⟨3, h, rfl⟩
    · rw [if_neg h64] at h
      obtain ⟨a, b⟩ := allF_write _ _ ha
      exact .inl ⟨m, h, by omega, fun x hx => right_len (List.all_eq_true.1 b x hx)⟩
end Go.Proofs.YtohcmfobnkaaiaaDoor
