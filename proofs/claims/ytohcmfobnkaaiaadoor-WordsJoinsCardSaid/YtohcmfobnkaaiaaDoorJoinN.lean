/- Plain: Split of what Join writes is the fields. -/
import Derived.Test.YtohcmfobnkaaiaaDoorJoinM
set_option linter.unusedSimpArgs false
set_option linter.unusedVariables false
namespace Go.Proofs.YtohcmfobnkaaiaaDoor
open Go

theorem endP_clean (q : Bool) (B : List UInt8) : ∀ a : List UInt8, (∀ c ∈ a, c ≠ 32 ∧ c ≠ 34) → endP q (a ++ B) = (endP q B).map (· + a.length)
  | [], _ => by simp
  | c :: r, h => by
    obtain ⟨h32, h34⟩ := h c (by simp)
    rw [List.cons_append, endP, if_neg h34, if_neg (by simp [h32]), endP_clean q B r (fun x hx => h x (by simp [hx])), map_add, List.length_cons, Nat.add_comm 1]
theorem endP_qd (B : List UInt8) : ∀ a : List UInt8, endP true (qd a ++ B) = (endP true B).map (· + (qd a).length)
  | [] => by simp [qd]
  | c :: r => by
    by_cases hc : c = 34
    · have e : qd (c :: r) = 34 :: 34 :: qd r := by simp [qd, hc]
      rw [e, List.cons_append, List.cons_append, endP, if_pos rfl, Bool.not_true, endP, if_pos rfl, Bool.not_false, endP_qd B r, map_add, map_add]
      simp only [List.length_cons]
      congr 1; funext k; omega
    · have e : qd (c :: r) = c :: qd r := by simp [qd, hc]
      rw [e, List.cons_append, endP, if_neg hc, if_neg (by simp), endP_qd B r, map_add, List.length_cons, Nat.add_comm 1]
theorem right_clean {L : List UInt8} (h : rightF ⟨false, L⟩ = true) : L ≠ [] ∧ ∀ c ∈ L, c ≠ 32 ∧ c ≠ 34 := by
  rw [rightF_eq] at h
  simp only [Bool.and_eq_true, decide_eq_true_eq] at h
  refine ⟨h.1, fun c hc => ?_⟩
  have := List.all_eq_true.1 h.2.1 c hc
  simpa using this
theorem endP_write {x : Fld} (h : rightF x = true) (B : List UInt8) : endP false (writeF x ++ B) = (endP false B).map (· + (writeF x).length) := by
  obtain ⟨q, s⟩ := x
  cases q
  · exact endP_clean _ _ _ (right_clean h).2
  · show endP false (quoteL s ++ B) = (endP false B).map (· + (quoteL s).length)
    rw [quoteL_eq, List.cons_append, endP, if_pos rfl, Bool.not_false, List.append_assoc, endP_qd, List.singleton_append, endP, if_pos rfl, Bool.not_true, map_add, map_add]
    simp only [List.length_cons, List.length_append, List.length_nil]
    congr 1
    funext k; omega
theorem fieldP_of_write {x : Fld} (h : rightF x = true) : fieldP (writeF x) = some x := by
  obtain ⟨q, s⟩ := x
  cases q
  · obtain ⟨h0, hc⟩ := right_clean h
    show fieldP s = _
    unfold fieldP
    rw [if_neg, if_pos h]
    cases s with
    | nil => exact absurd rfl h0
    | cons c r =>
      intro e
      simp at e
      exact (hc c (by simp)).2 e
  · show fieldP (quoteL s) = _
    have ht : textB s = true := h
    unfold fieldP
    rw [if_pos (by rw [quoteL_eq]; rfl), unq_quote ht]
    simp [ht]
theorem write_ne {x : Fld} (h : rightF x = true) : writeF x ≠ [] := by
  obtain ⟨q, s⟩ := x
  cases q
  · exact (right_clean h).1
  · show quoteL s ≠ []
    rw [quoteL_eq]; simp
theorem pcs_of_join : ∀ l : List Fld, l ≠ [] → l.all rightF = true → pcsG (Lib.join (l.map writeF) [32]) = l.map writeF
  | [], h, _ => absurd rfl h
  | [x], _, h => by
    have hx : rightF x = true := by simpa using h
    have he := endP_write hx []
    rw [List.append_nil] at he
    rw [List.map_cons, List.map_nil, Lib.join_one, pcsG_none he]
  | x :: y :: t, _, h => by
    rw [List.all_cons, Bool.and_eq_true] at h
    have ih := pcs_of_join (y :: t) (by simp) h.2
    rw [List.map_cons, List.map_cons, join_two]
    rw [List.map_cons] at ih
    have he := endP_write h.1 (32 :: Lib.join (writeF y :: t.map writeF) [32])
    have he2 : endP false (32 :: Lib.join (writeF y :: t.map writeF) [32]) = some 0 := by simp [endP]
    rw [he2] at he
    have he3 : endP false (writeF x ++ 32 :: Lib.join (writeF y :: t.map writeF) [32]) = some (writeF x).length := by rw [he]; simp
    rw [pcsG_some he3, List.take_left', ← List.drop_drop, List.drop_left', List.drop_one, List.tail_cons, ih]
    · rfl
    · rfl
theorem allF_of_write : ∀ l : List Fld, l.all rightF = true → allF (l.map writeF) = some l
  | [], _ => rfl
  | x :: r, h => by
    rw [List.all_cons, Bool.and_eq_true] at h
    rw [List.map_cons, allF_cons, fieldP_of_write h.1, allF_of_write r h.2]
    rfl
theorem join_split {l : List Fld} {t : List UInt8} (h : joinP l = (t, 0)) : splitP t = (l, 0) := by
  unfold joinP at h
  split at h
  · cases h
  split at h
  · cases h
  split at h
  · cases h
  rename_i h64 hall hsz
  have hall : l.all rightF = true := by simpa using hall
  cases h
  by_cases h0 : l = []
  · subst h0; rfl
  have hj := join_size l h0
  have hne : Lib.join (l.map writeF) [32] ≠ [] := fun e => by
    have hp := pcs_of_join l h0 hall
    rw [e] at hp
    cases l with
    | nil => exact h0 rfl
    | cons x r =>
      rw [List.all_cons, Bool.and_eq_true] at hall
      have : pcsG [] = [[]] := rfl
      rw [this, List.map_cons] at hp
      exact write_ne hall.1 (List.cons.inj hp).1.symm
  rw [splitP_r (by omega), rspl_eq _ _ (Nat.le_refl _) hne, pcs_of_join l h0 hall, allF_of_write l hall]
  simp only
  rw [if_neg h64]
end Go.Proofs.YtohcmfobnkaaiaaDoor
