/- Plain: two texts of lists with a comma between them. -/
import Derived.Test.YtohcmfobnkaaiaaGreatDoorLstP
set_option linter.unusedSimpArgs false
set_option linter.unusedVariables false
namespace Go.Proofs.YtohcmfobnkaaiaaGreatDoor
open Go

theorem many_is : ∀ (ps : List Part) (n : Int), (∀ p ∈ ps, PartOk p) → 0 ≤ n → n ≤ 500 → manyP n ps = if n + ((ps.flatMap partL).length : Nat) ≤ 500 then some (n + ((ps.flatMap partL).length : Nat)) else none
  | [], n, _, _, h5 => by simp [manyP, h5]
  | p :: r, n, h, h0, h5 => by
    have hp := h p (by simp)
    have hl := part_len hp
    have h1 := hp.ab
    have h2 := hp.t1
    rw [List.flatMap_cons, List.length_append, manyP]
    by_cases ht : p.t ≤ 501
    · have e : min p.t 501 * (p.b - p.a + 1) = ((partL p).length : Int) := by rw [Int.min_eq_left ht, hl]
      rw [e]
      by_cases h3 : 500 < n + ((partL p).length : Int)
      · rw [if_pos h3, if_neg (by omega)]
      · rw [if_neg h3, many_is r _ (fun q hq => h q (by simp [hq])) (by omega) (by omega)]
        simp only [Int.natCast_add, ← Int.add_assoc]
    · have e : min p.t 501 = 501 := Int.min_eq_right (by omega)
      have e2 : 501 * 1 ≤ 501 * (p.b - p.a + 1) := Int.mul_le_mul_of_nonneg_left (by omega) (by omega)
      have e3 : p.t * 1 ≤ p.t * (p.b - p.a + 1) := Int.mul_le_mul_of_nonneg_left (by omega) (by omega)
      rw [e, if_pos (by omega), if_neg (by omega)]
theorem many_mono : ∀ (a b : List Part) (n : Int), manyP n (a ++ b) ≠ none → manyP n a ≠ none
  | [], b, n, _ => by simp [manyP]
  | p :: r, b, n, h => by
    rw [List.cons_append, manyP] at h
    rw [manyP]
    split
    · rename_i hc; rw [if_pos hc] at h; exact absurd rfl h
    · rename_i hc; rw [if_neg hc] at h; exact many_mono r b _ h
/-- the pieces of a text, read -/
def psOf (s : List UInt8) : List (Part × Bool) := (spl 44 s).map readP
theorem spl_two (s t : List UInt8) : spl 44 (s ++ 44 :: t) = spl 44 s ++ spl 44 t := by
  induction s with
  | nil => simp [spl]
  | cons b r ih =>
    rw [List.cons_append]
    by_cases hb : b = 44
    · rw [spl, if_pos hb, ih, spl, if_pos hb]; rfl
    · rw [spl, if_neg hb, ih, spl, if_neg hb]
      cases hs : spl 44 r with
      | nil => exact absurd hs (spl_ne 44 r)
      | cons y u => rfl
theorem psOf_two (s t : List UInt8) : psOf (s ++ 44 :: t) = psOf s ++ psOf t := by unfold psOf; rw [spl_two, List.map_append]
theorem parseP_ps {s : List UInt8} (h0 : s ≠ []) (hl : s.length ≤ 2500) : parseP s =
    if (psOf s).any (fun x => !x.2) then ([], 6) else if (psOf s).any (fun x => decide (9999 < x.1.b)) then ([], 7)
    else if manyP 0 ((psOf s).map (·.1)) = none then ([], 3) else ((psOf s).flatMap fun x => partL x.1, 0) := by
  unfold parseP psOf
  rw [if_neg (by omega), if_neg h0, split_spl]
theorem ps_ok {s : List UInt8} (h1 : (psOf s).any (fun x => !x.2) = false) (h2 : (psOf s).any (fun x => decide (9999 < x.1.b)) = false) : ∀ p ∈ (psOf s).map (·.1), PartOk p := by
  intro p hp
  obtain ⟨x, hx, rfl⟩ := List.mem_map.1 hp
  obtain ⟨t, ht, rfl⟩ := List.mem_map.1 hx
  have a := List.any_eq_false.1 h1 _ hx
  have b := List.any_eq_false.1 h2 _ hx
  exact read_ok (by simpa using a) (by simpa using b)
theorem parse_ok_iff {s : List UInt8} (h0 : s ≠ []) (hl : s.length ≤ 2500) {l : List Int} (h : parseP s = (l, 0)) :
    (psOf s).any (fun x => !x.2) = false ∧ (psOf s).any (fun x => decide (9999 < x.1.b)) = false ∧ manyP 0 ((psOf s).map (·.1)) ≠ none ∧ ((psOf s).flatMap fun x => partL x.1) = l := by
  rw [parseP_ps h0 hl] at h
  split at h
  · cases h
  split at h
  · cases h
  split at h
  · cases h
  rename_i h1 h2 h3
  exact ⟨Bool.eq_false_iff.2 h1, Bool.eq_false_iff.2 h2, h3, congrArg Prod.fst h⟩
theorem parse_two {s t : List UInt8} (hs : s ≠ []) (ht : t ≠ []) (hl : s.length + t.length < 2500) {l m : List Int} (h1 : parseP s = (l, 0)) (h2 : parseP t = (m, 0)) :
    parseP (s ++ 44 :: t) = if l.length + m.length ≤ 500 then (l ++ m, 0) else ([], 3) := by
  obtain ⟨a1, a2, a3, a4⟩ := parse_ok_iff hs (by omega) h1
  obtain ⟨b1, b2, b3, b4⟩ := parse_ok_iff ht (by omega) h2
  rw [parseP_ps (by simp) (by rw [List.length_append, List.length_cons]; omega), psOf_two, List.any_append, List.any_append, a1, a2, b1, b2]
  simp only [Bool.or_self, Bool.false_eq_true, if_false]
  have hok : ∀ p ∈ (psOf s ++ psOf t).map (·.1), PartOk p := by
    intro p hp
    rw [List.map_append, List.mem_append] at hp
    rcases hp with hp | hp
    · exact ps_ok a1 a2 p hp
    · exact ps_ok b1 b2 p hp
  have e : (((psOf s ++ psOf t).map (·.1)).flatMap partL) = l ++ m := by rw [← a4, ← b4, List.map_append, List.flatMap_append]; simp [List.flatMap_map]
  have e2 : ((psOf s ++ psOf t).flatMap fun x => partL x.1) = l ++ m := by rw [← a4, ← b4, List.flatMap_append]
  rw [many_is _ 0 hok (by omega) (by omega), e, e2, List.length_append]
  by_cases h5 : l.length + m.length ≤ 500
  · rw [if_pos (show (0 : Int) + ((l.length + m.length : Nat) : Int) ≤ 500 by omega), if_neg (by simp), if_pos h5]
  · rw [if_neg (show ¬ (0 : Int) + ((l.length + m.length : Nat) : Int) ≤ 500 by omega), if_pos rfl, if_neg h5]
theorem parse_two_ok {s t : List UInt8} (hs : s ≠ []) (ht : t ≠ []) (hl : s.length + t.length < 2500) {l : List Int} (h : parseP (s ++ 44 :: t) = (l, 0)) : (∃ a, parseP s = (a, 0)) ∧ ∃ b, parseP t = (b, 0) := by
  obtain ⟨a1, a2, a3, a4⟩ := parse_ok_iff (by simp) (by rw [List.length_append, List.length_cons]; omega) h
  rw [psOf_two, List.any_append, Bool.or_eq_false_iff] at a1 a2
  have hoks := ps_ok a1.1 a2.1
  have hokt := ps_ok a1.2 a2.2
  have hok : ∀ p ∈ (psOf s ++ psOf t).map (·.1), PartOk p := by
    intro p hp
    rw [List.map_append, List.mem_append] at hp
    rcases hp with hp | hp
    · exact hoks p hp
    · exact hokt p hp
  rw [psOf_two, many_is _ 0 hok (by omega) (by omega), List.map_append, List.flatMap_append, List.length_append] at a3
  have h5 : 0 + (((((psOf s).map (·.1)).flatMap partL).length + (((psOf t).map (·.1)).flatMap partL).length : Nat) : Int) ≤ 500 := by
    refine Classical.byContradiction fun hn => ?_
    rw [if_neg hn] at a3; exact a3 rfl
  refine ⟨⟨(psOf s).flatMap fun x => partL x.1, ?_⟩, ⟨(psOf t).flatMap fun x => partL x.1, ?_⟩⟩
  · rw [parseP_ps hs (by omega), a1.1, a2.1, many_is _ 0 hoks (by omega) (by omega), if_pos (show (0 : Int) + ((((psOf s).map (·.1)).flatMap partL).length : Nat) ≤ 500 by omega)]; simp
  · rw [parseP_ps ht (by omega), a1.2, a2.2, many_is _ 0 hokt (by omega) (by omega), if_pos (show (0 : Int) + ((((psOf t).map (·.1)).flatMap partL).length : Nat) ≤ 500 by omega)]; simp
theorem parse_kinds (s : List UInt8) : (∃ l, parseP s = (l, 0) ∧ OkL l ∧ l.length ≤ 500 ∧ ltB s (lstT l) = false ∧ (s ≠ [] → l ≠ [])) ∨ ∃ n : Int, parseP s = ([], n) ∧ (n == 0) = false := by
  have key : (∃ l, parseP s = (l, 0)) ∨ ∃ n : Int, parseP s = ([], n) ∧ (n == 0) = false := by
    unfold parseP
    split
    · exact .inr ⟨3, rfl, rfl⟩
    split
    · exact .inl ⟨_, rfl⟩
    simp only
    split
    · exact .inr ⟨6, rfl, rfl⟩
    split
    · exact .inr ⟨7, rfl, rfl⟩
    split
    · exact .inr ⟨3, rfl, rfl⟩
    · exact .inl ⟨_, rfl⟩
  rcases key with ⟨l, h⟩ | h
  · obtain ⟨a, b, c⟩ := parse_least h
    exact .inl ⟨l, h, a, b, c, fun h0 => (items_of_parse h h0).1⟩
  · exact .inr h
theorem lst_ne {l : List Int} (h : OkL l) (hn : l.length ≤ 500) (h0 : l ≠ []) : lstT l ≠ [] := fun e => by
  have := parse_list h hn
  rw [e] at this
  have : l = [] := (congrArg Prod.fst this).symm
  exact h0 this
/-- the text of both lists is not longer than both texts and a comma -/
theorem lst_two {l m : List Int} (h : OkL l) (k : OkL m) (h0 : l ≠ []) (k0 : m ≠ []) (hn : l.length + m.length ≤ 500) : (lstT (l ++ m)).length ≤ (lstT l).length + 1 + (lstT m).length := by
  obtain ⟨_, b1, _⟩ := lst_least h (by omega) h0
  obtain ⟨_, b2, _⟩ := lst_least k (by omega) k0
  have c1 := (costs_bd l 0).2
  have c2 := (costs_bd m 0).2
  rw [← costs_head] at c1 c2
  have := parse_two (lst_ne h (by omega) h0) (lst_ne k (by omega) k0) (by omega) (parse_list h (by omega)) (parse_list k (by omega))
  rw [if_pos hn] at this
  obtain ⟨_, _, d⟩ := parse_least this
  unfold ltB at d
  rw [Bool.or_eq_false_iff, decide_eq_false_iff_not, List.length_append, List.length_cons] at d
  omega
end Go.Proofs.YtohcmfobnkaaiaaGreatDoor
