/- Plain: how the normal form of a word is reckoned: letter by letter, then pair by pair. -/
import Derived.Test.YtfnklchhhojimaaBrdM
set_option linter.unusedSimpArgs false
set_option linter.unusedVariables false
namespace Go.Proofs.Ytfnklchhhojimaa
namespace Brd
theorem lst_snoc {n : Nat} {x : Int} (h0 : x ≠ 0) (u : List Int) : Lst n (u ++ [x]) = (if 0 < x then Lst n u else (Lst n u).map (tur n)) ++ [bse n x] := by
  rw [lst_app]
  congr 1
  by_cases hx : 0 < x
  · rw [if_pos hx]
    have e : ngs [x] = 0 := by unfold ngs ng ngs; rw [if_neg (by omega)]
    rw [e]
    conv => rhs; rw [← List.map_id (Lst n u)]
    exact List.map_congr_left fun p _ => rfl
  · rw [if_neg hx]
    have e : ngs [x] = 1 := by unfold ngs ng ngs; rw [if_pos (by omega)]
    rw [e]
    exact List.map_congr_left fun p _ => rfl
theorem ngs_snoc (u : List Int) (x : Int) : ngs (u ++ [x]) = ngs u + ng x := by rw [ngs_app]; rfl
def PStill (n : Nat) (a b : List Nat) : Prop := ∀ i, ¬ Can n a b i
theorem still_of {n : Nat} : ∀ {L : List (List Nat)}, (∀ j, j + 1 < L.length → PStill n (L.getD j []) (L.getD (j + 1) [])) → Still n L := by
  intro L
  induction L with
  | nil => intro _ M s; cases s
  | cons p L ih =>
    intro h M s
    cases s with
    | here _ b Y i c => exact h 0 (by simp) i c
    | there _ _ M s => exact ih (fun j hj => h (j + 1) (by simpa using hj)) M s
theorem rt_pair {n : Nat} {a b a' b' : List Nat} (h : Rt (Step n) [a, b] [a', b']) (X Y : List (List Nat)) : Rt (Step n) (X ++ a :: b :: Y) (X ++ a' :: b' :: Y) := (h.appR Y).app X
theorem cut_two {L : List (List Nat)} {j : Nat} (hj : j + 1 < L.length) : L = L.take j ++ L.getD j [] :: L.getD (j + 1) [] :: L.drop (j + 2) := by
  have e1 : L.getD j [] = L[j] := by rw [List.getD_eq_getElem?_getD, List.getElem?_eq_getElem (by omega)]; rfl
  have e2 : L.getD (j + 1) [] = L[j + 1] := by rw [List.getD_eq_getElem?_getD, List.getElem?_eq_getElem hj]; rfl
  rw [e1, e2, List.getElem_cons_drop hj, List.getElem_cons_drop (by omega), List.take_append_drop]
theorem set_two {L : List (List Nat)} {j : Nat} (hj : j + 1 < L.length) (a b : List Nat) : (L.set j a).set (j + 1) b = L.take j ++ a :: b :: L.drop (j + 2) := by
  apply List.ext_getElem
  · simp; omega
  · intro i h1 h2
    rw [List.getElem_set, List.getElem_set]
    by_cases e1 : j + 1 = i
    · subst e1
      rw [if_pos rfl, List.getElem_append_right (by simp; omega)]
      have : (List.take j L).length = j := by simp; omega
      simp [this]
    · rw [if_neg e1]
      by_cases e2 : j = i
      · subst e2
        rw [if_pos rfl, List.getElem_append_right (by simp; omega)]
        have : (List.take j L).length = j := by simp; omega
        simp [this]
      · rw [if_neg e2]
        by_cases e3 : i < j
        · rw [List.getElem_append_left (by simp; omega), List.getElem_take]
        · have hl : (List.take j L).length = j := by simp; omega
          rw [List.getElem_append_right (by omega)]
          obtain ⟨d, rfl⟩ : ∃ d, i = j + 2 + d := ⟨i - (j + 2), by omega⟩
          have hd : j + 2 + d - (List.take j L).length = d + 1 + 1 := by omega
          simp only [hd, List.getElem_cons_succ, List.getElem_drop]
theorem rt_set {n : Nat} {L : List (List Nat)} {j : Nat} (hj : j + 1 < L.length) {a b : List Nat} (h : Rt (Step n) [L.getD j [], L.getD (j + 1) []] [a, b]) : Rt (Step n) L ((L.set j a).set (j + 1) b) := by
  rw [set_two hj]
  have := rt_pair h (L.take j) (L.drop (j + 2))
  rw [← cut_two hj] at this
  exact this
theorem rt_mu {n : Nat} {L M : List (List Nat)} (hL : AllP n L) (h : Rt (Step n) L M) : M = L ∨ mu n M < mu n L := by
  induction h with
  | refl => exact .inl rfl
  | tail s t ih =>
    right
    have h1 := s.mu_lt hL
    rcases ih (s.allP hL) with h2 | h2
    · rw [h2]; exact h1
    · omega
/-- where each strand lies -/
def endsL (n : Nat) (p : List Nat) : List Nat := lst n (iv p)
/-- one slide of a pair -/
theorem rt_two {n : Nat} {a b a' b' : List Nat} {i : Nat} (h : Rt (Step n) [a, b] [a', b']) (c : Can n a' b' i) : Rt (Step n) [a, b] [aft a' i, swp b' i] := h.trans (.one (.here _ _ _ _ c))
theorem rt_two_perm {n : Nat} {a b a' b' : List Nat} (ha : PermL n a) (hb : PermL n b) (h : Rt (Step n) [a, b] [a', b']) : PermL n a' ∧ PermL n b' := by
  have := rt_allP (AllP.cons ha (AllP.cons hb AllP.nil)) h
  exact ⟨this.head, this.tail.head⟩
theorem can_iff {n : Nat} {a b : List Nat} (ha : PermL n a) {i : Nat} (h1 : 1 ≤ i) (hi : i < n) : Can n a b i ↔ at_ b i < at_ b (i - 1) ∧ ¬ iv a i < iv a (i - 1) := by
  constructor
  · rintro ⟨_, _, h3, h4⟩; exact ⟨h3, by omega⟩
  · rintro ⟨h3, h4⟩
    refine ⟨h1, hi, h3, ?_⟩
    have hne : iv a (i - 1) ≠ iv a i := fun e => by
      have k1 := ha.at_iv (show i - 1 < n by omega); have k2 := ha.at_iv hi
      rw [e] at k1; omega
    omega
/-- the words of a swap: positions i - 1 and i are exchanged -/
theorem swp_set {n : Nat} {p : List Nat} (h : PermL n p) {i : Nat} (h1 : 1 ≤ i) (hi : i < n) : (p.set (i - 1) (at_ p i)).set i (at_ p (i - 1)) = swp p i := by
  apply List.ext_getElem
  · simp [swp, lst]
  · intro k k1 k2
    have hk : k < n := by simpa [h.len] using k1
    have e : (swp p i)[k] = at_ (swp p i) k := (at_eq k2).symm
    rw [e, h.asw hk, List.getElem_set, List.getElem_set]
    by_cases e1 : i = k
    · subst e1; rw [if_pos rfl, sx_hi]
    · rw [if_neg e1]
      by_cases e2 : i - 1 = k
      · subst e2; rw [if_pos rfl, sx_lo h1]
      · rw [if_neg e2, sx_far (by omega) (fun e => e1 e.symm)]; exact (at_eq (by rw [h.len]; exact hk)).symm
/-- the factors stand as the loop leaves them: some exchanged already -/
theorem aft_map (p : List Nat) (i k : Nat) (hk : k < p.length) : (p.take k).map (sx i) ++ p.drop k = (p.take k).map (sx i) ++ p[k] :: p.drop (k + 1) := by rw [List.getElem_cons_drop hk]
theorem flat_delta {n : Nat} {p : List Nat} (h : PermL n p) : p = delta n ↔ ∀ i, 1 ≤ i → i < n → at_ p i + 1 = at_ p (i - 1) := by
  constructor
  · rintro rfl i h1 h2; rw [at_delta h2, at_delta (by omega)]; omega
  · intro hs
    refine h.ext (perm_delta n) fun x hx => ?_
    rw [at_delta hx]
    have key : ∀ k, k < n → at_ p k + k = at_ p 0 := by
      intro k
      induction k with
      | zero => intro _; rfl
      | succ k ih => intro hk; have := ih (by omega); have := hs (k + 1) (by omega) hk; simp only [Nat.add_sub_cancel] at this; omega
    have h1 := key x hx
    have h2 := key (n - 1) (by omega)
    have h3 := h.at_lt (show 0 < n by omega)
    omega
theorem flat_idl {n : Nat} {p : List Nat} (h : PermL n p) : p = idl n ↔ ∀ i, 1 ≤ i → i < n → at_ p i = at_ p (i - 1) + 1 := by
  constructor
  · rintro rfl i h1 h2; rw [at_idl h2, at_idl (by omega)]; omega
  · intro hs
    refine h.ext (perm_idl n) fun x hx => ?_
    rw [at_idl hx]
    have key : ∀ k, k < n → at_ p k = at_ p 0 + k := by
      intro k
      induction k with
      | zero => intro _; rfl
      | succ k ih => intro hk; have := ih (by omega); have := hs (k + 1) (by omega) hk; simp only [Nat.add_sub_cancel] at this; omega
    have h1 := key x hx
    have h2 := key (n - 1) (by omega)
    have h3 := h.at_lt (show n - 1 < n by omega)
    omega
theorem post_cons (n : Nat) (pw : Int) (out : List (List Nat)) (p : List Nat) (L : List (List Nat)) : post n pw out (p :: L) = if out = [] ∧ 1 < n ∧ p = delta n then post n (pw + 1) out L else if p = idl n then post n pw out L else post n pw (out ++ [p]) L := rfl
theorem post_app (n : Nat) : ∀ (L M : List (List Nat)) (pw : Int) (out : List (List Nat)), post n pw out (L ++ M) = post n (post n pw out L).1 (post n pw out L).2 M := by
  intro L
  induction L with
  | nil => intro M pw out; rfl
  | cons p L ih =>
    intro M pw out
    rw [List.cons_append, post_cons n pw out p (L ++ M), post_cons n pw out p L]
    split
    · exact ih M _ _
    · split
      · exact ih M _ _
      · exact ih M _ _
end Brd
end Go.Proofs.Ytfnklchhhojimaa
