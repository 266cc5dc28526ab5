/- Plain: the same lace, and the works that touch each other; neighbours that change places. -/
import Derived.Test.YtfnklchhhojimaaTraceM
set_option linter.unusedSimpArgs false
set_option linter.unusedVariables false
namespace Go.Proofs.Ytfnklchhhojimaa
open Go Go.RowKit Tor

theorem filter_first {P P' : Nat → Bool} {n i : Nat} (hi : i < n) (h1 : P i = true) (h2 : ∀ j, j < i → P j = false) (h3 : P' i = false) (h4 : ∀ j, j ≠ i → P' j = P j) :
    (List.range n).filter P = i :: (List.range n).filter P' := by
  obtain ⟨d, rfl⟩ : ∃ d, n = i + (1 + d) := ⟨n - (i + 1), by omega⟩
  have e : List.range (i + (1 + d)) = List.range i ++ (i :: List.range' (i + 1) d) := by
    rw [List.range_eq_range', List.range_eq_range', ← List.range'_append_1 (s := 0) (m := i), Nat.add_comm 1 d, List.range'_succ]
    simp
  have n1 : (List.range i).filter P = [] := List.filter_eq_nil_iff.2 fun j hj => by rw [h2 j (by simpa using hj)]; decide
  have n2 : (List.range i).filter P' = [] := List.filter_eq_nil_iff.2 fun j hj => by
    have hj' : j < i := by simpa using hj
    rw [h4 j (by omega), h2 j hj']; decide
  rw [e, List.filter_append, List.filter_append, n1, n2, List.filter_cons, if_pos h1, List.filter_cons, if_neg (by rw [h3]; decide)]
  simp only [List.nil_append, List.cons.injEq, true_and]
  refine List.filter_congr fun j hj => ?_
  have := (List.mem_range'_1.1 hj).1
  exact (h4 j (by omega)).symm

section
variable {l : List Tri}
/-- what is left of the works of a kind -/
def leftQ (l : List Tri) (q : Tri → Bool) (M : List Nat) : List Nat := (List.range l.length).filter fun i => q (xAt l i) && !M.contains i
theorem lin_filter {q : Tri → Bool} (hq : ∀ x y, q x = true → q y = true → touchB x.b y.b = true) : ∀ (R M : List Nat), LinExt l M R → leftQ l q M = R.filter (fun i => q (xAt l i)) ++ leftQ l q (M ++ R)
  | [], M, _ => by simp
  | i :: r, M, h => by
    obtain ⟨hi, hr, hrest⟩ := h
    have ih := lin_filter hq r (M ++ [i]) hrest
    rw [List.append_assoc, List.singleton_append] at ih
    unfold rdyB at hr
    rw [Bool.and_eq_true, List.all_eq_true] at hr
    obtain ⟨hr1, hr2⟩ := hr
    by_cases hqi : q (xAt l i) = true
    · rw [List.filter_cons, if_pos hqi, List.cons_append, ← ih]
      unfold leftQ
      refine filter_first hi (by rw [hqi, hr2]; rfl) (fun j hj => ?_) (by simp) (fun j hj => ?_)
      · cases hqj : q (xAt l j)
        · rfl
        · have h1 := hr1 j (by simpa using hj)
          have h2 : touchAt l i j = true := hq _ _ hqj hqi
          rw [h2] at h1
          simp only [Bool.not_true, Bool.or_false] at h1
          rw [h1]; rfl
      · congr 2
        rw [Bool.eq_iff_iff]
        simp [hj]
    · rw [List.filter_cons, if_neg hqi, ← ih]
      unfold leftQ
      refine List.filter_congr fun j _ => ?_
      by_cases hj : j = i
      · subst hj
        have : q (xAt l j) = false := by simpa using hqi
        rw [this]; rfl
      · congr 2
        rw [Bool.eq_iff_iff]
        simp [hj]
theorem TrEq.filter {m : List Tri} (h : TrEq l m) {q : Tri → Bool} (hq : ∀ x y, q x = true → q y = true → touchB x.b y.b = true) : m.filter q = l.filter q := by
  obtain ⟨A, hA, hl, rfl⟩ := h
  obtain ⟨_, hlt, hfull⟩ := lin_full hA hl
  have h1 := lin_filter hq A [] hA
  have h2 : leftQ l q ([] ++ A) = [] := by
    rw [List.nil_append]
    refine List.filter_eq_nil_iff.2 fun j hj => ?_
    have := hfull j (by simpa using hj)
    simp [this]
  rw [h2, List.append_nil] at h1
  have h3 : leftQ l q [] = (List.range l.length).filter fun i => q (xAt l i) := by
    unfold leftQ
    refine List.filter_congr fun j _ => by simp
  rw [h3] at h1
  have e1 : (A.map (xAt l)).filter q = (A.filter fun i => q (xAt l i)).map (xAt l) := by rw [List.filter_map]; rfl
  have e2 : ((List.range l.length).map (xAt l)).filter q = ((List.range l.length).filter fun i => q (xAt l i)).map (xAt l) := by rw [List.filter_map]; rfl
  rw [map_id'] at e2
  rw [e1, e2, h1]

theorem lin_app : ∀ (R S M : List Nat), LinExt l M R → LinExt l (M ++ R) S → LinExt l M (R ++ S)
  | [], S, M, _, h2 => by simpa using h2
  | i :: r, S, M, h1, h2 => ⟨h1.1, h1.2.1, lin_app r S (M ++ [i]) h1.2.2 (by simpa using h2)⟩
theorem lin_pre : ∀ (R S M : List Nat), LinExt l M (R ++ S) → LinExt l M R
  | [], _, _, _ => trivial
  | i :: r, S, M, h => ⟨h.1, h.2.1, lin_pre r S (M ++ [i]) h.2.2⟩
theorem lin_set : ∀ (R M M' : List Nat), (∀ k, M.contains k = M'.contains k) → LinExt l M R → LinExt l M' R
  | [], _, _, _, _ => trivial
  | i :: r, M, M', hs, h => by
    refine ⟨h.1, ?_, lin_set r (M ++ [i]) (M' ++ [i]) (fun k => ?_) h.2.2⟩
    · have h2 := h.2.1
      unfold rdyB at h2 ⊢
      rw [hs i] at h2
      have e : (fun k => M'.contains k || !touchAt l i k) = (fun k => M.contains k || !touchAt l i k) := funext fun k => by rw [hs k]
      rw [e]; exact h2
    · have := hs k
      rw [Bool.eq_iff_iff] at this ⊢
      simp only [List.contains_iff_mem, List.mem_append] at this ⊢
      rw [this]
end

theorem range_cut (n d : Nat) : List.range (n + (d + 2)) = List.range n ++ (n :: (n + 1) :: List.range' (n + 2) d) := by
  rw [List.range_eq_range', List.range_eq_range', ← List.range'_append_1 (s := 0) (m := n), List.range'_succ, List.range'_succ]
  simp
theorem TrEq.swap (P Q : List Tri) (x y : Tri) (h : touchB x.b y.b = false) : TrEq (P ++ x :: y :: Q) (P ++ y :: x :: Q) := by
  obtain ⟨l, hl⟩ : ∃ l, l = P ++ x :: y :: Q := ⟨_, rfl⟩
  rw [← hl]
  have hn : l.length = P.length + (Q.length + 2) := by rw [hl]; simp
  have hx : xAt l P.length = x := by
    rw [xAt_of (by omega)]; simp [hl]
  have hy : xAt l (P.length + 1) = y := by
    rw [xAt_of (by omega)]; simp [hl]
  have hid : (List.range l.length).map (xAt l) = l := map_id'
  rw [hn, range_cut, List.map_append, List.map_cons, List.map_cons, hx, hy] at hid
  have hid2 := hid.trans hl
  obtain ⟨e1, e2⟩ := List.append_inj hid2 (by simp)
  simp only [List.cons.injEq, true_and] at e2
  have hlin : LinExt l [] (List.range P.length ++ (P.length :: (P.length + 1) :: List.range' (P.length + 2) Q.length)) := by
    rw [← range_cut, ← hn]; exact lin_id
  have hpre := lin_pre _ _ _ hlin
  have htail : LinExt l (List.range (P.length + 2)) (List.range' (P.length + 2) Q.length) := lin_range Q.length (P.length + 2) (by omega)
  refine ⟨List.range P.length ++ ((P.length + 1) :: P.length :: List.range' (P.length + 2) Q.length), lin_app _ _ _ hpre ?_, by simp [hn], ?_⟩
  · rw [List.nil_append]
    refine ⟨by omega, ?_, by omega, ?_, ?_⟩
    · unfold rdyB
      rw [Bool.and_eq_true, List.all_eq_true]
      refine ⟨fun k hk => ?_, by simp⟩
      have hk' : k < P.length + 1 := by simpa using hk
      by_cases e : k = P.length
      · subst e
        unfold touchAt
        rw [hx, hy, h]; simp
      · have : k < P.length := by omega
        simp [this]
    · unfold rdyB
      rw [Bool.and_eq_true, List.all_eq_true]
      refine ⟨fun k hk => ?_, by simp⟩
      have hk' : k < P.length := by simpa using hk
      simp [hk']
    · refine lin_set _ _ _ (fun k => ?_) htail
      rw [Bool.eq_iff_iff]
      simp only [List.contains_iff_mem, List.mem_append, List.mem_range, List.mem_cons, List.not_mem_nil, or_false]
      omega
  · rw [List.map_append, List.map_cons, List.map_cons, hx, hy, e1, e2]

theorem touch_self (x : Int) : touchB x x = true := by unfold touchB; simp
/-- two neighbours may change places just if they do not touch or are equal -/
theorem swap_tr (P Q : List Tri) (x y : Tri) : TrEq (P ++ x :: y :: Q) (P ++ y :: x :: Q) ↔ touchB x.b y.b = false ∨ x = y := by
  constructor
  · intro h
    cases ht : touchB x.b y.b
    · exact Or.inl rfl
    · right
      have hf := h.filter (q := fun z => decide (z = x ∨ z = y)) (fun u v hu hv => by
        simp only [decide_eq_true_eq] at hu hv
        rcases hu with rfl | rfl <;> rcases hv with rfl | rfl
        · exact touch_self _
        · exact ht
        · rw [touch_symm]; exact ht
        · exact touch_self _)
      rw [List.filter_append, List.filter_append] at hf
      have := List.append_cancel_left hf
      have h2 := congrArg List.head? this
      rw [List.filter_cons_of_pos (by simp), List.filter_cons_of_pos (by simp)] at h2
      simpa using h2.symm
  · rintro (h | rfl)
    · exact TrEq.swap P Q x y h
    · exact TrEq.refl _
end Go.Proofs.Ytfnklchhhojimaa
