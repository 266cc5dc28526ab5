/- Plain: the fewest reaches over all orders. -/
import Derived.Test.YtogkgoabonbkkaaOptM
set_option linter.unusedSimpArgs false
set_option linter.unusedVariables false
namespace Go.Proofs.Ytogkgoabonbkkaa
open Go Go.RowKit Tor

/-- the bits name what is made -/
def Bits (n d : Nat) (M : List Nat) : Prop := ∀ i, i < n → d.testBit i = M.contains i
theorem bits_zero (n : Nat) : Bits n 0 [] := fun i _ => by simp
theorem bits_or {n d i : Nat} {M : List Nat} (h : Bits n d M) : Bits n (d ||| 2 ^ i) (M ++ [i]) := fun j hj => by
  rw [Nat.testBit_or, Nat.testBit_two_pow, h j hj]
  simp only [List.contains_eq_mem, List.mem_append, List.mem_singleton]
  by_cases e : i = j
  · subst e; simp
  · have e' : ¬ j = i := fun h => e h.symm
    simp [e, e']

section
variable {p s : Int} {l : List Tri}
theorem free_rdy {d i : Nat} {M : List Nat} (hi : i < l.length) (h10 : l.length ≤ 10) (hd : d < 2 ^ l.length) (hB : Bits l.length d M) : freeB (bfL l) d i = rdyB l M i := by
  have hd2 := two_pow_le h10
  have hbi := bfAt_lt (l := l) (i := i) (by omega)
  unfold freeB rdyB
  rw [bfL_get hi, hB i hi, Bool.and_comm]
  congr 1
  rw [Bool.eq_iff_iff, decide_eq_true_eq, dif_zero (by omega) (by omega)]
  simp only [List.all_eq_true, List.mem_range, Bool.or_eq_true, Bool.not_eq_true']
  constructor
  · intro h j hj
    have := h j
    rw [bfAt, bitsUpto_bit] at this
    cases ht : touchAt l i j
    · exact Or.inr rfl
    · left
      rw [← hB j (by omega)]
      exact this (by simp [hj, ht])
  · intro h k hk
    rw [bfAt, bitsUpto_bit] at hk
    simp only [Bool.and_eq_true, decide_eq_true_eq] at hk
    rcases h k hk.1 with h1 | h1
    · rw [hB k (by omega)]; exact h1
    · rw [hk.2] at h1; cases h1
theorem bits_full {n d : Nat} {M : List Nat} (hd : d < 2 ^ n) (hB : Bits n d M) (hM : ∀ i, i < n → i ∈ M) : d = 2 ^ n - 1 := by
  refine Nat.eq_of_testBit_eq fun i => ?_
  rw [Nat.testBit_two_pow_sub_one]
  by_cases hi : i < n
  · rw [hB i hi]; simp [hM i hi, hi]
  · simp only [hi, decide_false]
    exact Nat.testBit_lt_two_pow (Nat.lt_of_lt_of_le hd (Nat.pow_le_pow_right (by omega) (by omega)))
theorem bits_notfull {n d i : Nat} {M : List Nat} (hB : Bits n d M) (hi : i < n) (hM : i ∉ M) : d ≠ 2 ^ n - 1 := fun e => by
  have := hB i hi
  rw [e, Nat.testBit_two_pow_sub_one] at this
  simp [hi, hM] at this
theorem rdyB_new {M : List Nat} {i : Nat} (h : rdyB l M i = true) : i ∉ M := by
  unfold rdyB at h
  simp only [Bool.and_eq_true, Bool.not_eq_true', List.contains_eq_mem, decide_eq_false_iff_not] at h
  exact h.2
theorem or_lt {n d i : Nat} (hd : d < 2 ^ n) (hi : i < n) : d ||| 2 ^ i < 2 ^ n := Nat.or_lt_two_pow hd (Nat.pow_lt_pow_right (by omega) hi)

/-- no order has fewer reaches -/
theorem few_le (h10 : l.length ≤ 10) : ∀ (O M : List Nat) (d : Nat) (lo hi : Int), LinExt l M O → M.Nodup → (∀ x ∈ M, x < l.length) → l.length ≤ O.length + M.length → Bits l.length d M → d < 2 ^ l.length →
    few p s l (bfL l) d lo hi ≤ costW p s (O.map (xAt l)) lo hi
  | [], M, d, lo, hi, _, hnd, hM, hl, hB, hd => by
    have hall := all_made hnd hM (by simpa using hl)
    rw [few_full (bits_full hd hB hall)]
    exact Int.le_refl _
  | i :: r, M, d, lo, hi, hlin, hnd, hM, hl, hB, hd => by
    unfold LinExt at hlin
    obtain ⟨hi', hr, hlin⟩ := hlin
    have hiM := rdyB_new hr
    obtain ⟨h1, h2⟩ := snoc_ok hnd hM hi' hiM
    have hne := bits_notfull hB hi' hiM
    have hf : freeB (bfL l) d i = true := by rw [free_rdy hi' h10 hd hB]; exact hr
    rw [few_eq hd hne]
    have hc := cost_def (p := p) (s := s) (l := l) (lo := lo) (hi := hi) hf
    have hm := minUpto_le (n0 := (l.length : Int)) hi' hc
    have ih := few_le h10 r (M ++ [i]) (d ||| 2 ^ i) (nlo s (xAt l i) lo (joinB p s (xAt l i) lo hi)) (nhi p s (xAt l i) hi (joinB p s (xAt l i) lo hi)) hlin h1 h2 (by simp at hl ⊢; omega) (bits_or hB) (or_lt hd hi')
    rw [List.map_cons, costW]
    omega

theorem bits_bf (h10 : l.length ≤ 10) : ∀ k, k < l.length → (bfL l).getD k 0 < 1024 := fun k hk => by rw [bfL_get hk]; exact bfAt_lt (by omega)
/-- the order that is taken -/
theorem bsel_spec (h10 : l.length ≤ 10) : ∀ (k : Nat) (M : List Nat) (d : Nat) (lo hi : Int), M.Nodup → (∀ x ∈ M, x < l.length) → zeros l.length d = k → Bits l.length d M → d < 2 ^ l.length →
    LinExt l M (bsel p s l (bfL l) k d lo hi) ∧ (bsel p s l (bfL l) k d lo hi).length = k ∧ costW p s ((bsel p s l (bfL l) k d lo hi).map (xAt l)) lo hi = few p s l (bfL l) d lo hi
  | 0, M, d, lo, hi, hnd, hM, hz, hB, hd => by
    rw [few_full (zeros_full hd hz)]
    exact ⟨trivial, rfl, rfl⟩
  | k + 1, M, d, lo, hi, hnd, hM, hz, hB, hd => by
    have hne : d ≠ 2 ^ l.length - 1 := fun e => by
      have : zeros l.length d = 0 := by
        unfold zeros
        rw [List.length_eq_zero_iff, List.filter_eq_nil_iff]
        intro i hi
        have hi' : i < l.length := by simpa using hi
        rw [e, Nat.testBit_two_pow_sub_one]; simp [hi']
      omega
    obtain ⟨i, hp⟩ := pick_some (p := p) (s := s) (lo := lo) (hi := hi) (bfL_ok l) (bits_bf h10) h10 hd hne
    obtain ⟨hi', hcost, _⟩ := pick_spec hp
    have hf := cost_isfree hcost
    have hr : rdyB l M i = true := by rw [← free_rdy hi' h10 hd hB]; exact hf
    have hiM := rdyB_new hr
    obtain ⟨h1, h2⟩ := snoc_ok hnd hM hi' hiM
    have hz2 := zeros_or hi' (freeB_bit hf)
    obtain ⟨i1, i2, i3⟩ := bsel_spec h10 k (M ++ [i]) (d ||| 2 ^ i) (nlo s (xAt l i) lo (joinB p s (xAt l i) lo hi)) (nhi p s (xAt l i) hi (joinB p s (xAt l i) lo hi)) h1 h2 (by omega) (bits_or hB) (or_lt hd hi')
    have hc := cost_def (p := p) (s := s) (l := l) (lo := lo) (hi := hi) hf
    rw [hcost] at hc
    unfold bsel
    rw [hp]
    refine ⟨⟨hi', hr, i1⟩, by simp [i2], ?_⟩
    rw [List.map_cons, costW, i3]
    simpa using hc.symm
theorem zeros_all0 (n : Nat) : zeros n 0 = n := by
  unfold zeros
  rw [List.filter_eq_self.2 (by simp)]
  simp
theorem mem_xAt {i : Nat} (hi : i < l.length) : xAt l i ∈ l := by rw [xAt_of hi]; exact List.getElem_mem hi
theorem lin_lt : ∀ (O M : List Nat), LinExt l M O → ∀ i ∈ O, i < l.length
  | [], _, _, i, hi => by simp at hi
  | j :: r, M, h, i, hi => by
    unfold LinExt at h
    rcases List.mem_cons.1 hi with rfl | hi
    · exact h.1
    · exact lin_lt r _ h.2.2 i hi
theorem lin_wok (hw : ∀ x ∈ l, WOk p x) {O M : List Nat} (h : LinExt l M O) : ∀ x ∈ O.map (xAt l), WOk p x := fun x hx => by
  obtain ⟨i, hi, rfl⟩ := List.mem_map.1 hx
  exact hw _ (mem_xAt (lin_lt O M h i hi))
theorem lin_nodup : ∀ (O M : List Nat), LinExt l M O → M.Nodup → (M ++ O).Nodup
  | [], M, _, h => by simpa using h
  | j :: r, M, h, hnd => by
    unfold LinExt at h
    have hj := rdyB_new h.2.1
    have h1 : (M ++ [j]).Nodup := by
      rw [List.nodup_append]
      exact ⟨hnd, by simp, fun x hx y hy e => by simp at hy; subst hy; subst e; exact hj hx⟩
    have := lin_nodup r (M ++ [j]) h.2.2 h1
    simpa using this

/-- the order of Best, and that no order has fewer reaches -/
def bestO (p s : Int) (l : List Tri) : List Nat := bsel p s l (bfL l) l.length 0 1 0
theorem bestO_lin (h10 : l.length ≤ 10) : LinExt l [] (bestO p s l) ∧ (bestO p s l).length = l.length := by
  have := bsel_spec (p := p) (s := s) h10 l.length [] 0 1 0 List.nodup_nil (by simp) (zeros_all0 _) (bits_zero _) (Nat.two_pow_pos _)
  exact ⟨this.1, this.2.1⟩
theorem bestO_opt (hs : 2 ≤ s) (hsp : s ≤ p) (h10 : l.length ≤ 10) (hw : ∀ x ∈ l, WOk p x) {O : List Nat} (hO : LinExt l [] O) (hl : O.length = l.length) :
    C p s ((bestO p s l).map (xAt l)) ≤ C p s (O.map (xAt l)) := by
  obtain ⟨h1, h2, h3⟩ := bsel_spec (p := p) (s := s) h10 l.length [] 0 1 0 List.nodup_nil (by simp) (zeros_all0 _) (bits_zero _) (Nat.two_pow_pos _)
  have h4 := few_le (p := p) (s := s) h10 O [] 0 1 0 hO List.nodup_nil (by simp) (by simp; omega) (bits_zero _) (Nat.two_pow_pos _)
  rw [← h3] at h4
  have e1 : costW p s ((bestO p s l).map (xAt l)) 1 0 = C p s ((bestO p s l).map (xAt l)) := costW_C hs hsp (lin_wok hw h1)
  rw [costW_C hs hsp (lin_wok hw hO)] at h4
  unfold bestO at e1 ⊢
  rw [e1] at h4
  omega
end
end Go.Proofs.Ytogkgoabonbkkaa
