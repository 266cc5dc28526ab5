/- Plain: the reference's quick instructions, and that they are the program's. -/
import Derived.Test.YtogkgoabonbkkaaBestM
import Derived.Test.YtogkgoabonbkkaaQuick3
set_option linter.unusedSimpArgs false
set_option linter.unusedVariables false
namespace Go.Proofs.Ytogkgoabonbkkaa
open Go Go.RowKit Tor

/-- is work i ready? -/
def rdyB (l : List Tri) (M : List Nat) (i : Nat) : Bool := (List.range i).all (fun k => M.contains k || !touchAt l i k) && !M.contains i
/-- may work i be made with the hands at h? -/
def canB (l : List Tri) (M : List Nat) (h s : Int) (i : Nat) : Bool := heldB h s (xAt l i).b && rdyB l M i
/-- the work in reach that is ready and has the least place; -1: there is none -/
def nextUpto (l : List Tri) (M : List Nat) (h s : Int) : Nat → Int
  | 0 => -1
  | i + 1 => if heldB h s (xAt l i).b && (decide (nextUpto l M h s i < 0) || decide ((xAt l i).b < (xAt l (nextUpto l M h s i).toNat).b)) && rdyB l M i then (i : Int) else nextUpto l M h s i
/-- the works that are made, one after the other -/
def mseq (l : List Tri) (h s : Int) : Nat → List Nat → List Nat
  | 0, _ => []
  | k + 1, M => if 0 ≤ nextUpto l M h s l.length then (nextUpto l M h s l.length).toNat :: mseq l h s k (M ++ [(nextUpto l M h s l.length).toNat]) else []

theorem rdyB_iff {l : List Tri} {M : List Nat} {i : Nat} (hi : i < l.length) : rdyB l M i = true ↔ rdy l M i := by
  unfold rdyB rdy
  simp only [Bool.and_eq_true, List.all_eq_true, List.mem_range, Bool.or_eq_true, Bool.not_eq_true', List.contains_eq_mem, decide_eq_true_eq, decide_eq_false_iff_not]
  constructor
  · rintro ⟨h1, h2⟩
    refine ⟨hi, h2, fun j hj hjM ht => ?_⟩
    rcases h1 j hj with h | h
    · exact hjM h
    · unfold touchAt touchB at h
      rw [xAt_of (by omega), xAt_of hi] at h
      simp only [Bool.and_eq_false_iff, decide_eq_false_iff_not] at h
      omega
  · rintro ⟨_, h2, h3⟩
    refine ⟨fun j hj => ?_, h2⟩
    by_cases hjM : j ∈ M
    · exact Or.inl hjM
    · right
      have := h3 j hj hjM
      unfold touchAt touchB
      rw [xAt_of (by omega), xAt_of hi]
      simp only [Bool.and_eq_false_iff, decide_eq_false_iff_not]
      omega

theorem nextUpto_ge (l : List Tri) (M : List Nat) (h s : Int) : ∀ k, -1 ≤ nextUpto l M h s k ∧ nextUpto l M h s k < k
  | 0 => by simp [nextUpto]
  | k + 1 => by
    have := nextUpto_ge l M h s k
    unfold nextUpto
    split <;> omega

theorem nextUpto_spec (l : List Tri) (M : List Nat) (h s : Int) : ∀ k, (nextUpto l M h s k = -1 ∧ ∀ j, j < k → canB l M h s j = false) ∨
    ∃ j : Nat, nextUpto l M h s k = j ∧ j < k ∧ canB l M h s j = true ∧ ∀ j', j' < k → canB l M h s j' = true → (xAt l j).b ≤ (xAt l j').b
  | 0 => Or.inl ⟨rfl, fun j hj => absurd hj (by omega)⟩
  | k + 1 => by
    have ih := nextUpto_spec l M h s k
    unfold nextUpto
    by_cases hc : canB l M h s k = true
    · have hc' := hc
      unfold canB at hc'
      simp only [Bool.and_eq_true] at hc'
      rcases ih with ⟨e, hn⟩ | ⟨j, e, hj, hcj, hle⟩
      · right
        rw [if_pos (by rw [hc'.1, hc'.2, e]; rfl)]
        refine ⟨k, rfl, by omega, hc, fun j' hj' hcj' => ?_⟩
        by_cases e' : j' = k
        · subst e'; exact Int.le_refl _
        · rw [hn j' (by omega)] at hcj'; cases hcj'
      · right
        by_cases hlt : (xAt l k).b < (xAt l j).b
        · rw [if_pos (by rw [hc'.1, hc'.2, e]; simp [hlt])]
          refine ⟨k, rfl, by omega, hc, fun j' hj' hcj' => ?_⟩
          by_cases e' : j' = k
          · subst e'; exact Int.le_refl _
          · have := hle j' (by omega) hcj'; omega
        · rw [if_neg (by rw [hc'.1, hc'.2, e]; simp [hlt])]
          refine ⟨j, e, by omega, hcj, fun j' hj' hcj' => ?_⟩
          by_cases e' : j' = k
          · subst e'; omega
          · exact hle j' (by omega) hcj'
    · have hc' : canB l M h s k = false := by simpa using hc
      have hn : ¬ ((heldB h s (xAt l k).b && (decide (nextUpto l M h s k < 0) || decide ((xAt l k).b < (xAt l (nextUpto l M h s k).toNat).b)) && rdyB l M k) = true) := by
        unfold canB at hc'
        intro hh
        simp only [Bool.and_eq_true] at hh
        rw [hh.1.1, hh.2] at hc'
        cases hc'
      rw [if_neg hn]
      rcases ih with ⟨e, hn2⟩ | ⟨j, e, hj, hcj, hle⟩
      · left
        refine ⟨e, fun j hj => ?_⟩
        by_cases e' : j = k
        · subst e'; exact hc'
        · exact hn2 j (by omega)
      · right
        refine ⟨j, e, by omega, hcj, fun j' hj' hcj' => ?_⟩
        by_cases e' : j' = k
        · subst e'; rw [hc'] at hcj'; cases hcj'
        · exact hle j' (by omega) hcj'

/-- two works that are ready do not touch -/
theorem rdy_apart {l : List Tri} {M : List Nat} {i j : Nat} (hi : rdy l M i) (hj : rdy l M j) (hne : i ≠ j) (hil : i < l.length) (hjl : j < l.length) : ¬ (l[i].b - l[j].b ≤ 1 ∧ l[j].b - l[i].b ≤ 1) := by
  obtain ⟨_, hi1, hi2⟩ := hi
  obtain ⟨_, hj1, hj2⟩ := hj
  rcases Nat.lt_or_ge i j with h | h
  · exact hj2 i h hi1
  · have := hi2 j (by omega) hj1
    omega

theorem next_none {l : List Tri} {M : List Nat} {h s : Int} (hn : ∀ j, j < l.length → canB l M h s j = false) : nextUpto l M h s l.length = -1 := by
  rcases nextUpto_spec l M h s l.length with ⟨e, _⟩ | ⟨j, _, hj, hc, _⟩
  · exact e
  · rw [hn j hj] at hc; cases hc
theorem next_some {l : List Tri} {M : List Nat} {h s : Int} {i : Nat} (hi : i < l.length) (hc : canB l M h s i = true) (hle : ∀ j, j < l.length → canB l M h s j = true → (xAt l i).b ≤ (xAt l j).b) : nextUpto l M h s l.length = i := by
  rcases nextUpto_spec l M h s l.length with ⟨_, hn⟩ | ⟨j, e, hj, hcj, hle2⟩
  · rw [hn i hi] at hc; cases hc
  · rw [e]
    have h1 := hle j hj hcj
    have h2 := hle2 i hi hc
    unfold canB at hc hcj
    simp only [Bool.and_eq_true] at hc hcj
    by_cases hne : i = j
    · rw [hne]
    · have := rdy_apart ((rdyB_iff hi).1 hc.2) ((rdyB_iff hj).1 hcj.2) hne hi hj
      rw [xAt_of hi, xAt_of hj] at h1 h2
      omega

theorem sum_front {f : Nat → List Nat} {a i m : Nat} (h : front f a = some i) (hm : a + 1 < m) : sumTo (pop f a) m + 2 = sumTo f m := by
  obtain ⟨_, r1, r2, h1, h2⟩ := frontZ_some h
  have := sumTo_pop f a (by rw [h1]; simp) (by rw [h2]; simp) m
  rw [if_pos (by omega), if_pos hm] at this
  omega

/-- the sweep makes what the reference makes, one after the other -/
theorem swp_mseq {l : List Tri} {h s : Nat} (hh : h + s ≤ 24) (hb : ∀ (k : Nat) (hk : k < l.length), 0 ≤ l[k].b) :
    ∀ (N k a : Nat) (M : List Nat), h ≤ a → (∀ j (hj : j < l.length), rdy l M j → ¬ ((h : Int) ≤ l[j].b ∧ l[j].b < a)) → 2 * sumTo (rowsOf l M) 24 + (h + s - a) ≤ N → (∀ x ∈ M, x < l.length) → M.Nodup → l.length ≤ k + M.length →
      (swp h s N a (rowsOf l M)).1 = mseq l h s k M
  | 0, k, a, M, ha, hinv, hN, hM, hnd, hk => by
    have hnone : nextUpto l M h s l.length = -1 := next_none fun j hj => by
      cases hc : canB l M h s j
      · rfl
      · exfalso
        unfold canB at hc
        simp only [Bool.and_eq_true] at hc
        have hr := (rdyB_iff hj).1 hc.2
        have hheld := (held_iff _ _ _).1 hc.1
        rw [xAt_of hj] at hheld
        exact hinv j hj hr ⟨hheld.2.1, by omega⟩
    cases k with
    | zero => rfl
    | succ k => rw [mseq, hnone, if_neg (by omega)]; rfl
  | N + 1, k, a, M, ha, hinv, hN, hM, hnd, hk => by
    unfold swp
    by_cases hlt : a + 1 < h + s
    · rw [if_pos hlt]
      cases hf : front (rowsOf l M) a with
      | none =>
        refine swp_mseq hh hb N k (a + 1) M (by omega) (fun j hj hr hba => ?_) (by omega) hM hnd hk
        by_cases e : l[j].b = a
        · have := front_of_rdy (a := a) hr (fun _ => e)
          rw [hf] at this; cases this
        · exact hinv j hj hr ⟨hba.1, by omega⟩
      | some i =>
        obtain ⟨hr, hil, hbi⟩ := front_rdy hf
        have hcan : canB l M h s i = true := by
          unfold canB
          rw [(rdyB_iff hil).2 hr, (held_iff _ _ _).2 (by rw [xAt_of hil]; omega)]; rfl
        have hnext : nextUpto l M h s l.length = i := next_some hil hcan fun j hj hcj => by
          unfold canB at hcj
          simp only [Bool.and_eq_true] at hcj
          have hrj := (rdyB_iff hj).1 hcj.2
          have hheld := (held_iff _ _ _).1 hcj.1
          rw [xAt_of hj] at hheld ⊢
          rw [xAt_of hil]
          have := hinv j hj hrj
          omega
        obtain ⟨_, hiM, _⟩ := hr
        have hlen : (M ++ [i]).length ≤ l.length := len_of_nodup _ _ (by rw [List.nodup_append]; exact ⟨hnd, by simp, fun x hx y hy e => by simp at hy; subst hy; subst e; exact hiM hx⟩) (fun x hx => by
          rcases List.mem_append.1 hx with hx | hx
          · exact hM x hx
          · simp at hx; subst hx; exact hil)
        obtain ⟨k', rfl⟩ : ∃ k', k = k' + 1 := ⟨k - 1, by simp at hlen; omega⟩
        have hsum := sum_front hf (show a + 1 < 24 by omega)
        rw [mseq, hnext, if_pos (by omega)]
        simp only [Int.toNat_natCast, pop_rows hf] at hsum ⊢
        congr 1
        refine swp_mseq hh hb N k' (max h (a - 1)) (M ++ [i]) (by omega) (fun j hj hr2 hba => ?_) (by omega) (fun x hx => by
          rcases List.mem_append.1 hx with hx | hx
          · exact hM x hx
          · simp at hx; subst hx; exact hil) (by rw [List.nodup_append]; exact ⟨hnd, by simp, fun x hx y hy e => by simp at hy; subst hy; subst e; exact hiM hx⟩) (by simp; omega)
        -- ready behind i, further left than a - 1: was ready before
        obtain ⟨_, hj1, hj2⟩ := hr2
        have hjM : j ∉ M := fun h => hj1 (by simp [h])
        have hold : rdy l M j := ⟨hj, hjM, fun q hq hqM ht => by
          by_cases e : q = i
          · subst e; omega
          · exact hj2 q hq (by simp [hqM, e]) ht⟩
        exact hinv j hj hold ⟨by omega, by omega⟩
    · rw [if_neg hlt]
      have hnone : nextUpto l M h s l.length = -1 := next_none fun j hj => by
        cases hc : canB l M h s j
        · rfl
        · exfalso
          unfold canB at hc
          simp only [Bool.and_eq_true] at hc
          have hr := (rdyB_iff hj).1 hc.2
          have hheld := (held_iff _ _ _).1 hc.1
          rw [xAt_of hj] at hheld
          exact hinv j hj hr ⟨hheld.2.1, by omega⟩
      cases k with
      | zero => rfl
      | succ k => rw [mseq, hnone, if_neg (by omega)]
theorem all_made {n : Nat} {M : List Nat} (hnd : M.Nodup) (hM : ∀ x ∈ M, x < n) (hl : n ≤ M.length) : ∀ i, i < n → i ∈ M := fun i hi => Classical.byContradiction fun hc => by
  have := len_of_nodup n (M ++ [i]) (by rw [List.nodup_append]; exact ⟨hnd, by simp, fun x hx y hy e => by simp at hy; subst hy; subst e; exact hc hx⟩) (fun x hx => by
    rcases List.mem_append.1 hx with hx | hx
    · exact hM x hx
    · simp at hx; subst hx; exact hi)
  simp at this
  omega

theorem next_can {l : List Tri} {M : List Nat} {h s : Int} (hn : 0 ≤ nextUpto l M h s l.length) : ∃ i : Nat, nextUpto l M h s l.length = i ∧ i < l.length ∧ canB l M h s i = true := by
  rcases nextUpto_spec l M h s l.length with ⟨e, _⟩ | ⟨j, e, hj, hc, _⟩
  · rw [e] at hn; omega
  · exact ⟨j, e, hj, hc⟩
theorem can_new {l : List Tri} {M : List Nat} {h s : Int} {i : Nat} (hc : canB l M h s i = true) : i ∉ M := by
  unfold canB rdyB at hc
  simp only [Bool.and_eq_true, Bool.not_eq_true', List.contains_eq_mem, decide_eq_false_iff_not] at hc
  exact hc.2.2
theorem snoc_ok {n : Nat} {M : List Nat} {i : Nat} (hnd : M.Nodup) (hM : ∀ x ∈ M, x < n) (hi : i < n) (hiM : i ∉ M) : (M ++ [i]).Nodup ∧ ∀ x ∈ M ++ [i], x < n :=
  ⟨by rw [List.nodup_append]; exact ⟨hnd, by simp, fun x hx y hy e => by simp at hy; subst hy; subst e; exact hiM hx⟩, fun x hx => by
    rcases List.mem_append.1 hx with hx | hx
    · exact hM x hx
    · simp at hx; subst hx; exact hi⟩

theorem mseq_end {l : List Tri} {h s : Int} : ∀ (k : Nat) (M : List Nat), M.Nodup → (∀ x ∈ M, x < l.length) → l.length ≤ k + M.length → nextUpto l (M ++ mseq l h s k M) h s l.length = -1
  | 0, M, hnd, hM, hk => next_none fun j hj => by
    have := all_made hnd hM (by omega) j hj
    cases hc : canB l (M ++ mseq l h s 0 M) h s j
    · rfl
    · exact absurd (can_new hc) (by simp [mseq, this])
  | k + 1, M, hnd, hM, hk => by
    unfold mseq
    by_cases hn : 0 ≤ nextUpto l M h s l.length
    · rw [if_pos hn]
      obtain ⟨i, e, hi, hc⟩ := next_can hn
      obtain ⟨h1, h2⟩ := snoc_ok hnd hM hi (can_new hc)
      have := mseq_end (l := l) (h := h) (s := s) k (M ++ [i]) h1 h2 (by simp; omega)
      rw [e]
      simpa using this
    · rw [if_neg hn, List.append_nil]
      have := (nextUpto_ge l M h s l.length).1
      omega

section
variable (l : List Tri) (P S : Nat)
/-- the reference's best place -/
def rbest (M : List Nat) : Nat := bestUpto (fun h : Nat => (mseq l h S l.length M).length) (P - S + 1)
/-- the reference's quick instructions -/
def rq : Nat → List Nat → Int → List Tri
  | 0, _, _ => []
  | k + 1, M, h => if M.length < l.length then
      if 0 ≤ nextUpto l M h S l.length then stepAt l (nextUpto l M h S l.length).toNat :: rq k (M ++ [(nextUpto l M h S l.length).toNat]) h
      else ⟨1, rbest l P S M, .empty⟩ :: rq k M (rbest l P S M)
    else []
end
variable {l : List Tri} {P S : Nat}

theorem rq_make {k : Nat} {M : List Nat} {h : Int} {i : Nat} (hl : M.length < l.length) (hn : nextUpto l M h S l.length = i) : rq l P S (k + 1) M h = stepAt l i :: rq l P S k (M ++ [i]) h := by
  rw [rq, if_pos hl, hn, if_pos (by omega)]; rfl
theorem rq_reach {k : Nat} {M : List Nat} {h : Int} (hl : M.length < l.length) (hn : ¬ 0 ≤ nextUpto l M h S l.length) : rq l P S (k + 1) M h = ⟨1, rbest l P S M, .empty⟩ :: rq l P S k M (rbest l P S M) := by
  rw [rq, if_pos hl, if_neg hn]
theorem rq_end {k : Nat} {M : List Nat} {h : Int} (hl : ¬ M.length < l.length) : rq l P S k M h = [] := by
  cases k with
  | zero => rfl
  | succ k => rw [rq, if_neg hl]

theorem mseq_ok {h s : Int} : ∀ (k : Nat) (M : List Nat), M.Nodup → (∀ x ∈ M, x < l.length) → (M ++ mseq l h s k M).Nodup ∧ ∀ x ∈ M ++ mseq l h s k M, x < l.length
  | 0, M, hnd, hM => by simpa [mseq] using ⟨hnd, hM⟩
  | k + 1, M, hnd, hM => by
    unfold mseq
    by_cases hn : 0 ≤ nextUpto l M h s l.length
    · rw [if_pos hn]
      obtain ⟨i, e, hi, hc⟩ := next_can hn
      obtain ⟨h1, h2⟩ := snoc_ok hnd hM hi (can_new hc)
      have := mseq_ok (h := h) (s := s) k (M ++ [i]) h1 h2
      rw [e]
      simpa using this
    · rw [if_neg hn]; simpa using ⟨hnd, hM⟩

/-- what is made before the hands must reach again -/
theorem rq_run {h : Int} : ∀ (k : Nat) (M : List Nat) (K : Nat), M.Nodup → (∀ x ∈ M, x < l.length) → (mseq l h S k M).length ≤ K →
    rq l P S K M h = (mseq l h S k M).map (stepAt l) ++ rq l P S (K - (mseq l h S k M).length) (M ++ mseq l h S k M) h
  | 0, M, K, _, _, _ => by simp [mseq]
  | k + 1, M, K, hnd, hM, hK => by
    unfold mseq at hK ⊢
    by_cases hn : 0 ≤ nextUpto l M h S l.length
    · rw [if_pos hn] at hK ⊢
      obtain ⟨i, e, hi, hc⟩ := next_can hn
      obtain ⟨h1, h2⟩ := snoc_ok hnd hM hi (can_new hc)
      rw [e] at hK ⊢
      simp only [Int.toNat_natCast, List.length_cons] at hK ⊢
      obtain ⟨K', rfl⟩ : ∃ K', K = K' + 1 := ⟨K - 1, by omega⟩
      have hlen := len_of_nodup _ _ h1 h2
      rw [rq_make (by simp at hlen; omega) e, rq_run (h := h) k (M ++ [i]) K' h1 h2 (by omega)]
      simp
    · rw [if_neg hn]; simp

theorem offN_mseq {N : Nat} {M : List Nat} {h : Nat} (hh : h + S ≤ 24) (hb : ∀ (k : Nat) (hk : k < l.length), 0 ≤ l[k].b) (hN : 4 * l.length + S ≤ N) (hM : ∀ x ∈ M, x < l.length) (hnd : M.Nodup) :
    (swp h S N h (rowsOf l M)).1 = mseq l h S l.length M :=
  swp_mseq hh hb N l.length h M (Nat.le_refl _) (fun j hj hr hba => by omega) (by have := sumTo_rowsOf l M 24; omega) hM hnd (by omega)

theorem rbest_eq {N : Nat} {M : List Nat} (hS : 2 ≤ S) (hSP : S ≤ P) (hP : P ≤ 24) (hb : ∀ (k : Nat) (hk : k < l.length), 0 ≤ l[k].b) (hN : 4 * l.length + S ≤ N) (hM : ∀ x ∈ M, x < l.length) (hnd : M.Nodup) :
    bestUpto (offN S N (rowsOf l M)) (P - S + 1) = rbest l P S M := by
  unfold rbest
  have aux : ∀ n, n ≤ P - S + 1 → bestUpto (offN S N (rowsOf l M)) n = bestUpto (fun h : Nat => (mseq l h S l.length M).length) n := fun n hn => by
    induction n with
    | zero => rfl
    | succ n ih =>
      have ih := ih (by omega)
      have e : ∀ h, h ≤ n → offN S N (rowsOf l M) h = (mseq l h S l.length M).length := fun h hh => by
        unfold offN
        rw [offN_mseq (by omega) hb hN hM hnd]
      have hle := bestUpto_le (fun h : Nat => (mseq l h S l.length M).length) n
      unfold bestUpto
      rw [ih, e n (Nat.le_refl _), e _ hle]
  exact aux _ (Nat.le_refl _)

/-- the program's quick instructions are the reference's -/
theorem qloop_rq {N : Nat} (hS : 2 ≤ S) (hSP : S ≤ P) (hP : P ≤ 24) (hb : ∀ (k : Nat) (hk : k < l.length), 0 ≤ l[k].b ∧ l[k].b ≤ (P : Int) - 2) (hN : 4 * l.length + S ≤ N) :
    ∀ (g : Nat) (M : List Nat) (h : Int) (K : Nat), M.Nodup → (∀ x ∈ M, x < l.length) → l.length ≤ g + M.length → 2 * l.length ≤ K + 2 * M.length → ¬ 0 ≤ nextUpto l M h S l.length → qloop l P S N g M = rq l P S K M h
  | 0, M, h, K, hnd, hM, hg, hK, hn => by
    rw [rq_end (by omega)]; rfl
  | g + 1, M, h, K, hnd, hM, hg, hK, hn => by
    by_cases hl : M.length < l.length
    · have hb0 : ∀ (k : Nat) (hk : k < l.length), 0 ≤ l[k].b := fun k hk => (hb k hk).1
      have hbest := rbest_eq (N := N) hS hSP hP hb0 hN hM hnd
      have hbl := bestUpto_lt (offN S N (rowsOf l M)) (P - S + 1) (by omega)
      rw [hbest] at hbl
      have hmq := offN_mseq (N := N) (M := M) (h := rbest l P S M) (by omega) hb0 hN hM hnd
      have hpos := much_pos (p := P) (s := S) (N := N) hl hb hS hSP (by omega)
      rw [hbest] at hpos
      unfold offN at hpos
      rw [hmq] at hpos
      obtain ⟨K', rfl⟩ : ∃ K', K = K' + 1 := ⟨K - 1, by omega⟩
      obtain ⟨o1, o2⟩ := mseq_ok (l := l) (h := (rbest l P S M : Int)) (s := S) l.length M hnd hM
      have hlen := len_of_nodup _ _ o1 o2
      rw [List.length_append] at hlen
      rw [qloop_step hl hbest (by omega), rq_reach hl hn, hmq, rq_run (P := P) l.length M K' hnd hM (by omega)]
      simp only [List.cons_append, Nat.add_sub_cancel]
      congr 2
      refine qloop_rq hS hSP hP hb hN g _ _ _ o1 o2 (by rw [List.length_append]; omega) (by rw [List.length_append]; omega) ?_
      rw [mseq_end l.length M hnd hM (by omega)]
      omega
    · rw [rq_end hl, qloop_end hl]
end Go.Proofs.Ytogkgoabonbkkaa
